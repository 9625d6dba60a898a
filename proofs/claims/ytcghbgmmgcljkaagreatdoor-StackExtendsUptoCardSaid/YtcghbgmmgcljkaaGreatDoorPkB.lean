/-
  Texts of this claim, joined by a program of mine: what the theorem uses.
-/
import Derived.Test.YtcghbgmmgcljkaaGreatDoorPkA
import Derived.MapKept
import Derived.Maps.RangeRun
import Derived.Lib.AppendStr
import Derived.Lib.UnsafeStr
import Derived.Lib.FrozenHead
import Derived.ArgAppend
open Array renaming eq_empty_of_size_eq_zero→Sh,getElem?_append_left→Sa,getElem?_append_right→SQ,getElem?_eq_getElem→QC,getElem?_eq_some_iff→Qt,getElem?_modify→RK,getElem?_setIfInBounds_ne→Q2,getElem?_toList→Rv,length_toList→RB,toList_inj→RV,toList_push→SB
open Bool renaming and_eq_true→Qk,false_eq_true→Qj,not_true→Q8
open ByteArray renaming empty→Rr,ext→SC
open Function renaming comp_apply→RJ
open Int renaming toNat_natCast→Qs
open List renaming all_cons→Rb,all_eq_true→Qq,all_map→RI,append_assoc→Rt,append_eq_nil_iff→Sk,append_nil→RO,cons_append→QR,drop_drop→Ry,eq_nil_of_length_eq_zero→QE,eraseIdx_cons_succ→Tb,ext_getElem?→Rw,filter_cons→S9,filter_eq_self→Tw,flatten_append→SI,flatten_cons→Q4,getElem?_append→Tp,getElem?_append_left→Qv,getElem?_append_right→Qx,getElem?_cons_zero→Ri,getElem?_drop→QH,getElem?_eq_getElem→Qi,getElem?_eq_none→So,getElem?_eq_some_iff→Qf,getElem?_map→Qh,getElem?_of_mem→RA,getElem?_range→Ru,getElem?_replicate→Ta,getElem?_set→Rg,getElem?_take→Qz,getElem_mem→Q7,length_append→QB,length_cons→QA,length_drop→QO,length_eraseIdx→To,length_map→Qg,length_nil→Ss,length_set→Q6,length_singleton→Rq,length_take→QQ,mapM_cons→Tk,map_append→QU,map_cons→Qp,map_map→QJ,map_nil→QW,map_set→RQ,mem_append→Q0,mem_cons→Qu,mem_cons_of_mem→Qm,mem_cons_self→Qo,mem_filter→Te,mem_iff_getElem?→RX,mem_map→QD,mem_map_of_mem→QN,mem_of_getElem?→Qn,mem_of_mem_drop→Rn,mem_of_mem_take→QY,mem_or_eq_of_mem_set→S4,mem_singleton→Q3,nil_append→QS,nodup_append→Sz,nodup_cons→R3,perm_iff_count→Tv,range→RC,replicate→QK,set_append_left→Tn,take_append_drop→Sn,take_append_of_le_length→RL,take_of_length_le→QP,take_take→SK
open List.cons renaming inj→SR
open Nat renaming add_mul→RP,add_zero→Rj,blt→RD,div_add_mod→R9,div_lt_of_lt_mul→R2,le_of_ble_eq_true→R8,le_refl→QF,le_trans→RH,lt_of_lt_of_le→RW,min_eq_left→Rp,mod_lt→Sq,mul_comm→RG,mul_le_mul→Tj,mul_le_mul_right→Qw,mul_one→SL,sub_mul→Tg,sub_zero→S6,succ_mul→QM,zero_add→Qy,zero_le→Sb,zero_mul→R0
open Ne renaming symm→Rf
open Option renaming getD_some→Rk,map_eq_some_iff→Qr,map_none→Sf,map_some→QG
open Option.some renaming injEq→Qd
open UInt8 renaming ofNat→Si
noncomputable section
set_option linter.unusedSectionVars false
set_option linter.unusedSimpArgs false
section
namespace Go.Awp
variable [Inhabited GMem]
theorem gN{P:Program}{w:World}(t ty e:TypeId)(i:TypeInfo)(z:Value)(size bytes:Nat)(ht:P.underlying t=some (.slice e))(hi:P.info? e=some i)(hz:i.zero=some z)
 (hsize:i.size=size)(hby:i.bytes=bytes)(hzs:z.cells.size=size)(hsz:0<size)(v:Value)(n:Nat)(xs:List Value)(hown:w.ownsRow 0 e size v n xs)
 (x:Value)(news:List Value)(m:Nat)(hl:news.length=m *size)(hx:(x= .slice none 0 0/\m=0)\/∃a c,x= .slice (some a) m c/\∀(j:Nat) u,news[j]?=some u->w.cell? (a.add j)=some u)
 (h1:∀u∈news,u.oneCell'=true)(h63:n+m<=1000000000000)(hbytes:(n+m) *bytes<=140737488355328):
 ∃v' w',(Builtin.append_ #[t,t] ty #[v,x]).run P w= .ok v' w'/\w'.ownsRow 0 e size v' (n+m) (xs++news)/\w.grownBy w' (aH v)/\
  ∀b,aH v'=some b->aH v=some b\/w.heap.size<=b:=by
 have hb:aH v=v.ownBlock:=by
  rcases hown.2 with⟨rfl,_⟩|⟨g,cap,cur,rfl,_⟩<;>rfl
 rcases hx with⟨rfl,rfl⟩|⟨a,c,rfl,hnews⟩
 ·have hn0:news=[]:=QE (by simpa using hl)
  subst hn0
  refine⟨v,w,run_append_owned_none (P:=P) w 0 t ty e i size ht hi v n xs hown,by simpa using hown,⟨rfl,rfl,rfl,QF _,λ_ _ _=>rfl⟩,λb hb=> .inl hb⟩
 ·have hmax:n+m<=maxLen:=by unfold maxLen;omega
  obtain⟨v',w',e1,e2,e3,_⟩:=run_append_own (P:=P) w 0 t ty e i z size bytes ht hi hz hsize hby hzs hsz v n xs hown a m c news hl hnews h1 hmax hbytes (Sb _)
  refine⟨v',w',e1,e2,by rw[hb];exact e3,λb hbv=> ?_⟩
  rcases hown.2 with⟨rfl,rfl⟩|⟨g,cap,cur,rfl,hbg,hg,hnc,hcm,hcs,htake⟩
  ·obtain⟨v2,w2,f1,f2,_⟩:=run_append_own (P:=P) w w.heap.size t ty e i z size bytes ht hi hz hsize hby hzs hsz (.slice none 0 0) 0 [] (World.ownsRow_nil w _ e size) a m c news hl hnews h1 hmax hbytes (QF _)
   rw[e1]at f1
   simp only[Result.ok.injEq]at f1
   obtain⟨rfl,rfl⟩:=f1
   right
   rcases f2.2 with⟨hn,_⟩|⟨g2,cap2,cur2,hv2,hb2,_⟩
   ·rw[hn]at hbv;simp[aH]at hbv
   ·rw[hv2]at hbv;simp[aH]at hbv;omega
  ·by_cases hroom:n+m<=cap
   ·obtain⟨w2,f1,_⟩:=run_append_fits (P:=P) w 0 t ty e i size ht hi hsize g n cap xs hown a m c news hl hnews h1 hroom
    rw[e1]at f1
    simp only[Result.ok.injEq]at f1
    obtain⟨rfl,_⟩:=f1
    left;simpa[aH]using hbv
   ·subst hsize;subst hby
    have holds:∀j u,xs[j]?=some u->w.cell? ((⟨g,0,none⟩:Addr).add j)=some u:=hown.cells (g:=g) rfl
    have f1:=run_append_grow (P:=P) w t ty e i z ht hi hz ⟨g,0,none⟩ n cap xs hown.1 holds a m c news hl hnews (by omega) (by omega) (growslice_fits (by omega) hbytes)
    rw[e1]at f1
    simp only[Result.ok.injEq]at f1
    obtain⟨rfl,_⟩:=f1
    right;simp[aH]at hbv;omega
theorem cS.sl_cells{M:Mem}{v:Value}{sz:Nat}{rows:List (List D)}(h:cS M v (.sl sz rows)):
 (v= .slice none 0 0/\rows=[])\/(∃a cap,v= .slice (some a) 0 cap/\rows=[])\/∃b off cap,v= .slice (some ⟨b,off,none⟩) rows.length cap/\rows.length<=cap/\∃cs:List Value,cs.length=rows.length *sz/\
   (∀(k:Nat) u,cs[k]?=some u->M b (off+k)=some u)/\(∀r∈rows,r.length=sz)/\
   ∀(i j:Nat) (r:List D) (c:Value) (x:D),rows[i]?=some r->r[j]?=some x->cs[i *sz+j]?=some c->cS M c x:=by
 cases h with
 |slnil sz=>exact .inl ⟨rfl,rfl⟩
 |slmt a cap sz=>exact .inr (.inl ⟨a,cap,rfl,rfl⟩)
 |sl b off len cap sz rows c hlen hcap hsz hm hc=>
  subst hlen
  refine .inr (.inr ⟨b,off,cap,rfl,hcap,(RC (rows.length *sz)).map c,by simp,λk u hu=> ?_,hsz,λi j r c' x hr hx hcc=> ?_⟩)
  ·simp only[Qh]at hu
   by_cases hk:k<rows.length *sz
   ·rw[Ru hk]at hu
    simp at hu;subst hu;exact hm k hk
   ·rw[So (by simp;omega)]at hu;cases hu
  ·simp only[Qh]at hcc
   by_cases hk:i *sz+j<rows.length *sz
   ·rw[Ru hk]at hcc
    simp at hcc;subst hcc;exact hc i j r x hr hx
   ·rw[So (by simp;omega)]at hcc;cases hcc
theorem cE{P:Program}{w:World}{kt:TypeId}{kind:TypeDesc}(hu:P.underlying kt=some kind)(hs:eh kind=true)(e:Bool)(v:Value):(Instr.checkKey e 10000 kt v).run P w= .ok () w:=by
 unfold Instr.checkKey
 simp only[Sem.run_bind,run_underlying hu,Result.andThen_ok]
 cases kind<;>simp[eh]at hs<;>rfl
def wH(M:Mem):List MapEntry->List (Value×D)->Prop
 |[],[]=>True
 |e::r,p::s=>(e.key=p.1/\cS M e.val p.2)/\wH M r s
 |_,_=>False
theorem wH.of{M:Mem}:∀{l:List MapEntry} {es:List (Value×D)},l.length=es.length->(∀(i:Nat) (e:MapEntry) (p:Value×D),l[i]?=some e->es[i]?=some p->e.key=p.1/\cS M e.val p.2)->wH M l es
 |[],[],_,_=>trivial
 |[],_::_,h,_=>by simp at h
 |_::_,[],h,_=>by simp at h
 |e::r,p::s,h,hp=>⟨hp 0 e p rfl rfl,wH.of (by simpa using h) λi e' p' he hp'=>hp (i+1) e' p' (by simpa using he) (by simpa using hp')⟩
theorem wH.get{M:Mem}:∀{l:List MapEntry} {es:List (Value×D)},wH M l es->l.length=es.length/\∀(i:Nat) (e:MapEntry) (p:Value×D),l[i]?=some e->es[i]?=some p->e.key=p.1/\cS M e.val p.2
 |[],[],_=>⟨rfl,λi e p he=>by simp at he⟩
 |[],_::_,h=>h.elim
 |_::_,[],h=>h.elim
 |e::r,p::s,h=>by
  obtain⟨h1,h2⟩:=h.2.get
  refine⟨by simp[h1],λi e' p' he hp=> ?_⟩
  cases i with
  |zero=>simp at he hp;subst he;subst hp;exact h.1
  |succ i=>exact h2 i e' p' (by simpa using he) (by simpa using hp)
theorem fe{kind:TypeDesc}{a b:Value}(h:Instr.sameNow kind a b=some true):a=b:=by
 unfold Instr.sameNow at h
 split at h
 ·rename_i k x k' y
  split at h
  ·rename_i hk
   subst hk
   have:x=y:=by simpa using h
   subst this;rfl
  ·cases h
 ·rename_i x y
  have:x=y:=(MapKept.bytes_beq x y).1 (by simpa using h)
  subst this;rfl
 ·rename_i x y
  have:x=y:=by simpa using h
  subst this;rfl
 ·cases h
theorem iK{kind:TypeDesc}{a b:Value}(h:Instr.sameNow kind a b=some false):a≠b:=by
 intro e
 subst e
 have hb:∀x:ByteArray,(x==x)=true:=λx=>(MapKept.bytes_beq x x).2 rfl
 cases kind<;>cases a<;>simp[Instr.sameNow,hb]at h
theorem bJ.iff{M:Mem}{l:List MapEntry}{es:List (Value×D)}:bJ M l es↔∃l':List MapEntry,l'.Perm l/\wH M l' es:=
 ⟨λ⟨l',h1,h2,h3⟩=>⟨l',h1,wH.of h2 h3⟩,λ⟨l',h1,h2⟩=>⟨l',h1,h2.get.1,h2.get.2⟩⟩
theorem wH.perm{M:Mem}{es es':List (Value×D)}(h:es.Perm es'):∀{l:List MapEntry},wH M l es->∃l',l'.Perm l/\wH M l' es':=by
 induction h with
 |nil=>intro l hl;exact⟨l, .refl l,hl⟩
 |cons x _ ih=>
  intro l hl
  cases l with
  |nil=>exact hl.elim
  |cons e r=>
   obtain⟨r',h1,h2⟩:=ih hl.2
   exact⟨e::r',h1.cons e,hl.1,h2⟩
 |swap x y r=>
  intro l hl
  match l,hl with
  |a::b::t,hl=>exact⟨b::a::t, .swap a b t,hl.2.1,hl.1,hl.2.2⟩
  |[a],hl=>exact hl.2.elim
  |[],hl=>exact hl.elim
 |trans _ _ ih1 ih2=>
  intro l hl
  obtain⟨l1,h1,h2⟩:=ih1 hl
  obtain⟨l2,h3,h4⟩:=ih2 h2
  exact⟨l2,h3.trans h1,h4⟩
theorem bJ.perm{M:Mem}{l:List MapEntry}{es es':List (Value×D)}(h:bJ M l es)(hp:es.Perm es'):bJ M l es':=by
 obtain⟨l',h1,h2⟩:=bJ.iff.1 h
 obtain⟨l2,h3,h4⟩:=h2.perm hp
 exact bJ.iff.2 ⟨l2,h3.trans h1,h4⟩
theorem dA.perm{es es':List (Value×D)}(h:dA es)(hp:es.Perm es'):dA es':=((hp.map _).nodup_iff).1 h
theorem bJ.to{M:Mem}{l:List MapEntry}{es:List (Value×D)}(h:bJ M l es){e:MapEntry}(he:e∈l):∃p∈es,e.key=p.1/\cS M e.val p.2:=by
 obtain⟨l',h1,h2,h3⟩:=h
 obtain⟨i,hi⟩:=RA (h1.mem_iff.2 he)
 have hil:i<es.length:=by rw[<-h2];exact(Qf.1 hi).1
 have hp:=Qi hil
 exact⟨_,Qn hp,h3 i e _ hi hp⟩
theorem bJ.of{M:Mem}{l:List MapEntry}{es:List (Value×D)}(h:bJ M l es){p:Value×D}(hp:p∈es):∃e∈l,e.key=p.1/\cS M e.val p.2:=by
 obtain⟨l',h1,h2,h3⟩:=h
 obtain⟨i,hi⟩:=RA hp
 have hil:i<l'.length:=by rw[h2];exact(Qf.1 hi).1
 have he:=Qi hil
 exact⟨_,h1.mem_iff.1 (Qn he),h3 i _ p he hi⟩
theorem wH.keys{M:Mem}:∀{l:List MapEntry} {es:List (Value×D)},wH M l es->l.map (·.key)=es.map (·.1)
 |[],[],_=>rfl
 |[],_::_,h=>h.elim
 |_::_,[],h=>h.elim
 |e::r,p::s,h=>by rw[Qp,Qp,h.1.1,h.2.keys]
theorem bJ.nodup{M:Mem}{l:List MapEntry}{es:List (Value×D)}(h:bJ M l es)(hn:dA es):(l.map (·.key)).Nodup:=by
 obtain⟨l',h1,h2⟩:=bJ.iff.1 h
 exact((h1.map _).nodup_iff).1 (by rw[h2.keys];exact hn)
theorem qC:∀{l:List MapEntry} {a b:MapEntry},(l.map (·.key)).Nodup->a∈l->b∈l->a.key=b.key->a=b
 |[],a,b,_,h,_,_=>by cases h
 |x::r,a,b,hn,ha,hb,hk=>by
  rw[Qp,R3]at hn
  rcases Qu.1 ha with e1|ha
  ·rcases Qu.1 hb with e2|hb
   ·rw[e1,e2]
   ·exact(hn.1 (by rw[<-e1,hk];exact QN (f:=(·.key)) hb)).elim
  ·rcases Qu.1 hb with e2|hb
   ·exact(hn.1 (by rw[<-e2,<-hk];exact QN (f:=(·.key)) ha)).elim
   ·exact qC hn.2 ha hb hk
theorem bJ.len{M:Mem}{l:List MapEntry}{es:List (Value×D)}(h:bJ M l es):l.length=es.length:=by
 obtain⟨l',h1,h2,_⟩:=h
 rw[<-h1.length_eq,h2]
theorem kA{α:Type}:∀{l:List α} {j:Nat} {e:α},l[j]?=some e->l.Perm (e::l.eraseIdx j)
 |[],j,e,h=>by simp at h
 |x::r,0,e,h=>by simp at h;subst h;exact .refl _
 |x::r,j+1,e,h=>((kA (l:=r) (j:=j) (by simpa using h)).cons x).trans (.swap e x _)
theorem rQ{kind:TypeDesc}{key:Value}:∀{es:List (Value×D)} {q:Option D},rP kind key es=some q->
 (q=none/\∀p∈es,Instr.sameNow kind key p.1=some false)\/∃p∈es,q=some p.2/\Instr.sameNow kind key p.1=some true
 |[],q,h=>by simp[rP]at h;subst h;exact .inl ⟨rfl,λp hp=>by cases hp⟩
 |p::r,q,h=>by
  simp only[rP]at h
  split at h
  ·rename_i hs
   simp at h;subst h
   exact .inr ⟨p,Qo,rfl,hs⟩
  ·rename_i hs
   rcases rQ h with⟨h1,h2⟩|⟨p',h1,h2,h3⟩
   ·refine .inl ⟨h1,λp' hp'=> ?_⟩
    rcases Qu.1 hp' with rfl|hp'
    ·exact hs
    ·exact h2 p' hp'
   ·exact .inr ⟨p',Qm _ h1,h2,h3⟩
  ·cases h
theorem wn{kind:TypeDesc}{key:Value}{x:D}:∀{es es':List (Value×D)},Gz kind key x es=some es'->
 (es'=es++[(key,x)]/\∀p∈es,Instr.sameNow kind key p.1=some false)\/∃(j:Nat) (p:Value×D),es[j]?=some p/\Instr.sameNow kind key p.1=some true/\es'=es.set j (key,x)
 |[],es',h=>by simp[Gz]at h;subst h;exact .inl ⟨rfl,λp hp=>by cases hp⟩
 |p::r,es',h=>by
  simp only[Gz]at h
  split at h
  ·rename_i hs
   simp at h;subst h
   exact .inr ⟨0,p,rfl,hs,rfl⟩
  ·rename_i hs
   split at h
   ·rename_i l' hl
    simp at h;subst h
    rcases wn hl with⟨h1,h2⟩|⟨j,p',h1,h2,h3⟩
    ·refine .inl ⟨by rw[h1];rfl,λp' hp'=> ?_⟩
     rcases Qu.1 hp' with rfl|hp'
     ·exact hs
     ·exact h2 p' hp'
    ·exact .inr ⟨j+1,p',by simpa using h1,h2,by rw[h3];rfl⟩
   ·cases h
  ·cases h
theorem eC{kind:TypeDesc}{key:Value}:∀{l:List MapEntry} (i:Nat),(∀e∈l,(Instr.sameNow kind key e.key).isSome=true)->
 ((∀e∈l,Instr.sameNow kind key e.key=some false)/\Instr.findNow kind key l i=some none)\/
 ∃(j:Nat) (e:MapEntry),l[j]?=some e/\Instr.sameNow kind key e.key=some true/\Instr.findNow kind key l i=some (some (i+j,e.val))
 |[],i,_=> .inl ⟨(λe he=>by cases he),rfl⟩
 |x::r,i,h=>by
  have h0:=h x Qo
  simp only[Instr.findNow]
  cases hs:Instr.sameNow kind key x.key with
  |none=>rw[hs]at h0;cases h0
  |some b=>
   cases b with
   |true=>exact .inr ⟨0,x,rfl,hs,rfl⟩
   |false=>
    rcases eC (i+1) (λe he=>h e (Qm _ he))with⟨h1,h2⟩|⟨j,e,h1,h2,h3⟩
    ·refine .inl ⟨λe he=> ?_,h2⟩
     rcases Qu.1 he with rfl|he
     ·exact hs
     ·exact h1 e he
    ·refine .inr ⟨j+1,e,by simpa using h1,h2,?_⟩
     simp only
     rw[h3]
     have:i+1+j=i+(j+1):=by omega
     rw[this]
theorem bJ.strict{M:Mem}{l:List MapEntry}{es:List (Value×D)}(h:bJ M l es){kind:TypeDesc}{key:Value}(hs:gP kind key es=true):∀e∈l,(Instr.sameNow kind key e.key).isSome=true:=λe he=>by
 obtain⟨p,hp,hk,_⟩:=h.to he
 rw[hk]
 exact Qq.1 hs p hp
theorem xc{M:Mem}{kind:TypeDesc}{key:Value}{l:List MapEntry}{es:List (Value×D)}{q:Option D}(hn:dA es)(h:bJ M l es)(hs:gP kind key es=true)(hq:rP kind key es=some q):
 (q=none/\Instr.findNow kind key l 0=some none)\/∃j v d,q=some d/\Instr.findNow kind key l 0=some (some (j,v))/\cS M v d:=by
 rcases rQ hq with⟨rfl,hall⟩|⟨p,hp,rfl,ht⟩
 ·rcases eC (kind:=kind) (key:=key) 0 (h.strict hs)with⟨_,h1⟩|⟨j,e,he,ht,_⟩
  ·exact .inl ⟨rfl,h1⟩
  ·obtain⟨p,hp,hk,_⟩:=h.to (Qn he)
   rw[hk,hall p hp]at ht;cases ht
 ·obtain⟨e1,he1,hk1,hd1⟩:=h.of hp
  rcases eC (kind:=kind) (key:=key) 0 (h.strict hs)with⟨hall,_⟩|⟨j,e,he,ht',hf⟩
  ·have:=hall e1 he1
   rw[hk1,ht]at this;cases this
  ·have hee:e=e1:=qC (h.nodup hn) (Qn he) he1 (by rw[hk1,<-fe ht,<-fe ht'])
   subst hee
   exact .inr ⟨_,_,_,rfl,hf,hd1⟩
theorem mg{α:Type}{l:List α}{j:Nat}{e a:α}(h:l[j]?=some e):(l.set j a).Perm (a::l.eraseIdx j)/\l.Perm (e::l.eraseIdx j):=by
 have hj:j<l.length:=(Qf.1 h).1
 have h2:=kA (l:=l.set j a) (j:=j) (e:=a) (by simp[hj])
 rw[List.eraseIdx_set_eq]at h2
 exact⟨h2,kA h⟩
theorem BC{M:Mem}{kind:TypeDesc}{key:Value}{x:D}{l:List MapEntry}{es es2:List (Value×D)}(hn:dA es)(h:bJ M l es)(hs:gP kind key es=true)(hq:Gz kind key x es=some es2):
 (Instr.findNow kind key l 0=some none/\dA es2/\∀e1:MapEntry,e1.key=key->cS M e1.val x->bJ M (l++[e1]) es2)\/
 ∃(j:Nat) (v:Value) (e0:MapEntry),Instr.findNow kind key l 0=some (some (j,v))/\l[j]?=some e0/\Instr.sameNow kind key e0.key=some true/\dA es2/\∀e1:MapEntry,e1.key=key->cS M e1.val x->bJ M (l.set j e1) es2:=by
 rcases wn hq with⟨rfl,hall⟩|⟨j0,p,hp,ht,rfl⟩
 ·rcases eC (kind:=kind) (key:=key) 0 (h.strict hs)with⟨_,h1⟩|⟨j,e,he,ht,_⟩
  ·refine .inl ⟨h1,?_,λe1 hk hd=> ?_⟩
   ·unfold dA
    rw[QU,Qp,QW,Sz]
    refine⟨hn,by simp,λa ha b hb=> ?_⟩
    simp at hb;subst hb
    obtain⟨p,hp,rfl⟩:=QD.1 ha
    exact Rf (iK (hall p hp))
   ·obtain⟨l',p1,p2⟩:=bJ.iff.1 h
    refine⟨l'++[e1],p1.append_right _,by simp[p2.get.1],λi e p he hp=> ?_⟩
    by_cases hi:i<l'.length
    ·rw[Qv hi]at he
     rw[Qv (by rw[<-p2.get.1];exact hi)]at hp
     exact p2.get.2 i e p he hp
    ·have hil:=(Qf.1 he).1
     rw[QB,Rq]at hil
     have hi2:i=l'.length:=by omega
     subst hi2
     rw[Qx (by omega)]at he
     rw[p2.get.1,Qx (by omega)]at hp
     simp at he hp
     subst he;subst hp
     exact⟨hk,hd⟩
  ·obtain⟨p,hp,hk,_⟩:=h.to (Qn he)
   rw[hk,hall p hp]at ht;cases ht
 ·have hk0:p.1=key:=(fe ht).symm
  have hl':=h
  obtain⟨l',p1,p2,p3⟩:=hl'
  have hj0:j0<l'.length:=by rw[p2];exact(Qf.1 hp).1
  have he':=Qi hj0
  obtain⟨q1,q2⟩:=p3 j0 _ p he' hp
  rcases eC (kind:=kind) (key:=key) 0 (h.strict hs)with⟨hall,_⟩|⟨j,e,he,ht',hf⟩
  ·have:=hall _ (p1.mem_iff.1 (Qn he'))
   rw[q1,ht]at this;cases this
  ·have hee:l'[j0]=e:=qC (h.nodup hn) (p1.mem_iff.1 (Qn he')) (Qn he) (by rw[q1,hk0,<-fe ht'])
   rw[hee]at he'
   rw[Qy]at hf
   refine .inr ⟨j,e.val,e,hf,he,ht',?_,λe1 hk hd=>⟨l'.set j0 e1,?_,by simp[p2],λi e2 p' h1 h2=> ?_⟩⟩
   ·have:(es.set j0 (key,x)).map (·.1)=es.map (·.1):=by
     rw[RQ]
     apply Rw
     intro i
     rw[Rg]
     split
     ·rename_i hi
      subst hi
      rw[Qh,hp]
      simp[hk0,(Qf.1 hp).1]
     ·rfl
    unfold dA
    rw[this];exact hn
   ·obtain⟨a1,a2⟩:=mg (a:=e1) he'
    obtain⟨b1,b2⟩:=mg (a:=e1) he
    have c:(e::l'.eraseIdx j0).Perm (e::l.eraseIdx j):=a2.symm.trans (p1.trans b2)
    exact a1.trans ((List.Perm.cons e1 ((List.perm_cons e).1 c)).trans b1.symm)
   ·rw[Rg]at h1 h2
    by_cases hi:j0=i
    ·subst hi
     rw[TP rfl,TP hj0]at h1
     rw[TP rfl,TP (by rw[<-p2];exact hj0)]at h2
     simp at h1 h2
     subst h1;subst h2
     exact⟨hk,hd⟩
    ·rw[TN hi]at h1 h2
     exact p3 i e2 p' h1 h2
theorem og{kind:TypeDesc}{a b:Value}(h:Instr.sameNow kind a b=some true):Instr.sameBits 10000 b a=true:=by
 unfold Instr.sameNow at h
 split at h
 ·rename_i k x k' y
  split at h
  ·rename_i hk
   subst hk
   have:x=y:=by simpa using h
   subst this
   simp[Instr.sameBits]
  ·cases h
 ·rename_i x y
  have:x=y:=(MapKept.bytes_beq x y).1 (by simpa using h)
  subst this
  simp[Instr.sameBits,(MapKept.bytes_beq _ _).2 rfl]
 ·rename_i x y
  have:x=y:=by simpa using h
  subst this
  simp[Instr.sameBits]
 ·cases h
theorem qd{P:Program}{t:TypeId}{z:D}(h:kI P t=some z):∃v,(∀w,(zeroValue t).run P w= .ok v w)/\∀M,cS M v z:=by
 unfold kI at h
 split at h
 ·rename_i i hi
  split at h
  ·rename_i cs hz
   simp at h;subst h
   refine⟨.agg cs,λw=>by simp only[zeroValue,typeInfo,program,Sem.run_bind,Sem.run,hi,hz,Result.andThen_ok,Sem.run_pure],λM=> .agg cs _ (by simp) λk c x hc hx=> ?_⟩
   rw[Qh,Qr]at hx
   obtain⟨y,hy,rfl⟩:=hx
   have:cs[k]?=some y:=by simpa using hy
   rw[hc]at this;cases this
   exact .v _
  ·rename_i v _ hz
   simp at h;subst h
   exact⟨v,λw=>by simp only[zeroValue,typeInfo,program,Sem.run_bind,Sem.run,hi,hz,Result.andThen_ok,Sem.run_pure],λM=> .v v⟩
  ·cases h
 ·cases h
theorem jp{P:Program}{l:Array TypeId}(h:du P l.toList=2):∃t e,l[0]?=some t/\P.underlying t=some (.slice e):=by
 obtain⟨l⟩:=l
 cases l with
 |nil=>simp[du]at h
 |cons t r=>
  refine⟨t,?_⟩
  simp only[du]at h
  split at h<;>first|(simp at h;done)|(rename_i e he;exact⟨e,rfl,he⟩)
theorem oF{P:Program}{l:Array TypeId}(h:du P l.toList=1):∃t,l[0]?=some t/\P.underlying t=some .string:=by
 obtain⟨l⟩:=l
 cases l with
 |nil=>simp[du]at h
 |cons t r=>
  refine⟨t,?_⟩
  simp only[du]at h
  split at h<;>first|(simp at h;done)|(rename_i he;exact⟨rfl,he⟩)
theorem tH{P:Program}{l:Array TypeId}(h:du P l.toList=3):∃t a b,l[0]?=some t/\P.underlying t=some (.map a b):=by
 obtain⟨l⟩:=l
 cases l with
 |nil=>simp[du]at h
 |cons t r=>
  refine⟨t,?_⟩
  simp only[du]at h
  split at h<;>first|(simp at h;done)|(rename_i a b he;exact⟨a,b,rfl,he⟩)
theorem f7.append{E:Env}{M:Mem}{vs us:Array Value}{l m:List H}(h:f7 E M vs l)(k:f7 E M us m):f7 E M (vs++us) (l++m):=by
 refine⟨by simp[h.1,k.1],λi c x hc hx=> ?_⟩
 by_cases hi:i<vs.size
 ·rw[Sa hi]at hc
  rw[Qv (by rw[<-h.1];exact hi)]at hx
  exact h.2 i c x hc hx
 ·rw[SQ (by omega)]at hc
  rw[Qx (by rw[<-h.1];omega),<-h.1]at hx
  exact k.2 _ c x hc hx
theorem Sim.args{C:Ctx}{E:Env}{M:Mem}{S:aA}{a:Act}{w:World}(hs:Sim C E M S a w)(l:Array Operand):f7 E M (l.map a.eval) (l.toList.map (Go.Awp.ev S)):=by
 refine⟨by simp,λi c x hc hx=> ?_⟩
 simp only[Array.getElem?_map,Qh,Rv]at hc hx
 cases hl:l[i]? with
 |none=>rw[hl]at hc;cases hc
 |some y=>rw[hl]at hc hx;simp at hc hx;subst hc;subst hx;exact hs.ev y
theorem qF{l:Array Operand}{ρ:Operand->H}{x y:H}(h:l.toList.map ρ=[x,y]):∃p q,l= #[p,q]/\ρ p=x/\ρ q=y:=by
 obtain⟨l⟩:=l
 match l,h with
 |[p,q],h=>simp at h;exact⟨p,q,rfl,h.1,h.2⟩
theorem Av{l:Array Operand}{ρ:Operand->H}{x:H}(h:l.toList.map ρ=[x]):∃p,l= #[p]/\ρ p=x:=by
 obtain⟨l⟩:=l
 match l,h with
 |[p],h=>simp at h;exact⟨p,rfl,h⟩
theorem lw{own:List (Nat×Own)}:∀{own':List (Nat×Own)} {n:Nat} {o:Own},gt own' n=some o->gt own n=none->n∈eJ own own'
 |[],n,o,h,_=>by simp[gt]at h
 |(m,x)::r,n,o,h,h0=>by
  rw[aE]at h
  simp only[eJ]
  by_cases hm:m=n
  ·subst hm;rw[h0];exact Qo
  ·rw[TN hm]at h
   have ih:=lw h h0
   split
   ·exact ih
   ·exact Qm _ ih
theorem ub(own:List (Nat×Own))(n:Nat):gt (own.map λp=>(p.1,some p.2)) n=(gt own n).map some:=by
 induction own with
 |nil=>rfl
 |cons p r ih=>obtain⟨k,o⟩:=p;simp only[Qp,aE];by_cases h:k=n<;>simp[h,ih]
theorem ua(own:List (Nat×Own))(n:Nat):gt (own.map λp=>(p.1,(none:Option Own))) n=(gt own n).map λ_=>none:=by
 induction own with
 |nil=>rfl
 |cons p r ih=>obtain⟨k,o⟩:=p;simp only[Qp,aE];by_cases h:k=n<;>simp[h,ih]
theorem eL{α:Type}:∀(l m:List (Nat×α)) (n:Nat),gt (l++m) n=match gt l n with|some x=>some x|none=>gt m n
 |[],m,n=>rfl
 |(k,x)::r,m,n=>by
  simp only[QR,aE]
  by_cases h:k=n
  ·simp[h]
  ·rw[TN h,TN h];exact eL r m n
section
variable {C:Ctx} {nm:Nat->Nat} {o:Oper} (hd:∀d,o.dst=some d->C.wr d)
include hd
theorem Sim.called{E E':Env}{M M':Mem}{S:aA}{a:Act}{w w':World}{own own':List (Nat×Own)}{v:Value}{r:H}(hs:Sim C E M S a w)(hsub:∀n o,gt own n=some o->S.own? n=some o)
 (hp:ve E M own w v r own' E' M' w')(henv:∀n,(gt own' n=none\/∃o,gt own n=some o)->E' n=E n)(hnew:∀d∈eJ own own',S.fresh d=true/\d<given):
 Sim C E' M' (S.app o.dst (gw r own own')) (a.put o.dst v) w':=by
 have hE:∀m,S.fresh m=false->E' m=E m:=by
  intro m hm
  refine henv m ?_
  cases h1:gt own' m with
  |none=>exact .inl rfl
  |some o1=>
   right
   cases h2:gt own m with
   |none=>have:=(hnew m (lw h1 h2)).1;rw[hm]at this;cases this
   |some o2=>exact⟨o2,rfl⟩
 have hEt:∀t x,gt S.tmps t=some x->∀k,H.has k x=true->E' k=E k:=by
  intro t x hx k hk
  refine hE k ?_
  cases hf:S.fresh k with
  |false=>rfl
  |true=>rw[aA.fresh_tmp hf hx]at hk;cases hk
 have hEo:∀m o,S.own? m=some o->∀k,Own.has k o=true->E' k=E k:=by
  intro m o ho k hk
  refine hE k ?_
  cases hf:S.fresh k with
  |false=>rfl
  |true=>rw[aA.fresh_cell hf ho]at hk;cases hk
 have hEown:∀m o,S.own? m=some o->E' m=E m:=by
  intro m o ho
  refine hE m ?_
  cases hf:S.fresh m with
  |false=>rfl
  |true=>rw[aA.fresh_own hf]at ho;cases ho
 let S1:aA:={S with own:=own'.map (λp=>(p.1,some p.2))++own.map (λp=>(p.1,none))++S.own}
 have hold:∀m o,S1.own? m=some o->gt own' m=some o\/gt own' m=none/\gt own m=none/\S.own? m=some o:=by
  intro m o ho
  simp only[S1,aA.own?,eL,ub,ua]at ho
  cases h1:gt own' m with
  |some o1=>rw[h1]at ho;simp at ho;exact .inl (by rw[ho])
  |none=>
   rw[h1]at ho
   cases h2:gt own m with
   |some o2=>rw[h2]at ho;simp at ho
   |none=>rw[h2]at ho;exact .inr ⟨rfl,rfl,by simpa[aA.own?]using ho⟩
 have hext:∀m o b,gt own m=none->S.own? m=some o->o.foot w (E m) b->¬lL E w own b:=by
  rintro m o b hm ho hb ⟨n,o2,hn,hbn⟩
  have hne:m≠n:=by intro e;subst e;rw[hm]at hn;cases hn
  exact hs.apart m n o o2 b hne ho (hsub n o2 hn) hb hbn
 have hMn:∀m o b,gt own m=none->S.own? m=some o->o.foot w (E m) b->∀k,M' b k=none:=by
  intro m o b hm ho hb k
  cases hq:M' b k with
  |none=>rfl
  |some u=>
   rcases hp.mnew b k u hq with q|q|q
   ·rw[((hs.own m o ho).block hb).2 k]at q;cases q
   ·exact(hext m o b hm ho hb q).elim
   ·have:=hs.block_lt ho hb;omega
 have hsame:∀m o,gt own m=none->S.own? m=some o->∀b,o.foot w (E m) b->w'.heap[b]?=w.heap[b]?:=λm o h2 h3 b hb=>hp.frame b (hs.block_lt h3 hb) (hext m o b h2 h3 hb)
 have hfoot:∀m o,gt own m=none->S.own? m=some o->∀b,o.foot w' (E m) b->o.foot w (E m) b:=λm o h2 h3 b hb=>((hs.own m o h3).foot_keep (hsame m o h2 h3) b).1 hb
 have hexthome:∀b,lL E w own b->C.ext b\/C.w0.heap.size<=b:=λb ⟨n,o,hn,hb⟩=>hs.home n o b (hsub n o hn) hb
 have h1:Sim C E' M' S1 a w':=by
  refine{size:=hs.size,defers:=hs.defers,fixed:=hs.fixed,tmps:= ?_,mem:=hp.mem,own:= ?_,apart:= ?_,home:= ?_,m0:=Mem.le_trans hs.m0 hp.mle,mnew:= ?_,frame:= ?_,grows:=RH hs.grows hp.grows,os:=hp.os.trans hs.os,tape:=hp.tape.trans hs.tape,output:=hp.output.trans hs.output,env:=λn hn=>(hp.env n hn).trans (hs.env n hn)}
  ·intro t x hx
   obtain⟨u,hu,hr⟩:=hs.tmps t x hx
   exact⟨u,hu,hr.mono hp.mle (hEt t x hx)⟩
  ·intro m o ho
   rcases hold m o ho with h|⟨_,h2,h3⟩
   ·exact hp.owns.ok m o h
   ·exact(hs.own m o h3).keep (hEown m o h3) (hsame m o h2 h3) (hEo m o h3) hp.mle (λb hb=>hMn m o b h2 h3 hb)
  ·intro m m' o o' b hne ho ho' hb hb'
   rcases hold m o ho with h|⟨_,h2,h3⟩<;>rcases hold m' o' ho' with k|⟨_,k2,k3⟩
   ·exact hp.owns.apart m m' o o' b hne h k hb hb'
   ·rw[hEown m' o' k3]at hb'
    replace hb':=hfoot m' o' k2 k3 b hb'
    rcases hp.home m o b h hb with q|q
    ·exact hext m' o' b k2 k3 hb' q
    ·have:=hs.block_lt k3 hb';omega
   ·rw[hEown m o h3]at hb
    replace hb:=hfoot m o h2 h3 b hb
    rcases hp.home m' o' b k hb' with q|q
    ·exact hext m o b h2 h3 hb q
    ·have:=hs.block_lt h3 hb;omega
   ·rw[hEown m o h3]at hb;rw[hEown m' o' k3]at hb'
    exact hs.apart m m' o o' b hne h3 k3 (hfoot m o h2 h3 b hb) (hfoot m' o' k2 k3 b hb')
  ·intro m o b ho hb
   rcases hold m o ho with h|⟨_,h2,h3⟩
   ·rcases hp.home m o b h hb with q|q
    ·exact hexthome b q
    ·exact .inr (RH hs.grows q)
   ·rw[hEown m o h3]at hb
    exact hs.home m o b h3 (hfoot m o h2 h3 b hb)
  ·intro b k u hu
   rcases hp.mnew b k u hu with q|q|q
   ·exact hs.mnew b k u q
   ·exact .inr (hexthome b q)
   ·exact .inr (.inr (RH hs.grows q))
  ·intro k hk hke
   rw[hp.frame k (RW hk hs.grows) λhe=> ?_]
   ·exact hs.frame k hk hke
   ·rcases hexthome k he with q|q
    ·exact hke q
    ·omega
 exact h1.put o.dst hd hp.rep
theorem A2{c:Call}{f:Operand}(ho:o.op= .call c)(hc:c.callee= .value f):iN C nm o:=by
 intro E M S a w K Q k hs hv hK
 simp only[bG,ho,hc]at hv
 have hf:=hs.ev f
 have key:∀(fid:FuncId) (l l':List H),bF E M (a.eval f) (.fn fid l l')->tA C.P fid (l++c.args.toList.map (Go.Awp.ev S)++l') S.own? (λe=>(∀d∈e.new,S.fresh d=true/\d<given)/\k e)->o.wp C.P a w K Q:=by
  intro fid l l' hf hv
  obtain⟨own,r,own',⟨hcall,hfn⟩,hown,hnew,hk⟩:=hv
  generalize hq:a.eval f=q at hf
  cases hf with
  |fn fid first captured l l' h1 h2 h3 h4=>
   have hargs:f7 E M (first++c.args.map a.eval++captured) (l++c.args.toList.map (Go.Awp.ev S)++l'):=
    f7.append (f7.append ⟨h1,h3⟩ (hs.args c.args)) ⟨h2,h4⟩
   have hsub:∀n o,gt own n=some o->S.own? n=some o:=λn o h=>hown (n,o) (cz h)
   have hC:=hfn E M w _ (C.g0.mono hs.m0 λb ⟨v,hv⟩ hb=>hs.frame b hb λhx=>by rw[C.gx b hx 0]at hv;cases hv) hs.mem ⟨λn o h=>hs.own n o (hsub n o h),λn m o o' b hne h h'=>hs.apart n m o o' b hne (hsub n o h) (hsub m o' h')⟩ hargs
   have hex:(execOp a.eval o).run C.P w= .ok (.enter fid (first++c.args.map a.eval++captured)) w:=by
    unfold ix at hcall
    split at hcall
    ·rename_i fn hfn'
     simp only[Qk,bne_iff_ne,ne_eq]at hcall
     have hb:¬fn.body=none:=by
      intro hbb
      rw[hbb]at hcall;simp at hcall
     simp[execOp,ho,resolve,hc,hq,Deferred.ofValue,invoke,callFunc,hfn',hcall.1,hb]
    ·cases hcall
   unfold Oper.wp
   rw[hex]
   refine hC.mono ?_
   rintro e w' ⟨v,E',M',rfl,hp,henv⟩
   exact hK _ _ _ _ _ hk (hs.called hd hsub hp henv hnew)
 split at hv
 ·rename_i fid l l' he
  rw[he]at hf
  exact key fid l l' hf hv
 ·rename_i fid he
  rw[he]at hf
  refine key fid [] [] ?_ (by rw[QS,RO];exact hv)
  rw[hf.dv]
  exact .fn fid #[] #[] [] [] rfl rfl (λi c x hc=>by simp at hc) (λi c x hc=>by simp at hc)
 ·exact hv.elim
omit hd in
theorem tn{P:Program}{e:TypeId}{k:IntKind}{n:Int}(h:kI P e=some (.v (.int k n))):∃i,P.info? e=some i/\i.zero=some (.int k n):=by
 unfold kI at h
 split at h
 ·rename_i i hi
  split at h
  ·cases h
  ·rename_i v _ hv
   simp only[Qd,D.v.injEq]at h
   subst h
   exact⟨i,hi,hv⟩
  ·cases h
 ·cases h
omit hd in
theorem re(s:ByteArray):Lib.strCells s=(Bs.ints s).map (Value.int .u8):=by
 unfold Lib.strCells Bs.ints
 rw[QJ];rfl
omit hd in
theorem gF(s:ByteArray):(Bs.ints s).length=s.size:=by
 unfold Bs.ints
 rw[Qg,RB];rfl
omit hd in
theorem fV{P:Program}(w:World):∀(l:List Int) (a:Addr) (acc:ByteArray),(∀(j:Nat) (x:Int),l[j]?=some x->w.cell? (a.add j)=some (.int .u8 x))->
 (loadBytes a acc l.length).run P w= .ok (acc++Bs.bytes l) w
 |[],a,acc,_=>by
  simp only[Ss,loadBytes,Sem.run_pure]
  congr 1
  apply SC;simp[Bs.bytes]
 |x::l,a,acc,h=>by
  have h0:w.cell? a=some (.int .u8 x):=by
   have:=h 0 x rfl
   simpa[Addr.add]using this
  have ih:=fV (P:=P) w l (a.add 1) (acc.push (Si x.toNat)) (λj y hy=>by
   have:=h (j+1) y (by simpa using hy)
   have e:(a.add 1).add j=a.add (j+1):=by
    unfold Addr.add
    by_cases hj:j=0
    ·subst hj;simp
    ·simp[hj];omega
   rw[e];exact this)
  have hx:(x.toNat).toUInt8=Si x.toNat:=rfl
  simp only[QA,loadBytes,Sem.run_bind,Go.run_load,h0,Result.andThen,hx]
  rw[ih]
  congr 1
  apply SC
  simp[Bs.bytes,ByteArray.push]
omit hd in
theorem iq{P:Program}{w:World}(pt it ty e:TypeId)(hp:P.underlying pt=some (.pointer e))(hc:P.cellsOf e=1)(g cells:Nat)(hsh:w.shape? g=some (e,cells))(l:List Int)(h0:l≠[])(hn:l.length<=cells)(h63:l.length<=9223372036854775807)
 (hcell:∀(j:Nat) (x:Int),l[j]?=some x->w.cell? ((⟨g,0,none⟩:Addr).add j)=some (.int .u8 x)):
 (Builtin.unsafeString_ #[pt,it] ty #[.pointer (some ⟨g,0,none⟩), .int .i64 l.length]).run P w= .ok (.string (Bs.bytes l)) (w.freeze ⟨g,0,none⟩ l.length):=by
 have hl:l.length≠0:=by simpa using h0
 have hlb:=fV (P:=P) w l ⟨g,0,none⟩ .empty hcell
 have hlies:=Lib.liesAt_bytes (P:=P) hc (cells/P.cellsOf e) l.length (by rw[hc];simpa using hn)
 have h63':¬(9223372036854775807:Int)<(l.length:Int):=by omega
 have hmax:IntKind.i64.max=9223372036854775807:=rfl
 have hem:(Rr:ByteArray)++Bs.bytes l=Bs.bytes l:=by apply SC;simp
 rw[hem]at hlb
 have hva:(variablesAt ⟨g,0,none⟩ e l.length).run P w= .ok true w:=by
  simp[variablesAt,hsh,hlies]
 have hne:((l.length:Int)=0)=False:=by simpa using h0
 have hneg:¬(l.length:Int)<0:=by omega
 have hdef:Builtin.unsafeString_ #[pt,it] ty #[.pointer (some ⟨g,0,none⟩), .int .i64 l.length]=
  (do
    let n<-asInt (.int .i64 l.length)
    if n<0 then runtimePanic (.error "unsafe.String: len out of range")
    if n>IntKind.i64.max then unsupported (.unsafePointer "String: a length above the largest int")
    if n=0 then pure (.string .empty)
    else if<-variablesAt ⟨g,0,none⟩ (<-elemOf pt) n.toNat then do
     let s<-loadBytes ⟨g,0,none⟩ .empty n.toNat
     freeze ⟨g,0,none⟩ n.toNat
     pure (.string s)
    else unsupported (.unsafePointer "String: not so many bytes at ptr")):=rfl
 rw[hdef]
 simp[asInt,asIntOf,hmax,h63',hneg,hl,variablesAt,hsh,elemOf,run_underlying hp,hlies,hlb]
omit hd in
theorem gp{P:Program}{w:World}(t u ty e:TypeId)(i:TypeInfo)(ht:P.underlying t=some (.slice e))(hu:P.underlying u=some .string)(hi:P.info? e=some i)(hz:i.zero=some (.int .u8 0))
 (hsize:i.size=1)(hby:i.bytes=1)(v:Value)(n:Nat)(xs:List Value)(hown:w.ownsRow 0 e 1 v n xs)(s:ByteArray)(hle:n+s.size<=1000000000000):
 ∃v' w',(Builtin.append_ #[t,u] ty #[v, .string s]).run P w= .ok v' w'/\w'.ownsRow 0 e 1 v' (n+s.size) (xs++(Bs.ints s).map (Value.int .u8))/\w.grownBy w' (aH v)/\
  ∀b,aH v'=some b->aH v=some b\/w.heap.size<=b:=by
 have hM1:(1000000000000:Nat)<=maxLen:=by decide
 have hb:aH v=v.ownBlock:=by
  rcases hown.2 with⟨rfl,_⟩|⟨g,cap,cur,rfl,_⟩<;>rfl
 obtain⟨v',w',e1,e2,e3,_⟩:=Lib.run_append_own_string (P:=P) (w:=w) 0 t u ty e i ht hu hi hz hsize hby v n xs hown s (by omega) (by omega) (Sb _)
 refine⟨v',w',e1,by rw[<-re];exact e2,by rw[hb];exact e3,λb hbv=> ?_⟩
 rcases hown.2 with⟨rfl,rfl⟩|⟨g,cap,cur,rfl,hbg,hg,hnc,hcm,hcs,htake⟩
 ·obtain⟨v2,w2,f1,f2,_⟩:=Lib.run_append_own_string (P:=P) (w:=w) w.heap.size t u ty e i ht hu hi hz hsize hby (.slice none 0 0) 0 [] (World.ownsRow_nil w _ e 1) s (by omega) (by omega) (QF _)
  rw[e1]at f1
  simp only[Result.ok.injEq]at f1
  obtain⟨rfl,rfl⟩:=f1
  right
  rcases f2.2 with⟨hn,_⟩|⟨g2,cap2,cur2,hv2,hb2,_⟩
  ·rw[hn]at hbv;simp[aH]at hbv
  ·rw[hv2]at hbv;simp[aH]at hbv;omega
 ·by_cases hroom:n+s.size<=cap
  ·have hcs':cur.size=cap:=by simpa using hcs
   have f1:=Lib.run_append_room_string (P:=P) w t u ty e i ht hu hi hsize g n cap cur hg s hroom (by omega)
   rw[e1]at f1
   simp only[Result.ok.injEq]at f1
   obtain⟨rfl,_⟩:=f1
   left;simpa[aH]using hbv
  ·have holds:∀j u,xs[j]?=some u->w.cell? ((⟨g,0,none⟩:Addr).add j)=some u:=hown.cells (g:=g) rfl
   have f1:=Lib.run_append_grow_string (P:=P) w t u ty e i (.int .u8 0) ht hu hi hz ⟨g,0,none⟩ n cap xs (by rw[hsize];simpa using hown.1) holds s (by omega) (by omega) (by rw[hby];exact growslice_fits (by omega) (by omega))
   rw[e1]at f1
   simp only[Result.ok.injEq]at f1
   obtain⟨rfl,_⟩:=f1
   right;simp[aH]at hbv;omega
theorem oK{c:Call}{b:Builtin}(ho:o.op= .call c)(hc:c.callee= .builtin b):iN C nm o:=by
 intro E M S a w K Q k hs hv hK
 simp only[bG,ho,hc]at hv
 split at hv
 ·-- len
  rename_i x hargs
  obtain⟨p,hp,rfl⟩:=Av hargs
  have hx:=hs.ev p
  split at hv
  ·rename_i sz rows he
   rw[he]at hx
   obtain⟨hak,hv⟩:=hv
   obtain⟨t,e,h1,h2⟩:=jp hak
   have hlen:∃ad cap,a.eval p= .slice ad rows.length cap:=by
    rcases hx.toD.sl_cells with⟨h,h'⟩|⟨ad,cap,h,h'⟩|⟨b,off,cap,h,_⟩
    ·exact⟨none,0,by rw[h,h'];rfl⟩
    ·exact⟨some ad,cap,by rw[h,h'];rfl⟩
    ·exact⟨_,_,h⟩
   obtain⟨ad,cap,hq⟩:=hlen
   refine aJ (v:= .int .i64 rows.length) (w':=w) ?_ (hK _ _ _ _ _ hv.2 (hs.app_val hd rfl (.d (.v _))))
   simp[execOp,ho,resolve,hc,hp,hq,invoke,builtin,Builtin.len_,h1,run_underlying h2,goInt]
  ·rename_i m n he
   rw[he]at hx
   obtain⟨hak,hv⟩:=hv
   obtain⟨t,e,h1,h2⟩:=jp hak
   generalize hq:a.eval p=q at hx
   cases hx with
   |vh m n l c' ad hE hl=>
    refine aJ (v:= .int .i64 n) (w':=w) ?_ (hK _ _ _ _ _ hv.2 (hs.app_val hd rfl (.d (.v _))))
    simp[execOp,ho,resolve,hc,hp,hq,invoke,builtin,Builtin.len_,h1,run_underlying h2,goInt]
  ·rename_i n he
   rw[he]at hx
   split at hv
   ·rename_i es hown
    obtain⟨hak,hv⟩:=hv
    obtain⟨t,ta,tb,h1,h2⟩:=tH hak
    generalize hq:a.eval p=q at hx
    cases hx with
    |mp n b hE=>
     obtain⟨b',es',clock,g1,g2,_,g3,_⟩:=hs.own n _ hown
     rw[hE]at g1;cases g1
     have g3:es'.size=es.length:=by simpa using g3.len
     refine aJ (v:= .int .i64 es.length) (w':=w) ?_ (hK _ _ _ _ _ hv.2 (hs.app_val hd rfl (.d (.v _))))
     simp[execOp,ho,resolve,hc,hp,hq,invoke,builtin,Builtin.len_,h1,run_underlying h2,goInt,MapKept.run_getObj_map g2,g3]
   ·exact hv.elim
  ·rename_i s he
   rw[he]at hx;have hx:=hx.dv
   obtain⟨hak,hv⟩:=hv
   obtain⟨t,h1,h2⟩:=oF hak
   refine aJ (v:= .int .i64 s.size) (w':=w) ?_ (hK _ _ _ _ _ hv.2 (hs.app_val hd rfl (.d (.v _))))
   simp[execOp,ho,resolve,hc,hp,hx,invoke,builtin,Builtin.len_,h1,run_underlying h2,goInt]
  ·exact hv.elim
 ·-- min
  rename_i x y hargs
  obtain⟨p,q,hp,rfl,rfl⟩:=qF hargs
  have hx:=hs.ev p
  have hy:=hs.ev q
  split at hv
  ·rename_i kx m ky n hex hey
   rw[hex]at hx;rw[hey]at hy
   have hx:=hx.dv;have hy:=hy.dv
   have hmm:min m n=if n<m then n else m:=by omega
   rw[hmm]at hv
   refine aJ (v:= .int kx (if n<m then n else m)) (w':=w) ?_ (hK _ _ _ _ _ hv.2 (hs.app_val hd rfl (.d (.v _))))
   simp[execOp,ho,resolve,hc,hp,hx,hy,invoke,builtin,Builtin.min_,Builtin.min2]
  ·exact hv.elim
 ·-- max
  rename_i x y hargs
  obtain⟨p,q,hp,rfl,rfl⟩:=qF hargs
  have hx:=hs.ev p
  have hy:=hs.ev q
  split at hv
  ·rename_i kx m ky n hex hey
   rw[hex]at hx;rw[hey]at hy
   have hx:=hx.dv;have hy:=hy.dv
   have hmm:max m n=if n>m then n else m:=by omega
   rw[hmm]at hv
   refine aJ (v:= .int kx (if n>m then n else m)) (w':=w) ?_ (hK _ _ _ _ _ hv.2 (hs.app_val hd rfl (.d (.v _))))
   simp[execOp,ho,resolve,hc,hp,hx,hy,invoke,builtin,Builtin.max_,Builtin.max2]
  ·exact hv.elim
 ·-- append
  rename_i x y hargs
  obtain⟨p,q,hp,rfl,rfl⟩:=qF hargs
  have hx:=hs.ev p
  have hy:=hs.ev q
  split at hv
  ·exact hv.elim
  rename_i d hdst
  split at hv
  ·rename_i t t' hty
   have hty':c.argTypes= #[t,t']:=by
    rw[<-RV];simpa using hty
   split at hv
   ·rename_i e sz bytes hel
    obtain⟨ii,z,hu,hii,hz,hzs,his,hib,hpos⟩:=bX hel
    split at hv
    ·rename_i sz' news hey
     rw[hey]at hy
     have src:∀(n:Nat),sz=sz'->news.all (λr=>r.all D.one)=true->(∀r∈news,r.length=sz)/\∃cs:List Value,cs.length=news.length *sz/\
      ((a.eval q= .slice none 0 0/\news.length=0)\/∃ad cc,a.eval q= .slice (some ad) news.length cc/\∀(j:Nat) u,cs[j]?=some u->w.cell? (ad.add j)=some u)/\
      (∀u∈cs,u.oneCell'=true)/\∀(i j:Nat) (r:List D) (c:Value) (x:D),news[i]?=some r->r[j]?=some x->cs[i *sz+j]?=some c->cS M c x:=by
      intro _ hsz hone
      subst hsz
      rcases hy.toD.sl_cells with⟨h,h'⟩|⟨ad,cap,h,h'⟩|⟨b,off,cap,h,hcap,cs,hl,hm,hrl,hc'⟩
      ·subst h'
       exact⟨by simp,[],by simp, .inl ⟨h,rfl⟩,by simp,by simp⟩
      ·subst h'
       exact⟨by simp,[],by simp, .inr ⟨ad,cap,h,by simp⟩,by simp,by simp⟩
      ·refine⟨hrl,cs,hl, .inr ⟨_,_,h,λj u hu=>by rw[cF];exact hs.mem _ _ _ (hm j u hu)⟩,λu hu=> ?_,hc'⟩
       obtain⟨kk,hkk⟩:=RX.1 hu
       have hlt:kk<news.length *sz:=by rw[<-hl];exact(Qf.1 hkk).1
       have hi:kk/sz<news.length:=R2 (by rw[RG];exact hlt)
       have hj:kk%sz<(news[kk/sz]).length:=by rw[hrl _ (Q7 hi)];exact Sq _ hpos
       have hdm:kk/sz *sz+kk%sz=kk:=by rw[RG];exact R9 kk sz
       have hrep:=hc' (kk/sz) (kk%sz) _ u _ (Qi hi) (Qi hj) (by rw[hdm];exact hkk)
       have ho1:((news[kk/sz])[kk%sz]).one=true:=by
        rw[Qq]at hone
        have:=hone _ (Q7 hi)
        rw[Qq]at this
        exact this _ (Q7 hj)
       exact(bF.d (E:=E) hrep).one ho1
     have glue:∀(rows:List (List D)) (xs cs:List Value),xs.length=rows.length *sz->(∀r∈rows,r.length=sz)->
      (∀(i j:Nat) (r:List D) (c:Value) (x:D),rows[i]?=some r->r[j]?=some x->xs[i *sz+j]?=some c->cS M c x)->
      (∀(i j:Nat) (r:List D) (c:Value) (x:D),news[i]?=some r->r[j]?=some x->cs[i *sz+j]?=some c->cS M c x)->(∀r∈news,r.length=sz)->
      ∀(i j:Nat) (r:List D) (c:Value) (x:D),(rows++news)[i]?=some r->r[j]?=some x->(xs++cs)[i *sz+j]?=some c->cS M c x:=by
      intro rows xs cs hxl hrl h1 h2 hnl i j r c x hr hx hcc
      by_cases hi:i<rows.length
      ·rw[Qv hi]at hr
       have hj:j<sz:=by
        have:=hrl r (Qn hr)
        have:=(Qf.1 hx).1;omega
       have hmul:(i+1) *sz<=rows.length *sz:=Qw _ hi
       rw[QM]at hmul
       rw[Qv (by omega)]at hcc
       exact h1 i j r c x hr hx hcc
      ·rw[Qx (by omega)]at hr
       have hmul:rows.length *sz<=i *sz:=Qw _ (by omega)
       rw[Qx (by omega),hxl]at hcc
       have:i *sz+j-rows.length *sz=(i-rows.length) *sz+j:=by rw[Tg];omega
       rw[this]at hcc
       exact h2 _ j r c x hr hx hcc
     have exec:∀v w',(Builtin.append_ #[t,t] o.type #[a.eval p,a.eval q]).run C.P w= .ok v w'->t=t'->(execOp a.eval o).run C.P w= .ok (.value v) w':=by
      intro v w' h htt
      subst htt
      simp[execOp,ho,resolve,hc,hp,invoke,builtin,hty',h]
     split at hv
     ·rename_i n len hex
      rw[hex]at hx
      split at hv
      ·rename_i e' s' rows hcn
       obtain⟨⟨htt,he,hss,hsz',hlen,hone,hby,hle⟩,hnew,hk⟩:=hv
       subst he;subst hss;subst hlen
       obtain⟨hnl,cs,hcl,hsrc,hc1,hc2⟩:=src 0 hsz' hone
       have hn:=hnew (nm d) (by simp)
       generalize hq:a.eval p=pv at hx
       cases hx with
       |vh n len l cc ad hE hl=>
        obtain⟨xs,ho1,ho2,ho3,ho4⟩:=hs.own n _ hcn
        have hll:l=rows.length:=by
         rcases ho1.2 with⟨hn',hz'⟩|⟨g,cap,cur,hv',_⟩
         ·rw[hE]at hn';simp at hn';omega
         ·rw[hE]at hv';simp at hv';exact hv'.2.1
        subst hll
        rw[hE]at ho1
        obtain⟨v',w',r1,r2,r3,r4⟩:=gN (P:=C.P) (w:=w) t o.type e ii z sz bytes hu hii hz his hib hzs hpos _ rows.length xs ho1 (a.eval q) cs news.length hcl hsrc hc1 (by omega) hby
        refine aJ (exec v' w' (by rw[hq];exact r1) htt) ?_
        have hlen':∃ad' cc',v'= .slice ad' (rows.length+news.length) cc':=by
         rcases r2.2 with⟨h,h'⟩|⟨g,cap,cur,h,_⟩
         ·exact⟨none,0,by rw[h,h']⟩
         ·exact⟨_,_,h⟩
        obtain⟨ad',cc',hv'⟩:=hlen'
        have hmv:=hs.own_step (E':=λm=>if m=nm d then v' else E m) (n:=n) (d:=nm d) (o':= .vec e sz (rows++news)) hcn (w':=w') (by rw[hE];exact r3) (λm hm=>by simp[hm]) (.inr hn)
         (λb hb=>by simp at hb;rw[hE];exact r4 b hb)
         (λb hb=>by
           simp at hb
           rcases r2.2 with⟨h,_⟩|⟨g,cap,cur,h,_,hg,_⟩
           ·rw[h]at hb;simp[aH]at hb
           ·rw[h]at hb;simp[aH]at hb;subst hb;exact(Qt.1 hg).1)
         ⟨xs++cs,by simpa using r2,λr hr=>by
          rcases Q0.1 hr with h|h
          ·exact ho2 r h
          ·exact hnl r h,glue rows xs cs ho1.1 ho2 ho3 hc2 hnl,λb hb k=>by
          simp at hb
          rcases r4 b hb with q|q
          ·exact ho4 b (by rw[hE];exact q) k
          ·cases hm:M b k with
           |none=>rfl
           |some u=>have:=hs.cell_lt hm;omega⟩
        have hrep:bF (λm=>if m=nm d then v' else E m) M v' (.vh (nm d) (rows.length+news.length)):=by
         rw[hv'];exact bF.vh _ _ (rows.length+news.length) cc' ad' (by simp) (QF _)
        exact hK _ _ _ _ _ hk (hmv.put o.dst hd hrep)
      ·exact hv.elim
     ·rename_i hex
      rw[hex]at hx;have hx:=hx.dv
      obtain⟨⟨htt,hsz',hone,hby,hle⟩,hnew,hk⟩:=hv
      obtain⟨hnl,cs,hcl,hsrc,hc1,hc2⟩:=src 0 hsz' hone
      have hn:=hnew (nm d) (by simp)
      obtain⟨v',w',r1,r2,r3,r4⟩:=gN (P:=C.P) (w:=w) t o.type e ii z sz bytes hu hii hz his hib hzs hpos (.slice none 0 0) 0 [] (World.ownsRow_nil w 0 e sz) (a.eval q) cs news.length hcl hsrc hc1 (by omega) (by simpa using hby)
      refine aJ (exec v' w' (by rw[hx];exact r1) htt) ?_
      have hlen':∃ad' cc',v'= .slice ad' news.length cc':=by
       rcases r2.2 with⟨h,h'⟩|⟨g,cap,cur,h,_⟩
       ·exact⟨none,0,by rw[h];simp at h';rw[h'];rfl⟩
       ·exact⟨_,_,by simpa using h⟩
      obtain⟨ad',cc',hv'⟩:=hlen'
      have r4':∀b,aH v'=some b->w.heap.size<=b:=λb hb=>by
       rcases r4 b hb with q|q
       ·simp[aH]at q
       ·exact q
      have hmv:=hs.own_new (E':=λm=>if m=nm d then v' else E m) (d:=nm d) (o':= .vec e sz news) (w':=w') r3 (λm hm=>by simp[hm]) hn.1 hn.2 (λb hb=>r4' b (by simpa[Own.foot]using hb))
       ⟨cs,by simpa using r2,hnl,hc2,λb hb k=>by
         have:=r4' b (by simpa using hb)
         cases hm:M b k with
         |none=>rfl
         |some u=>have:=hs.cell_lt hm;omega⟩
      have hrep:bF (λm=>if m=nm d then v' else E m) M v' (.vh (nm d) news.length):=by
       rw[hv'];exact bF.vh _ _ news.length cc' ad' (by simp) (QF _)
      exact hK _ _ _ _ _ hk (hmv.put o.dst hd hrep)
     ·exact hv.elim
    ·-- a text behind bytes
     rename_i s hey
     rw[hey]at hy;have hy:=hy.dv
     have exec:∀v w',(Builtin.append_ #[t,t'] o.type #[a.eval p,a.eval q]).run C.P w= .ok v w'->(execOp a.eval o).run C.P w= .ok (.value v) w':=by
      intro v w' h
      simp[execOp,ho,resolve,hc,hp,invoke,builtin,hty',h]
     have rows1:∀(l:List Int) (i j:Nat) (r:List D) (c:Value) (x:D),(l.map (oL .u8))[i]?=some r->r[j]?=some x->(l.map (Value.int .u8))[i *1+j]?=some c->cS M c x:=by
      intro l i j r c x hr hx hc
      rw[Qh,Qr]at hr
      obtain⟨n,hn',rfl⟩:=hr
      cases j with
      |zero=>
       simp only[oL,Ri,Qd]at hx
       subst hx
       simp only[SL,Rj,Qh,hn',QG,Qd]at hc
       subst hc;exact .v _
      |succ j=>simp[oL]at hx
     have hM1:(1000000000000:Nat)<=maxLen:=by decide
     split at hv
     ·rename_i n len hex
      rw[hex]at hx
      split at hv
      ·rename_i e' s' rows hcn
       obtain⟨⟨hus,hzx,rfl,rfl,rfl,rfl,rfl,hle⟩,hnew,hk⟩:=hv
       obtain⟨i2,hi2,hz2⟩:=tn hzx
       rw[hii]at hi2;cases hi2
       have hn:=hnew (nm d) (by simp)
       generalize hq:a.eval p=pv at hx
       cases hx with
       |vh n len l cc ad hE hl=>
        obtain⟨xs,ho1,ho2,ho3,ho4⟩:=hs.own n _ hcn
        have hll:l=rows.length:=by
         rcases ho1.2 with⟨hn',hz'⟩|⟨g,cap,cur,hv',_⟩
         ·rw[hE]at hn';simp at hn';omega
         ·rw[hE]at hv';simp at hv';exact hv'.2.1
        subst hll
        rw[hE]at ho1
        obtain⟨v',w',r1,r2,r3,r4⟩:=gp (P:=C.P) (w:=w) t t' o.type e ii hu hus hii hz2 his hib _ rows.length xs ho1 s hle
        refine aJ (exec v' w' (by rw[hq,hy];exact r1)) ?_
        have hlen':∃ad' cc',v'= .slice ad' (rows.length+s.size) cc':=by
         rcases r2.2 with⟨h,h'⟩|⟨g,cap,cur,h,_⟩
         ·exact⟨none,0,by rw[h,h']⟩
         ·exact⟨_,_,h⟩
        obtain⟨ad',cc',hv'⟩:=hlen'
        have hbl:∀b,aH v'=some b->aH (E n)=some b\/w.heap.size<=b:=λb hb=>by
         rw[hE];exact r4 b hb
        have hmv:=hs.own_step (E':=λm=>if m=nm d then v' else E m) (n:=n) (d:=nm d) (o':= .vec e 1 (rows++(Bs.ints s).map (oL .u8))) hcn (w':=w') (by rw[hE];exact r3) (λm hm=>by simp[hm]) (.inr hn)
         (λb hb=>by simp at hb;exact hbl b hb)
         (λb hb=>by
           simp at hb
           rcases r2.2 with⟨h,_⟩|⟨g,cap,cur,h,_,hg,_⟩
           ·rw[h]at hb;simp[aH]at hb
           ·rw[h]at hb;simp[aH]at hb;subst hb;exact(Qt.1 hg).1)
         ⟨xs++(Bs.ints s).map (Value.int .u8),by simpa[gF]using r2,λr hr=>by
          rcases Q0.1 hr with h|h
          ·exact ho2 r h
          ·obtain⟨n,_,rfl⟩:=QD.1 h;rfl,λi j r c x hr hx hcc=>by
          have hxl:xs.length=rows.length:=by simpa using ho1.1
          by_cases hi:i<rows.length
          ·rw[Qv hi]at hr
           have hj:j<1:=by
            have:=ho2 r (Qn hr)
            have:=(Qf.1 hx).1;omega
           rw[Qv (by omega)]at hcc
           exact ho3 i j r c x hr hx hcc
          ·rw[Qx (by omega)]at hr
           rw[Qx (by omega),hxl]at hcc
           have:i *1+j-rows.length=(i-rows.length) *1+j:=by omega
           rw[this]at hcc
           exact rows1 _ _ j r c x hr hx hcc,λb hb k=>by
          simp at hb
          rcases hbl b hb with q|q
          ·exact ho4 b q k
          ·cases hm:M b k with
           |none=>rfl
           |some u=>have:=hs.cell_lt hm;omega⟩
        have hrep:bF (λm=>if m=nm d then v' else E m) M v' (.vh (nm d) (rows.length+(Bs.ints s).length)):=by
         rw[hv',gF];exact bF.vh _ _ (rows.length+s.size) cc' ad' (by simp) (QF _)
        exact hK _ _ _ _ _ hk (hmv.put o.dst hd hrep)
      ·exact hv.elim
     ·rename_i hex
      rw[hex]at hx;have hx:=hx.dv
      obtain⟨⟨hus,hzx,rfl,rfl,hle⟩,hnew,hk⟩:=hv
      obtain⟨i2,hi2,hz2⟩:=tn hzx
      rw[hii]at hi2;cases hi2
      have hn:=hnew (nm d) (by simp)
      obtain⟨v',w',r1,r2,r3,r4⟩:=gp (P:=C.P) (w:=w) t t' o.type e ii hu hus hii hz2 his hib (.slice none 0 0) 0 [] (World.ownsRow_nil w 0 e 1) s (by omega)
      refine aJ (exec v' w' (by rw[hx,hy];exact r1)) ?_
      have hlen':∃ad' cc',v'= .slice ad' s.size cc':=by
       rcases r2.2 with⟨h,h'⟩|⟨g,cap,cur,h,_⟩
       ·exact⟨none,0,by rw[h];have h0:s.size=0:=(by omega);rw[h0]⟩
       ·exact⟨_,_,by simpa using h⟩
      obtain⟨ad',cc',hv'⟩:=hlen'
      have r4':∀b,aH v'=some b->w.heap.size<=b:=λb hb=>by
       rcases r4 b hb with q|q
       ·simp[aH]at q
       ·exact q
      have hmv:=hs.own_new (E':=λm=>if m=nm d then v' else E m) (d:=nm d) (o':= .vec e 1 ((Bs.ints s).map (oL .u8))) (w':=w') r3 (λm hm=>by simp[hm]) hn.1 hn.2 (λb hb=>r4' b (by simpa[Own.foot]using hb))
       ⟨(Bs.ints s).map (Value.int .u8),by simpa[gF]using r2,λr hr=>by
         obtain⟨n,_,rfl⟩:=QD.1 hr;rfl,rows1 _,λb hb k=>by
         have:=r4' b (by simpa using hb)
         cases hm:M b k with
         |none=>rfl
         |some u=>have:=hs.cell_lt hm;omega⟩
      have hrep:bF (λm=>if m=nm d then v' else E m) M v' (.vh (nm d) (Bs.ints s).length):=by
       rw[hv',gF];exact bF.vh _ _ s.size cc' ad' (by simp) (QF _)
      exact hK _ _ _ _ _ hk (hmv.put o.dst hd hrep)
     ·exact hv.elim
    ·exact hv.elim
   ·exact hv.elim
  ·exact hv.elim
 ·-- the address of a slice's elements
  rename_i x hargs
  obtain⟨p,hp,rfl⟩:=Av hargs
  have hx:=hs.ev p
  split at hv
  ·rename_i n len he
   rw[he]at hx
   split at hv
   ·rename_i e z rows hown
    obtain⟨hip,_,hk⟩:=hv
    generalize hq:a.eval p=q at hx
    cases hx with
    |vh n len l cc ad hE hl=>
     obtain⟨xs,ho1,_⟩:=hs.own n _ hown
     rw[hE]at ho1
     have exec:∀v w',(Builtin.unsafeSliceData_ c.argTypes o.type #[a.eval p]).run C.P w= .ok v w'->(execOp a.eval o).run C.P w= .ok (.value v) w':=by
      intro v w' h
      simp[execOp,ho,resolve,hc,hp,invoke,builtin,h]
     rcases ho1.2 with⟨hn',hz'⟩|⟨g,cap,cur,hv',_,hg,hnc,hcm,hcs,_⟩
     ·simp only[Value.slice.injEq]at hn'
      obtain⟨rfl,rfl,rfl⟩:=hn'
      refine aJ (exec _ w (by rw[hq];exact Lib.run_unsafeSliceData_nil _ _ _ _ _)) (hK _ _ _ _ _ hk (hs.app_val hd rfl (.sd n none λa l c he' _=> ?_)))
      rw[hE]at he';simp only[Value.slice.injEq]at he';exact he'.1
     ·simp only[Value.slice.injEq]at hv'
      obtain⟨rfl,rfl,rfl⟩:=hv'
      by_cases hc0:cc=0
      ·subst hc0
       unfold kp at hip
       split at hip
       ·rename_i e' he'
        have hsh:w.shape? g=some (e,cur.size):=by simp[World.shape?,hg]
        refine aJ (exec _ _ (by rw[hq];exact Lib.run_unsafeSliceData_zero _ _ _ e' he' _ _ _ hsh)) ?_
        have h1:=hs.ro_new (M':=M) (World.grownBy_alloc w (.view ⟨g,0,none⟩ e') none) (Mem.le_refl M) (λb o v h=> .inl h) (λb o v h hb=>by have:=hs.cell_lt h;omega)
        refine hK _ _ _ _ _ hk (h1.app_val hd rfl (.sd n _ λa l c he' hl0=> ?_))
        rw[hE]at he';simp only[Value.slice.injEq]at he';omega
       ·cases hip
      ·refine aJ (exec _ w (by rw[hq];exact Lib.run_unsafeSliceData_row _ _ _ _ _ _ hc0)) (hK _ _ _ _ _ hk (hs.app_val hd rfl (.sd n _ λa l c he' _=> ?_)))
       rw[hE]at he';simp only[Value.slice.injEq]at he';exact he'.1
   ·exact hv.elim
  ·exact hv.elim
 ·-- the text of bytes that are owned
  rename_i x y hargs
  obtain⟨p,q,hp,rfl,rfl⟩:=qF hargs
  have hx:=hs.ev p
  have hy:=hs.ev q
  split at hv
  ·rename_i n ki l hex hey
   rw[hex]at hx;rw[hey]at hy
   have hy:=hy.dv
   split at hv
   ·rename_i e z rows hown
    split at hv
    ·rename_i ns pt it hns hty
     obtain⟨⟨hpt,hce,rfl,rfl,rfl,hle⟩,_,hk⟩:=hv
     have hrows:=iF hns
     subst hrows
     have hty':c.argTypes= #[pt,it]:=by rw[<-RV];simpa using hty
     have exec:∀v w',(Builtin.unsafeString_ #[pt,it] o.type #[a.eval p,a.eval q]).run C.P w= .ok v w'->(execOp a.eval o).run C.P w= .ok (.value v) w':=by
      intro v w' h
      simp[execOp,ho,resolve,hc,hp,invoke,builtin,hty',h]
     generalize hq:a.eval p=pv at hx
     cases hx with
     |sd n pp hsd=>
      obtain⟨xs,ho1,ho2,ho3,ho4⟩:=hs.own n _ hown
      have fin:∀w',w.grownBy w' (aH (E n))->(Builtin.unsafeString_ #[pt,it] o.type #[a.eval p,a.eval q]).run C.P w= .ok (.string (Bs.bytes ns)) w'->o.wp C.P a w K Q:=by
       intro w' hg hr
       have h1:=(hs.own_drop hown hg).put o.dst hd (x:= .d (.v (.string (Bs.bytes ns)))) (.d (.v _))
       exact aJ (exec _ _ hr) (hK _ _ _ _ _ hk h1)
      by_cases h0:ns=[]
      ·subst h0
       refine fin w ⟨rfl,rfl,rfl,QF _,λ_ _ _=>rfl⟩ ?_
       rw[hq,hy]
       exact Lib.run_unsafeString_none w pt it o.type pp
      ·rcases ho1.2 with⟨hn',hz'⟩|⟨g,cap,cur,hv',_,hg,hnc,hcm,hcs,htake⟩
       ·exact(h0 (by simpa using hz')).elim
       ·have hpp:=hsd _ _ _ hv' (by simpa using h0)
        subst hpp
        have hsh:w.shape? g=some (e,cur.size):=by simp[World.shape?,hg]
        simp only[Qg]at hnc htake hv'
        refine fin (w.freeze ⟨g,0,none⟩ ns.length) ?_ ?_
        ·rw[hv']
         refine⟨?_,?_,?_,?_,λk hk hne=> ?_⟩
         ·unfold World.freeze;split<;>rfl
         ·unfold World.freeze;split<;>rfl
         ·unfold World.freeze;split<;>rfl
         ·unfold World.freeze;split<;>simp
         ·unfold World.freeze
          split
          ·rfl
          ·have hgk:¬g=k:=λe=>hne (by simp[aH,e])
           simp[RK,hgk]
        ·rw[hq,hy]
         simp only[Qg]
         refine iq pt it o.type e hpt hce g cur.size hsh ns h0 (by omega) (by simp at hle;omega) λj x hj=> ?_
         rw[cF,Qy,cell_of_row w g j cur e (0,0) hg]
         have hjl:j<ns.length:=(Qf.1 hj).1
         have hxl:xs.length=ns.length:=by simpa using ho1.1
         have hxj:xs[j]?=some xs[j]:=Qi (by omega)
         have hd:=ho3 j 0 (oL .u8 x) xs[j] (.v (.int .u8 x)) (by rw[Qh,hj];rfl) rfl (by simp)
         have hxe:xs[j]= .int .u8 x:=by generalize xs[j]=u at hd;cases hd;rfl
         rw[hxe,<-htake,Qz]at hxj
         split at hxj
         ·simpa using hxj
         ·omega
    ·exact hv.elim
   ·exact hv.elim
  ·exact hv.elim
 ·exact hv.elim
theorem sE{t:TypeId}{l c:Operand}(ho:o.op= .makeSlice t l c):iN C nm o:=by
 intro E M S a w K Q k hs hv hK
 simp only[bG,ho]at hv
 split at hv
 ·rename_i e sz by_ d ht hdst
  obtain⟨ii,z0,hu,hii,hz,hzs,his,hib,hpos⟩:=bX ht
  split at hv
  ·rename_i z kl n kc m hzd hl hc
   obtain⟨⟨hnm,hn0,hm0,hm1,hb⟩,hnw,hk⟩:=hv
   have hn:=hnw (nm d) (by simp)
   have hz':z=z0.cells.toList:=by
    unfold gu at hzd
    rw[hii]at hzd
    simp only[hz]at hzd
    simpa using hzd.symm
   subst hz'
   have el:a.eval l= .int kl n:=by have:=hs.ev l;rw[hl]at this;exact this.dv
   have ec:a.eval c= .int kc m:=by have:=hs.ev c;rw[hc]at this;exact this.dv
   obtain⟨N,rfl⟩:∃N:Nat,m=N:=⟨m.toNat,by omega⟩
   have hbytes:ii.bytes *N<=281474976710656:=by
    rw[hib]
    have h1:by_ *N<=32768 *4294967296:=Tj hb (by omega)
    omega
   have hmx:N<=maxLen:=by
    have:(4294967296:Nat)<=maxLen:=by decide
    omega
   have hsz:z0.cells.toList.length=sz:=by simpa using hzs
   have hrun:∃(w':World) (xs:List Value),(execOp a.eval o).run C.P w= .ok (.value (.slice (some ⟨w.heap.size,0,none⟩) n.toNat N)) w'/\w'.ownsRow 0 e sz (.slice (some ⟨w.heap.size,0,none⟩) n.toNat N) n.toNat xs/\w.grownBy w' none/\
    ∀(i j:Nat) (c:Value) (x:Value),i<n.toNat->z0.cells.toList[j]?=some x->xs[i *sz+j]?=some c->c=x:=by
    rcases hnm with rfl|rfl
    ·obtain⟨w',r1,r2,r3⟩:=run_make_full (P:=C.P) (w:=w) 0 t e ii z0 sz hu hii hz his kl kc N hbytes hmx (Sb _)
     refine⟨w',_,?_,by simpa using r2,r3,λi j c x hi hj hc=> ?_⟩
     ·simp only[execOp,ho,el,ec,Sem.run_bind,r1,Result.andThen_ok,Sem.run_pure]
      rfl
     ·have hjs:j<sz:=by rw[<-hsz];exact(Qf.1 hj).1
      have hlt:i *sz+j<N *sz:=by
       have:(i+1) *sz<=N *sz:=Qw _ (by have:((N:Int)).toNat=N:=Qs N;omega)
       rw[QM]at this;omega
      have hmod:(i *sz+j)%sz=j:=by rw[Nat.add_comm,Nat.add_mul_mod_self_right,Nat.mod_eq_of_lt hjs]
      simp only[madeCells,Array.toList_map,Array.toList_range,Qh,Ru hlt,QG,Qd]at hc
      rw[hzs,hmod]at hc
      rw[<-hc]
      have hj':z0.cells[j]?=some x:=by simpa using hj
      rw[getElem!_def,hj']
    ·obtain⟨w',r1,r2,r3⟩:=run_make_own (P:=C.P) (w:=w) 0 t e ii z0 sz hu hii hz his kl kc N hbytes hmx (Sb _)
     refine⟨w',[],?_,by simpa using r2,r3,λi j c x hi=>by simp at hi⟩
     simp only[execOp,ho,el,ec,Sem.run_bind,r1,Result.andThen_ok,Sem.run_pure]
     rfl
   obtain⟨w',xs,r1,r2,r3,r4⟩:=hrun
   refine aJ r1 ?_
   have hnew:∀(k:Nat),M w.heap.size k=none:=by
    intro k
    cases hm:M w.heap.size k with
    |none=>rfl
    |some v=>have:=hs.cell_lt hm;omega
   have h1:=hs.own_new (E':=λm=>if m=nm d then .slice (some ⟨w.heap.size,0,none⟩) n.toNat N else E m) (d:=nm d) (o':= .vec e sz (QK n.toNat (z0.cells.toList.map .v))) r3
    (λm hm=>by simp[hm]) hn.1 hn.2 (λb hb=>by simp[Own.foot,aH]at hb;omega)
    ⟨xs,by simpa using r2,λr hr=>by rw[List.eq_of_mem_replicate hr,Qg];exact hsz,λi j r c x hr hx hc=>by
     have hi:i<n.toNat:=by have:=(Qf.1 hr).1;simpa using this
     have hr':r=z0.cells.toList.map .v:=by
      rw[Ta,TP hi]at hr
      simpa using hr.symm
     subst hr'
     rw[Qh,Qr]at hx
     obtain⟨y,hy,rfl⟩:=hx
     rw[r4 i j c y hi hy hc]
     exact .v y,λb hb k=>by simp[aH]at hb;subst hb;exact hnew k⟩
   have h2:=h1.put o.dst hd (bF.vh (nm d) n.toNat n.toNat N (some ⟨w.heap.size,0,none⟩) (by simp) (QF _))
   exact hK _ _ _ _ _ hk (by rw[hdst]at h2⊢;exact h2.weaken (λt x hx=> .inl hx) (λm p hm=>hm))
  ·exact hv.elim
 ·exact hv.elim
theorem xF{t:TypeId}{hint:Option Operand}(ho:o.op= .makeMap t hint):iN C nm o:=by
 intro E M S a w K Q k hs hv hK
 simp only[bG,ho]at hv
 split at hv
 ·rename_i kt et d hu hdst
  obtain⟨hh,hnw,hk⟩:=hv
  have hn:=hnw (nm d) (by simp)
  have hrun:(execOp a.eval o).run C.P w= .ok (.value (.map (some w.heap.size))) (w.alloc (.map #[] 0)):=by
   cases hint with
   |none=>simp only[execOp,ho,Sf,Instr.makeMap,Sem.run_bind,run_newObj_alloc,Result.andThen_ok,Sem.run_pure]
   |some x=>
    have hx:=hs.ev x
    simp only[nq]at hh
    split at hh
    ·rename_i ki m he
     rw[he]at hx
     have hx:=hx.dv
     simp only[execOp,ho,QG,hx,Instr.makeMap,asInt,asIntOf,Sem.run_bind,run_underlying hu,run_newObj_alloc,Result.andThen_ok,Sem.run_pure]
    ·cases hh
  refine aJ hrun ?_
  have hnew:∀(k:Nat),M w.heap.size k=none:=by
   intro k
   cases hm:M w.heap.size k with
   |none=>rfl
   |some v=>have:=hs.cell_lt hm;omega
  have h1:=hs.own_new (E':=λm=>if m=nm d then .map (some w.heap.size)else E m) (d:=nm d) (o':= .map []) (World.grownBy_alloc w (.map #[] 0) none)
   (λm hm=>by simp[hm]) hn.1 hn.2 (λb hb=>by simp[Own.foot,aH]at hb;omega)
   ⟨w.heap.size, #[],0,by simp,heap_alloc_new w _,List.nodup_nil,⟨[], .refl _,rfl,λi e p he=>by simp at he⟩,⟨by simp,by simp⟩,hnew⟩
  have h2:=h1.put o.dst hd (bF.mp (nm d) w.heap.size (by simp))
  exact hK _ _ _ _ _ hk (by rw[hdst]at h2⊢;exact h2.weaken (λt x hx=> .inl hx) (λm p hm=>hm))
 ·exact hv.elim
theorem A4{t:TypeId}{x i:Operand}{commaOk:Bool}(ho:o.op= .lookup t x i commaOk):iN C nm o:=by
 intro E M S a w K Q k hs hv hK
 simp only[bG,ho]at hv
 split at hv
 ·rename_i kt et hu
  split at hv
  ·rename_i kind z n key hkt hz hx hi
   split at hv
   ·rename_i es hown
    split at hv
    ·rename_i q hq
     have hv':(eh kind=true/\gP kind key es=true)/\k {val:=if commaOk=true then .tup [.d (q.getD z), .d (.v (.bool q.isSome))]else .d (q.getD z),acc:=[n]}:=by
      cases commaOk with
      |true=>exact⟨hv.1,hv.2.2⟩
      |false=>exact⟨hv.1,hv.2.2⟩
     clear hv
     obtain⟨⟨hsk,hst⟩,hk⟩:=hv'
     have ei:a.eval i=key:=by have:=hs.ev i;rw[hi]at this;exact this.dv
     have hxv:=hs.ev x
     rw[hx]at hxv
     generalize hxq:a.eval x=xv at hxv
     cases hxv with
     |mp n b hE=>
      obtain⟨b',es',clock,h1,h2,h3,h4,h6,h5⟩:=hs.own n _ hown
      rw[hE]at h1;cases h1
      obtain⟨z',hz1,hz2⟩:=qd hz
      have key':∃v ok,(Instr.lookup t (.map (some b)) key commaOk).run C.P w= .ok (if commaOk then .tuple #[v, .bool ok]else v) w/\cS M v (q.getD z)/\ok=q.isSome:=by
       rcases xc h3 h4 hst hq with⟨rfl,hf⟩|⟨j,v,d,rfl,hf,hd'⟩
       ·refine⟨z',false,?_,hz2 M,rfl⟩
        simp only[Instr.lookup,Sem.run_bind,run_underlying hu,Result.andThen_ok,MapKept.run_getObj_map h2,Sem.run_pure,cE hkt hsk,Instr.findKey,run_underlying hkt,hf,hz1]
        try(cases commaOk<;>rfl)
       ·refine⟨v,true,?_,hd',rfl⟩
        simp only[Instr.lookup,Sem.run_bind,run_underlying hu,Result.andThen_ok,MapKept.run_getObj_map h2,Sem.run_pure,cE hkt hsk,Instr.findKey,run_underlying hkt,hf]
        try(cases commaOk<;>rfl)
      obtain⟨v,ok,hr,hdv,hok⟩:=key'
      subst hok
      refine aJ (v:=if commaOk then .tuple #[v, .bool q.isSome]else v) (w':=w) ?_ (hK _ _ _ _ _ hk (hs.app_val hd rfl ?_))
      ·simp only[execOp,ho,hxq,ei,Sem.run_bind,hr,Result.andThen_ok,Sem.run_pure]
      ·cases commaOk with
       |false=>simp only[Qj,TL];exact .d hdv
       |true=>
        simp only[TK]
        refine .tup _ _ rfl λi c y hc hy=> ?_
        match i with
        |0=>simp at hc hy;subst hc;subst hy;exact .d hdv
        |1=>simp at hc hy;subst hc;subst hy;exact .d (.v _)
        |i+2=>simp at hc
    ·exact hv.elim
   ·exact hv.elim
  ·exact hv.elim
 ·exact hv.elim
omit hd in
theorem ou{es:Array MapEntry}{clock:Nat}(h:iS es clock){key val:Value}:iS (es.push {key:=key,val:=val,born:=clock}) (clock+1):=by
 refine⟨λe he=> ?_,?_⟩
 ·simp only[SB,Q0,Q3]at he
  rcases he with he|rfl
  ·exact Nat.lt_succ_of_lt (h.1 e he)
  ·exact Nat.lt_succ_self _
 ·simp only[SB,QU,Qp,QW,Sz]
  refine⟨h.2,by simp,λa ha b hb=> ?_⟩
  simp at hb;subst hb
  obtain⟨e,he,rfl⟩:=QD.1 ha
  exact Nat.ne_of_lt (h.1 e he)
omit hd in
theorem j4{es:Array MapEntry}{clock:Nat}(h:iS es clock){j:Nat}{f:MapEntry->MapEntry}(hf:∀e,(f e).born=e.born):iS (es.modify j f) clock:=by
 have hm:(es.modify j f).toList.map (·.born)=es.toList.map (·.born):=by
  apply Rw
  intro i
  simp only[Qh,Rv,RK]
  split
  ·cases es[i]? with
   |none=>rfl
   |some e=>simp[hf]
  ·rfl
 refine⟨λe he=> ?_,by rw[hm];exact h.2⟩
 have:e.born∈(es.modify j f).toList.map (·.born):=QN (f:=(·.born)) he
 rw[hm]at this
 obtain⟨e',he',hb⟩:=QD.1 this
 rw[<-hb];exact h.1 e' he'
theorem A6{t:TypeId}{x i y:Operand}(hrun:∀(ρ:Operand->Value) (w w':World),(Instr.mapUpdate t (ρ x) (ρ i) (ρ y)).run C.P w= .ok () w'->(execOp ρ o).run C.P w= .ok .skip w')
 (hval:∀(ρ:Operand->H) (ω:Nat->Option Own) (k:Eff->Prop),bG C.P nm o ρ ω k->Fm C.P ρ ω t x i y k):iN C nm o:=by
 intro E M S a w K Q k hs hv hK
 have hv:=hval _ _ _ hv
 simp only[Fm]at hv
 split at hv
 ·rename_i kt et hu
  split at hv
  ·rename_i kind n key dv hkt hx hi hy
   split at hv
   ·rename_i es hown
    split at hv
    ·rename_i es2 hq
     obtain⟨⟨hsk,hst⟩,es5,hpm,_,hk⟩:=hv
     have ei:a.eval i=key:=by have:=hs.ev i;rw[hi]at this;exact this.dv
     have ey:cS M (a.eval y) dv:=by have:=hs.ev y;rw[hy]at this;exact this.toD
     have hxv:=hs.ev x
     rw[hx]at hxv
     generalize hxq:a.eval x=xv at hxv
     cases hxv with
     |mp n b hE=>
      obtain⟨b',es',clock,h1,h2,h3,h4,h6,h5⟩:=hs.own n _ hown
      rw[hE]at h1;cases h1
      have hblt:b<w.heap.size:=(Qt.1 h2).1
      have key':∃(es3:Array MapEntry) (clock':Nat),(Instr.mapUpdate t (.map (some b)) key (a.eval y)).run C.P w= .ok () {w with heap:=w.heap.setIfInBounds b (.map es3 clock')}/\dA es2/\
       bJ M es3.toList es2/\iS es3 clock':=by
       rcases BC h3 h4 hst hq with⟨hf,g1,g2⟩|⟨j,v,e0,hf,he0,hsame,g1,g2⟩
       ·refine⟨es'.push {key:=key,val:=a.eval y,born:=clock},clock+1,?_,g1,?_,ou h6⟩
        ·simp only[Instr.mapUpdate,Sem.run_bind,run_underlying hu,Result.andThen_ok,MapKept.run_getObj_map h2,cE hkt hsk,Instr.findKey,run_underlying hkt,hf,Sem.run_pure,MapKept.run_setObj_map _ h2]
        ·rw[SB]
         exact g2 _ rfl ey
       ·have hge:es'[j]?=some e0:=by simpa using he0
        refine⟨es'.modify j λe=>{e with key:=key,val:=a.eval y},clock,?_,g1,?_,j4 h6 (λ_=>rfl)⟩
        ·have hkeep:(Instr.keyThatStays (((es'[j]?).map (·.key)).getD key) key).run C.P w= .ok key w:=by
          simp only[Instr.keyThatStays,hge,QG,Rk,og hsame,TK,Sem.run_pure]
         simp only[Instr.mapUpdate,Sem.run_bind,run_underlying hu,Result.andThen_ok,MapKept.run_getObj_map h2,cE hkt hsk,Instr.findKey,run_underlying hkt,hf,Sem.run_pure,hkeep,MapKept.run_setObj_map _ h2]
        ·have hl:(es'.modify j λe=>{e with key:=key,val:=a.eval y}).toList=es'.toList.set j {e0 with key:=key,val:=a.eval y}:=by
          apply Rw
          intro i
          rw[Rv,RK,Rg]
          by_cases hij:j=i
          ·subst hij
           have hj:j<es'.toList.length:=(Qf.1 he0).1
           rw[TP rfl,TP rfl,TP hj,hge];rfl
          ·rw[TN hij,TN hij,Rv]
         rw[hl]
         exact g2 _ rfl ey
      obtain⟨es3,clock',hr,hnd,hrep,hst3⟩:=key'
      refine j8 (w':={w with heap:=w.heap.setIfInBounds b (.map es3 clock')}) ?_ ?_
      ·exact hrun a.eval w _ (by rw[hxq,ei];exact hr)
      ·have hmv:=hs.own_step (E':=E) (n:=n) (d:=n) (o':= .map es5) hown (w':={w with heap:=w.heap.setIfInBounds b (.map es3 clock')})
        (by rw[hE];exact⟨rfl,rfl,rfl,by simp,λk hk hne=>by simp only[aH]at hne;rw[Q2 (by intro e;subst e;exact hne rfl)]⟩) (λ_ _=>rfl) (.inl ⟨rfl,rfl⟩) (λb' hb=> .inl hb)
        (λb' hb=>by have:=hs.block_lt hown hb;simpa using this)
        ⟨b,es3,clock',hE,by simp[hblt],hnd.perm hpm.symm,hrep.perm hpm.symm,hst3,λk=>((hs.own n _ hown).block (b:=b) (by rw[hE];rfl)).2 k⟩
       have hp:=hmv.put o.dst hd (bF.junk undef)
       refine hK _ _ _ _ _ hk (hp.weaken (λt x hx=> .inl hx) (λm p hm=> ?_))
       simp only[aA.own?,aA.app,QR,QS,aE]at hm⊢
       by_cases hnm:n=m
       ·rw[TP hnm]at hm⊢;exact hm
       ·rw[TN hnm]at hm⊢;rw[TN hnm];exact hm
    ·exact hv.elim
   ·exact hv.elim
  ·exact hv.elim
 ·exact hv.elim
theorem sF{t:TypeId}{x i y:Operand}(ho:o.op= .mapUpdate t x i y):iN C nm o:=
 A6 hd (x:=x) (i:=i) (y:=y) (t:=t) (λρ w w' h=>by simp only[execOp,ho,Sem.run_bind,h,Result.andThen_ok,Sem.run_pure]) λρ ω k h=>by simpa only[bG,ho]using h
theorem A3{t:TypeId}{x i y:Operand}(ho:o.op= .insert t x i y):iN C nm o:=
 A6 hd (x:=x) (i:=i) (y:=y) (t:=t) (λρ w w' h=>by simp only[execOp,ho,Sem.run_bind,h,Result.andThen_ok,Sem.run_pure]) λρ ω k h=>by simpa only[bG,ho]using h
theorem Eo{t:TypeId}{x:Operand}(ho:o.op= .range t x):iN C nm o:=by
 intro E M S a w K Q k hs hv hK
 simp only[bG,ho]at hv
 split at hv
 ·rename_i s d hu hx hdst
  obtain⟨hnw,hk⟩:=hv
  have hn:=hnw (nm d) (by simp)
  have ex:a.eval x= .string s:=by have:=hs.ev x;rw[hx]at this;exact this.dv
  have hrun:(execOp a.eval o).run C.P w= .ok (.value (.pointer (some ⟨w.heap.size,0,none⟩))) (w.alloc (.stringIter s 0)):=by
   simp only[execOp,ho,ex,Instr.range,Sem.run_bind,run_underlying hu,run_newObj_alloc,Result.andThen_ok,Sem.run_pure]
  refine aJ hrun ?_
  have hnew:∀(k:Nat),M w.heap.size k=none:=by
   intro k
   cases hm:M w.heap.size k with
   |none=>rfl
   |some v=>have:=hs.cell_lt hm;omega
  have h1:=hs.own_new (E':=λm=>if m=nm d then .pointer (some ⟨w.heap.size,0,none⟩)else E m) (d:=nm d) (o':= .iter s 0) (World.grownBy_alloc w (.stringIter s 0) none)
   (λm hm=>by simp[hm]) hn.1 hn.2 (λb hb=>by simp[Own.foot,aH]at hb;omega)
   ⟨w.heap.size,by simp,heap_alloc_new w _,hnew⟩
  have h2:=h1.put o.dst hd (bF.bp (nm d) 0 w.heap.size (by simp))
  exact hK _ _ _ _ _ hk (by rw[hdst]at h2⊢;exact h2.weaken (λt x hx=> .inl hx) (λm p hm=>hm))
 ·rename_i kt et m d hu hx hdst
  split at hv
  ·rename_i es hown
   obtain⟨hnw,hk⟩:=hv
   have hn:=hnw (nm d) (by simp)
   have hxv:=hs.ev x
   rw[hx]at hxv
   generalize hxq:a.eval x=xv at hxv
   cases hxv with
   |mp m b hE=>
    obtain⟨b',es',clock,h1,h2,h3,h4,h6,h5⟩:=hs.own m _ hown
    rw[hE]at h1;cases h1
    have hblt:b<w.heap.size:=(Qt.1 h2).1
    have hne:nm d≠m:=λe=>by have:=hn.1;rw[e]at this;simp[aA.fresh,hown]at this
    have hrun:(execOp a.eval o).run C.P w= .ok (.value (.pointer (some ⟨w.heap.size,0,none⟩))) (w.alloc (.mapIter (some b) clock #[] clock)):=by
     simp only[execOp,ho,hxq,Instr.range,Sem.run_bind,run_underlying hu,MapKept.run_getObj_map h2,run_newObj_alloc,Result.andThen_ok,Sem.run_pure]
    refine aJ hrun ?_
    have hnew:∀(k:Nat),M w.heap.size k=none:=by
     intro k
     cases hm:M w.heap.size k with
     |none=>rfl
     |some v=>have:=hs.cell_lt hm;omega
    have hga:=World.grownBy_alloc w (.mapIter (some b) clock #[] clock) none
    have hold:(w.alloc (.mapIter (some b) clock #[] clock)).heap[b]?=w.heap[b]?:=hga.block b hblt (by simp)
    have hmv:=hs.own_step (E':=λk=>if k=nm d then .pointer (some ⟨w.heap.size,0,none⟩)else E k) (n:=m) (d:=nm d) (o':= .miter m es es none) hown (w':=w.alloc (.mapIter (some b) clock #[] clock))
     ⟨hga.os,hga.tape,hga.output,hga.size,λk hk _=>hga.block k hk (by simp)⟩ (λk hk=>by simp[hk]) (.inr hn)
     (λb' hb=>by
       simp only[TK]at hb
       rcases hb with hb|⟨r,s1,s2,s3,hb,h⟩
       ·simp[aH]at hb;exact .inr (by omega)
       ·simp[aH]at hb;subst hb
        rw[heap_alloc_new]at h;cases h
        exact .inl (by rw[hE];rfl))
     (λb' hb=>by simp[aH]at hb;subst hb;exact(Qt.1 (heap_alloc_new w _)).1)
     ⟨w.heap.size,b,es',clock,clock, #[],clock,by simp,by simp[Rf hne];exact hE,by omega,heap_alloc_new w _,by rw[hold];exact h2,h3,h4,h6,⟨QF _,QF _⟩,h6.1,(λp hp=>by cases hp),
      by rw[Tw.2 (λe _=>by simp)];exact h4,hnew,h5⟩
    have h2:=hmv.put o.dst hd (bF.bp (nm d) 0 w.heap.size (by simp))
    exact hK _ _ _ _ _ hk (by rw[hdst]at h2⊢;exact h2.weaken (λt x hx=> .inl hx) (λm p hm=>hm))
  ·exact hv.elim
 ·exact hv.elim
omit hd in
theorem ip{P:Program}{w:World}{r:Nat}{s:ByteArray}{p:Nat}(hb:w.heap[r]?=some (.stringIter s p)):(getObj r).run P w= .ok (.stringIter s p) w:=by
 simp[getObj,Sem.run,hb]
omit hd in
theorem od{P:Program}{w:World}{r:Nat}{s:ByteArray}{p:Nat}(o:Obj)(hb:w.heap[r]?=some (.stringIter s p)):(setObj r o).run P w= .ok () {w with heap:=w.heap.setIfInBounds r o}:=by
 simp[setObj,Sem.run,hb]
omit hd in
theorem rO{l:List MapEntry}(hn:(l.map (·.born)).Nodup):∀{i:Nat} {e:MapEntry},l[i]?=some e->l.filter (λx=> !(x.born==e.born))=l.eraseIdx i:=by
 induction l with
 |nil=>intro i e h;simp at h
 |cons x r ih=>
  intro i e h
  rw[Qp,R3]at hn
  cases i with
  |zero=>
   simp at h;subst h
   rw[List.eraseIdx_cons_zero,S9]
   simp only[beq_self_eq_true,Q8,Qj,TL]
   refine Tw.2 λy hy=> ?_
   have:y.born≠x.born:=λhb=>hn.1 (by rw[<-hb];exact QN (f:=(·.born)) hy)
   simpa using this
  |succ i=>
   have he:e∈r:=Qn (by simpa using h)
   have hne:x.born≠e.born:=λhb=>hn.1 (by rw[hb];exact QN (f:=(·.born)) he)
   rw[Tb,S9,<-ih hn.2 (by simpa using h)]
   simp[hne]
theorem En{x:Operand}(ho:o.op= .next x false):iN C nm o:=by
 intro E M S a w K Q k hs hv hK
 simp only[bG,ho]at hv
 split at hv
 ·rename_i n off hx
  split at hv
  ·rename_i m es rest cur hown
   have hxv:=hs.ev x
   rw[hx]at hxv
   generalize hxq:a.eval x=xv at hxv
   cases hxv with
   |bp n off r hE=>
    obtain⟨rfl,hv0,hv1⟩:=hv
    obtain⟨r',b,es',clock,since,seen,last,h1,h2,h3,h4,h5,h6,h7,h8,h9,h10,h11,⟨l',p1,p2,p3⟩,h12,h13⟩:=hs.own n _ hown
    rw[hE]at h1;cases h1
    have hrlt:r<w.heap.size:=(Qt.1 h4).1
    have hnd:((es'.toList.filter λe=> !seen.contains e.born).map (·.born)).Nodup:=h8.2.sublist (List.filter_sublist.map _)
    have hfoot:(Own.miter m es rest cur).foot w (E n) b:= .inr ⟨r,since,seen,last,by rw[hE];rfl,h4⟩
    have hgo:(execOp a.eval o).run C.P w=((Instr.next (.pointer (some ⟨r,0,none⟩)) false o.type).run C.P w).andThen λv w'=> .ok (.value v) w':=by
     simp only[execOp,ho,hxq,Sem.run_bind,Sem.run_pure]
    rcases run_next_at (P:=C.P) w o.type r b since last seen es' clock h4 h5 h10 h9.1 with⟨hz,hr⟩|⟨e,he,w1,hw1,hr⟩
    ·have hl0:es'.toList.filter (λe=> !seen.contains e.born)=[]:=by
      have:(leftOf es' seen).toList=[]:=by rw[Sh hz]
      simpa[leftOf]using this
     rw[hl0]at p1
     have hl':l'=[]:=p1.eq_nil
     have hrest:rest=[]:=QE (by rw[<-p2,hl'];rfl)
     obtain⟨_,hk⟩:=hv0 hrest
     refine aJ (v:= .tuple #[.bool false]) (w':=w) (by rw[hgo,hr];rfl) ?_
     have hmv:=hs.own_stepG (E':=E) (n:=n) (d:=m) (o':= .map es) hown (w':=w) ⟨rfl,rfl,rfl,QF _,λ_ _ _=>rfl⟩ (λ_ _=>rfl) (.inl ⟨rfl,trivial⟩)
      (λb' hb=>by rw[h2]at hb;simp[Own.foot,aH]at hb;subst hb;exact .inl hfoot)
      (λb' hb=>by rw[h2]at hb;simp[aH]at hb;subst hb;exact(Qt.1 h5).1)
      ⟨b,es',clock,h2,h5,h6,h7,h8,h13⟩
     have hp:=hmv.put o.dst hd (x:= .tup [.d (.v (.bool false))]) (.tup #[.bool false] _ rfl λi c y hc hy=>by
      match i with
      |0=>simp at hc hy;subst hc;subst hy;exact .d (.v _)
      |i+1=>simp at hc)
     exact hK _ _ _ _ _ hk (hp.weaken (λt x hx=> .inl hx) (λm p hm=>hm))
    ·have hel:e∈es'.toList.filter λe=> !seen.contains e.born:=by simpa[leftOf]using he
     have hes:e∈es'.toList:=(Te.1 hel).1
     obtain⟨i,hi⟩:=RA (p1.mem_iff.2 hel)
     have hil:i<rest.length:=by rw[<-p2];exact(Qf.1 hi).1
     have hpi:=Qi hil
     obtain⟨_,hk⟩:=hv1 i _ hpi
     obtain⟨k1,k2⟩:=p3 i e _ hi hpi
     have hh:w1.heap=w.heap:=by rcases hw1 with rfl|rfl<;>rfl
     refine aJ (v:= .tuple #[.bool true,e.key,e.val]) (w':=ChangeMaps.setBlock w1 r (.mapIter (some b) since (seen.push e.born) clock)) (by rw[hgo,hr];rfl) ?_
     have hn':(l'.map (·.born)).Nodup:=((p1.map _).nodup_iff).2 hnd
     have hsb:(ChangeMaps.setBlock w1 r (.mapIter (some b) since (seen.push e.born) clock)).heap=w.heap.setIfInBounds r (.mapIter (some b) since (seen.push e.born) clock):=by simp[ChangeMaps.setBlock,hh]
     have hmv:=hs.own_step (E':=E) (n:=n) (d:=n) (o':= .miter m es (rest.eraseIdx i) (some rest[i])) hown (w':=ChangeMaps.setBlock w1 r (.mapIter (some b) since (seen.push e.born) clock))
      (by
        rw[hE]
        refine⟨?_,?_,?_,by rw[hsb];simp,λk hk hne=> ?_⟩
        ·rcases hw1 with rfl|rfl<;>rfl
        ·rcases hw1 with rfl|rfl<;>rfl
        ·rcases hw1 with rfl|rfl<;>rfl
        ·simp only[aH]at hne
         rw[hsb,Q2 (by intro e;subst e;exact hne rfl)])
      (λ_ _=>rfl) (.inl ⟨rfl,rfl⟩)
      (λb' hb=>by
        rcases hb with hb|⟨r',s1,s2,s3,hb,hq⟩
        ·exact .inl (.inl hb)
        ·rw[hE]at hb;simp[aH]at hb;subst hb
         rw[hsb]at hq;simp[hrlt]at hq
         obtain⟨rfl,_⟩:=hq
         exact .inl hfoot)
      (λb' hb=>by rw[hE]at hb;simp[aH]at hb;subst hb;rw[hsb];simpa using hrlt)
      ⟨r,b,es',clock,since,seen.push e.born,clock,hE,h2,h3,by rw[hsb];simp[hrlt],by rw[hsb,Q2 h3];exact h5,h6,h7,h8,⟨h9.2,h9.2⟩,h10,
       (λp hp=>by cases hp;exact⟨e,hes,⟨seen,rfl⟩,rfl,k1,k2⟩),
       ⟨l'.eraseIdx i,by
        rw[<-rO hn' hi]
        have hq:=p1.filter λx=> !(x.born==e.born)
        rw[List.filter_filter]at hq
        refine hq.trans ?_
        rw[List.filter_congr (q:=λx=> !(seen.push e.born).contains x.born)]
        intro y _
        simp only[Array.contains_push]
        cases h:(y.born==e.born)<;>cases h':seen.contains y.born<;>simp_all,by
        rw[To,To,p2],λj e' p' he' hp'=>by
        rw[List.getElem?_eraseIdx]at he' hp'
        by_cases hj:j<i
        ·rw[TP hj]at he' hp';exact p3 j e' p' he' hp'
        ·rw[TN hj]at he' hp';exact p3 (j+1) e' p' he' hp'⟩,h12,h13⟩
     have hp:=hmv.put o.dst hd (x:= .tup [.d (.v (.bool true)), .d (.v rest[i].1), .d rest[i].2]) (.tup #[.bool true,e.key,e.val] _ rfl λi c y hc hy=>by
      match i with
      |0=>simp at hc hy;subst hc;subst hy;exact .d (.v _)
      |1=>simp at hc hy;subst hc;subst hy;rw[k1];exact .d (.v _)
      |2=>simp at hc hy;subst hc;subst hy;exact .d k2
      |i+3=>simp at hc)
     refine hK _ _ _ _ _ hk (hp.weaken (λt x hx=> .inl hx) (λm p hm=> ?_))
     simp only[aA.own?,aA.app,QR,QS,aE]at hm⊢
     by_cases hnm:n=m
     ·rw[TP hnm]at hm⊢;exact hm
     ·rw[TN hnm]at hm⊢;rw[TN hnm];exact hm
  ·exact hv.elim
 ·exact hv.elim
theorem Ek{x:Operand}(ho:o.op= .entry x):iN C nm o:=by
 intro E M S a w K Q k hs hv hK
 simp only[bG,ho]at hv
 split at hv
 ·rename_i n off hx
  split at hv
  ·rename_i m es rest p hown
   have hxv:=hs.ev x
   rw[hx]at hxv
   generalize hxq:a.eval x=xv at hxv
   cases hxv with
   |bp n off r hE=>
    obtain⟨rfl,_,hk⟩:=hv
    obtain⟨r',b,es',clock,since,seen,last,h1,h2,h3,h4,h5,h6,h7,h8,h9,h10,h11,_,h12,h13⟩:=hs.own n _ hown
    rw[hE]at h1;cases h1
    obtain⟨e,he,⟨s0,rfl⟩,rfl,k1,k2⟩:=h11 p rfl
    have hr:=run_entry_at (P:=C.P) w r b since s0 es' last e h4 h5 he h8.2
    refine aJ (v:= .tuple #[e.key,e.val]) (w':=w) (by simp only[execOp,ho,hxq,Sem.run_bind,hr,Result.andThen_ok,Sem.run_pure]) (hK _ _ _ _ _ hk (hs.app_val hd rfl ?_))
    refine .tup #[e.key,e.val] _ rfl λi c y hc hy=> ?_
    match i with
    |0=>simp at hc hy;subst hc;subst hy;rw[k1];exact .d (.v _)
    |1=>simp at hc hy;subst hc;subst hy;exact .d k2
    |i+2=>simp at hc
  ·exact hv.elim
 ·exact hv.elim
theorem Ij{x:Operand}{is:Bool}(ho:o.op= .next x is):iN C nm o:=by
 intro E M S a w K Q k hs hv hK
 cases is with
 |false=>exact En hd ho E M S a w K Q k hs hv hK
 |true=>
 simp only[bG,ho]at hv
 split at hv
 ·rename_i n off hx
  split at hv
  ·rename_i s pos hown
   have hxv:=hs.ev x
   rw[hx]at hxv
   generalize hxq:a.eval x=xv at hxv
   cases hxv with
   |bp n off b hE=>
    obtain⟨b',g1,g2,g3⟩:=hs.own n _ hown
    rw[hE]at g1;cases g1
    have hblt:b<w.heap.size:=(Qt.1 g2).1
    split at hv
    ·rename_i hlt
     obtain⟨rfl,_,hk⟩:=hv
     have hlt:pos<s.size:=R8 hlt
     have hrun:(execOp a.eval o).run C.P w= .ok (.value (.tuple #[.bool true, .int .i64 pos, .int .i32 (Utf8.decode s pos).1])) {w with heap:=w.heap.setIfInBounds b (.stringIter s (pos+(Utf8.decode s pos).2))}:=by
      simp only[execOp,ho,hxq,Instr.next,Sem.run_bind,ip g2,Result.andThen_ok,hlt,TK,od _ g2,Sem.run_pure,goInt]
     refine aJ hrun ?_
     have hmv:=hs.own_step (E':=E) (n:=n) (d:=n) (o':= .iter s (pos+(Utf8.decode s pos).2)) hown (w':={w with heap:=w.heap.setIfInBounds b (.stringIter s (pos+(Utf8.decode s pos).2))})
      (by rw[hE];exact⟨rfl,rfl,rfl,by simp,λk hk hne=>by simp only[aH]at hne;rw[Q2 (by intro e;subst e;exact hne rfl)]⟩) (λ_ _=>rfl) (.inl ⟨rfl,rfl⟩) (λb' hb=> .inl hb)
      (λb' hb=>by have:=hs.block_lt hown hb;simpa using this)
      ⟨b,hE,by simp[hblt],g3⟩
     have hp:=hmv.put o.dst hd (x:= .tup [.d (.v (.bool true)), .d (.v (.int .i64 pos)), .d (.v (.int .i32 (Utf8.decode s pos).1))]) (.tup #[.bool true, .int .i64 pos, .int .i32 (Utf8.decode s pos).1] _ rfl λi c y hc hy=>by
      match i with
      |0=>simp at hc hy;subst hc;subst hy;exact .d (.v _)
      |1=>simp at hc hy;subst hc;subst hy;exact .d (.v _)
      |2=>simp at hc hy;subst hc;subst hy;exact .d (.v _)
      |i+3=>simp at hc)
     refine hK _ _ _ _ _ hk (hp.weaken (λt x hx=> .inl hx) (λm p hm=> ?_))
     simp only[aA.own?,aA.app,QR,QS,aE]at hm⊢
     by_cases hnm:n=m
     ·rw[TP hnm]at hm⊢;exact hm
     ·rw[TN hnm]at hm⊢;rw[TN hnm];exact hm
    ·rename_i hlt
     obtain⟨rfl,_,hk⟩:=hv
     have hlt:¬pos<s.size:=λh=>by rw[show RD pos s.size=true from Nat.ble_eq_true_of_le h]at hlt;cases hlt
     have hrun:(execOp a.eval o).run C.P w= .ok (.value (.tuple #[.bool false])) w:=by
      simp only[execOp,ho,hxq,Instr.next,Sem.run_bind,ip g2,Result.andThen_ok,hlt,TL,Sem.run_pure]
     refine aJ hrun (hK _ _ _ _ _ hk (hs.app_val hd rfl ?_))
     refine .tup #[.bool false] _ rfl λi c y hc hy=> ?_
     match i with
     |0=>simp at hc hy;subst hc;subst hy;exact .d (.v _)
     |i+1=>simp at hc
  ·exact hv.elim
 ·exact hv.elim
theorem sB:iN C nm o:=by
 cases ho:o.op with
 |move x=>exact A5 hd (.inl ho)
 |assign x=>exact A5 hd (.inr ho)
 |pick c x y=>exact Ik hd ho
 |alloc t=>exact Ei hd ho
 |box t x=>exact Ko hd ho
 |build t ps=>exact v8 hd ho
 |buildSlice t n ps=>exact qQ hd ho
 |load t x=>exact Ii hd ho
 |store t x y=>exact Er hd ho
 |nilCheck x=>exact uw hd ho
 |binOp op t x y t'=>exact Ej hd ho
 |unOp op t x=>exact Il hd ho
 |convert s t x=>exact xD hd ho
 |makeFunc f a b=>exact uv hd ho
 |makeInterface t x=>exact lO hd ho
 |makeSlice t l c=>exact sE hd ho
 |makeMap t r=>exact xF hd ho
 |entry x=>exact Ek hd ho
 |lookup t x i c=>exact A4 hd ho
 |mapUpdate t x i y=>exact sF hd ho
 |insert t x i y=>exact A3 hd ho
 |range t x=>exact Eo hd ho
 |next x i=>exact Ij hd ho
 |slice t x lo hi mx=>exact Ep hd ho
 |fieldAddr s x f=>exact sC hd ho
 |field s x f=>exact El hd ho
 |indexAddr t x i=>exact sD hd ho
 |index t x i=>exact Em hd ho
 |extract x i=>exact xE hd ho
 |call c=>
  cases hc:c.callee with
  |value f=>exact A2 hd ho hc
  |builtin b=>exact oK hd ho hc
  |invoke r m=>intro E M S a w K Q k hs hv hK;simp[bG,ho,hc]at hv
 |_=>intro E M S a w K Q k hs hv hK;simp[bG,ho]at hv
end
end Go.Awp
end
section
namespace Go.Awp
variable [Inhabited GMem]
def iU(S:aA)(all:List Oper)(j:Nat)(want:Bool):Option Bool:=
 match all[j]? with
 |some o=>match o.dst with
  |some d=>match S.get d with
   | .d (.v (.bool b))=>some b
   | .tup []=>some (!want)
   |_=>none
  |none=>none
 |none=>none
theorem GR{E:Env}{M:Mem}:bF E M undef (.tup []):= .tup _ _ rfl λi c x hc _=>by simp at hc
def aIf(b:Bool)(x y:Prop):Prop:=(b=true->x)/\(b=false->y)
theorem Sim.guard{C:Ctx}{E:Env}{M:Mem}{S:aA}{a:Act}{w:World}(hs:Sim C E M S a w){ops:Array Oper}{j:Nat}{b want:Bool}(h:iU S ops.toList j want=some b):
 (yielded ops a.tmps j==some want)=(b==want):=by
 unfold iU at h
 split at h
 ·rename_i o ho
  split at h
  ·rename_i d hd
   split at h
   ·rename_i b' hb
    simp at h;subst h
    have hg:=hs.get d
    rw[hb]at hg
    have hv:=hg.dv
    have ho':ops[j]?=some o:=by simpa using ho
    have hlt:a.tmps[d]?=some (.bool b'):=by
     cases hq:a.tmps[d]? with
     |none=>simp[hq,undef]at hv
     |some x=>simp[hq]at hv;rw[hv]
    simp[yielded,ho',hd,hlt]
   ·rename_i hb
    simp only[Qd]at h
    rw[<-h]
    have hg:=hs.get d
    rw[hb]at hg
    have ho':ops[j]?=some o:=by simpa using ho
    have hne:(∃b,a.tmps[d]?=some (.bool b))->False:=by
     rintro⟨b,hq⟩
     simp only[Array.getD_eq_getD_getElem?,hq,Rk]at hg
     cases hg
    have hy:yielded ops a.tmps j=none:=by
     unfold yielded
     split
     ·rename_i b hq
      simp[ho',hd]at hq
      exact(hne ⟨b,hq⟩).elim
     ·rfl
    rw[hy]
    cases want<;>rfl
   ·cases h
  ·cases h
 ·cases h
def Ent(S S':aA):Prop:=∀(C:Ctx) (E:Env) (M:Mem) (a:Act) (w:World),Sim C E M S a w->∃E' M',Sim C E' M' S' a w
theorem Ent.refl(S:aA):Ent S S:=λ_ E M _ _ h=>⟨E,M,h⟩
theorem Ent.trans{S S' S'':aA}(h:Ent S S')(k:Ent S' S''):Ent S S'':=λC E M a w hs=>
 let⟨E',M',h'⟩:=h C E M a w hs
 k C E' M' a w h'
def AWp(C:Ctx)(c:Code)(S:aA)(Q:Exit->aA->Prop):Prop:=
 ∀(E:Env) (M:Mem) (a:Act) (w:World),Sim C E M S a w->c.wp C.P (λe a' w'=>∃S' E' M',Q e S'/\Sim C E' M' S' a' w') a w
def J8(n:aA->Prop)(Q:Exit->aA->Prop):Exit->aA->Prop
 | .normal,S=>n S
 |e,S=>Q e S
def vz(id:Nat)(Q:Exit->aA->Prop):Exit->aA->Prop
 | .exit id',S=>if id'=id then Q .normal S else Q (.exit id') S
 |e,S=>Q e S
section
variable {C:Ctx} {Q:Exit->aA->Prop} {S:aA}
theorem AWp.mono{c:Code}{Q':Exit->aA->Prop}(h:AWp C c S Q)(hq:∀e S,Q e S->Q' e S):AWp C c S Q':=
 λE M a w hs=>wp_mono (h E M a w hs) λe _ _ ⟨S',E',M',q,s⟩=>⟨S',E',M',hq e S' q,s⟩
theorem AWp.ent{c:Code}{S':aA}(he:Ent S S')(h:AWp C c S' Q):AWp C c S Q:=λE M a w hs=>
 let⟨E',M',hs'⟩:=he C E M a w hs
 h E' M' a w hs'
theorem AWp.seq{x y:Code}(h:AWp C x S (J8 (λS'=>AWp C y S' Q) Q)):AWp C (.seq x y) S Q:=λE M a w hs=>
 wp_seq (wp_mono (h E M a w hs) λe a' w' ⟨S',E',M',q,s⟩=>by
  cases e with
  |normal=>exact q E' M' a' w' s
  |exit _=>exact⟨S',E',M',q,s⟩
  |goto _=>exact⟨S',E',M',q,s⟩
  |ret=>exact⟨S',E',M',q,s⟩
  |panic _=>exact⟨S',E',M',q,s⟩
  |outgrown=>exact⟨S',E',M',q,s⟩)
theorem AWp.skip(h:Q .normal S):AWp C .skip S Q:=λE M _ _ hs=>wp_skip ⟨S,E,M,h,hs⟩
theorem AWp.ret(h:Q .ret S):AWp C .ret S Q:=λE M _ _ hs=>wp_ret ⟨S,E,M,h,hs⟩
theorem AWp.exit{id:Nat}(h:Q (.exit id) S):AWp C (.exit id) S Q:=λE M _ _ hs=>wp_exit ⟨S,E,M,h,hs⟩
theorem AWp.label{l:Nat}(h:Q .normal S):AWp C (.label l) S Q:=λE M _ _ hs=>wp_label ⟨S,E,M,h,hs⟩
theorem AWp.goto{l:Nat}(h:Q (.goto l) S):AWp C (.goto l) S Q:=λE M _ _ hs=>wp_goto ⟨S,E,M,h,hs⟩
theorem AWp.block{id:Nat}{c:Code}(h:AWp C c S (vz id Q)):AWp C (.block id c) S Q:=λE M a w hs=>
 wp_block (wp_mono (h E M a w hs) λe a' w' ⟨S',E',M',q,s⟩=>by
  cases e with
  |exit id'=>
   simp only[vz]at q
   simp only[Exit.inBlock]
   by_cases hid:id'=id
   ·rw[TP hid]at q⊢;exact⟨S',E',M',q,s⟩
   ·rw[TN hid]at q⊢;exact⟨S',E',M',q,s⟩
  |normal=>exact⟨S',E',M',q,s⟩
  |goto _=>exact⟨S',E',M',q,s⟩
  |ret=>exact⟨S',E',M',q,s⟩
  |panic _=>exact⟨S',E',M',q,s⟩
  |outgrown=>exact⟨S',E',M',q,s⟩)
theorem AWp.cond{c:Operand}{x y:Code}{b:Bool}(hc:ev S c= .d (.v (.bool b)))(ht:b=true->AWp C x S Q)(hf:b=false->AWp C y S Q):AWp C (.cond c x y) S Q:=λE M a w hs=>by
 have h:=hs.ev c
 rw[hc]at h
 cases b with
 |true=>exact wp_cond_true h.dv (ht rfl E M a w hs)
 |false=>exact wp_cond_false h.dv (hf rfl E M a w hs)
end
def n_(P:Program)(S:aA):ResultVar->Option H
 | .tmp t=>some (S.get t)
 | .cell a t=>match S.get a with
  | .bp n off=>match S.own? n,cK P t with
   |some (.box _ cells),some (ag,sz)=>e_ ag sz (cells.drop off)
   |_,_=>none
  |_=>none
def io(P:Program)(S:aA):List ResultVar->Option (List H)
 |[]=>some []
 |x::r=>match n_ P S x,io P S r with
  |some h,some l=>some (h::l)
  |_,_=>none
def Kt(P:Program)(S:aA)(rs:List ResultVar):Option H:=
 match io P S rs with
 |some [h]=>some h
 |some l=>some (.tup l)
 |none=>none
def pE(tmps:Array Value):ResultVar->Sem Value
 | .tmp t=>Pure.pure (tmps.getD t undef)
 | .cell c t=>do loadVar t (<-asAddr (tmps.getD c undef))
theorem xQ(fn:Func)(tmps:Array Value):results fn tmps=(do
 let vs<-fn.results.mapM (pE tmps)
 Pure.pure (if h:vs.size=1 then vs[0]else .tuple vs)):=by
 have:(λ(x:ResultVar)=>match x with
  | .tmp t=>(Pure.pure (tmps.getD t undef):Sem Value)
  | .cell a t=>do loadVar t (<-asAddr (tmps.getD a undef)))=pE tmps:=by
  funext x;cases x<;>rfl
 rw[<-this];rfl
theorem oc{C:Ctx}{E:Env}{M:Mem}{S:aA}{a:Act}{w:World}(hs:Sim C E M S a w):∀(rs:List ResultVar) (l:List H),io C.P S rs=some l->
 ∃vs:List Value,(rs.mapM (pE a.tmps)).run C.P w= .ok vs w/\f7 E M vs.toArray l
 |[],l,h=>by
  simp[io]at h;subst h
  exact⟨[],by simp,rfl,by simp⟩
 |x::r,l,h=>by
  simp only[io]at h
  split at h
  ·rename_i y l' hy hl'
   simp at h;subst h
   obtain⟨vs,h1,h2,h3⟩:=oc hs r l' hl'
   have one:∃v,(pE a.tmps x).run C.P w= .ok v w/\bF E M v y:=by
    cases x with
    |tmp t=>
     simp[n_]at hy;subst hy
     exact⟨_,by simp[pE],hs.get t⟩
    |cell c t=>
     simp only[n_]at hy
     split at hy
     ·rename_i n off he
      split at hy
      ·rename_i cells ag sz hc ht
       have hg:=hs.get c
       rw[he]at hg
       generalize hq:a.tmps.getD c undef=q at hg
       cases hg with
       |bp n off b hE=>
        obtain⟨cs,ty,g1,g2,g3,g4,_⟩:=(hs.own n _ hc).box_cell hE
        obtain⟨v,hr,hrep⟩:=hZ (cs:=cs.toList.drop off) (w:=w) (b:=b) (off:=off) ht (by simp[g2]) (λj v hv=>g4 _ v (by simpa using hv)) (λi c y hc hy=>g3 (off+i) c y (by simpa using hc) (by simpa using hy)) hy
        exact⟨v,by simp only[pE,hq,asAddr,Sem.run_bind,Sem.run_pure,Result.andThen_ok];exact hr,hrep⟩
      ·cases hy
     ·cases hy
   obtain⟨v,hv1,hv2⟩:=one
   refine⟨v::vs,by rw[Tk,Sem.run_bind,hv1,Result.andThen_ok,Sem.run_bind,h1,Result.andThen_ok,Sem.run_pure],by simpa using h2,λi c z hc hz=> ?_⟩
   cases i with
   |zero=>simp at hc hz;subst hc;subst hz;exact hv2
   |succ i=>exact h3 i c z (by simpa using hc) (by simpa using hz)
  ·cases h
theorem EM{C:Ctx}{E:Env}{M:Mem}{S:aA}{a:Act}{w:World}(hs:Sim C E M S a w){fn:Func}{r:H}(h:Kt C.P S fn.results.toList=some r):
 ∃v,(results fn a.tmps).run C.P w= .ok v w/\bF E M v r:=by
 unfold Kt at h
 have run:∀l,io C.P S fn.results.toList=some l->∃vs:List Value,f7 E M vs.toArray l/\(results fn a.tmps).run C.P w= .ok (if h:vs.toArray.size=1 then vs.toArray[0]else .tuple vs.toArray) w:=by
  intro l hl
  obtain⟨vs,h1,h2⟩:=oc hs _ l hl
  refine⟨vs,h2,?_⟩
  rw[xQ,Array.mapM_eq_mapM_toList,Sem.run_bind,Sem.run_map,h1]
  rfl
 split at h
 ·rename_i y hl
  simp at h;subst h
  obtain⟨vs,h2,h3⟩:=run _ hl
  have hsz:vs.toArray.size=1:=by simpa using h2.1
  rw[dif_pos hsz]at h3
  exact⟨_,h3,h2.2 0 _ y (QC (by omega)) rfl⟩
 ·rename_i l hne hl
  simp at h;subst h
  obtain⟨vs,h2,h3⟩:=run _ hl
  have hsz:¬vs.toArray.size=1:=by
   intro hs1
   rw[h2.1]at hs1
   obtain⟨x,hx⟩:=List.length_eq_one_iff.1 hs1
   subst hx
   exact hne x rfl
  rw[dif_neg hsz]at h3
  exact⟨_,h3, .tup _ _ h2.1 h2.2⟩
 ·cases h
def j5:Nat->List H->List (Nat×H)
 |_,[]=>[]
 |i,x::r=>(i,x)::j5 (i+1) r
theorem rY:∀(l:List H) (i t:Nat) (x:H),gt (j5 i l) t=some x->i<=t/\l[t-i]?=some x
 |[],i,t,x,h=>by simp[j5,gt]at h
 |y::r,i,t,x,h=>by
  simp only[j5,aE]at h
  by_cases hi:i=t
  ·subst hi;simp at h;subst h;simp
  ·rw[TN hi]at h
   obtain⟨h1,h2⟩:=rY r (i+1) t x h
   refine⟨by omega,?_⟩
   have:t-i=(t-(i+1))+1:=by omega
   rw[this];simpa using h2
def s5(own:List (Nat×Own)):List (Nat×Option Own):=own.map λp=>(p.1,some p.2)
theorem gc:∀(own:List (Nat×Own)) (n:Nat),(gt (s5 own) n).getD none=gt own n
 |[],n=>rfl
 |(k,o)::r,n=>by
  have ih:=gc r n
  simp only[s5,Qp,aE]at ih⊢
  by_cases hk:k=n
  ·simp[hk]
  ·rw[TN hk,TN hk];exact ih
end Go.Awp
end
section
namespace Go.Awp
variable [Inhabited GMem]
theorem iD{α:Type}{sz:Nat}:∀{rows:List (List α)},(∀r∈rows,r.length=sz)->∀{i j:Nat} {r:List α},rows[i]?=some r->j<sz->rows.flatten[i *sz+j]?=r[j]?
 |[],_,i,j,r,h,_=>by simp at h
 |a::s,hl,i,j,r,h,hj=>by
  have ha:=hl a Qo
  cases i with
  |zero=>simp at h;subst h;rw[Q4,R0,Qy,Qv (by omega)]
  |succ i=>
   rw[Q4,Qx (by rw[ha,QM];omega),ha]
   have:(i+1) *sz+j-sz=i *sz+j:=by rw[QM];omega
   rw[this]
   exact iD (λr hr=>hl r (Qm _ hr)) (by simpa using h) hj
theorem jy{α:Type}{sz:Nat}:∀{rows:List (List α)},(∀r∈rows,r.length=sz)->∀{i j:Nat} {r:List α} {x:α},rows[i]?=some r->j<sz->(rows.set i (r.set j x)).flatten=rows.flatten.set (i *sz+j) x
 |[],_,i,j,r,x,h,_=>by simp at h
 |a::s,hl,i,j,r,x,h,hj=>by
  have ha:=hl a Qo
  cases i with
  |zero=>simp at h;subst h;rw[List.set_cons_zero,Q4,Q4,R0,Qy,Tn _ _ (by omega)]
  |succ i=>
   rw[List.set_cons_succ,Q4,Q4,List.set_append_right _ _ (by rw[ha,QM];omega),ha]
   have:(i+1) *sz+j-sz=i *sz+j:=by rw[QM];omega
   rw[this,jy (λr hr=>hl r (Qm _ hr)) (by simpa using h) hj]
theorem d8{α:Type}{sz:Nat}:∀{rows:List (List α)},(∀r∈rows,r.length=sz)->rows.flatten.length=rows.length *sz
 |[],_=>by simp
 |a::s,h=>by
  rw[Q4,QB,d8 λr hr=>h r (Qm _ hr),h a Qo,QA,QM];omega
theorem aX.app{M:Mem}{w:World}{vs vs':List Value}{ds ds':List DD}{B B':List Nat}(h:aX M w vs ds B)(h':aX M w vs' ds' B'):aX M w (vs++vs') (ds++ds') (B++B'):=by
 induction h with
 |nil=>exact h'
 |d h _ ih=>exact .d h ih
 |junk _ ih=>exact .junk ih
 |mt _ ih=>exact .mt ih
 |sl hn ho hz h r _ ih=>rw[QR,QR,QR,Rt];exact .sl hn ho hz h ih
theorem Ex{g:Nat}{B0 B B1 B2:List Nat}(h:B.Perm (B1++B2)):(g::(B0++B)).Perm (B1++g::(B0++B2)):=by
 rw[Tv]at h⊢
 intro a
 have:=h a
 simp only[List.count_cons,List.count_append]at this⊢
 omega
theorem aX.take{M:Mem}{w:World}{vs:List Value}{ds:List DD}{B:List Nat}(h:aX M w vs ds B):∀{q e z:Nat} {rows:List (List DD)},ds[q]?=some (.sl e z rows)->
 ∃v B1 B2,vs[q]?=some v/\aX M w [v] [.sl e z rows] B1/\aX M w vs (ds.set q .junk) B2/\B.Perm (B1++B2):=by
 induction h with
 |nil=>intro q e z rows h;simp at h
 |d h r ih=>
  intro q e z rows hq
  cases q with
  |zero=>simp at hq
  |succ q=>
   obtain⟨v,B1,B2,h1,h2,h3,h4⟩:=ih (by simpa using hq)
   exact⟨v,B1,B2,by simpa using h1,h2, .d h h3,h4⟩
 |junk r ih=>
  intro q e z rows hq
  cases q with
  |zero=>simp at hq
  |succ q=>
   obtain⟨v,B1,B2,h1,h2,h3,h4⟩:=ih (by simpa using hq)
   exact⟨v,B1,B2,by simpa using h1,h2, .junk h3,h4⟩
 | @mt e0 sz0 vs ds B r ih=>
  intro q e z rows hq
  cases q with
  |zero=>
   simp at hq
   obtain⟨rfl,rfl,rfl⟩:=hq
   exact⟨_,[],B,by simp, .mt .nil, .junk r, .refl _⟩
  |succ q=>
   obtain⟨v,B1,B2,h1,h2,h3,h4⟩:=ih (by simpa using hq)
   exact⟨v,B1,B2,by simpa using h1,h2, .mt h3,h4⟩
 | @sl g n cap e0 sz0 rows0 xs vs ds B0 B hn ho hz h r ih1 ih=>
  intro q e z rows hq
  cases q with
  |zero=>
   simp at hq
   obtain⟨rfl,rfl,rfl⟩:=hq
   exact⟨_,_,B,by simp, .sl hn ho hz h .nil, .junk r,by simp⟩
  |succ q=>
   obtain⟨v,B1,B2,h1,h2,h3,h4⟩:=ih (by simpa using hq)
   exact⟨v,B1,_,by simpa using h1,h2, .sl hn ho hz h h3,Ex h4⟩
theorem aX.give{M:Mem}{w:World}{vs:List Value}{ds:List DD}{B:List Nat}(h:aX M w vs ds B):∀{q e z:Nat} {v:Value} {rows:List (List DD)} {B1:List Nat},ds[q]?=some .junk->vs[q]?=some v->aX M w [v] [.sl e z rows] B1->
 ∃B2,aX M w vs (ds.set q (.sl e z rows)) B2/\B2.Perm (B1++B):=by
 induction h with
 |nil=>intro q e z v rows B1 h;simp at h
 |d h r ih=>
  intro q e z v rows B1 hq hv h1
  cases q with
  |zero=>simp at hq
  |succ q=>
   obtain⟨B2,h2,h3⟩:=ih (by simpa using hq) (by simpa using hv) h1
   exact⟨B2, .d h h2,h3⟩
 | @junk v0 vs ds B r ih=>
  intro q e z v rows B1 hq hv h1
  cases q with
  |zero=>
   simp at hv;subst hv
   have:=h1.app r
   exact⟨_,by simpa using this, .refl _⟩
  |succ q=>
   obtain⟨B2,h2,h3⟩:=ih (by simpa using hq) (by simpa using hv) h1
   exact⟨B2, .junk h2,h3⟩
 |mt r ih=>
  intro q e z v rows B1 hq hv h1
  cases q with
  |zero=>simp at hq
  |succ q=>
   obtain⟨B2,h2,h3⟩:=ih (by simpa using hq) (by simpa using hv) h1
   exact⟨B2, .mt h2,h3⟩
 |sl hn ho hz h r _ ih=>
  intro q e z v rows B1 hq hv h1
  cases q with
  |zero=>simp at hq
  |succ q=>
   obtain⟨B2,h2,h3⟩:=ih (by simpa using hq) (by simpa using hv) h1
   refine⟨_, .sl hn ho hz h h2,?_⟩
   rw[Tv]at h3⊢
   intro a
   have:=h3 a
   simp only[List.count_cons,List.count_append]at this⊢
   omega
theorem bD.dview{E:Env}{M:Mem}{w:World}{m e sz:Nat}{rows:List (List DD)}(h:bD E M w m (.dvec e sz rows)):
 (E m= .slice none 0 0/\rows=[]/\∀b,¬(Own.dvec e sz rows).foot w (E m) b)\/∃g cap xs B,E m= .slice (some ⟨g,0,none⟩) rows.length cap/\w.ownsRow 0 e sz (.slice (some ⟨g,0,none⟩) rows.length cap) rows.length xs/\
   (∀r∈rows,r.length=sz)/\aX M w xs rows.flatten B/\(g::B).Nodup/\(∀b∈g::B,∀o,M b o=none)/\∀b,(Own.dvec e sz rows).foot w (E m) b↔b∈g::B:=by
 obtain⟨B,h1,h2,h3⟩:=h
 have hf:∀b,(Own.dvec e sz rows).foot w (E m) b↔b∈B:=λb=>⟨λ⟨M',B',k1,k2⟩=>by rw[h1.det k1];exact k2,λhb=>⟨M,B,h1,hb⟩⟩
 generalize hq:E m=v at *
 cases h1 with
 |mt r=>cases r;exact .inl ⟨rfl,rfl,λb hb=>by have:=(hf b).1 hb;cases this⟩
 | @sl g n cap e0 sz0 rows0 xs vs ds B0 B hn ho hz h r=>
  cases r
  subst hn
  rw[RO]at h2 h3 hf
  exact .inr ⟨g,cap,xs,B0,rfl,ho,hz,h,h2,h3,hf⟩
theorem bD.dmk{E:Env}{M:Mem}{w:World}{m e sz g cap:Nat}{xs:List Value}{rows:List (List DD)}{B:List Nat}(hE:E m= .slice (some ⟨g,0,none⟩) rows.length cap)(ho:w.ownsRow 0 e sz (.slice (some ⟨g,0,none⟩) rows.length cap) rows.length xs)
 (hz:∀r∈rows,r.length=sz)(h:aX M w xs rows.flatten B)(hn:(g::B).Nodup)(hM:∀b∈g::B,∀o,M b o=none):
 bD E M w m (.dvec e sz rows)/\∀b,(Own.dvec e sz rows).foot w (E m) b↔b∈g::B:=by
 have h1:aX M w [E m] [.sl e sz rows] (g::(B++[])):=by rw[hE];exact .sl rfl ho hz h .nil
 rw[RO]at h1
 exact⟨⟨_,h1,hn,hM⟩,λb=>⟨λ⟨M',B',k1,k2⟩=>by rw[h1.det k1];exact k2,λhb=>⟨M,_,h1,hb⟩⟩⟩
theorem bD.dmt{E:Env}{M:Mem}{w:World}{m e sz:Nat}(hE:E m= .slice none 0 0):bD E M w m (.dvec e sz [])/\∀b,¬(Own.dvec e sz []).foot w (E m) b:=by
 have h1:aX M w [E m] [.sl e sz []] []:=by rw[hE];exact .mt .nil
 exact⟨⟨_,h1, .nil,λb hb=>by cases hb⟩,λb ⟨M',B',k1,k2⟩=>by rw[<-h1.det k1]at k2;cases k2⟩
section
variable {C:Ctx} {E:Env} {M:Mem} {S:aA} {a:Act} {w:World}
theorem Sim.regroup(h:Sim C E M S a w){E':Env}{S':aA}(ht:∀t x,gt S'.tmps t=some x->∃y,gt S.tmps t=some y/\∀v,bF E M v y->bF E' M v x)
 (ho:∀n o,S'.own? n=some o->bD E' M w n o)(ha:∀n m o o' b,n≠m->S'.own? n=some o->S'.own? m=some o'->o.foot w (E' n) b->¬o'.foot w (E' m) b)
 (hh:∀n o b,S'.own? n=some o->o.foot w (E' n) b->∃n0 o0,S.own? n0=some o0/\o0.foot w (E n0) b)(he:∀n,given<=n->E' n=E n):Sim C E' M S' a w:=
 { size:=h.size,defers:=h.defers,fixed:=h.fixed,tmps:=λt x hx=>by
    obtain⟨y,hy,hv⟩:=ht t x hx
    obtain⟨v,h1,h2⟩:=h.tmps t y hy
    exact⟨v,h1,hv v h2⟩
   mem:=h.mem,own:=ho,apart:=ha,home:=λn o b hn hb=>by
    obtain⟨n0,o0,h1,h2⟩:=hh n o b hn hb
    exact h.home n0 o0 b h1 h2
   m0:=h.m0,mnew:=h.mnew,frame:=h.frame,grows:=h.grows,os:=h.os,tape:=h.tape,output:=h.output,env:=λn hn=>by rw[he n hn];exact h.env n hn}
def NS(w:World)(v:Value)(k:Nat)(x:Value):Prop:=∀g l c,v= .slice (some ⟨g,0,none⟩) l c->w.cell? ⟨g,k,none⟩=some x
theorem Sim.give1(h:Sim C E M S a w){m n i j e sz e' z:Nat}{rows rows':List (List DD)}{r:List DD}(hm:S.own? m=some (.dvec e sz rows))(hn:S.own? n=some (.dvec e' z rows'))(hne:n≠m)(hr:rows[i]?=some r)(hj:r[j]?=some .junk)
 (hv:NS w (E m) (i *sz+j) (E n)):Sim C E M {S with own:=(n,none)::(m,some (.dvec e sz (rows.set i (r.set j (.sl e' z rows')))))::S.own} a w:=by
 rcases(h.own m _ hm).dview with⟨_,rfl,_⟩|⟨g,cap,xs,B,hE,ho,hz,hD,hnd,hM,hft⟩
 ·simp at hr
 have hrl:=hz r (Qn hr)
 have hjl:j<sz:=by have:=(Qf.1 hj).1;omega
 have hil:i<rows.length:=(Qf.1 hr).1
 have hkl:i *sz+j<rows.length *sz:=by
  have:(i+1) *sz<=rows.length *sz:=Qw _ hil
  rw[QM]at this;omega
 have hxk:xs[i *sz+j]?=some (E n):=by rw[<-ho.cellAt _ hkl];exact hv g _ _ hE
 obtain⟨B1,n1,n2,n3⟩:=h.own n _ hn
 have ftn:∀b,(Own.dvec e' z rows').foot w (E n) b↔b∈B1:=λb=>⟨λ⟨M',B',k1,k2⟩=>by rw[n1.det k1];exact k2,λhb=>⟨M,B1,n1,hb⟩⟩
 obtain⟨B2,h3,h4⟩:=hD.give (q:=i *sz+j) (by rw[iD hz hr hjl];exact hj) hxk n1
 have hset:(rows.set i (r.set j (.sl e' z rows'))).flatten=rows.flatten.set (i *sz+j) (.sl e' z rows'):=jy hz hr hjl
 have hlen:(rows.set i (r.set j (DD.sl e' z rows'))).length=rows.length:=Q6
 have hmem:∀b,b∈g::B2↔b∈B1\/b∈g::B:=λb=>by
  rw[Qu,h4.mem_iff,Q0,Qu]
  constructor
  ·rintro(q|q|q)
   ·exact .inr (.inl q)
   ·exact .inl q
   ·exact .inr (.inr q)
  ·rintro(q|q|q)
   ·exact .inr (.inl q)
   ·exact .inl q
   ·exact .inr (.inr q)
 have hdis:∀b,b∈B1->¬b∈g::B:=λb hb hb2=>h.apart n m _ _ b hne hn hm ((ftn b).2 hb) ((hft b).2 hb2)
 have hnd':(g::B2).Nodup:=by
  rw[(h4.cons g).nodup_iff,R3]
  rw[R3]at hnd
  refine⟨λq=> ?_,Sz.2 ⟨n2,hnd.2,λx hx y hy e=>hdis x hx (e▸Qm _ hy)⟩⟩
  rcases Q0.1 q with q|q
  ·exact hdis g q Qo
  ·exact hnd.1 q
 obtain⟨okm,ftm⟩:=bD.dmk (E:=E) (M:=M) (w:=w) (m:=m) (e:=e) (sz:=sz) (g:=g) (cap:=cap) (xs:=xs) (rows:=rows.set i (r.set j (.sl e' z rows'))) (B:=B2) (by rw[hlen];exact hE) (by rw[hlen];exact ho)
  (λr' hr'=>by
    rcases S4 hr' with q|q
    ·exact hz r' q
    ·subst q;rw[Q6];exact hrl) (by rw[hset];exact h3) hnd' (λb hb o=>by
    rcases(hmem b).1 hb with q|q
    ·exact n3 b q o
    ·exact hM b q o)
 have hkind:∀k o,({S with own:=(n,none)::(m,some (.dvec e sz (rows.set i (r.set j (.sl e' z rows')))))::S.own}:aA).own? k=some o->
  k=m/\o= .dvec e sz (rows.set i (r.set j (.sl e' z rows')))\/k≠n/\k≠m/\S.own? k=some o:=by
  intro k o hk
  simp only[aA.own?,aE]at hk
  by_cases h1:n=k
  ·rw[TP h1]at hk;simp at hk
  ·rw[TN h1]at hk
   by_cases h2:m=k
   ·rw[TP h2]at hk;simp at hk;exact .inl ⟨h2.symm,hk.symm⟩
   ·rw[TN h2]at hk;exact .inr ⟨Rf h1,Rf h2,hk⟩
 have side:∀k o b,k≠n->k≠m->S.own? k=some o->o.foot w (E k) b->¬b∈g::B2:=by
  intro k o b k1 k2 k3 hb q
  rcases(hmem b).1 q with q|q
  ·exact h.apart k n o _ b k1 k3 hn hb ((ftn b).2 q)
  ·exact h.apart k m o _ b k2 k3 hm hb ((hft b).2 q)
 refine h.regroup (λt x hx=>⟨x,hx,λu hu=>hu⟩) (λk o hk=> ?_) (λk k' o o' b hkk hk hk' hb hb'=> ?_) (λk o b hk hb=> ?_) (λk hk=>rfl)
 ·rcases hkind k o hk with⟨rfl,rfl⟩|⟨k1,k2,k3⟩
  ·exact okm
  ·exact h.own k o k3
 ·rcases hkind k o hk with⟨rfl,rfl⟩|⟨k1,k2,k3⟩
  ·have hb:=(ftm b).1 hb
   rcases hkind k' o' hk' with⟨rfl,rfl⟩|⟨q1,q2,q3⟩
   ·exact hkk rfl
   ·exact side k' o' b q1 q2 q3 hb' hb
  ·rcases hkind k' o' hk' with⟨rfl,rfl⟩|⟨q1,q2,q3⟩
   ·exact side k o b k1 k2 k3 hb ((ftm b).1 hb')
   ·exact h.apart k k' o o' b hkk k3 q3 hb hb'
 ·rcases hkind k o hk with⟨rfl,rfl⟩|⟨k1,k2,k3⟩
  ·rcases(hmem b).1 ((ftm b).1 hb)with q|q
   ·exact⟨n,_,hn,(ftn b).2 q⟩
   ·exact⟨_,_,hm,(hft b).2 q⟩
  ·exact⟨k,o,k3,hb⟩
end
end Go.Awp
end
section
namespace Go.Awp
variable [Inhabited GMem]
theorem aX.ofD{M:Mem}{w:World}:∀{xs:List Value} {ds:List D},xs.length=ds.length->(∀(i:Nat) (c:Value) (x:D),xs[i]?=some c->ds[i]?=some x->cS M c x)->aX M w xs (ds.map .d) []
 |[],[],_,_=> .nil
 |[],_::_,h,_=>by simp at h
 |_::_,[],h,_=>by simp at h
 |v::vs,y::ds,h,hr=> .d (hr 0 v y rfl rfl) (aX.ofD (by simpa using h) λi c x h1 h2=>hr (i+1) c x (by simpa using h1) (by simpa using h2))
theorem aX.getD{M:Mem}{w:World}{vs:List Value}{ds:List DD}{B:List Nat}(h:aX M w vs ds B):∀{q:Nat} {v:Value} {x:D},vs[q]?=some v->ds[q]?=some (.d x)->cS M v x:=by
 induction h with
 |nil=>intro q v x h;simp at h
 |d h r ih=>
  intro q v x hv hd
  cases q with
  |zero=>simp at hv hd;subst hv;subst hd;exact h
  |succ q=>exact ih (by simpa using hv) (by simpa using hd)
 |junk r ih=>
  intro q v x hv hd
  cases q with
  |zero=>simp at hd
  |succ q=>exact ih (by simpa using hv) (by simpa using hd)
 |mt r ih=>
  intro q v x hv hd
  cases q with
  |zero=>simp at hd
  |succ q=>exact ih (by simpa using hv) (by simpa using hd)
 |sl _ _ _ _ _ _ ih=>
  intro q v x hv hd
  cases q with
  |zero=>simp at hd
  |succ q=>exact ih (by simpa using hv) (by simpa using hd)
theorem aX.nilB{M:Mem}{w:World}{vs:List Value}{ds:List DD}{B:List Nat}(h:aX M w vs ds B):∀{l:List D},ds=l.map .d->B=[]:=by
 induction h with
 |nil=>intro l _;rfl
 |d _ _ ih=>intro l hl;cases l with
  |nil=>cases hl
  |cons a r=>exact ih (by simpa using (SR hl).2)
 |junk _ _=>intro l hl;cases l with
  |nil=>cases hl
  |cons a r=>cases (SR hl).1
 |mt _ _=>intro l hl;cases l with
  |nil=>cases hl
  |cons a r=>cases (SR hl).1
 |sl _ _ _ _ _ _ _=>intro l hl;cases l with
  |nil=>cases hl
  |cons a r=>cases (SR hl).1
theorem ga(rows:List (List D)):(rows.map λr=>r.map DD.d).flatten=rows.flatten.map DD.d:=by
 induction rows with
 |nil=>rfl
 |cons a r ih=>rw[Qp,Q4,Q4,QU,ih]
theorem v2d{E:Env}{M:Mem}{w:World}{n e sz:Nat}{rows:List (List D)}(h:bD E M w n (.vec e sz rows)):
 bD E M w n (.dvec e sz (rows.map λr=>r.map .d))/\∀b,(Own.dvec e sz (rows.map λr=>r.map .d)).foot w (E n) b↔(Own.vec e sz rows).foot w (E n) b:=by
 obtain⟨xs,h1,h2,h3,h4⟩:=h
 have hz:∀r∈rows.map λr=>r.map DD.d,r.length=sz:=λr hr=>by
  obtain⟨r0,hr0,rfl⟩:=QD.1 hr
  rw[Qg];exact h2 r0 hr0
 rcases h1.2 with⟨hn,hl⟩|⟨g,cap,cur,hE,rest⟩
 ·have hl':rows=[]:=QE hl
  subst hl'
  obtain⟨k1,k2⟩:=bD.dmt (E:=E) (M:=M) (w:=w) (m:=n) (e:=e) (sz:=sz) hn
  refine⟨k1,λb=>⟨λhb=>(k2 b hb).elim,λhb=> ?_⟩⟩
  rw[hn]at hb;simp[Own.foot,aH]at hb
 ·have hD:aX M w xs (rows.map λr=>r.map DD.d).flatten []:=by
   rw[ga]
   refine .ofD (by rw[d8 h2];exact h1.1) λq c x hc hx=> ?_
   have hq:q<rows.length *sz:=by rw[<-d8 h2];exact(Qf.1 hx).1
   have hpos:0<sz:=by
    rcases Nat.eq_zero_or_pos sz with h|h
    ·rw[h]at hq;simp at hq
    ·exact h
   have hi:q/sz<rows.length:=R2 (by rw[RG];exact hq)
   have hdm:q/sz *sz+q%sz=q:=by rw[RG];exact R9 q sz
   have hx':(rows[q/sz])[q%sz]?=some x:=by
    rw[<-iD h2 (Qi hi) (Sq _ hpos),hdm];exact hx
   exact h3 (q/sz) (q%sz) _ c x (Qi hi) hx' (by rw[hdm];exact hc)
  obtain⟨k1,k2⟩:=bD.dmk (E:=E) (M:=M) (w:=w) (m:=n) (e:=e) (sz:=sz) (g:=g) (cap:=cap) (xs:=xs) (rows:=rows.map λr=>r.map DD.d) (B:=[]) (by rw[Qg];exact hE) (by rw[Qg,<-hE];exact h1) hz hD (by simp)
   (λb hb=>by
     rcases Qu.1 hb with q|q
     ·subst q;exact h4 b (by rw[hE];rfl)
     ·cases q)
  refine⟨k1,λb=>(k2 b).trans ?_⟩
  rw[hE];simp[Own.foot,aH,eq_comm]
theorem d2v{E:Env}{M:Mem}{w:World}{n e sz:Nat}{rows:List (List D)}(h:bD E M w n (.dvec e sz (rows.map λr=>r.map .d))):
 bD E M w n (.vec e sz rows)/\∀b,(Own.dvec e sz (rows.map λr=>r.map .d)).foot w (E n) b↔(Own.vec e sz rows).foot w (E n) b:=by
 rcases h.dview with⟨hE,hr,hf⟩|⟨g,cap,xs,B,hE,ho,hz,hD,hnd,hM,hft⟩
 ·have hl':rows=[]:=by simpa using hr
  subst hl'
  refine⟨⟨[],by rw[hE];exact World.ownsRow_nil w 0 e sz,by simp,by simp,λb hb=>by rw[hE]at hb;simp[aH]at hb⟩,λb=>⟨λq=>(hf b q).elim,λq=>by rw[hE]at q;simp[Own.foot,aH]at q⟩⟩
 ·rw[Qg]at hE ho
  have hz':∀r∈rows,r.length=sz:=λr hr=>by
   have:=hz _ (QD.2 ⟨r,hr,rfl⟩)
   rwa [Qg]at this
  rw[ga]at hD
  have hB:=hD.nilB rfl
  subst hB
  refine⟨⟨xs,by rw[hE];exact ho,hz',λi j r c x hr hx hc=> ?_,λb hb=>by rw[hE]at hb;simp[aH]at hb;subst hb;exact hM _ Qo⟩,λb=>(hft b).trans ?_⟩
  ·have hj:j<sz:=by have:=hz' r (Qn hr);have:=(Qf.1 hx).1;omega
   exact hD.getD hc (by rw[Qh,iD hz' hr hj,hx];rfl)
  ·rw[hE];simp[Own.foot,aH,eq_comm]
mutual
def DD.toD:DD->Option D
 | .d x=>some x
 | .junk=>none
 | .sl _ z rows=>match DD.toR rows with
  |some r=>some (.sl z r)
  |none=>none
def DD.toR:List (List DD)->Option (List (List D))
 |[]=>some []
 |r::s=>match DD.toL r,DD.toR s with
  |some x,some y=>some (x::y)
  |_,_=>none
def DD.toL:List DD->Option (List D)
 |[]=>some []
 |x::r=>match DD.toD x,DD.toL r with
  |some y,some z=>some (y::z)
  |_,_=>none
end
theorem DD.toL_app:∀{l l':List DD} {x y:List D},DD.toL l=some x->DD.toL l'=some y->DD.toL (l++l')=some (x++y)
 |[],l',x,y,h,h'=>by simp[DD.toL]at h;subst h;simpa using h'
 |a::r,l',x,y,h,h'=>by
  simp only[DD.toL]at h
  split at h
  ·rename_i u v hu hv
   cases h
   simp[DD.toL,hu,DD.toL_app hv h']
  ·cases h
theorem DD.toR_flat:∀{rows:List (List DD)} {ds:List (List D)},DD.toR rows=some ds->DD.toL rows.flatten=some ds.flatten
 |[],ds,h=>by simp[DD.toR]at h;subst h;simp[DD.toL]
 |r::s,ds,h=>by
  simp only[DD.toR]at h
  split at h
  ·rename_i x y hx hy
   cases h
   rw[Q4,Q4]
   exact DD.toL_app hx (DD.toR_flat hy)
  ·cases h
theorem DD.toL_len:∀{l:List DD} {x:List D},DD.toL l=some x->x.length=l.length
 |[],x,h=>by simp[DD.toL]at h;subst h;rfl
 |a::r,x,h=>by
  simp only[DD.toL]at h
  split at h
  ·rename_i u v hu hv
   cases h
   simp[DD.toL_len hv]
  ·cases h
theorem DD.toR_len:∀{rows:List (List DD)} {ds:List (List D)},DD.toR rows=some ds->ds.length=rows.length/\∀sz,(∀r∈rows,r.length=sz)->∀r∈ds,r.length=sz
 |[],ds,h=>by simp[DD.toR]at h;subst h;simp
 |r::s,ds,h=>by
  simp only[DD.toR]at h
  split at h
  ·rename_i x y hx hy
   cases h
   obtain⟨h1,h2⟩:=DD.toR_len hy
   refine⟨by simp[h1],λsz hz r' hr'=> ?_⟩
   rcases Qu.1 hr' with q|q
   ·subst q;rw[DD.toL_len hx];exact hz r Qo
   ·exact h2 sz (λr hr=>hz r (Qm _ hr)) r' q
  ·cases h
theorem aX.frozen{M M':Mem}{w:World}(hM:M.le M'){vs:List Value}{ds:List DD}{B:List Nat}(h:aX M w vs ds B):(∀b∈B,∀o v,w.cell? ⟨b,o,none⟩=some v->M' b o=some v)->∀{xs:List D},DD.toL ds=some xs->
 ∀(i:Nat) (c:Value) (x:D),vs[i]?=some c->xs[i]?=some x->cS M' c x:=by
 induction h with
 |nil=>intro _ xs _ i c x h;simp at h
 |d h r ih=>
  intro hB xs hx i c x hc hi
  simp only[DD.toL,DD.toD]at hx
  split at hx
  ·rename_i y z hy hz
   cases hy;cases hx
   cases i with
   |zero=>simp at hc hi;subst hc;subst hi;exact h.mono hM
   |succ i=>exact ih hB hz i c x (by simpa using hc) (by simpa using hi)
  ·cases hx
 |junk r ih=>intro hB xs hx i c x hc hi;simp[DD.toL,DD.toD]at hx
 |mt r ih=>
  intro hB xs hx i c x hc hi
  simp only[DD.toL,DD.toD,DD.toR]at hx
  split at hx
  ·rename_i y z hy hz
   cases hy;cases hx
   cases i with
   |zero=>simp at hc hi;subst hc;subst hi;exact .slnil _
   |succ i=>exact ih hB hz i c x (by simpa using hc) (by simpa using hi)
  ·cases hx
 | @sl g n cap e sz rows xs0 vs ds B0 B hn ho hz h r ih1 ih=>
  intro hB xs hx i c x hc hi
  simp only[DD.toL,DD.toD]at hx
  split at hx
  ·rename_i y z hy hz'
   cases hx
   split at hy
   ·rename_i rs hrs
    cases hy
    cases i with
    |zero=>
     simp at hc hi;subst hc;subst hi
     obtain⟨l1,l2⟩:=DD.toR_len hrs
     have hin:=ih1 (λb hb=>hB b (Qm _ (Q0.2 (.inl hb)))) (DD.toR_flat hrs)
     have l2':=l2 sz hz
     have hxl:xs0.length=n *sz:=ho.1
     refine .sl g 0 n cap sz rs (λk=>xs0.getD k undef) (by rw[l1];exact hn) ?_ l2' (λk hk=> ?_) λi j r x hr hx=> ?_
     ·rcases ho.2 with⟨q,_⟩|⟨_,_,_,q,_,_,q2,_⟩
      ·cases q
      ·cases q;exact q2
     ·refine hB g Qo _ _ ?_
      rw[Qy,ho.cellAt _ hk,Qi (by omega)]
      simp[show k<xs0.length by omega]
     ·have hj:j<sz:=by have:=l2' r (Qn hr);have:=(Qf.1 hx).1;omega
      have hi:i<rs.length:=(Qf.1 hr).1
      have hk:i *sz+j<xs0.length:=by
       have:(i+1) *sz<=rs.length *sz:=Qw _ hi
       rw[QM,l1,<-hn]at this;omega
      have:xs0.getD (i *sz+j) undef=xs0[i *sz+j]:=by simp[hk]
      rw[this]
      exact hin (i *sz+j) _ x (Qi hk) (by rw[iD l2' hr hj];exact hx)
    |succ i=>exact ih (λb hb=>hB b (Qm _ (Q0.2 (.inr hb)))) hz' i c x (by simpa using hc) (by simpa using hi)
   ·cases hy
  ·cases hx
section
variable {C:Ctx} {E:Env} {M:Mem} {S:aA} {a:Act} {w:World}
theorem Sim.dfrz(h:Sim C E M S a w){n e sz:Nat}{rows:List (List DD)}{ds:List (List D)}(hn:S.own? n=some (.dvec e sz rows))(hd:DD.toR rows=some ds):
 ∃M',Sim C E M' {S with own:=(n,some (.vec e sz ds))::S.own} a w:=by
 obtain⟨l1,l2⟩:=DD.toR_len hd
 have hkind:∀k o,({S with own:=(n,some (.vec e sz ds))::S.own}:aA).own? k=some o->k=n/\o= .vec e sz ds\/k≠n/\S.own? k=some o:=by
  intro k o hk
  simp only[aA.own?,aE]at hk
  by_cases h1:n=k
  ·rw[TP h1]at hk;simp at hk;exact .inl ⟨h1.symm,hk.symm⟩
  ·rw[TN h1]at hk;exact .inr ⟨Rf h1,hk⟩
 rcases(h.own n _ hn).dview with⟨hE,rfl,_⟩|⟨g,cap,xs,B,hE,ho,hz,hD,hnd,hM,hft⟩
 ·simp[DD.toR]at hd;subst hd
  have hv:bD E M w n (.vec e sz []):=⟨[],by rw[hE];exact World.ownsRow_nil w 0 e sz,by simp,by simp,λb hb=>by rw[hE]at hb;simp[aH]at hb⟩
  have hvf:∀b,¬(Own.vec e sz []).foot w (E n) b:=λb hb=>by rw[hE]at hb;simp[Own.foot,aH]at hb
  refine⟨M,h.regroup (λt x hx=>⟨x,hx,λv hv=>hv⟩) (λk o hk=> ?_) (λk k' o o' b hkk hk hk' hb hb'=> ?_) (λk o b hk hb=> ?_) λk hk=>rfl⟩
  ·rcases hkind k o hk with⟨rfl,rfl⟩|⟨q1,q2⟩
   ·exact hv
   ·exact h.own k o q2
  ·rcases hkind k o hk with⟨rfl,rfl⟩|⟨q1,q2⟩
   ·exact hvf b hb
   ·rcases hkind k' o' hk' with⟨rfl,rfl⟩|⟨p1,p2⟩
    ·exact hvf b hb'
    ·exact h.apart k k' o o' b hkk q2 p2 hb hb'
  ·rcases hkind k o hk with⟨rfl,rfl⟩|⟨q1,q2⟩
   ·exact(hvf b hb).elim
   ·exact⟨k,o,q2,hb⟩
 ·let M':Mem:=λb o=>match M b o with
   |some v=>some v
   |none=>if b∈B then w.cell? ⟨b,o,none⟩else none
  have hle:M.le M':=λb o v hv=>by simp[M',hv]
  have hin:∀b∈B,∀o v,w.cell? ⟨b,o,none⟩=some v->M' b o=some v:=λb hb o v hv=>by
   simp only[M',hM b (Qm _ hb) o,TP hb,hv]
  have hfrz:=hD.frozen hle hin (DD.toR_flat hd)
  have hMg:∀o,M' g o=none:=λo=>by
   simp only[M',hM g Qo o]
   rw[TN (R3.1 hnd).1]
  have hcase:∀b o v,M' b o=some v->M b o=some v\/b∈B/\w.cell? ⟨b,o,none⟩=some v:=by
   intro b o v hv
   cases hm:M b o with
   |some u=>simp only[M',hm]at hv;exact .inl hv
   |none=>
    simp only[M',hm]at hv
    split at hv
    ·rename_i hb;exact .inr ⟨hb,hv⟩
    ·cases hv
  have hBf:∀b,b∈B->(Own.dvec e sz rows).foot w (E n) b:=λb hb=>(hft b).2 (Qm _ hb)
  have hnone:∀k o,k≠n->S.own? k=some o->∀b,o.foot w (E k) b->∀q,M' b q=none:=by
   intro k o hk ho' b hb q
   cases hm:M' b q with
   |none=>rfl
   |some v=>
    rcases hcase b q v hm with p|⟨p,_⟩
    ·rw[((h.own k o ho').block hb).2 q]at p;cases p
    ·exact(h.apart k n o _ b hk ho' hn hb (hBf b p)).elim
  have hvec:bD E M' w n (.vec e sz ds):=by
   refine⟨xs,by rw[hE,l1];exact ho,l2 sz hz,λi j r c x hr hx hc=> ?_,λb hb q=> ?_⟩
   ·have hj:j<sz:=by have:=l2 sz hz r (Qn hr);have:=(Qf.1 hx).1;omega
    exact hfrz (i *sz+j) c x hc (by rw[iD (l2 sz hz) hr hj];exact hx)
   ·rw[hE]at hb;simp[aH]at hb;subst hb;exact hMg q
  have hvf:∀b,(Own.vec e sz ds).foot w (E n) b->(Own.dvec e sz rows).foot w (E n) b:=λb hb=>by
   rw[hE]at hb;simp[Own.foot,aH]at hb;subst hb;exact(hft _).2 Qo
  refine⟨M',{size:=h.size,defers:=h.defers,fixed:=h.fixed,tmps:=λt x hx=> ?_,mem:=λb o v hv=> ?_,own:=λk o hk=> ?_,apart:=λk k' o o' b hkk hk hk' hb hb'=> ?_,home:=λk o b hk hb=> ?_,m0:=Mem.le_trans h.m0 hle,mnew:=λb o v hv=> ?_,frame:=h.frame,grows:=h.grows,os:=h.os,tape:=h.tape,output:=h.output,env:=h.env}⟩
  ·obtain⟨v,h1,h2⟩:=h.tmps t x hx
   exact⟨v,h1,h2.le hle⟩
  ·rcases hcase b o v hv with q|⟨_,q⟩
   ·exact h.mem b o v q
   ·exact q
  ·rcases hkind k o hk with⟨rfl,rfl⟩|⟨q1,q2⟩
   ·exact hvec
   ·exact(h.own k o q2).keep rfl (λ_ _=>rfl) (λ_ _=>rfl) hle (hnone k o q1 q2)
  ·rcases hkind k o hk with⟨rfl,rfl⟩|⟨q1,q2⟩
   ·rcases hkind k' o' hk' with⟨rfl,rfl⟩|⟨p1,p2⟩
    ·exact hkk rfl
    ·exact h.apart _ k' _ o' b hkk hn p2 (hvf b hb) hb'
   ·rcases hkind k' o' hk' with⟨rfl,rfl⟩|⟨p1,p2⟩
    ·exact h.apart k _ o _ b hkk q2 hn hb (hvf b hb')
    ·exact h.apart k k' o o' b hkk q2 p2 hb hb'
  ·rcases hkind k o hk with⟨rfl,rfl⟩|⟨q1,q2⟩
   ·exact h.home _ _ b hn (hvf b hb)
   ·exact h.home k o b q2 hb
  ·rcases hcase b o v hv with q|⟨q,_⟩
   ·exact h.mnew b o v q
   ·exact .inr (h.home n _ b hn (hBf b q))
theorem Sim.own_many(h:Sim C E M S a w){E':Env}{d:Nat}{o':Own}{w':World}(ns:List Nat){row:Option Nat}(hg:w.grownBy w' row)
 (hrow:∀b,row=some b->∃n∈ns,∃o,S.own? n=some o/\o.foot w (E n) b)(hE:∀m,m≠d->E' m=E m)(hd:d∈ns/\E' d=E d\/S.fresh d=true/\d<given)
 (hb:∀b,o'.foot w' (E' d) b->(∃n∈ns,∃o,S.own? n=some o/\o.foot w (E n) b)\/w.heap.size<=b)(ok:bD E' M w' d o'):
 Sim C E' M {S with own:=(d,some o')::(ns.map λn=>(n,none))++S.own} a w':=by
 have hEt:∀t x,gt S.tmps t=some x->∀k,H.has k x=true->E' k=E k:=by
  intro t x hx k hk
  by_cases hkd:k=d
  ·subst hkd
   rcases hd with⟨_,he⟩|⟨hf,_⟩
   ·exact he
   ·rw[aA.fresh_tmp hf hx]at hk;cases hk
  ·exact hE k hkd
 have hEo:∀m o,S.own? m=some o->∀k,Own.has k o=true->E' k=E k:=by
  intro m o ho k hk
  by_cases hkd:k=d
  ·subst hkd
   rcases hd with⟨_,he⟩|⟨hf,_⟩
   ·exact he
   ·rw[aA.fresh_cell hf ho]at hk;cases hk
  ·exact hE k hkd
 have hgn:∀(l:List Nat) (r:List (Nat×Option Own)) (m:Nat) (o:Own),(gt ((l.map λn=>(n,none))++r) m).getD none=some o->m∉l/\(gt r m).getD none=some o:=by
  intro l
  induction l with
  |nil=>intro r m o hh;exact⟨by simp,by simpa using hh⟩
  |cons k l ih=>
   intro r m o hh
   rw[Qp,QR,aE]at hh
   by_cases hk:k=m
   ·rw[TP hk]at hh;simp at hh
   ·rw[TN hk]at hh
    obtain⟨h1,h2⟩:=ih r m o hh
    exact⟨λq=>by
     rcases Qu.1 q with q|q
     ·exact hk q.symm
     ·exact h1 q,h2⟩
 have hold:∀m o,({S with own:=(d,some o')::(ns.map λn=>(n,none))++S.own}:aA).own? m=some o->m=d/\o=o'\/m≠d/\m∉ns/\S.own? m=some o:=by
  intro m o ho
  simp only[aA.own?,QR,aE]at ho
  by_cases h1:d=m
  ·rw[TP h1]at ho;simp at ho;exact .inl ⟨h1.symm,ho.symm⟩
  ·rw[TN h1]at ho
   obtain⟨k1,k2⟩:=hgn ns S.own m o ho
   exact .inr ⟨Rf h1,k1,k2⟩
 have hrow':∀m o b,m∉ns->S.own? m=some o->o.foot w (E m) b->some b≠row:=λm o b hne hm hbm he=>by
  obtain⟨n,hn,on,ho,hf⟩:=hrow b he.symm
  exact h.apart m n o on b (λe=>hne (e▸hn)) hm ho hbm hf
 have hsame:∀m o,m∉ns->S.own? m=some o->∀b,o.foot w (E m) b->w'.heap[b]?=w.heap[b]?:=λm o hne hm b hbm=>hg.block b (h.block_lt hm hbm) (hrow' m o b hne hm hbm)
 have hfoot:∀m o,m∉ns->S.own? m=some o->∀b,o.foot w' (E m) b->o.foot w (E m) b:=λm o hne hm b hbm=>((h.own m o hm).foot_keep (hsame m o hne hm) b).1 hbm
 refine{size:=h.size,defers:=h.defers,fixed:=h.fixed,tmps:= ?_,mem:= ?_,own:= ?_,apart:= ?_,home:= ?_,m0:=h.m0,mnew:=h.mnew,frame:= ?_,grows:= ?_,os:= ?_,tape:= ?_,output:= ?_,env:= ?_}
 ·intro t x hx
  obtain⟨v,hv,hr⟩:=h.tmps t x hx
  exact⟨v,hv,hr.mono (Mem.le_refl M) (hEt t x hx)⟩
 ·intro b o v hv
  refine hg.cell (h.mem b o v hv) λhe=> ?_
  obtain⟨n,hn,on,ho,hf⟩:=hrow b he.symm
  rw[((h.own n on ho).block hf).2 o]at hv
  cases hv
 ·intro m o ho
  rcases hold m o ho with⟨rfl,rfl⟩|⟨h1,h2,h3⟩
  ·exact ok
  ·exact(h.own m o h3).keep (hE m h1) (hsame m o h2 h3) (hEo m o h3) (Mem.le_refl M) λb hbm=>((h.own m o h3).block hbm).2
 ·intro m m' o o2 b hne hm hm' hbm hbm'
  have one:∀k ok,k≠d->k∉ns->S.own? k=some ok->ok.foot w (E k) b->o'.foot w' (E' d) b->False:=by
   intro k ok k1 k2 k3 hbk hbd
   rcases hb b hbd with⟨n,hn,on,ho,hf⟩|q
   ·exact h.apart k n ok on b (λe=>k2 (e▸hn)) k3 ho hbk hf
   ·have:=h.block_lt k3 hbk;omega
  rcases hold m o hm with⟨rfl,rfl⟩|⟨h1,h2,h3⟩
  ·rcases hold m' o2 hm' with⟨rfl,rfl⟩|⟨k1,k2,k3⟩
   ·exact hne rfl
   ·rw[hE m' k1]at hbm'
    exact one m' o2 k1 k2 k3 (hfoot m' o2 k2 k3 b hbm') hbm
  ·rw[hE m h1]at hbm
   replace hbm:=hfoot m o h2 h3 b hbm
   rcases hold m' o2 hm' with⟨rfl,rfl⟩|⟨k1,k2,k3⟩
   ·exact one m o h1 h2 h3 hbm hbm'
   ·rw[hE m' k1]at hbm'
    exact h.apart m m' o o2 b hne h3 k3 hbm (hfoot m' o2 k2 k3 b hbm')
 ·intro m o b hm hbm
  rcases hold m o hm with⟨rfl,rfl⟩|⟨h1,h2,h3⟩
  ·rcases hb b hbm with⟨n,hn,on,ho,hf⟩|q
   ·exact h.home n on b ho hf
   ·exact .inr (RH h.grows q)
  ·rw[hE m h1]at hbm
   exact h.home m o b h3 (hfoot m o h2 h3 b hbm)
 ·intro k hk hke
  rw[hg.block k (RW hk h.grows) λhe=> ?_]
  ·exact h.frame k hk hke
  ·obtain⟨n,hn,on,ho,hf⟩:=hrow k he.symm
   rcases h.home n on k ho hf with q|q
   ·exact hke q
   ·omega
 ·exact RH h.grows hg.size
 ·exact hg.os.trans h.os
 ·exact hg.tape.trans h.tape
 ·exact hg.output.trans h.output
 ·intro m hm
  by_cases hmd:m=d
  ·subst hmd
   rcases hd with⟨_,he⟩|⟨_,hf⟩
   ·rw[he];exact h.env m hm
   ·omega
  ·rw[hE m hmd];exact h.env m hm
end
end Go.Awp
end
section
namespace Go.Awp
variable [Inhabited GMem]
theorem bD.dlen{E:Env}{M:Mem}{w:World}{n e sz:Nat}{rows:List (List DD)}(h:bD E M w n (.dvec e sz rows)):∃ad cap,E n= .slice ad rows.length cap:=by
 rcases h.dview with⟨hE,rfl,_⟩|⟨g,cap,xs,B,hE,_⟩
 ·exact⟨none,0,hE⟩
 ·exact⟨_,_,hE⟩
theorem bD.dvh{E:Env}{M:Mem}{w:World}{n e sz:Nat}{rows:List (List DD)}(h:bD E M w n (.dvec e sz rows)):bF E M (E n) (.vh n rows.length):=by
 obtain⟨ad,cap,hE⟩:=h.dlen
 rw[hE];exact .vh n _ _ _ ad hE (QF _)
section
variable {C:Ctx} {M:Mem} {a:Act} {w:World}
inductive wG (S:aA):H->DD->Option Nat->Prop
 |d (x:D):wG S (.d x) (.d x) none
 |nil (e z:Nat):wG S (.d (.v (.slice none 0 0))) (.sl e z []) none
 |dv (n e z:Nat) (rows:List (List DD)) (h:S.own? n=some (.dvec e z rows)):wG S (.vh n rows.length) (.sl e z rows) (some n)
 |v (n e z:Nat) (rows:List (List D)) (h:S.own? n=some (.vec e z rows)):wG S (.vh n rows.length) (.sl e z (rows.map λr=>r.map .d)) (some n)
def OO:H->DD->DD
 |_, .d x=> .d x
 |_,_=> .junk
theorem gr{E:Env}{M:Mem}{n len:Nat}{v:Value}(h:bF E M v (.vh n len)){ad:Option Addr}{cap:Nat}(hE:E n= .slice ad len cap):v=E n:=by
 cases h with
 |vh n len l c a h hl=>
  rw[hE]at h
  cases h
  exact hE.symm
end
end Go.Awp
end
section
namespace Go.Awp
variable [Inhabited GMem]
theorem aX.split{M:Mem}{w:World}:∀{ds1 ds2:List DD} {vs:List Value} {B:List Nat},aX M w vs (ds1++ds2) B->∃B1 B2,aX M w (vs.take ds1.length) ds1 B1/\aX M w (vs.drop ds1.length) ds2 B2/\B=B1++B2
 |[],ds2,vs,B,h=>⟨[],B,by simpa using aX.nil,by simpa using h,rfl⟩
 |x::ds1,ds2,vs,B,h=>by
  rw[QR]at h
  cases h with
  |d h r=>
   obtain⟨B1,B2,h1,h2,rfl⟩:=aX.split r
   exact⟨B1,B2, .d h h1,h2,rfl⟩
  |junk r=>
   obtain⟨B1,B2,h1,h2,rfl⟩:=aX.split r
   exact⟨B1,B2, .junk h1,h2,rfl⟩
  |mt r=>
   obtain⟨B1,B2,h1,h2,rfl⟩:=aX.split r
   exact⟨B1,B2, .mt h1,h2,rfl⟩
  |sl hn ho hz h r=>
   obtain⟨B1,B2,h1,h2,rfl⟩:=aX.split r
   exact⟨_::(_++B1),B2, .sl hn ho hz h h1,h2,by simp⟩
theorem aX.pre{E:Env}{M:Mem}{w:World}{S:aA}:∀{l:List (H×DD×Option Nat)} {vs:List Value},vs.length=l.length->(∀p∈l,wG S p.1 p.2.1 p.2.2)->(∀(k:Nat) v p,vs[k]?=some v->l[k]?=some p->bF E M v p.1)->
 aX M w vs (l.map λp=>OO p.1 p.2.1) []
 |[],[],_,_,_=> .nil
 |[],_::_,h,_,_=>by simp at h
 |_::_,[],h,_,_=>by simp at h
 |(x,c,on)::l,v::vs,hl,hg,hr=>by
  have ih:=aX.pre (w:=w) (l:=l) (vs:=vs) (by simpa using hl) (λp hp=>hg p (Qm _ hp)) λk u p h1 h2=>hr (k+1) u p (by simpa using h1) (by simpa using h2)
  have h0:=hr 0 v _ rfl rfl
  have g0:=hg _ Qo
  rw[Qp]
  cases g0 with
  |d x=>exact .d h0.toD ih
  |nil=>exact .junk ih
  |dv=>exact .junk ih
  |v=>exact .junk ih
def DD.one:DD->Bool
 | .d x=>x.one
 | .sl _ _ _=>true
 | .junk=>false
theorem aX.allOne{M:Mem}{w:World}{vs:List Value}{ds:List DD}{B:List Nat}(h:aX M w vs ds B)(h1:ds.all DD.one=true):∀u∈vs,u.oneCell'=true:=by
 induction h with
 |nil=>intro u hu;cases hu
 | @d v x vs ds B h _ ih=>
  simp only[Rb,Qk]at h1
  intro u hu
  rcases Qu.1 hu with rfl|hu
  ·exact(bF.d (E:=λ_=>undef) h).one (by simpa[H.one,DD.one]using h1.1)
  ·exact ih h1.2 u hu
 |junk _ _=>simp[DD.one]at h1
 |mt _ ih=>
  simp only[Rb,Qk]at h1
  intro u hu
  rcases Qu.1 hu with rfl|hu
  ·rfl
  ·exact ih h1.2 u hu
 |sl _ _ _ _ _ _ ih=>
  simp only[Rb,Qk]at h1
  intro u hu
  rcases Qu.1 hu with rfl|hu
  ·rfl
  ·exact ih h1.2 u hu
section
variable {C:Ctx} {E:Env} {M:Mem} {S:aA} {a:Act} {w:World} {nm:Nat->Nat} {o:Oper} {K:Act->World->Prop} {Q:Exit->Act->World->Prop} (hd:∀d,o.dst=some d->C.wr d)
include hd
end
end Go.Awp
end
section
namespace Go.Awp
variable [Inhabited GMem]
section
variable {C:Ctx} {E:Env} {M:Mem} {S:aA} {a:Act} {w:World} {nm:Nat->Nat} {o:Oper} {K:Act->World->Prop} {Q:Exit->Act->World->Prop} (hd:∀d,o.dst=some d->C.wr d)
include hd
end
end Go.Awp
end
section
namespace Go.Awp
variable [Inhabited GMem] {C:Ctx} {nm:Nat->Nat} {o:Oper} {E:Env} {M:Mem} {S:aA} {a:Act} {w:World} {K:Act->World->Prop} {Q:Exit->Act->World->Prop}
theorem ef{g te:Nat}{fr:Nat×Nat}:∀(vs:List Value) (o:Nat) (w:World) (cur:Array Value),w.heap[g]?=some (.cells cur te fr)->o+vs.length<=cur.size->
 ∃cur':Array Value,(w.setCells g o vs).heap[g]?=some (.cells cur' te fr)/\cur'.toList=cur.toList.take o++vs++cur.toList.drop (o+vs.length)/\cur'.size=cur.size/\(∀k,k≠g->(w.setCells g o vs).heap[k]?=w.heap[k]?)/\
  (w.setCells g o vs).heap.size=w.heap.size/\(w.setCells g o vs).os=w.os/\(w.setCells g o vs).tape=w.tape/\(w.setCells g o vs).output=w.output
 |[],o,w,cur,h,_=>⟨cur,h,by simp,rfl,λ_ _=>rfl,rfl,rfl,rfl,rfl⟩
 |v::r,o,w,cur,h,hle=>by
  simp only[QA]at hle
  have h1:(w.setCell ⟨g,o,none⟩ v).heap[g]?=some (.cells (cur.setIfInBounds o v) te fr):=by
   simp[World.setCell,RK,h]
  obtain⟨cur',a1,a2,a3,a4,a5,a6,a7,a8⟩:=ef r (o+1) (w.setCell ⟨g,o,none⟩ v) (cur.setIfInBounds o v) h1 (by simp;omega)
  refine⟨cur',a1,?_,by rw[a3];simp,λk hk=> ?_,by rw[World.setCells,a5];simp,by rw[World.setCells,a6];rfl,by rw[World.setCells,a7];rfl,by rw[World.setCells,a8];rfl⟩
  ·rw[a2]
   apply Rw
   intro x
   have hl:(cur.setIfInBounds o v).toList=cur.toList.set o v:=by simp
   rw[hl]
   simp only[QA,Rt,Tp,QQ,Q6,RB,Qz,Rg,QH,List.getElem?_cons]
   grind
  ·rw[World.setCells,a4 k hk]
   have:¬g=k:=λe=>hk e.symm
   simp[World.setCell,RK,this]
variable (hd:∀d,o.dst=some d->C.wr d)
include hd
theorem La{t:TypeId}{x:Operand}{lo hi:Option Operand}{m e e' sz by_:Nat}{l h:Int}{rows:List (List D)}(ho:o.op= .slice t x lo hi none)(hs:Sim C E M S a w)(ht:cj C.P t=some (e',sz,by_))(hx:Go.Awp.ev S x= .vh m rows.length)
 (hm:S.own? m=some (.vec e sz rows))(hl:bnd (Go.Awp.ev S) lo 0=some l)(hh:bnd (Go.Awp.ev S) hi rows.length=some h)(h0:0<=l)(h1:l<=h)(h2:h<=rows.length)
 (hK:∀a',Sim C E M {S with tmps:=oD o.dst (.sv m sz l.toNat (h.toNat-l.toNat)) S.tmps} a' w->K a' w):o.wp C.P a w K Q:=by
 obtain⟨ii,z,hu,hii,hz,hzs,his,hib,hpos⟩:=bX ht
 have hxr:=hs.ev x
 rw[hx]at hxr
 obtain⟨xs,ho1,ho2,ho3,ho4⟩:=hs.own m _ hm
 rcases ho1.2 with⟨hE,hz0⟩|⟨g,cap,cur,hE,_,hg,hnc,hcm,hcs,hct⟩
 ·have hq:=gr hxr (ad:=none) (cap:=0) (by rw[hE,hz0])
  rw[hE]at hq
  have l0:l=0:=by omega
  have hh0:h=0:=by omega
  subst l0;subst hh0
  have hr:=eF (P:=C.P) (w:=w) true (len:=0) (cap:=0) (eH hs hl) (by have:=eH hs hh;rwa [hz0]at this) (by omega) (by omega) (by omega)
  refine aJ (v:= .slice none 0 0) (w':=w) ?_ ?_
  ·simp[execOp,ho,hq,Instr.sliceAt,Instr.slice,run_underlying hu,hr,sizeOf,typeInfo,hii,his]
  ·exact hK _ (hs.put o.dst hd (.sv0 m sz hE))
 have hq:=gr hxr hE
 rw[hE]at hq
 have hr:=eF (P:=C.P) (w:=w) true (len:=rows.length) (cap:=cap) (eH hs hl) (eH hs hh) h0 h1 (by omega)
 refine aJ (v:= .slice (some ⟨g,if l.toNat=cap then 0 else l.toNat *sz,none⟩) (h.toNat-l.toNat) (cap-l.toNat)) (w':=w) ?_ ?_
 ·have run:(execOp a.eval o).run C.P w= .ok (.value (.slice (if cap=l.toNat then some ⟨g,0,none⟩else some ((⟨g,0,none⟩:Addr).add (l.toNat *sz))) (h.toNat-l.toNat) (cap-l.toNat))) w:=by
   simp[execOp,ho,hq,Instr.sliceAt,Instr.slice,run_underlying hu,hr,sizeOf,typeInfo,hii,his]
  rw[run]
  by_cases hlc:cap=l.toNat
  ·rw[TP hlc,TP hlc.symm]
  ·rw[TN hlc,TN (λe=>hlc e.symm),cF,Qy]
 ·have hrep:bF E M (.slice (some ⟨g,if l.toNat=cap then 0 else l.toNat *sz,none⟩) (h.toNat-l.toNat) (cap-l.toNat)) (.sv m sz l.toNat (h.toNat-l.toNat)):=
   .sv m sz l.toNat (h.toNat-l.toNat) g rows.length cap hE (by omega)
  exact hK _ (hs.put o.dst hd hrep)
theorem I5{c:Call}{p q:Operand}{d e sz bytes m i j:Nat}{t:TypeId}{rows:List (List D)}(ho:o.op= .call c)(hc:c.callee= .builtin .append)(hargs:c.args= #[p,q])(hty:c.argTypes= #[t,t])(hdst:o.dst=some d)
 (hs:Sim C E M S a w)(ht:cj C.P t=some (e,sz,bytes))(hp:Go.Awp.ev S p= .sv m sz 0 i)(hq:Go.Awp.ev S q= .sv m sz j (rows.length-j))(hm:S.own? m=some (.vec e sz rows))(hij:i<=j)(hj:j<=rows.length)(hone:rows.all (λr=>r.all D.one)=true)(hne:rows≠[])
 (hf:S.fresh (nm d)=true/\nm d<given)
 (hK:∀E' a' w',Sim C E' M {tmps:=(d, .vh (nm d) (i+(rows.length-j)))::S.tmps,own:=(nm d,some (.vec e sz (rows.take i++rows.drop j)))::(m,none)::S.own} a' w'->K a' w'):o.wp C.P a w K Q:=by
 obtain⟨ii,z,hu,hii,hz,hzs,his,hib,hpos⟩:=bX ht
 have exec:∀v w',(Builtin.append_ #[t,t] o.type #[a.eval p,a.eval q]).run C.P w= .ok v w'->(execOp a.eval o).run C.P w= .ok (.value v) w':=by
  intro v w' h
  simp[execOp,ho,resolve,hc,hargs,invoke,builtin,hty,h]
 have hpr:=hs.ev p
 have hqr:=hs.ev q
 rw[hp]at hpr
 rw[hq]at hqr
 generalize hpv:a.eval p=pv at hpr
 generalize hqv:a.eval q=qv at hqr
 have hnil:E m≠ .slice none 0 0:=λhE=>by
  obtain⟨xs,ho1,_⟩:=hs.own m _ hm
  rcases ho1.2 with⟨_,hz⟩|⟨g,cap,cur,hE2,_⟩
  ·exact hne (QE hz)
  ·rw[hE]at hE2;cases hE2
 cases hpr with
 |sv0 _ _ hE=>exact(hnil hE).elim
 |sv _ _ _ _ g l cap hE hl1=>
 generalize hjl:rows.length-j=jl at hqr
 cases hqr with
 |sv0 _ _ hE=>exact(hnil hE).elim
 |sv _ _ _ _ g2 l2 cap2 hE2 hl2=>
 subst hjl
 rw[hE]at hE2
 cases hE2
 obtain⟨o1,o2⟩:=v2d (hs.own m _ hm)
 rcases o1.dview with⟨hn,_,_⟩|⟨g',cap',xs,B,hE',hown,hz1,hD,hnd,hM,hft⟩
 ·rw[hE]at hn;cases hn
 rw[hE]at hE'
 simp only[Qg]at hE' hown
 cases hE'
 rcases hown.2 with⟨hn,_⟩|⟨g',cap',cur,hn,_,hg,hnc,hcm,hcs,hct⟩
 ·cases hn
 cases hn
 have hzr:∀r∈rows,r.length=sz:=λr hr=>by
  have:=hz1 _ (QD.2 ⟨r,hr,rfl⟩)
  rwa [Qg]at this
 have hone2:(rows.map λr=>r.map DD.d).flatten.all DD.one=true:=by
  rw[List.all_flatten,RI,Qq]
  intro r hr
  have:=Qq.1 hone r hr
  simp only[RJ,RI]
  exact this
 have hxone:=hD.allOne hone2
 have hxl:=hown.1
 have hmul:∀x y:Nat,x<=y->x *sz<=y *sz:=λx y h=>Qw sz h
 have hijm:=hmul i j hij
 have hjm:=hmul j rows.length hj
 have hcm':=hmul rows.length cap hnc
 obtain⟨news,hnews⟩:∃news,news=xs.drop (j *sz):=⟨_,rfl⟩
 have hsub:(rows.length-j) *sz=rows.length *sz-j *sz:=Tg _ _ _
 have hnl:news.length=(rows.length-j) *sz:=by rw[hnews,QO,hxl,hsub]
 have hcell:∀x,w.cell? ⟨g,x,none⟩=cur[x]?:=λx=>by simp[World.cell?,hg]
 have hxc:∀(x:Nat) (u:Value),xs[x]?=some u->cur[x]?=some u:=λx u hu=>by
  rw[<-hct,Qz]at hu
  split at hu
  ·simpa using hu
  ·cases hu
 have hsrc:∀(x:Nat) u,news[x]?=some u->w.cell? ((⟨g,if j=cap then 0 else j *sz,none⟩:Addr).add x)=some u:=λx u hu=>by
  have hx:x<news.length:=(Qf.1 hu).1
  rw[hnews,QH]at hu
  have hjc:¬j=cap:=λe=>by
   have:rows.length-j=0:=by omega
   rw[hnl,this,R0]at hx
   omega
  rw[TN hjc,cF,hcell]
  exact hxc _ _ hu
 have hpa:(if(0:Nat)=cap then 0 else 0 *sz)=0:=by split<;>simp
 rw[hpa,S6]at hpv
 have hrun:=run_append_room_cells (P:=C.P) w t o.type e ii hu hii g 0 i cap ⟨g,if j=cap then 0 else j *sz,none⟩ (rows.length-j) (cap-j) news (by rw[his];exact hnl) hsrc (λu hu=>hxone u (by rw[hnews]at hu;exact Rn hu)) (by omega)
  (λx hx=>by
    rw[his,hcell]
    have:0+i *sz+x<cur.size:=by omega
    rw[QC this];rfl)
  (λx hx=>by simp[World.frozen?,hg])
 rw[his,Qy]at hrun
 refine aJ (exec _ _ (by rw[hpv,hqv];exact hrun)) ?_
 obtain⟨cur',b1,b2,b3,b4,b5,b6,b7,b8⟩:=ef news (i *sz) w cur hg (by omega)
 obtain⟨w',hw'⟩:∃w',w'=w.setCells g (i *sz) news:=⟨_,rfl⟩
 rw[<-hw']at b1 b4 b5 b6 b7 b8⊢
 have hgr:w.grownBy w' (some g):=⟨b6,b7,b8,by rw[b5];exact QF _,λk _ hk=>b4 k λe=>hk (by rw[e])⟩
 have hzt:∀r∈rows.take i,r.length=sz:=λr hr=>hzr r (QY hr)
 have hil:(rows.take i).length=i:=by rw[QQ];omega
 have hfl:rows.flatten=(rows.take i).flatten++(((rows.drop i).take (j-i)).flatten++(rows.drop j).flatten):=by
  rw[<-SI,<-SI]
  congr 1
  have h3:rows.drop j=(rows.drop i).drop (j-i):=by rw[Ry];congr 1;omega
  rw[h3,Sn,Sn]
 have hB0:B=[]:=hD.nilB (l:=rows.flatten) (ga rows)
 subst hB0
 rw[ga,hfl,QU,QU]at hD
 obtain⟨B1,B2,d1,d2,hB⟩:=hD.split
 obtain⟨B3,B4,d3,d4,hB2⟩:=d2.split
 have hBn:B1=[]/\B4=[]:=by
  have:=Sk.1 hB.symm
  have h2:=Sk.1 (hB2.symm.trans this.2)
  exact⟨this.1,h2.2⟩
 obtain⟨rfl,rfl⟩:=hBn
 have htl:(rows.take i).flatten.length=i *sz:=by rw[d8 hzt,hil]
 have hml:((rows.drop i).take (j-i)).flatten.length=j *sz-i *sz:=by
  rw[d8 λr hr=>hzr r (Rn (QY hr))]
  simp only[QQ,QO]
  rw[<-Tg]
  congr 1
  omega
 simp only[Qg]at d1 d4
 rw[htl]at d1 d4
 rw[hml,Ry,show i *sz+(j *sz-i *sz)=j *sz by omega]at d4
 have hD':aX M w' (xs.take (i *sz)++news) ((rows.take i++rows.drop j).map λr=>r.map DD.d).flatten []:=by
  rw[ga,SI,QU,hnews]
  have:=d1.app d4
  exact this.keep (Mem.le_refl _) λb hb=>by cases hb
 have hlen':(rows.take i++rows.drop j).length=i+(rows.length-j):=by rw[QB,hil,QO]
 have hpos':(i+(rows.length-j)) *sz=i *sz+(rows.length-j) *sz:=RP _ _ _
 have hct':cur'.toList.take ((i+(rows.length-j)) *sz)=xs.take (i *sz)++news:=by
  rw[b2,hpos',<-hnl]
  have h3:(cur.toList.take (i *sz)).length=i *sz:=by rw[QQ];simp only[RB];omega
  rw[RL (by rw[QB,h3];omega)]
  rw[QP (by rw[QB,h3];omega)]
  congr 1
  rw[<-hct,SK,Rp (by omega)]
 have hown':w'.ownsRow 0 e sz (.slice (some ⟨g,0,none⟩) (i+(rows.length-j)) cap) (i+(rows.length-j)) (xs.take (i *sz)++news):=by
  refine⟨?_, .inr ⟨g,cap,cur',rfl,Sb _,b1,by omega,hcm,by rw[b3];exact hcs,hct'⟩⟩
  rw[QB,QQ,hnl,hpos',hxl,Rp (by omega)]
 obtain⟨k1,k2⟩:=bD.dmk (E:=λx=>if x=nm d then .slice (some ⟨g,0,none⟩) (i+(rows.length-j)) cap else E x) (M:=M) (w:=w') (m:=nm d) (e:=e) (sz:=sz) (g:=g) (cap:=cap) (xs:=xs.take (i *sz)++news)
  (rows:=(rows.take i++rows.drop j).map λr=>r.map DD.d) (B:=[]) (by simp only[TK,Qg,hlen']) (by simp only[Qg,hlen'];exact hown')
  (λr hr=>by
    obtain⟨r0,h3,rfl⟩:=QD.1 hr
    rw[Qg]
    rcases Q0.1 h3 with h3|h3
    ·exact hzr r0 (QY h3)
    ·exact hzr r0 (Rn h3)) hD' (by simp) (λb hb x=>hM b hb x)
 obtain⟨j1,j2⟩:=d2v k1
 have hmv:=hs.own_many (E':=λx=>if x=nm d then .slice (some ⟨g,0,none⟩) (i+(rows.length-j)) cap else E x) (d:=nm d) (o':= .vec e sz (rows.take i++rows.drop j)) (w':=w') [m] (row:=some g) hgr
  (λb hb=>by
    cases hb
    exact⟨m,Qo,_,hm,(o2 g).1 ((hft g).2 Qo)⟩) (λx hx=>TN hx) (.inr hf)
  (λb hb=>by
    have h3:=(k2 b).1 ((j2 b).2 hb)
    exact .inl ⟨m,Qo,_,hm,(o2 b).1 ((hft b).2 h3)⟩) j1
 have hrep:bF (λx=>if x=nm d then Value.slice (some ⟨g,0,none⟩) (i+(rows.length-j)) cap else E x) M (.slice (some ⟨g,0,none⟩) (i+(rows.length-j)) cap) (.vh (nm d) (i+(rows.length-j))):=
  .vh _ _ (i+(rows.length-j)) cap (some ⟨g,0,none⟩) (TP rfl) (QF _)
 have:=hmv.put o.dst hd hrep
 rw[hdst]at this
 exact hK _ _ _ (by rw[hdst];exact this)
end Go.Awp
end
section
namespace Go.Awp
variable [Inhabited GMem]
structure OLe (o' o:Own):Prop where
 ok:∀(E:Env) (M:Mem) (w:World) (n:Nat),bD E M w n o'->bD E M w n o
 foot:∀(E:Env) (M:Mem) (w:World) (n b:Nat),bD E M w n o'->o.foot w (E n) b->o'.foot w (E n) b
theorem OLe.refl(o:Own):OLe o o:=⟨λ_ _ _ _ h=>h,λ_ _ _ _ _ _ h=>h⟩
theorem OLe.v2d{e sz:Nat}{rows:List (List D)}:OLe (.vec e sz rows) (.dvec e sz (rows.map λr=>r.map .d)):=
 ⟨λ_ _ _ _ h=>(Go.Awp.v2d h).1,λ_ _ _ _ b h hb=>((Go.Awp.v2d h).2 b).1 hb⟩
theorem OLe.d2v{e sz:Nat}{rows:List (List D)}:OLe (.dvec e sz (rows.map λr=>r.map .d)) (.vec e sz rows):=
 ⟨λ_ _ _ _ h=>(Go.Awp.d2v h).1,λ_ _ _ _ b h hb=>((Go.Awp.d2v h).2 b).2 hb⟩
theorem aX.weaken{M:Mem}{w:World}{vs:List Value}{ds:List DD}{B:List Nat}(h:aX M w vs ds B):∀{ds':List DD},ds'.length=ds.length->(∀(k:Nat) x,ds'[k]?=some x->x= .junk\/ds[k]?=some x)->∃B',aX M w vs ds' B'/\B'.Sublist B:=by
 induction h with
 |nil=>intro ds' hl _;exact⟨[],by rw[QE hl];exact .nil, .refl _⟩
 |d h r ih=>
  intro ds' hl hk
  cases ds' with
  |nil=>cases hl
  |cons y ds'=>
   obtain⟨B',h1,h2⟩:=ih (by simpa using hl) (λk x hx=>by simpa using hk (k+1) x (by simpa using hx))
   rcases hk 0 y rfl with rfl|q
   ·exact⟨B', .junk h1,h2⟩
   ·cases q;exact⟨B', .d h h1,h2⟩
 |junk r ih=>
  intro ds' hl hk
  cases ds' with
  |nil=>cases hl
  |cons y ds'=>
   obtain⟨B',h1,h2⟩:=ih (by simpa using hl) (λk x hx=>by simpa using hk (k+1) x (by simpa using hx))
   rcases hk 0 y rfl with rfl|q
   ·exact⟨B', .junk h1,h2⟩
   ·cases q;exact⟨B', .junk h1,h2⟩
 |mt r ih=>
  intro ds' hl hk
  cases ds' with
  |nil=>cases hl
  |cons y ds'=>
   obtain⟨B',h1,h2⟩:=ih (by simpa using hl) (λk x hx=>by simpa using hk (k+1) x (by simpa using hx))
   rcases hk 0 y rfl with rfl|q
   ·exact⟨B', .junk h1,h2⟩
   ·cases q;exact⟨B', .mt h1,h2⟩
 |sl hn ho hz h r _ ih=>
  intro ds' hl hk
  cases ds' with
  |nil=>cases hl
  |cons y ds'=>
   obtain⟨B',h1,h2⟩:=ih (by simpa using hl) (λk x hx=>by simpa using hk (k+1) x (by simpa using hx))
   rcases hk 0 y rfl with rfl|q
   ·exact⟨B', .junk h1,(h2.trans (List.sublist_append_right _ _)).cons _⟩
   ·cases q;exact⟨_, .sl hn ho hz h h1,((List.Sublist.refl _).append h2).cons_cons _⟩
def Np(b j:Nat):Nat:=20000+40 *b+j
def L6(ag:Bool)(sz:Nat):Nat:=match ag with
 |true=>sz
 |false=>1
theorem Sim.ole{C:Ctx}{E:Env}{M:Mem}{S S':aA}{a:Act}{w:World}(h:Sim C E M S a w)(ht:S'.tmps=S.tmps)(ho:∀n o,S'.own? n=some o->∃o',S.own? n=some o'/\OLe o' o):Sim C E M S' a w:=by
 refine h.regroup (λt x hx=>⟨x,by rw[<-ht];exact hx,λ_ hv=>hv⟩) (λn o hn=> ?_) (λn m o o' b hne hn hm hb hb'=> ?_) (λn o b hn hb=> ?_) λ_ _=>rfl
 ·obtain⟨o1,h1,h2⟩:=ho n o hn
  exact h2.ok _ _ _ _ (h.own n o1 h1)
 ·obtain⟨o1,h1,h2⟩:=ho n o hn
  obtain⟨o2,h3,h4⟩:=ho m o' hm
  exact h.apart n m o1 o2 b hne h1 h3 (h2.foot _ _ _ _ _ (h.own n o1 h1) hb) (h4.foot _ _ _ _ _ (h.own m o2 h3) hb')
 ·obtain⟨o1,h1,h2⟩:=ho n o hn
  exact⟨n,o1,h1,h2.foot _ _ _ _ _ (h.own n o1 h1) hb⟩
inductive PLe:List (Nat×Own)->List (Nat×Own)->Prop
 |nil:PLe [] []
 |cons {n:Nat} {o o':Own} {l l':List (Nat×Own)} (h:OLe o o') (t:PLe l l'):PLe ((n,o)::l) ((n,o')::l')
theorem PLe.names{l l':List (Nat×Own)}(h:PLe l l'):l.map (·.1)=l'.map (·.1):=by
 induction h with
 |nil=>rfl
 |cons _ _ ih=>simp[ih]
theorem PLe.gt{l l':List (Nat×Own)}(h:PLe l l'){n:Nat}{o:Own}(hn:Go.Awp.gt l' n=some o):∃o',Go.Awp.gt l n=some o'/\OLe o' o:=by
 induction h with
 |nil=>simp[Go.Awp.gt]at hn
 |cons h t ih=>
  rw[aE]at hn⊢
  split at hn
  ·rename_i hq
   cases hn
   exact⟨_,by rw[TP hq],h⟩
  ·rename_i hq
   rw[TN hq];exact ih hn
inductive qe (ω:Nat->Option Own):H->DD->Option Nat->Prop
 |d (x:D):qe ω (.d x) (.d x) none
 |nil (e z:Nat):qe ω (.d (.v (.slice none 0 0))) (.sl e z []) none
 |dv (n e z:Nat) (rows:List (List DD)) (h:ω n=some (.dvec e z rows)):qe ω (.vh n rows.length) (.sl e z rows) (some n)
 |v (n e z:Nat) (rows:List (List D)) (h:ω n=some (.vec e z rows)):qe ω (.vh n rows.length) (.sl e z (rows.map λr=>r.map .d)) (some n)
theorem qe.to{S:aA}{x:H}{c:DD}{n:Option Nat}(h:qe S.own? x c n):wG S x c n:=by
 cases h with
 |d x=>exact .d x
 |nil e z=>exact .nil e z
 |dv n e z rows h=>exact .dv n e z rows h
 |v n e z rows h=>exact .v n e z rows h
theorem qe.congr{ω ω':Nat->Option Own}{x:H}{c:DD}{n:Option Nat}(h:qe ω x c n)(hω:∀k,n=some k->ω' k=ω k):qe ω' x c n:=by
 cases h with
 |d x=>exact .d x
 |nil e z=>exact .nil e z
 |dv n e z rows h=>exact .dv n e z rows (by rw[hω n rfl];exact h)
 |v n e z rows h=>exact .v n e z rows (by rw[hω n rfl];exact h)
theorem Hx(l1:List (Nat×Own))(l2:List (Nat×Option Own))(n:Nat):gt (l1.map (λp=>(p.1,some p.2))++l2) n=match gt l1 n with|some x=>some (some x)|none=>gt l2 n:=by
 induction l1 with
 |nil=>rfl
 |cons p l1 ih=>
  rw[Qp,QR,aE,aE]
  by_cases hp:p.1=n
  ·rw[TP hp,TP hp]
  ·rw[TN hp,TN hp,ih]
inductive vg:List Value->List H->List (Nat×Own)->Prop
 |nil:vg [] [] []
 |keep (x:Value) {z:List Value} {hh:List H} {os:List (Nat×Own)} (h:vg z hh os):vg (x::z) (.d (.v x)::hh) os
 |new (n e s:Nat) (o:Own) {z:List Value} {hh:List H} {os:List (Nat×Own)} (ho:o= .vec e s []\/o= .dvec e s []) (h:vg z hh os):vg (.slice none 0 0::z) (.vh n 0::hh) ((n,o)::os)
theorem vg.len{z:List Value}{hh:List H}{os:List (Nat×Own)}(h:vg z hh os):z.length=hh.length:=by
 induction h with
 |nil=>rfl
 |keep _ _ ih=>simp[ih]
 |new _ _ _ _ _ _ ih=>simp[ih]
theorem vg.own{z:List Value}{hh:List H}{os:List (Nat×Own)}(h:vg z hh os):∀p∈os,∃e s,p.2= .vec e s []\/p.2= .dvec e s []:=by
 induction h with
 |nil=>intro p hp;cases hp
 |keep _ _ ih=>exact ih
 |new n e s o ho _ ih=>
  intro p hp
  rcases Qu.1 hp with rfl|hp
  ·exact⟨e,s,ho⟩
  ·exact ih p hp
theorem vg.rep{E:Env}{M:Mem}{z:List Value}{hh:List H}{os:List (Nat×Own)}(h:vg z hh os)(hE:∀p∈os,E p.1= .slice none 0 0):∀(i:Nat) c x,z[i]?=some c->hh[i]?=some x->bF E M c x:=by
 induction h with
 |nil=>intro i c x hc;simp at hc
 |keep y _ ih=>
  intro i c x hc hx
  cases i with
  |zero=>simp at hc hx;subst hc;subst hx;exact .d (.v _)
  |succ i=>exact ih hE i c x (by simpa using hc) (by simpa using hx)
 |new n e s o ho _ ih=>
  intro i c x hc hx
  cases i with
  |zero=>simp at hc hx;subst hc;subst hx;exact .vh n 0 0 0 none (hE _ Qo) (QF _)
  |succ i=>exact ih (λp hp=>hE p (Qm _ hp)) i c x (by simpa using hc) (by simpa using hx)
theorem Sim.nils{C:Ctx}{M:Mem}{S:aA}{a:Act}{w:World}:∀{os:List (Nat×Own)} {E:Env},(∀p∈os,∃e s,p.2= .vec e s []\/p.2= .dvec e s [])->(os.map (·.1)).Nodup->(∀p∈os,S.fresh p.1=true/\p.1<given)->Sim C E M S a w->
 ∃E',Sim C E' M {S with own:=os.map (λp=>(p.1,some p.2))++S.own} a w/\(∀p∈os,E' p.1= .slice none 0 0)/\∀m,m∉os.map (·.1)->E' m=E m
 |[],E,_,_,_,hs=>⟨E,hs,⟨λp hp=>(by cases hp),λ_ _=>rfl⟩⟩
 |(n,o)::os,E,h1,h2,h3,hs=>by
  rw[Qp,R3]at h2
  obtain⟨E1,k1,k2,k3⟩:=Sim.nils (λp hp=>h1 p (Qm _ hp)) h2.2 (λp hp=>h3 p (Qm _ hp)) hs
  have hf:=h3 _ Qo
  have hfr:aA.fresh {S with own:=os.map (λp=>(p.1,some p.2))++S.own} n=true:=by
   have h0:=hf.1
   unfold aA.fresh at h0⊢
   simp only[Qk]at h0⊢
   refine⟨⟨?_,h0.1.2⟩,?_⟩
   ·unfold aA.own? at h0⊢
    simp only
    have:gt os n=none:=by
     cases hq:gt os n with
     |none=>rfl
     |some x=>exact absurd (QD.2 ⟨_,cz hq,rfl⟩) h2.1
    have hg:gt (os.map (λp=>(p.1,some p.2))++S.own) n=gt S.own n:=by rw[Hx,this]
    rw[hg];exact h0.1.1
   ·rw[List.all_append,Qk]
    refine⟨?_,h0.2⟩
    rw[RI,Qq]
    intro p hp
    obtain⟨e,s,q|q⟩:=h1 p (Qm _ hp)
    ·simp[q,Own.has]
    ·simp[q,Own.has]
  have k4:=k1.own_new (E':=λm=>if m=n then .slice none 0 0 else E1 m) (d:=n) (o':=o) (w':=w) ⟨rfl,rfl,rfl,QF _,λ_ _ _=>rfl⟩ (λm hm=>by simp[hm]) hfr hf.2 (λb hb=> ?_) ?_
  ·refine⟨_,k4,λp hp=> ?_,λm hm=> ?_⟩
   ·rcases Qu.1 hp with rfl|hp
    ·simp
    ·have:p.1≠n:=λe=>h2.1 (QD.2 ⟨p,hp,e⟩)
     simp only[TN this];exact k2 p hp
   ·rw[Qp,Qu]at hm
    have hmn:m≠n:=λe=>hm (.inl e)
    simp only[TN hmn];exact k3 m λe=>hm (.inr e)
  ·obtain⟨e,s,q|q⟩:=h1 _ Qo
   ·simp only at q;subst q
    simp[Own.foot,aH]at hb
   ·simp only at q;subst q
    exact((bD.dmt (E:=λm=>if m=n then .slice none 0 0 else E1 m) (M:=M) (w:=w) (m:=n) (e:=e) (sz:=s) (by simp)).2 b hb).elim
  ·obtain⟨e,s,q|q⟩:=h1 _ Qo
   ·simp only at q;subst q
    exact⟨[],by simpa using World.ownsRow_nil w 0 e s,by simp,by simp,λb hb=>by simp[aH]at hb⟩
   ·simp only at q;subst q
    exact(bD.dmt (E:=λm=>if m=n then .slice none 0 0 else E1 m) (M:=M) (w:=w) (m:=n) (e:=e) (sz:=s) (by simp)).1
theorem rn:∀z:List Value,fW (z.map λx=> .d (.v x))=some (z.map .v)
 |[]=>rfl
 |x::z=>by simp[fW,rn z]
theorem xm(z:List Value):cq (z.map λx=> .d (.v x))= .d (.agg (z.map .v)):=by
 unfold cq
 rw[rn]
def aQ(P:Program)(_:Nat->Nat)(o:Oper)(ρ:Operand->H)(ω:Nat->Option Own)(e:Eff):Prop:=
 ∀(C:Ctx) (E:Env) (M:Mem) (S:aA) (a:Act) (w:World) (K:Act->World->Prop) (Q:Exit->Act->World->Prop),C.P=P->(∀d,o.dst=some d->C.wr d)->Sim C E M S a w->
  (∀x∈o.op.operands,Go.Awp.ev S x=ρ x)->(∀n∈e.acc,S.own? n=ω n)->(∀d∈e.new,S.fresh d=true/\d<given)->(∀E' M' a' w',Sim C E' M' (S.app o.dst e) a' w'->K a' w')->o.wp C.P a w K Q
inductive yM (P:Program) (nm:Nat->Nat) (o:Oper) (ρ:Operand->H) (ω:Nat->Option Own):Eff->Prop
 |cut {t:TypeId} {x:Operand} {lo hi:Option Operand} {m e e' sz by_:Nat} {l h:Int} {rows:List (List D)} (ho:o.op= .slice t x lo hi none) (ht:cj P t=some (e',sz,by_)) (hx:ρ x= .vh m rows.length)
  (hm:ω m=some (.vec e sz rows)) (hl:bnd ρ lo 0=some l) (hh:bnd ρ hi rows.length=some h) (h0:0<=l) (h1:l<=h) (h2:h<=rows.length):yM P nm o ρ ω {val:= .sv m sz l.toNat (h.toNat-l.toNat),acc:=[m]}
 |join {c:Call} {p q:Operand} {d e sz bytes m i j:Nat} {t:TypeId} {rows:List (List D)} (ho:o.op= .call c) (hc:c.callee= .builtin .append) (hargs:c.args= #[p,q]) (hty:c.argTypes= #[t,t]) (hdst:o.dst=some d)
  (ht:cj P t=some (e,sz,bytes)) (hp:ρ p= .sv m sz 0 i) (hq:ρ q= .sv m sz j (rows.length-j)) (hm:ω m=some (.vec e sz rows)) (hij:i<=j) (hj:j<=rows.length) (hone:rows.all (λr=>r.all D.one)=true) (hne:rows≠[]):
  yM P nm o ρ ω {val:= .vh (nm d) (i+(rows.length-j)),acc:=[m],upd:=[(nm d,some (.vec e sz (rows.take i++rows.drop j))),(m,none)],new:=[nm d]}
 |nils {t:TypeId} {d:Nat} {z:List Value} {pl:List (Nat×Nat)} {hh:List H} {os:List (Nat×Own)} (ho:o.op= .build t #[]) (hdst:o.dst=some d) (hz:gu P t=some z) (hpl:places P t=some pl) (hn:vg z hh os) (hnd:(os.map (·.1)).Nodup):
  yM P nm o ρ ω {val:=cq hh,acc:=[],upd:=os.map (λp=>(p.1,some p.2)),new:=os.map (·.1)}
 |sem {e:Eff} (h:aQ P nm o ρ ω e):yM P nm o ρ ω e
theorem oQ{ρ ρ':Operand->H}{lo:Option Operand}{d:Int}(h:∀x∈lo.toArray,ρ' x=ρ x):bnd ρ' lo d=bnd ρ lo d:=by
 cases lo with
 |none=>rfl
 |some x=>simp only[bnd,h x (by simp)]
theorem yM.congr{P:Program}{nm:Nat->Nat}{o:Oper}{ρ ρ':Operand->H}{ω ω':Nat->Option Own}{e:Eff}(hρ:∀x∈o.op.operands,ρ' x=ρ x)(hω:∀n∈e.acc,ω' n=ω n)(h:yM P nm o ρ ω e):yM P nm o ρ' ω' e:=by
 cases h with
 | @cut t x lo hi m e e' sz by_ l h rows ho ht hx hm hl hh h0 h1 h2=>
  simp only[ho,Op.operands]at hρ
  exact .cut ho ht (by rw[hρ x (by simp)];exact hx) (by rw[hω _ (by simp)];exact hm) (by rw[oQ λy hy=>hρ y (by simp[hy])];exact hl) (by rw[oQ λy hy=>hρ y (by simp[hy])];exact hh) h0 h1 h2
 |join ho hc hargs hty hdst ht hp hq hm hij hj hone hne=>
  simp only[ho,Op.operands,Call.operands,hc,hargs]at hρ
  exact .join ho hc hargs hty hdst ht (by rw[hρ _ (by simp)];exact hp) (by rw[hρ _ (by simp)];exact hq) (by rw[hω _ (by simp)];exact hm) hij hj hone hne
 |nils ho hdst hz hpl hn hnd=>exact .nils ho hdst hz hpl hn hnd
 |sem h=>exact .sem λC E M S a w K Q hP hd hs he ho hn hK=>h C E M S a w K Q hP hd hs (λx hx=>by rw[he x hx,hρ x hx]) (λn hn'=>by rw[ho n hn',hω n hn']) hn hK
def tt(P:Program)(nm:Nat->Nat)(o:Oper)(ρ:Operand->H)(ω:Nat->Option Own)(k:Eff->Prop):Prop:=bG P nm o ρ ω k\/∃e,yM P nm o ρ ω e/\k e
section
variable {C:Ctx} {E:Env} {M:Mem} {S:aA} {a:Act} {w:World} {nm:Nat->Nat} {o:Oper} {K:Act->World->Prop} {Q:Exit->Act->World->Prop} (hd:∀d,o.dst=some d->C.wr d)
include hd
theorem yM.ok{e:Eff}(h:yM C.P nm o (Go.Awp.ev S) S.own? e)(hs:Sim C E M S a w)(hf:∀d∈e.new,S.fresh d=true/\d<given)(hK:∀E' M' a' w',Sim C E' M' (S.app o.dst e) a' w'->K a' w'):o.wp C.P a w K Q:=by
 cases h with
 |sem h=>exact h C E M S a w K Q rfl hd hs (λ_ _=>rfl) (λ_ _=>rfl) hf hK
 |cut ho ht hx hm hl hh h0 h1 h2=>exact La hd ho hs ht hx hm hl hh h0 h1 h2 λa' hs'=>hK E M a' w hs'
 |join ho hc hargs hty hdst ht hp hq hm hij hj hone hne=>
  refine I5 (nm:=nm) hd ho hc hargs hty hdst hs ht hp hq hm hij hj hone hne (hf _ (by simp)) λE' a' w' hs'=>hK E' M a' w' ?_
  rw[hdst];exact hs'
 | @nils t d z pl hh os ho hdst hz hpl hn hnd=>
  refine v8 (nm:=nm) hd ho E M S a w K Q (λe=>e={val:=cq (z.map λx=> .d (.v x))}) hs ?_ λe E' M' a' w' he hs'=> ?_
  ·simp only[bG,ho,hz,hpl,QW,lK]
   exact⟨λd hd=>(by cases hd),trivial⟩
  ·subst he
   rw[xm,hdst]at hs'
   have hfr:∀p∈os,(S.app (some d) {val:= .d (.agg (z.map .v))}).fresh p.1=true/\p.1<given:=λp hp=>by
    obtain⟨h1,h2⟩:=hf p.1 (QN hp)
    refine⟨?_,h2⟩
    unfold aA.fresh at h1⊢
    simp only[Qk]at h1⊢
    refine⟨⟨h1.1.1,?_⟩,h1.2⟩
    simp only[aA.app,oD,Rb,Qk]
    exact⟨by simp[H.has],h1.1.2⟩
   obtain⟨E2,k1,k2,k3⟩:=Sim.nils hn.own hnd hfr hs'
   refine hK E2 M' a' w' ?_
   rw[hdst]
   refine{k1 with tmps:=λt' x hx=> ?_}
   simp only[aA.app,oD,aE]at hx
   by_cases htt:d=t'
   ·subst htt
    rw[TP rfl]at hx
    cases hx
    obtain⟨v,hv,hr⟩:=k1.tmps d (.d (.agg (z.map .v))) (by simp[aA.app,oD,aE])
    refine⟨v,hv,?_⟩
    cases hr with
    |d hr=>
     cases hr with
     |agg cs l hl h=>
      have hcs:cs.size=hh.length:=by rw[hl,Qg];exact hn.len
      refine bF.mk_agg hcs λi c x hc hx=> ?_
      refine hn.rep k2 i c x ?_ hx
      have hil:i<z.length:=by
       have:=(Qt.1 hc).1
       rw[hn.len];omega
      have:=h i c (.v z[i]) hc (by rw[Qh,Qi hil];rfl)
      cases this
      exact Qi hil
   ·rw[TN htt]at hx
    exact k1.tmps t' x (by simp only[aA.app,oD,aE];rw[TN htt];exact hx)
theorem tt.ok{k:Eff->Prop}(hs:Sim C E M S a w)(hv:tt C.P nm o (Go.Awp.ev S) S.own? (λe=>(∀d∈e.new,S.fresh d=true/\d<given)/\k e))(hK:∀e E' M' a' w',k e->Sim C E' M' (S.app o.dst e) a' w'->K a' w'):o.wp C.P a w K Q:=by
 rcases hv with hv|⟨e,h1,h2,h3⟩
 ·exact sB hd E M S a w K Q k hs hv hK
 ·exact h1.ok hd hs h2 λE' M' a' w' hs'=>hK e E' M' a' w' h3 hs'
end
end Go.Awp
end
