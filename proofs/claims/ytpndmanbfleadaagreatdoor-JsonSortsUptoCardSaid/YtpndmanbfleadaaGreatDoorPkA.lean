/-
  Texts of this claim, joined by a program of mine: what the theorem uses.
-/
import Derived.Below
import Derived.Orders
import Derived.WalkKit
import Derived.Laws.CopyRow
import Derived.Laws.OwnMore
import Derived.Laws.IdiomStrings
import Derived.Laws.BytesString
import Derived.Laws.Cover4
import Derived.Lib.ConvBytes
open Array renaming eq_empty_of_size_eq_zero→Qk,foldl_toList→QO,getElem?_eq_getElem→OU,getElem?_eq_some_iff→OC,getElem?_setIfInBounds_ne→Pb,getElem?_toList→Pm,length_toList→PB,range→QL,replicate→Qj
open Bool renaming and_eq_true→Oy,or_eq_false_iff→PM
open ByteArray renaming empty→O7,ext→QW
open Iff renaming rfl→RM
open List renaming all_eq_true→OD,any_eq_true→PG,append_assoc→O9,cons_append→OG,foldl_cons→Rp,getD→RL,getElem?_append_left→OK,getElem?_append_right→OI,getElem?_cons_zero→PW,getElem?_drop→OX,getElem?_eq_getElem→Ou,getElem?_eq_none→Qt,getElem?_eq_some_iff→Ol,getElem?_map→Oq,getElem?_range→PP,getElem?_set→Pa,getElem?_take→OE,getElem?_toArray→Qs,length_append→OJ,length_cons→O_,length_drop→O5,length_map→On,length_set→Pi,length_take→O1,map_congr_left→OP,map_drop→Pr,map_take→Pq,mem_append→ON,mem_cons→Oz,mem_cons_of_mem→Ot,mem_cons_self→Ox,mem_iff_getElem?→P4,mem_map→OT,mem_of_getElem?→OA,mem_of_mem_drop→Px,mem_of_mem_take→Pg,mem_or_eq_of_mem_set→Qg,nil_append→OM,range→P9,replicate→Pc,size_toArray→P3,take_of_length_le→O8
open List.cons renaming injEq→PF
open Nat renaming add_assoc→Pl,add_mul→Qb,add_zero→Pd,beq→Ph,beq_refl→Qo,blt→PQ,le_refl→OO,le_trans→Ps,lt_of_lt_of_le→Qd,mul_le_mul_right→OH,mul_one→Qn,succ_mul→OY,zero_add→OS,zero_le→Pu
open Ne renaming symm→O3
open Option renaming map_eq_some_iff→OB,map_some→OW
open Option.some renaming injEq→Om
open Prod.mk renaming injEq→OV
open UInt8 renaming ofNat→Rq
noncomputable section
theorem RO.{u}:∀{α:Sort u}{_:Decidable True}(t e:α),(if True then t else e)=t:=@if_true
theorem RP.{u}:∀{α:Sort u}{_:Decidable False}(t e:α),(if False then t else e)=e:=@if_false
theorem RQ:∀{p:Prop}[Decidable p],(decide p=true)=p:=@decide_eq_true_eq
theorem RR.{u}:∀{c:Prop}{_:Decidable c},¬c->∀{α:Sort u}{t e:α},(if c then t else e)=e:=@if_neg
theorem RS.{u}:∀{c:Prop}{_:Decidable c},c->∀{α:Sort u}{t e:α},(if c then t else e)=t:=@if_pos
set_option linter.unusedSectionVars false
set_option linter.unusedSimpArgs false
section
namespace Go.Bs
def bytes(ns:List Int):ByteArray:=⟨(ns.map λn=>Rq n.toNat).toArray⟩
def ints(s:ByteArray):List Int:=s.data.toList.map λb=>(b.toNat:Int)
def runesAt(s:ByteArray):Nat->Nat->List Int
 |0,_=>[]
 |n+1,i=>if i<s.size then((Utf8.decode s i).1:Int)::runesAt s n (i+(Utf8.decode s i).2)else[]
def runes(s:ByteArray):List Int:=runesAt s s.size 0
def text(ns:List Int):ByteArray:=ns.foldl (λr n=>r++Utf8.encode n) O7
def dec(s:ByteArray)(i:Int):Int:=(Utf8.decode s i.toNat).1
def wid(s:ByteArray)(i:Int):Int:=(Utf8.decode s i.toNat).2
def iand(k:IntKind)(x y:Int):Int:=k.wrap ((BitVec.ofInt k.bits x&&&BitVec.ofInt k.bits y).toNat:Int)
def ior(k:IntKind)(x y:Int):Int:=k.wrap ((BitVec.ofInt k.bits x|||BitVec.ofInt k.bits y).toNat:Int)
def ixor(k:IntKind)(x y:Int):Int:=k.wrap ((BitVec.ofInt k.bits x^^^BitVec.ofInt k.bits y).toNat:Int)
def iandn(k:IntKind)(x y:Int):Int:=k.wrap ((BitVec.ofInt k.bits x&&& ~~~(BitVec.ofInt k.bits y)).toNat:Int)
def ishl(k:IntKind)(x y:Int):Int:=k.wrap (x *2^min y.toNat k.bits)
def ishr(k:IntKind)(x y:Int):Int:=x.fdiv (2^min y.toNat k.bits)
def enc1(n:Int):ByteArray:=Utf8.encode n
def blt(a b:ByteArray):Bool:=Op.bytesLess a.toList b.toList
def scmp:BinOp->ByteArray->ByteArray->Option Bool
 | .lss,a,b=>some (blt a b)
 | .leq,a,b=>some (blt a b||a.toList==b.toList)
 | .gtr,a,b=>some (!(blt a b||a.toList==b.toList))
 | .geq,a,b=>some (!blt a b)
 |_,_,_=>none
end Go.Bs
namespace Go.Awp
abbrev Mem:=Nat->Nat->Option Value
structure GMem where
 mem:Mem
 /-- blocks that hold an error -/
 errs:List Nat:=[]
 /-- blocks that are known whole, and how many cells they have -/
 whole:List (Nat×Nat):=[]
def Nk[Inhabited GMem]:Mem:=(default:GMem).mem
inductive D where
 |v (x:Value)
 |agg (cs:List D)
 |sl (sz:Nat) (rows:List (List D))
 |rp (cells:List D)
 |er (b:Bool)
inductive bW (M:Mem):Value->D->Prop
 |v (x:Value):bW M x (.v x)
 |agg (cs:Array Value) (l:List D) (hl:cs.size=l.length)
  (h:∀(i:Nat) (c:Value) (x:D),cs[i]?=some c->l[i]?=some x->bW M c x):bW M (.agg cs) (.agg l)
 |slnil (sz:Nat):bW M (.slice none 0 0) (.sl sz [])
 |slmt (a:Addr) (cap sz:Nat):bW M (.slice (some a) 0 cap) (.sl sz [])
 |sl (b off len cap sz:Nat) (rows:List (List D)) (c:Nat->Value) (hlen:len=rows.length) (hcap:len<=cap)
  (hsz:∀r∈rows,r.length=sz) (hm:∀k,k<len *sz->M b (off+k)=some (c k))
  (h:∀(i j:Nat) (r:List D) (x:D),rows[i]?=some r->r[j]?=some x->bW M (c (i *sz+j)) x):
  bW M (.slice (some ⟨b,off,none⟩) len cap) (.sl sz rows)
 |rp (b off:Nat) (cells:List D) (c:Nat->Value) (hm:∀k,k<cells.length->M b (off+k)=some (c k))
  (h:∀(j:Nat) (x:D),cells[j]?=some x->bW M (c j) x):bW M (.pointer (some ⟨b,off,none⟩)) (.rp cells)
 |ern:bW M .nilIface (.er false)
 |ere (t:TypeId) (x:Value):bW M (.iface t x) (.er true)
def Mem.le(M M':Mem):Prop:=∀b o v,M b o=some v->M' b o=some v
theorem Mem.le_refl(M:Mem):M.le M:=λ_ _ _ h=>h
theorem Mem.le_trans{M M' M'':Mem}(h:M.le M')(k:M'.le M''):M.le M'':=λb o v x=>k b o v (h b o v x)
theorem bW.mono{M M':Mem}(hM:M.le M'){v:Value}{x:D}(h:bW M v x):bW M' v x:=by
 induction h with
 |v x=>exact .v x
 |agg cs l hl h ih=>exact .agg cs l hl ih
 |slnil sz=>exact .slnil sz
 |slmt a cap sz=>exact .slmt a cap sz
 |sl b off len cap sz rows c hlen hcap hsz hm h ih=>exact .sl b off len cap sz rows c hlen hcap hsz (λk hk=>hM _ _ _ (hm k hk)) ih
 |rp b off cells c hm h ih=>exact .rp b off cells c (λk hk=>hM _ _ _ (hm k hk)) ih
 |ern=>exact .ern
 |ere t x=>exact .ere t x
inductive H where
 |d (x:D)
 |junk
 |bp (n off:Nat)
 |vh (n len:Nat)
 |ep (n sz i off:Nat)
 /-- a cut of an owned slice -/
 |sv (n sz lo len:Nat)
 |mp (n:Nat)
 |np (n:Nat) (b:Bool)
 |sd (n:Nat)
 |agg (cs:List H)
 |tup (vs:List H)
 |fn (f:Nat) (first captured:List H)
abbrev Env:=Nat->Value
inductive aP (E:Env) (M:Mem):Value->H->Prop
 |d {v:Value} {x:D} (h:bW M v x):aP E M v (.d x)
 |junk (v:Value):aP E M v .junk
 |bp (n off b:Nat) (h:E n= .pointer (some ⟨b,0,none⟩)):aP E M (.pointer (some ⟨b,off,none⟩)) (.bp n off)
 |vh (n len l c:Nat) (a:Option Addr) (h:E n= .slice a l c) (hl:len<=l):aP E M (.slice a len c) (.vh n len)
 |ep (n sz i off b q l c:Nat) (h:E n= .slice (some ⟨b,q,none⟩) l c) (hi:i<l):aP E M (.pointer (some ⟨b,q+i *sz+off,none⟩)) (.ep n sz i off)
 |sv (n sz lo len g l c:Nat) (h:E n= .slice (some ⟨g,0,none⟩) l c) (hl:lo+len<=l):aP E M (.slice (some ⟨g,if lo=c then 0 else lo *sz,none⟩) len (c-lo)) (.sv n sz lo len)
 |sv0 (n sz:Nat) (h:E n= .slice none 0 0):aP E M (.slice none 0 0) (.sv n sz 0 0)
 |mp (n r:Nat) (h:E n= .map (some r)):aP E M (.map (some r)) (.mp n)
 |np0 (n:Nat):aP E M (.pointer none) (.np n false)
 |np1 (n b:Nat) (h:E n= .pointer (some ⟨b,0,none⟩)):aP E M (.pointer (some ⟨b,0,none⟩)) (.np n true)
 |sd (n:Nat) (p:Option Addr) (h:∀a l c,E n= .slice a l c->l≠0->p=a):aP E M (.pointer p) (.sd n)
 |agg (cs:Array Value) (l:List H) (hl:cs.size=l.length)
  (h:∀(i:Nat) (c:Value) (x:H),cs[i]?=some c->l[i]?=some x->aP E M c x):aP E M (.agg cs) (.agg l)
 |tup (cs:Array Value) (l:List H) (hl:cs.size=l.length)
  (h:∀(i:Nat) (c:Value) (x:H),cs[i]?=some c->l[i]?=some x->aP E M c x):aP E M (.tuple cs) (.tup l)
 |fn (f:Nat) (first captured:Array Value) (l l':List H) (hl:first.size=l.length) (hl':captured.size=l'.length)
  (h:∀(i:Nat) (c:Value) (x:H),first[i]?=some c->l[i]?=some x->aP E M c x)
  (h':∀(i:Nat) (c:Value) (x:H),captured[i]?=some c->l'[i]?=some x->aP E M c x):aP E M (.func (.func f) first captured) (.fn f l l')
mutual
def H.has(n:Nat):H->Bool
 | .d _=>false
 | .junk=>false
 | .bp m _=>Ph m n
 | .vh m _=>Ph m n
 | .ep m _ _ _=>Ph m n
 | .sv m _ _ _=>Ph m n
 | .mp m=>Ph m n
 | .np m _=>Ph m n
 | .sd m=>Ph m n
 | .agg cs=>H.hasL n cs
 | .tup vs=>H.hasL n vs
 | .fn _ a b=>H.hasL n a||H.hasL n b
def H.hasL(n:Nat):List H->Bool
 |[]=>false
 |x::r=>H.has n x||H.hasL n r
end
theorem H.hasL_get{n:Nat}:∀{l:List H},H.hasL n l=false->∀{i:Nat} {x:H},l[i]?=some x->H.has n x=false
 |[],_,i,x,h=>by simp at h
 |y::r,hl,i,x,h=>by
  rw[H.hasL,PM]at hl
  cases i with
  |zero=>simp at h;exact h▸hl.1
  |succ i=>exact H.hasL_get hl.2 (by simpa using h)
theorem aP.mono{E E':Env}{M M':Mem}(hM:M.le M'){v:Value}{x:H}(h:aP E M v x)(hE:∀n,H.has n x=true->E' n=E n):aP E' M' v x:=by
 have key:∀n,n=n->Ph n n=true:=λn _=>Qo n
 induction h with
 |d h=>exact .d (h.mono hM)
 |junk v=>exact .junk v
 |bp n off b h=>exact .bp n off b (by rw[hE n (by simp[H.has])];exact h)
 |vh n len l c a h hl=>exact .vh n len l c a (by rw[hE n (by simp[H.has])];exact h) hl
 |ep n sz i off b q l c h hi=>exact .ep n sz i off b q l c (by rw[hE n (by simp[H.has])];exact h) hi
 |sv n sz i off b l c h hi=>exact .sv n sz i off b l c (by rw[hE n (by simp[H.has])];exact h) hi
 |sv0 n sz h=>exact .sv0 n sz (by rw[hE n (by simp[H.has])];exact h)
 |mp n r h=>exact .mp n r (by rw[hE n (by simp[H.has])];exact h)
 |np0 n=>exact .np0 n
 |np1 n b h=>exact .np1 n b (by rw[hE n (by simp[H.has])];exact h)
 |sd n p h=>exact .sd n p (by rw[hE n (by simp[H.has])];exact h)
 |agg cs l hl h ih=>
  refine .agg cs l hl λi c x hc hx=>ih i c x hc hx λn hn=>hE n ?_
  rw[H.has]
  cases hh:H.hasL n l with
  |true=>rfl
  |false=>have:=H.hasL_get hh hx;rw[this]at hn;exact hn
 |tup cs l hl h ih=>
  refine .tup cs l hl λi c x hc hx=>ih i c x hc hx λn hn=>hE n ?_
  rw[H.has]
  cases hh:H.hasL n l with
  |true=>rfl
  |false=>have:=H.hasL_get hh hx;rw[this]at hn;exact hn
 |fn f first captured l l' hl hl' h h' ih ih'=>
  refine .fn f first captured l l' hl hl' (λi c x hc hx=>ih i c x hc hx λn hn=>hE n ?_) (λi c x hc hx=>ih' i c x hc hx λn hn=>hE n ?_)
  ·rw[H.has]
   cases hh:H.hasL n l with
   |true=>rfl
   |false=>have:=H.hasL_get hh hx;rw[this]at hn;cases hn
  ·rw[H.has]
   cases hh:H.hasL n l' with
   |true=>simp
   |false=>have:=H.hasL_get hh hx;rw[this]at hn;cases hn
theorem aP.le{E:Env}{M M':Mem}(hM:M.le M'){v:Value}{x:H}(h:aP E M v x):aP E M' v x:=h.mono hM λ_ _=>rfl
theorem aP.set{E:Env}{M:Mem}{v:Value}{x:H}(h:aP E M v x){n:Nat}{u:Value}(hn:H.has n x=false):
 aP (λm=>if m=n then u else E m) M v x:=by
 refine h.mono (Mem.le_refl M) λm hm=> ?_
 by_cases hmn:m=n
 ·subst hmn;rw[hn]at hm;cases hm
 ·simp[hmn]
inductive DD where
 |d (x:D)
 |junk
 |sl (elem sz:Nat) (rows:List (List DD))
inductive aG (M:Mem) (w:World):List Value->List DD->List Nat->Prop
 |nil:aG M w [] [] []
 |d {v:Value} {x:D} {vs:List Value} {ds:List DD} {B:List Nat} (h:bW M v x) (r:aG M w vs ds B):aG M w (v::vs) (.d x::ds) B
 |junk {v:Value} {vs:List Value} {ds:List DD} {B:List Nat} (r:aG M w vs ds B):aG M w (v::vs) (.junk::ds) B
 |mt {e sz:Nat} {vs:List Value} {ds:List DD} {B:List Nat} (r:aG M w vs ds B):aG M w (.slice none 0 0::vs) (.sl e sz []::ds) B
 |sl {g n cap e sz:Nat} {rows:List (List DD)} {xs vs:List Value} {ds:List DD} {B0 B:List Nat} (hn:n=rows.length) (ho:w.ownsRow 0 e sz (.slice (some ⟨g,0,none⟩) n cap) n xs)
  (hz:∀r∈rows,r.length=sz) (h:aG M w xs rows.flatten B0) (r:aG M w vs ds B):aG M w (.slice (some ⟨g,0,none⟩) n cap::vs) (.sl e sz rows::ds) (g::(B0++B))
def ak:Value->Option Nat
 | .pointer (some a)=>some a.block
 | .slice (some a) _ _=>some a.block
 | .map (some r)=>some r
 |_=>none
structure wV where
 R:Mem->World->Value->List Value->(Nat->Prop)->Prop
 keep:∀{M M':Mem} {w w':World} {v:Value} {vs:List Value} {B:Nat->Prop},R M w v vs B->M.le M'->(∀b,B b->w'.heap[b]?=w.heap[b]?)->R M' w' v vs B
 lt:∀{M:Mem} {w:World} {v:Value} {vs:List Value} {B:Nat->Prop},R M w v vs B->∀b,B b->b<w.heap.size
 det:∀{M M':Mem} {w:World} {v:Value} {vs vs':List Value} {B B':Nat->Prop},R M w v vs B->R M' w v vs' B'->∀b,B b↔B' b
 outer:∀{M:Mem} {w:World} {v:Value} {vs:List Value} {B:Nat->Prop} {b:Nat},R M w v vs B->ak v=some b->B b
inductive Own where
 |box (o:Option TypeId) (cells:List H)
 |vec (elem sz:Nat) (rows:List (List D))
 |map (es:List (Value×D))
 |iter (s:ByteArray) (pos:Nat)
 |dvec (elem sz:Nat) (rows:List (List DD))
 /-- a map through which a loop goes: its name, what it holds, what is left -/
 |miter (m:Nat) (es rest:List (Value×D)) (cur:Option (Value×D))
 |gen (deps:List Nat) (G:wV)
def Own.has(n:Nat):Own->Bool
 | .box _ cells=>H.hasL n cells
 | .vec .. =>false
 | .map _=>false
 | .iter _ _=>false
 | .dvec .. =>false
 | .miter m _ _ _=>Ph m n
 | .gen ds _=>ds.any λm=>Ph m n
def Own.foot(w:World)(v:Value):Own->Nat->Prop
 | .box ..,b=>ak v=some b
 | .vec ..,b=>ak v=some b
 | .map _,b=>ak v=some b
 | .iter ..,b=>ak v=some b
 | .dvec e sz rows,b=>∃M B,aG M w [v] [.sl e sz rows] B/\b∈B
 | .gen _ G,b=>∃M vs B,G.R M w v vs B/\B b
 | .miter ..,b=>ak v=some b\/∃r since seen last,ak v=some r/\w.heap[r]?=some (.mapIter (some b) since seen last)
def ji(ents:Array MapEntry)(clock:Nat):Prop:=(∀e∈ents.toList,e.born<clock)/\(ents.toList.map (·.born)).Nodup
def aW(M:Mem)(l:List MapEntry)(es:List (Value×D)):Prop:=∃l':List MapEntry,l'.Perm l/\l'.length=es.length/\
 ∀(i:Nat) (e:MapEntry) (p:Value×D),l'[i]?=some e->es[i]?=some p->e.key=p.1/\bW M e.val p.2
def cI(es:List (Value×D)):Prop:=(es.map (·.1)).Nodup
theorem aW.mono{M M':Mem}{l:List MapEntry}{es:List (Value×D)}(h:aW M l es)(hM:M.le M'):aW M' l es:=
 let⟨l',p1,p2,p3⟩:=h
 ⟨l',p1,p2,λi e p he hp=>⟨(p3 i e p he hp).1,(p3 i e p he hp).2.mono hM⟩⟩
def aJ(E:Env)(M:Mem)(w:World)(n:Nat):Own->Prop
 | .box o cells=>∃b cs ty,E n= .pointer (some ⟨b,0,none⟩)/\w.heap[b]?=some (.cells cs ty (0,0))/\cs.size=cells.length/\
   (∀(i:Nat) (c:Value) (x:H),cs[i]?=some c->cells[i]?=some x->aP E M c x)/\(∀o,M b o=none)/\∀t,o=some t->ty=t
 | .vec e sz rows=>∃xs:List Value,w.ownsRow 0 e sz (E n) rows.length xs/\(∀r∈rows,r.length=sz)/\
   (∀(i j:Nat) (r:List D) (c:Value) (x:D),rows[i]?=some r->r[j]?=some x->xs[i *sz+j]?=some c->bW M c x)/\
   ∀b,ak (E n)=some b->∀o,M b o=none
 | .map es=>∃b es' clock,E n= .map (some b)/\w.heap[b]?=some (.map es' clock)/\cI es/\aW M es'.toList es/\ji es' clock/\∀o,M b o=none
 | .iter s pos=>∃b,E n= .pointer (some ⟨b,0,none⟩)/\w.heap[b]?=some (.stringIter s pos)/\∀o,M b o=none
 | .dvec e sz rows=>∃B,aG M w [E n] [.sl e sz rows] B/\B.Nodup/\∀b∈B,∀o,M b o=none
 | .gen ds G=>∃B,G.R M w (E n) (ds.map E) B/\∀b,B b->∀o,M b o=none
 | .miter m es rest cur=>∃r b es' clock since seen last,E n= .pointer (some ⟨r,0,none⟩)/\E m= .map (some b)/\r≠b/\w.heap[r]?=some (.mapIter (some b) since seen last)/\w.heap[b]?=some (.map es' clock)/\
   cI es/\aW M es'.toList es/\ji es' clock/\(since<=last/\since<=clock)/\(∀e∈es'.toList,e.born<since)/\
   (∀p,cur=some p->∃e∈es'.toList,(∃s0:Array Nat,seen=s0.push e.born)/\last=clock/\e.key=p.1/\bW M e.val p.2)/\aW M (es'.toList.filter λe=> !seen.contains e.born) rest/\(∀o,M r o=none)/\∀o,M b o=none
theorem dn{w:World}{v:Value}{ds:List Nat}{G:wV}{M:Mem}{vs:List Value}{B:Nat->Prop}(h:G.R M w v vs B)(b:Nat):(Own.gen ds G).foot w v b↔B b:=
 ⟨λ⟨_,_,_,k,hb⟩=>(G.det h k b).2 hb,λhb=>⟨M,vs,B,h,hb⟩⟩
theorem zh{w:World}{g e sz n cap:Nat}{xs:List Value}(ho:w.ownsRow 0 e sz (.slice (some ⟨g,0,none⟩) n cap) n xs):g<w.heap.size:=by
 rcases ho.2 with⟨h,_⟩|⟨g',cap',cur,h,_,hg,_⟩
 ·cases h
 ·cases h;exact(OC.1 hg).1
theorem wm{w:World}{g e sz n cap:Nat}{xs ys:List Value}(ho:w.ownsRow 0 e sz (.slice (some ⟨g,0,none⟩) n cap) n xs)(ho':w.ownsRow 0 e sz (.slice (some ⟨g,0,none⟩) n cap) n ys):xs=ys:=by
 rcases ho.2 with⟨h,_⟩|⟨g',cap',cur,h,_,hg,_,_,_,h1⟩
 ·cases h
 ·rcases ho'.2 with⟨k,_⟩|⟨g2,cap2,cur2,k,_,kg,_,_,_,k1⟩
  ·cases k
  ·cases h;cases k
   rw[hg]at kg
   cases kg
   rw[<-h1,<-k1]
theorem aG.det{M M':Mem}{w:World}{vs:List Value}{ds:List DD}{B B':List Nat}(h:aG M w vs ds B)(h':aG M' w vs ds B'):B=B':=by
 induction h generalizing B' with
 |nil=>cases h';rfl
 |d _ _ ih=>cases h' with|d _ r=>exact ih r
 |junk _ ih=>cases h' with|junk r=>exact ih r
 |mt _ ih=>cases h' with|mt r=>exact ih r
 |sl hn ho hz _ _ ih1 ih2=>cases h' with
  |sl hn' ho' hz' h r=>
   obtain rfl:=wm ho ho'
   rw[ih1 h,ih2 r]
theorem aG.lt{M:Mem}{w:World}{vs:List Value}{ds:List DD}{B:List Nat}(h:aG M w vs ds B):∀b∈B,b<w.heap.size:=by
 induction h with
 |nil=>intro b hb;cases hb
 |d _ _ ih=>exact ih
 |junk _ ih=>exact ih
 |mt _ ih=>exact ih
 |sl hn ho hz _ _ ih1 ih2=>
  intro b hb
  rcases Oz.1 hb with rfl|hb
  ·exact zh ho
  ·rcases ON.1 hb with hb|hb
   ·exact ih1 b hb
   ·exact ih2 b hb
theorem ux{w w':World}{g e sz n cap:Nat}{xs:List Value}(ho:w.ownsRow 0 e sz (.slice (some ⟨g,0,none⟩) n cap) n xs)(hw:w'.heap[g]?=w.heap[g]?):w'.ownsRow 0 e sz (.slice (some ⟨g,0,none⟩) n cap) n xs:=by
 refine⟨ho.1,?_⟩
 rcases ho.2 with h|⟨g',cap',cur,hv,hb,hg,rest⟩
 ·exact .inl h
 ·cases hv
  exact .inr ⟨g,cap,cur,rfl,hb,by rw[hw];exact hg,rest⟩
theorem aG.keep{M M':Mem}{w w':World}{vs:List Value}{ds:List DD}{B:List Nat}(h:aG M w vs ds B)(hM:M.le M')(hw:∀b∈B,w'.heap[b]?=w.heap[b]?):aG M' w' vs ds B:=by
 induction h with
 |nil=>exact .nil
 |d h _ ih=>exact .d (h.mono hM) (ih hw)
 |junk _ ih=>exact .junk (ih hw)
 |mt _ ih=>exact .mt (ih hw)
 |sl hn ho hz _ _ ih1 ih2=>
  refine .sl hn (ux ho (hw _ Ox)) hz (ih1 λb hb=>hw b (Ot _ (ON.2 (.inl hb)))) (ih2 λb hb=>hw b (Ot _ (ON.2 (.inr hb))))
theorem Own.foot_keep{w w':World}{v:Value}{o:Own}(hw:∀b,o.foot w v b->w'.heap[b]?=w.heap[b]?)(ex:∀e sz rows,o= .dvec e sz rows->∃M B,aG M w [v] [.sl e sz rows] B)
 (eg:∀ds G,o= .gen ds G->∃M vs B,G.R M w v vs B)(b:Nat):o.foot w' v b↔o.foot w v b:=by
 cases o with
 |box=>exact RM
 |vec=>exact RM
 |map=>exact RM
 |iter=>exact RM
 |gen ds G=>
  obtain⟨M0,vs,B0,h0⟩:=eg ds G rfl
  have k0:=G.keep h0 (Mem.le_refl _) (w':=w') λb hb=>hw b ((dn h0 b).2 hb)
  rw[dn h0,dn k0]
 |miter m es rest cur=>
  constructor
  ·rintro(h|⟨r,since,seen,last,h1,h2⟩)
   ·exact .inl h
   ·exact .inr ⟨r,since,seen,last,h1,by rw[<-hw r (.inl h1)];exact h2⟩
  ·rintro(h|⟨r,since,seen,last,h1,h2⟩)
   ·exact .inl h
   ·exact .inr ⟨r,since,seen,last,h1,by rw[hw r (.inl h1)];exact h2⟩
 |dvec e sz rows=>
  obtain⟨M0,B0,h0⟩:=ex e sz rows rfl
  have k0:=h0.keep (w':=w') (Mem.le_refl _) λb hb=>hw b ⟨M0,B0,h0,hb⟩
  constructor
  ·rintro⟨M,B,h,hb⟩
   exact⟨M0,B0,h0,by rw[k0.det h];exact hb⟩
  ·rintro⟨M,B,h,hb⟩
   exact⟨M0,B0,k0,by rw[h0.det h];exact hb⟩
def gt{α:Type}:List (Nat×α)->Nat->Option α
 |[],_=>none
 |(k,x)::r,n=>if k=n then some x else gt r n
structure ab where
 tmps:List (Nat×H)
 own:List (Nat×Option Own)
def ab.own?(S:ab)(n:Nat):Option Own:=(gt S.own n).getD none
structure GOk [Inhabited GMem] (M:Mem) (w:World):Prop where
 le:Nk.le M
 errs:∀b∈(default:GMem).errs,∃t x,M b 0=some (.iface t x)
 whole:∀p∈(default:GMem).whole,(∃v,M p.1 0=some v)/\∃cs t fr,w.heap[p.1]?=some (.cells cs t fr)/\cs.size=p.2
theorem GOk.mono[Inhabited GMem]{M M':Mem}{w w':World}(h:GOk M w)(hm:M.le M')(hw:∀b,(∃v,M b 0=some v)->b<w.heap.size->w'.heap[b]?=w.heap[b]?):GOk M' w':=
 ⟨Mem.le_trans h.le hm,λb hb=>let⟨t,x,e⟩:=h.errs b hb;⟨t,x,hm _ _ _ e⟩,λp hp=>by
  obtain⟨⟨v,hv⟩,cs,t,fr,h1,h2⟩:=h.whole p hp
  exact⟨⟨v,hm _ _ _ hv⟩,cs,t,fr,by rw[hw p.1 ⟨v,hv⟩ (OC.1 h1).1];exact h1,h2⟩⟩
structure Ctx [Inhabited GMem]where
 P:Program
 N:Nat
 w0:World
 M0:Mem
 E0:Env
 ext:Nat->Prop
 g0:GOk M0 w0
 gx:∀b,ext b->∀o,M0 b o=none
 /-- what is done when the function ends -/
 D:List Deferred
 /-- slots that nobody writes -/
 fix:List (Nat×Value)
def Ctx.wr[Inhabited GMem](C:Ctx)(d:Nat):Prop:=d<C.N/\∀p∈C.fix,p.1≠d
def given:Nat:=100000
variable [Inhabited GMem]
structure Sim (C:Ctx) (E:Env) (M:Mem) (S:ab) (a:Act) (w:World):Prop where
 size:a.tmps.size=C.N
 defers:a.defers=C.D
 fixed:∀p∈C.fix,a.tmps[p.1]?=some p.2
 tmps:∀t h,gt S.tmps t=some h->∃v,a.tmps[t]?=some v/\aP E M v h
 mem:∀b o v,M b o=some v->w.cell? ⟨b,o,none⟩=some v
 own:∀n o,S.own? n=some o->aJ E M w n o
 apart:∀n m o o' b,n≠m->S.own? n=some o->S.own? m=some o'->o.foot w (E n) b->¬o'.foot w (E m) b
 home:∀n o b,S.own? n=some o->o.foot w (E n) b->C.ext b\/C.w0.heap.size<=b
 m0:C.M0.le M
 mnew:∀b o v,M b o=some v->C.M0 b o=some v\/C.ext b\/C.w0.heap.size<=b
 frame:∀k,k<C.w0.heap.size->¬C.ext k->w.heap[k]?=C.w0.heap[k]?
 grows:C.w0.heap.size<=w.heap.size
 os:w.os=C.w0.os
 tape:w.tape=C.w0.tape
 output:w.output=C.w0.output
 env:∀n,given<=n->E n=C.E0 n
theorem aJ.foot_keep{E:Env}{M:Mem}{w w':World}{n:Nat}{o:Own}(h:aJ E M w n o)(hw:∀b,o.foot w (E n) b->w'.heap[b]?=w.heap[b]?)(b:Nat):o.foot w' (E n) b↔o.foot w (E n) b:=by
 refine Own.foot_keep hw (λe sz rows ho=> ?_) (λds G ho=> ?_) b
 ·subst ho
  obtain⟨B,h1,_⟩:=h
  exact⟨M,B,h1⟩
 ·subst ho
  obtain⟨B,h1,_⟩:=h
  exact⟨M,_,B,h1⟩
theorem aJ.outer{E:Env}{M:Mem}{w:World}{n:Nat}{o:Own}(h:aJ E M w n o){b:Nat}(hb:ak (E n)=some b):o.foot w (E n) b:=by
 cases o with
 |dvec e sz rows=>
  obtain⟨B,h1,_⟩:=h
  refine⟨M,B,h1,?_⟩
  generalize E n=v at *
  cases h1 with
  |mt _=>cases hb
  |sl _ _ _ _ _=>cases hb;exact Ox
 |miter=>exact .inl hb
 |gen ds G=>
  obtain⟨B,h1,_⟩:=h
  exact⟨M,_,B,h1,G.outer h1 hb⟩
 |_=>exact hb
theorem aJ.block{E:Env}{M:Mem}{w:World}{n:Nat}{o:Own}(h:aJ E M w n o){b:Nat}(hb:o.foot w (E n) b):b<w.heap.size/\∀o,M b o=none:=by
 cases o with
 |dvec e sz rows=>
  obtain⟨B,h1,h2,h3⟩:=h
  obtain⟨M',B',k1,k2⟩:=hb
  rw[<-h1.det k1]at k2
  exact⟨h1.lt b k2,h3 b k2⟩
 |gen ds G=>
  obtain⟨B,h1,h3⟩:=h
  rw[dn h1]at hb
  exact⟨G.lt h1 b hb,h3 b hb⟩
 |box o cells=>
  obtain⟨b',cs,ty,hE,hw,_,_,hM,_⟩:=h
  rw[hE]at hb;simp[Own.foot,ak]at hb;subst hb
  exact⟨(OC.1 hw).1,hM⟩
 |vec e sz rows=>
  obtain⟨xs,ho,_,_,hM⟩:=h
  refine⟨?_,hM b hb⟩
  rcases ho.2 with⟨hn,_⟩|⟨g,cap,cur,hv,_,hg,_⟩
  ·rw[hn]at hb;simp[Own.foot,ak]at hb
  ·rw[hv]at hb;simp[Own.foot,ak]at hb;subst hb
   exact(OC.1 hg).1
 |map es=>
  obtain⟨b',es',clock,hE,hw,_,_,_,hM⟩:=h
  rw[hE]at hb;simp[Own.foot,ak]at hb;subst hb
  exact⟨(OC.1 hw).1,hM⟩
 |miter m es rest cur=>
  obtain⟨r,b',es',clock,since,seen,last,hE,_,_,hr,hw,_,_,_,_,_,_,_,hM,hM'⟩:=h
  rw[hE]at hb
  rcases hb with hb|⟨r',s',n',l',hb,h2⟩
  ·simp[ak]at hb;subst hb
   exact⟨(OC.1 hr).1,hM⟩
  ·simp[ak]at hb;subst hb
   rw[hr]at h2;cases h2
   exact⟨(OC.1 hw).1,hM'⟩
 |iter s pos=>
  obtain⟨b',hE,hw,hM⟩:=h
  rw[hE]at hb;simp[Own.foot,ak]at hb;subst hb
  exact⟨(OC.1 hw).1,hM⟩
end Go.Awp
end
section
namespace Go.Awp
variable [Inhabited GMem]
theorem af{α:Type}(k:Nat)(x:α)(r:List (Nat×α))(n:Nat):gt ((k,x)::r) n=if k=n then some x else gt r n:=rfl
theorem bI{α:Type}:∀{l:List (Nat×α)} {n:Nat} {x:α},gt l n=some x->(n,x)∈l
 |(k,y)::r,n,x,h=>by
  rw[af]at h
  by_cases hk:k=n
  ·rw[RS hk]at h
   cases h;subst hk;exact Ox
  ·rw[RR hk]at h
   exact Ot _ (bI h)
def ab.fresh(S:ab)(n:Nat):Bool:=
 (S.own? n).isNone&&S.tmps.all (λx=> !H.has n x.2)&&S.own.all (λx=>match x.2 with|some o=> !Own.has n o|none=>true)
theorem ab.fresh_own{S:ab}{n:Nat}(h:S.fresh n=true):S.own? n=none:=by
 simp[ab.fresh]at h;exact h.1.1
theorem ab.fresh_tmp{S:ab}{n:Nat}(h:S.fresh n=true){t:Nat}{x:H}(hx:gt S.tmps t=some x):H.has n x=false:=by
 simp[ab.fresh]at h;exact h.1.2 _ _ (bI hx)
theorem ab.fresh_cell{S:ab}{n:Nat}(h:S.fresh n=true){m:Nat}{o:Own}(ho:S.own? m=some o):Own.has n o=false:=by
 simp only[ab.fresh,Oy]at h
 have h2:=h.2
 rw[OD]at h2
 unfold ab.own? at ho
 cases hg:gt S.own m with
 |none=>rw[hg]at ho;cases ho
 |some oo=>
  rw[hg]at ho
  simp at ho
  subst ho
  have:=h2 _ (bI hg)
  simpa using this
theorem aJ.keep{E E':Env}{M M':Mem}{w w':World}{n:Nat}{o:Own}(h:aJ E M w n o)(hE:E' n=E n)
 (hw:∀b,o.foot w (E n) b->w'.heap[b]?=w.heap[b]?)(hh:∀k,Own.has k o=true->E' k=E k)(hM:M.le M')
 (hM':∀b,o.foot w (E n) b->∀o,M' b o=none):aJ E' M' w' n o:=by
 cases o with
 |dvec e sz rows=>
  obtain⟨B,h1,h2,h3⟩:=h
  exact⟨B,by rw[hE];exact h1.keep hM λb hb=>hw b ⟨M,B,h1,hb⟩,h2,λb hb=>hM' b ⟨M,B,h1,hb⟩⟩
 |gen ds G=>
  obtain⟨B,h1,h3⟩:=h
  have hd:ds.map E'=ds.map E:=OP λk hk=>hh k (by
   simp only[Own.has,PG]
   exact⟨k,hk,Qo k⟩)
  exact⟨B,by rw[hE,hd];exact G.keep h1 hM λb hb=>hw b ((dn h1 b).2 hb),λb hb=>hM' b ((dn h1 b).2 hb)⟩
 |box o cells=>
  obtain⟨b,cs,ty,h1,h2,h3,h4,h5,h6⟩:=h
  have hb:ak (E n)=some b:=by rw[h1];rfl
  refine⟨b,cs,ty,by rw[hE];exact h1,by rw[hw b hb];exact h2,h3,λi c x hc hx=> ?_,hM' b hb,h6⟩
  refine(h4 i c x hc hx).mono hM λk hk=>hh k ?_
  simp only[Own.has]
  cases hl:H.hasL k cells with
  |true=>rfl
  |false=>have:=H.hasL_get hl hx;rw[this]at hk;cases hk
 |vec e sz rows=>
  obtain⟨xs,h1,h2,h3,h4⟩:=h
  refine⟨xs,?_,h2,λi j r c x hr hx hc=>(h3 i j r c x hr hx hc).mono hM,by rw[hE];exact hM'⟩
  rw[hE]
  refine⟨h1.1,?_⟩
  rcases h1.2 with hn|⟨g,cap,cur,hv,hb,hg,rest⟩
  ·exact .inl hn
  ·exact .inr ⟨g,cap,cur,hv,hb,by rw[hw g (by rw[hv];rfl)];exact hg,rest⟩
 |map es=>
  obtain⟨b,es',clock,h1,h2,h3,h4,h6,h5⟩:=h
  have hb:ak (E n)=some b:=by rw[h1];rfl
  exact⟨b,es',clock,by rw[hE];exact h1,by rw[hw b hb];exact h2,h3,h4.mono hM,h6,hM' b hb⟩
 |miter m es rest cur=>
  obtain⟨r,b,es',clock,since,seen,last,h1,h2,h3,h4,h5,h6,h7,h8,h9,h10,h11,⟨l',p1,p2,p3⟩,h12,h13⟩:=h
  have hb:ak (E n)=some r:=by rw[h1];rfl
  have hb2:(Own.miter m es rest cur).foot w (E n) b:= .inr ⟨r,since,seen,last,hb,h4⟩
  exact⟨r,b,es',clock,since,seen,last,by rw[hE];exact h1,by rw[hh m (Qo m)];exact h2,h3,by rw[hw r (.inl hb)];exact h4,by rw[hw b hb2];exact h5,h6,
   h7.mono hM,h8,h9,h10,λp hp=>let⟨e,q1,q2,q3,q4,q5⟩:=h11 p hp;⟨e,q1,q2,q3,q4,q5.mono hM⟩,⟨l',p1,p2,λi e p he hp=>⟨(p3 i e p he hp).1,(p3 i e p he hp).2.mono hM⟩⟩,hM' r (.inl hb),hM' b hb2⟩
 |iter s pos=>
  obtain⟨b,h1,h2,h3⟩:=h
  have hb:ak (E n)=some b:=by rw[h1];rfl
  exact⟨b,by rw[hE];exact h1,by rw[hw b hb];exact h2,hM' b hb⟩
section
variable {C:Ctx} {E:Env} {M:Mem} {S:ab} {a:Act} {w:World}
def mR(dst:Option Tmp)(x:H)(l:List (Nat×H)):List (Nat×H):=match dst with|some d=>(d,x)::l|none=>l
theorem Sim.put(h:Sim C E M S a w)(dst:Option Tmp){v:Value}{x:H}(hd:∀d,dst=some d->C.wr d)(hx:aP E M v x):
 Sim C E M {S with tmps:=mR dst x S.tmps} (a.put dst v) w:=by
 cases dst with
 |none=>exact h
 |some d=>
  refine{h with size:=by simp[Act.put,h.size],defers:=h.defers,fixed:=λp hp=>(by simp[Act.put,Pb (O3 ((hd d rfl).2 p hp)),h.fixed p hp]),tmps:= ?_}
  intro t y hy
  simp only[mR,af]at hy
  by_cases hdt:d=t
  ·subst hdt
   simp at hy;subst hy
   exact⟨v,by simp[Act.put,h.size,(hd d rfl).1],hx⟩
  ·rw[RR hdt]at hy
   obtain⟨u,hu,hr⟩:=h.tmps t y hy
   exact⟨u,by simp[Act.put,Pb hdt,hu],hr⟩
theorem Sim.weaken(h:Sim C E M S a w){S':ab}(ht:∀t x,gt S'.tmps t=some x->gt S.tmps t=some x\/x= .junk/\∃y,gt S.tmps t=some y)
 (ho:∀n o,S'.own? n=some o->S.own? n=some o):Sim C E M S' a w:=
 { h with
   tmps:=λt x hx=>by
    rcases ht t x hx with h1|⟨rfl,y,hy⟩
    ·exact h.tmps t x h1
    ·obtain⟨v,hv,_⟩:=h.tmps t y hy
     exact⟨v,hv, .junk v⟩
   own:=λn o hn=>h.own n o (ho n o hn)
   apart:=λn m o o' b hne hn hm=>h.apart n m o o' b hne (ho n o hn) (ho m o' hm)
   home:=λn o b hn=>h.home n o b (ho n o hn)}
theorem Sim.drew(h:Sim C E M S a w):Sim C E M S a w.drew:=
 { h with
   mem:=λb o v hv=>h.mem b o v hv
   own:=λn o hn=>(h.own n o hn).keep rfl (λ_ _=>rfl) (λ_ _=>rfl) (Mem.le_refl M) λ_ hb=>((h.own n o hn).block hb).2
   apart:=λn m o o' b hne hn hm hb hb'=>h.apart n m o o' b hne hn hm (((h.own n o hn).foot_keep (w':=w.drew) (λ_ _=>rfl) b).1 hb) (((h.own m o' hm).foot_keep (w':=w.drew) (λ_ _=>rfl) b).1 hb')
   home:=λn o b hn hb=>h.home n o b hn (((h.own n o hn).foot_keep (w':=w.drew) (λ_ _=>rfl) b).1 hb)
   frame:=h.frame,grows:=h.grows,os:=h.os,tape:=h.tape,output:=h.output}
theorem Sim.block_lt(h:Sim C E M S a w){n b:Nat}{o:Own}(hn:S.own? n=some o)(hb:o.foot w (E n) b):b<w.heap.size:=
 ((h.own n o hn).block hb).1
theorem Sim.cell_lt(h:Sim C E M S a w){b o:Nat}{v:Value}(hm:M b o=some v):b<w.heap.size:=
 World.block_lt_of_cell? w (a:=⟨b,o,none⟩) (h.mem b o v hm)
theorem Sim.own_stepG(h:Sim C E M S a w){E':Env}{n d:Nat}{on o':Own}{w':World}(hn:S.own? n=some on)(hg:w.grownBy w' (ak (E n)))
 (hE:∀m,m≠d->E' m=E m)(hd:(E' d=E d/\True)\/S.fresh d=true/\d<given)
 (hb:∀b,o'.foot w' (E' d) b->on.foot w (E n) b\/w.heap.size<=b)(_:∀b,ak (E' d)=some b->b<w'.heap.size)
 (ok:aJ E' M w' d o'):Sim C E' M {S with own:=(d,some o')::(n,none)::S.own} a w':=by
 have hEt:∀t x,gt S.tmps t=some x->∀k,H.has k x=true->E' k=E k:=by
  intro t x hx k hk
  by_cases hkd:k=d
  ·subst hkd
   rcases hd with⟨he,_⟩|⟨hf,_⟩
   ·exact he
   ·rw[ab.fresh_tmp hf hx]at hk;cases hk
  ·exact hE k hkd
 have hEo:∀m o,S.own? m=some o->∀k,Own.has k o=true->E' k=E k:=by
  intro m o ho k hk
  by_cases hkd:k=d
  ·subst hkd
   rcases hd with⟨he,_⟩|⟨hf,_⟩
   ·exact he
   ·rw[ab.fresh_cell hf ho]at hk;cases hk
  ·exact hE k hkd
 have hold:∀m o,({S with own:=(d,some o')::(n,none)::S.own}:ab).own? m=some o->m=d/\o=o'\/m≠d/\m≠n/\S.own? m=some o:=by
  intro m o ho
  simp only[ab.own?,af]at ho
  by_cases h1:d=m
  ·rw[RS h1]at ho;simp at ho;exact .inl ⟨h1.symm,ho.symm⟩
  ·rw[RR h1]at ho
   by_cases h2:n=m
   ·rw[RS h2]at ho;simp at ho
   ·rw[RR h2]at ho;exact .inr ⟨λe=>h1 e.symm,λe=>h2 e.symm,ho⟩
 have hrow:∀m o b,m≠n->S.own? m=some o->o.foot w (E m) b->some b≠ak (E n):=λm o b hne hm hbm he=>
  h.apart m n o on b hne hm hn hbm ((h.own n on hn).outer he.symm)
 have hsame:∀m o,m≠n->S.own? m=some o->∀b,o.foot w (E m) b->w'.heap[b]?=w.heap[b]?:=λm o hne hm b hbm=>hg.block b (h.block_lt hm hbm) (hrow m o b hne hm hbm)
 have hfoot:∀m o,m≠n->S.own? m=some o->∀b,o.foot w' (E m) b->o.foot w (E m) b:=λm o hne hm b hbm=>((h.own m o hm).foot_keep (hsame m o hne hm) b).1 hbm
 refine{size:=h.size,defers:=h.defers,fixed:=h.fixed,tmps:= ?_,mem:= ?_,own:= ?_,apart:= ?_,home:= ?_,m0:=h.m0,mnew:=h.mnew,frame:= ?_,grows:= ?_,os:= ?_,tape:= ?_,output:= ?_,env:= ?_}
 ·intro t x hx
  obtain⟨v,hv,hr⟩:=h.tmps t x hx
  exact⟨v,hv,hr.mono (Mem.le_refl M) (hEt t x hx)⟩
 ·intro b o v hv
  refine hg.cell (h.mem b o v hv) λhe=> ?_
  rw[((h.own n on hn).block ((h.own n on hn).outer he.symm)).2 o]at hv
  cases hv
 ·intro m o ho
  rcases hold m o ho with⟨rfl,rfl⟩|⟨h1,h2,h3⟩
  ·exact ok
  ·refine(h.own m o h3).keep (hE m h1) (hsame m o h2 h3) (hEo m o h3) (Mem.le_refl M) λb hbm=>((h.own m o h3).block hbm).2
 ·intro m m' o o2 b hne hm hm' hbm hbm'
  rcases hold m o hm with⟨rfl,rfl⟩|⟨h1,h2,h3⟩
  ·rcases hold m' o2 hm' with⟨rfl,rfl⟩|⟨k1,k2,k3⟩
   ·exact hne rfl
   ·rw[hE m' k1]at hbm'
    replace hbm':=hfoot m' o2 k2 k3 b hbm'
    rcases hb b hbm with q|q
    ·exact h.apart n m' on o2 b (λe=>k2 e.symm) hn k3 q hbm'
    ·have:=h.block_lt k3 hbm';omega
  ·rw[hE m h1]at hbm
   replace hbm:=hfoot m o h2 h3 b hbm
   rcases hold m' o2 hm' with⟨rfl,rfl⟩|⟨k1,k2,k3⟩
   ·rcases hb b hbm' with q|q
    ·exact h.apart n m on o b (λe=>h2 e.symm) hn h3 q hbm
    ·have:=h.block_lt h3 hbm;omega
   ·rw[hE m' k1]at hbm'
    exact h.apart m m' o o2 b hne h3 k3 hbm (hfoot m' o2 k2 k3 b hbm')
 ·intro m o b hm hbm
  rcases hold m o hm with⟨rfl,rfl⟩|⟨h1,h2,h3⟩
  ·rcases hb b hbm with q|q
   ·exact h.home n on b hn q
   ·exact .inr (Ps h.grows q)
  ·rw[hE m h1]at hbm
   exact h.home m o b h3 (hfoot m o h2 h3 b hbm)
 ·intro k hk hke
  rw[hg.block k (Qd hk h.grows) λhe=> ?_]
  ·exact h.frame k hk hke
  ·rcases h.home n on k hn ((h.own n on hn).outer he.symm)with q|q
   ·exact hke q
   ·omega
 ·exact Ps h.grows hg.size
 ·exact hg.os.trans h.os
 ·exact hg.tape.trans h.tape
 ·exact hg.output.trans h.output
 ·intro m hm
  by_cases hmd:m=d
  ·subst hmd
   rcases hd with⟨he,_⟩|⟨_,hf⟩
   ·rw[he];exact h.env m hm
   ·omega
  ·rw[hE m hmd];exact h.env m hm
theorem Sim.own_step(h:Sim C E M S a w){E':Env}{n d:Nat}{on o':Own}{w':World}(hn:S.own? n=some on)(hg:w.grownBy w' (ak (E n)))
 (hE:∀m,m≠d->E' m=E m)(hd:(E' d=E d/\(d=n))\/S.fresh d=true/\d<given)
 (hb:∀b,o'.foot w' (E' d) b->on.foot w (E n) b\/w.heap.size<=b)(hl:∀b,ak (E' d)=some b->b<w'.heap.size)
 (ok:aJ E' M w' d o'):Sim C E' M {S with own:=(d,some o')::(n,none)::S.own} a w':=
 h.own_stepG hn hg hE (hd.imp (λp=>⟨p.1,trivial⟩) id) hb hl ok
theorem Sim.own_drop(h:Sim C E M S a w){n:Nat}{on:Own}{w':World}(hn:S.own? n=some on)(hg:w.grownBy w' (ak (E n))):
 Sim C E M {S with own:=(n,none)::S.own} a w':=by
 have hold:∀m o,({S with own:=(n,none)::S.own}:ab).own? m=some o->m≠n/\S.own? m=some o:=by
  intro m o ho
  simp only[ab.own?,af]at ho
  by_cases h2:n=m
  ·rw[RS h2]at ho;simp at ho
  ·rw[RR h2]at ho;exact⟨λe=>h2 e.symm,ho⟩
 have hrow:∀m o b,m≠n->S.own? m=some o->o.foot w (E m) b->some b≠ak (E n):=λm o b hne hm hbm he=>
  h.apart m n o on b hne hm hn hbm ((h.own n on hn).outer he.symm)
 have hsame:∀m o,m≠n->S.own? m=some o->∀b,o.foot w (E m) b->w'.heap[b]?=w.heap[b]?:=λm o hne hm b hbm=>hg.block b (h.block_lt hm hbm) (hrow m o b hne hm hbm)
 have hfoot:∀m o,m≠n->S.own? m=some o->∀b,o.foot w' (E m) b->o.foot w (E m) b:=λm o hne hm b hbm=>((h.own m o hm).foot_keep (hsame m o hne hm) b).1 hbm
 refine{h with mem:= ?_,own:= ?_,apart:= ?_,home:= ?_,frame:= ?_,grows:= ?_,os:= ?_,tape:= ?_,output:= ?_}
 ·intro b o v hv
  refine hg.cell (h.mem b o v hv) λhe=> ?_
  rw[((h.own n on hn).block ((h.own n on hn).outer he.symm)).2 o]at hv
  cases hv
 ·intro m o ho
  obtain⟨h2,h3⟩:=hold m o ho
  exact(h.own m o h3).keep rfl (hsame m o h2 h3) (λ_ _=>rfl) (Mem.le_refl M) λb hbm=>((h.own m o h3).block hbm).2
 ·intro m m' o o2 b hne hm hm' hbm hbm'
  exact h.apart m m' o o2 b hne (hold m o hm).2 (hold m' o2 hm').2 (hfoot m o (hold m o hm).1 (hold m o hm).2 b hbm) (hfoot m' o2 (hold m' o2 hm').1 (hold m' o2 hm').2 b hbm')
 ·intro m o b hm hbm
  exact h.home m o b (hold m o hm).2 (hfoot m o (hold m o hm).1 (hold m o hm).2 b hbm)
 ·intro k hk hke
  rw[hg.block k (Qd hk h.grows) λhe=> ?_]
  ·exact h.frame k hk hke
  ·rcases h.home n on k hn ((h.own n on hn).outer he.symm)with q|q
   ·exact hke q
   ·omega
 ·exact Ps h.grows hg.size
 ·exact hg.os.trans h.os
 ·exact hg.tape.trans h.tape
 ·exact hg.output.trans h.output
theorem Sim.own_new(h:Sim C E M S a w){E':Env}{d:Nat}{o':Own}{w':World}(hg:w.grownBy w' none)
 (hE:∀m,m≠d->E' m=E m)(hd:S.fresh d=true)(hdg:d<given)
 (hb:∀b,o'.foot w' (E' d) b->w.heap.size<=b)(ok:aJ E' M w' d o'):Sim C E' M {S with own:=(d,some o')::S.own} a w':=by
 have hsame:∀m o,S.own? m=some o->∀b,o.foot w (E m) b->w'.heap[b]?=w.heap[b]?:=λm o hm b hbm=>hg.block b (h.block_lt hm hbm) (by simp)
 have hfoot:∀m o,S.own? m=some o->∀b,o.foot w' (E m) b->o.foot w (E m) b:=λm o hm b hbm=>((h.own m o hm).foot_keep (hsame m o hm) b).1 hbm
 have hEt:∀t x,gt S.tmps t=some x->∀k,H.has k x=true->E' k=E k:=by
  intro t x hx k hk
  by_cases hkd:k=d
  ·subst hkd
   rw[ab.fresh_tmp hd hx]at hk;cases hk
  ·exact hE k hkd
 have hEo:∀m o,S.own? m=some o->∀k,Own.has k o=true->E' k=E k:=by
  intro m o ho k hk
  by_cases hkd:k=d
  ·subst hkd
   rw[ab.fresh_cell hd ho]at hk;cases hk
  ·exact hE k hkd
 have hold:∀m o,({S with own:=(d,some o')::S.own}:ab).own? m=some o->m=d/\o=o'\/m≠d/\S.own? m=some o:=by
  intro m o ho
  simp only[ab.own?,af]at ho
  by_cases h1:d=m
  ·rw[RS h1]at ho;simp at ho;exact .inl ⟨h1.symm,ho.symm⟩
  ·rw[RR h1]at ho
   exact .inr ⟨λe=>h1 e.symm,ho⟩
 refine{size:=h.size,defers:=h.defers,fixed:=h.fixed,tmps:= ?_,mem:= ?_,own:= ?_,apart:= ?_,home:= ?_,m0:=h.m0,mnew:=h.mnew,frame:= ?_,grows:= ?_,os:= ?_,tape:= ?_,output:= ?_,env:= ?_}
 ·intro t x hx
  obtain⟨v,hv,hr⟩:=h.tmps t x hx
  exact⟨v,hv,hr.mono (Mem.le_refl M) (hEt t x hx)⟩
 ·intro b o v hv
  exact hg.cell (h.mem b o v hv) (by simp)
 ·intro m o ho
  rcases hold m o ho with⟨rfl,rfl⟩|⟨h1,h3⟩
  ·exact ok
  ·exact(h.own m o h3).keep (hE m h1) (λb hbm=>hg.block b (h.block_lt h3 hbm) (by simp)) (hEo m o h3) (Mem.le_refl M) λb hbm=>((h.own m o h3).block hbm).2
 ·intro m m' o o2 b hne hm hm' hbm hbm'
  rcases hold m o hm with⟨rfl,rfl⟩|⟨h1,h3⟩
  ·rcases hold m' o2 hm' with⟨rfl,rfl⟩|⟨k1,k3⟩
   ·exact hne rfl
   ·rw[hE m' k1]at hbm'
    have:=hb b hbm
    have:=h.block_lt k3 (hfoot m' o2 k3 b hbm');omega
  ·rw[hE m h1]at hbm
   replace hbm:=hfoot m o h3 b hbm
   rcases hold m' o2 hm' with⟨rfl,rfl⟩|⟨k1,k3⟩
   ·have:=hb b hbm'
    have:=h.block_lt h3 hbm;omega
   ·rw[hE m' k1]at hbm'
    exact h.apart m m' o o2 b hne h3 k3 hbm (hfoot m' o2 k3 b hbm')
 ·intro m o b hm hbm
  rcases hold m o hm with⟨rfl,rfl⟩|⟨h1,h3⟩
  ·exact .inr (Ps h.grows (hb b hbm))
  ·rw[hE m h1]at hbm
   exact h.home m o b h3 (hfoot m o h3 b hbm)
 ·intro k hk hke
  rw[hg.block k (Qd hk h.grows) (by simp)]
  exact h.frame k hk hke
 ·exact Ps h.grows hg.size
 ·exact hg.os.trans h.os
 ·exact hg.tape.trans h.tape
 ·exact hg.output.trans h.output
 ·intro m hm
  rw[hE m (by omega)];exact h.env m hm
theorem Sim.ro_new(h:Sim C E M S a w){M':Mem}{w':World}(hg:w.grownBy w' none)(hM:M.le M')
 (hnew:∀b o v,M' b o=some v->M b o=some v\/w.heap.size<=b)(hmem:∀b o v,M' b o=some v->w.heap.size<=b->w'.cell? ⟨b,o,none⟩=some v):Sim C E M' S a w':=by
 have hsame:∀m o,S.own? m=some o->∀b,o.foot w (E m) b->w'.heap[b]?=w.heap[b]?:=λm o hm b hbm=>hg.block b (h.block_lt hm hbm) (by simp)
 have hfoot:∀m o,S.own? m=some o->∀b,o.foot w' (E m) b->o.foot w (E m) b:=λm o hm b hbm=>((h.own m o hm).foot_keep (hsame m o hm) b).1 hbm
 have hM':∀n o,S.own? n=some o->∀b,o.foot w (E n) b->∀k,M' b k=none:=by
  intro n o hn b hb k
  cases hm:M' b k with
  |none=>rfl
  |some v=>
   rcases hnew b k v hm with q|q
   ·rw[((h.own n o hn).block hb).2 k]at q;cases q
   ·have:=h.block_lt hn hb;omega
 refine{size:=h.size,defers:=h.defers,fixed:=h.fixed,tmps:= ?_,mem:= ?_,own:= ?_,apart:=λn m o o' b hne hn hm hb hb'=>h.apart n m o o' b hne hn hm (hfoot n o hn b hb) (hfoot m o' hm b hb'),home:=λn o b hn hb=>h.home n o b hn (hfoot n o hn b hb),m0:=Mem.le_trans h.m0 hM,mnew:= ?_,frame:= ?_,grows:= ?_,os:= ?_,tape:= ?_,output:= ?_,env:=h.env}
 ·intro t x hx
  obtain⟨v,hv,hr⟩:=h.tmps t x hx
  exact⟨v,hv,hr.le hM⟩
 ·intro b o v hv
  rcases hnew b o v hv with q|q
  ·exact hg.cell (h.mem b o v q) (by simp)
  ·exact hmem b o v hv q
 ·intro m o h3
  exact(h.own m o h3).keep rfl (λb hbm=>hg.block b (h.block_lt h3 hbm) (by simp)) (λ_ _=>rfl) hM (hM' m o h3)
 ·intro b o v hv
  rcases hnew b o v hv with q|q
  ·exact h.mnew b o v q
  ·exact .inr (.inr (Ps h.grows q))
 ·intro k hk hke
  rw[hg.block k (Qd hk h.grows) (by simp)]
  exact h.frame k hk hke
 ·exact Ps h.grows hg.size
 ·exact hg.os.trans h.os
 ·exact hg.tape.trans h.tape
 ·exact hg.output.trans h.output
end
end Go.Awp
end
section
namespace Go.Awp
variable [Inhabited GMem]
def qz:TypeDesc->Bool
 | .struct _=>true
 | .array _ _=>true
 |_=>false
def bu(P:Program)(t:TypeId):Option (Bool×Nat):=
 match P.underlying t,P.info? t with
 |some d,some i=>some (qz d,i.size)
 |_,_=>none
def rm(P:Program)(s:TypeId)(f:Nat):Option Nat:=
 match P.underlying s with
 |some (.struct fs)=>match fs[f]? with
  |some fd=>match P.info? fd.type with
   |some i=>if i.size=0 then none else some fd.offset
   |none=>none
  |none=>none
 |_=>none
def rn(P:Program)(s:TypeId)(f:Nat):Option (Nat×Bool×Nat):=
 match P.underlying s with
 |some (.struct fs)=>match fs[f]? with
  |some fd=>match bu P fd.type with
   |some (g,z)=>some (fd.offset,g,z)
   |none=>none
  |none=>none
 |_=>none
def bg(P:Program)(t:TypeId):Option (TypeId×Nat×Nat):=
 match P.underlying t with
 |some (.slice e)=>match P.info? e with
  |some i=>match i.zero with
   |some z=>if z.cells.size=i.size/\0<i.size then some (e,i.size,i.bytes)else none
   |none=>none
  |none=>none
 |_=>none
def gn(P:Program)(t:TypeId):Option (List Value):=
 match P.info? t with
 |some i=>match i.zero with
  |some z=>some z.cells.toList
  |none=>none
 |none=>none
def places(P:Program)(t:TypeId):Option (List (Nat×Nat)):=
 match P.underlying t with
 |some (.struct fs)=>fs.toList.mapM λf=>(P.info? f.type).map λi=>(f.offset,i.size)
 |_=>none
def fL:List H->Option (List D)
 |[]=>some []
 | .d x::r=>match fL r with
  |some l=>some (x::l)
  |none=>none
 |_::_=>none
def bA(cs:List H):H:=match fL cs with
 |some ds=> .d (.agg ds)
 |none=> .agg cs
def ct:Value->Bool
 | .agg _=>false
 | .tuple _=>false
 |_=>true
def H.cells:H->Option (List H)
 | .d (.agg ds)=>some (ds.map .d)
 | .d (.v x)=>if ct x then some [.d (.v x)]else none
 | .d (.sl sz rows)=>some [.d (.sl sz rows)]
 | .d (.rp cs)=>some [.d (.rp cs)]
 | .d (.er b)=>some [.d (.er b)]
 | .agg cs=>some cs
 | .tup _=>none
 | .junk=>none
 | .bp n o=>some [.bp n o]
 | .vh n l=>some [.vh n l]
 | .ep n s i o=>some [.ep n s i o]
 | .sv n s i o=>some [.sv n s i o]
 | .mp n=>some [.mp n]
 | .np n b=>some [.np n b]
 | .sd n=>some [.sd n]
 | .fn f a b=>some [.fn f a b]
def D.one:D->Bool
 | .v x=>x.oneCell'
 | .agg _=>false
 |_=>true
def H.one:H->Bool
 | .d x=>x.one
 | .junk=>false
 | .agg _=>false
 | .tup _=>false
 |_=>true
mutual
def H.plain:H->Bool
 | .d _=>true
 | .junk=>true
 | .agg cs=>H.plainL cs
 | .tup vs=>H.plainL vs
 | .fn _ a b=>H.plainL a&&H.plainL b
 |_=>false
def H.plainL:List H->Bool
 |[]=>true
 |x::r=>H.plain x&&H.plainL r
end
mutual
theorem H.plain_has:∀{x:H},H.plain x=true->∀n,H.has n x=false
 | .d _,_,n=>by simp[H.has]
 | .junk,_,n=>by simp[H.has]
 | .bp ..,h,n=>by simp[H.plain]at h
 | .vh ..,h,n=>by simp[H.plain]at h
 | .ep ..,h,n=>by simp[H.plain]at h
 | .sv ..,h,n=>by simp[H.plain]at h
 | .mp ..,h,n=>by simp[H.plain]at h
 | .np ..,h,n=>by simp[H.plain]at h
 | .sd ..,h,n=>by simp[H.plain]at h
 | .agg cs,h,n=>by rw[H.has];exact H.plainL_has (by simpa[H.plain]using h) n
 | .tup cs,h,n=>by rw[H.has];exact H.plainL_has (by simpa[H.plain]using h) n
 | .fn f a b,h,n=>by
  rw[H.plain,Oy]at h
  rw[H.has,H.plainL_has h.1 n,H.plainL_has h.2 n];rfl
theorem H.plainL_has:∀{l:List H},H.plainL l=true->∀n,H.hasL n l=false
 |[],_,n=>by simp[H.hasL]
 |x::r,h,n=>by
  rw[H.plainL,Oy]at h
  rw[H.hasL,H.plain_has h.1 n,H.plainL_has h.2 n];rfl
end
def eX(ag:Bool)(sz:Nat)(cells:List H):Option H:=
 match ag with
 |true=>if sz<=cells.length then some (bA (cells.take sz))else none
 |false=>cells.head?
def de(ag:Bool)(sz:Nat)(cells:List D):Option D:=
 match ag with
 |true=>if sz<=cells.length then some (.agg (cells.take sz))else none
 |false=>cells.head?
def ab.get(S:ab)(t:Nat):H:=(gt S.tmps t).getD .junk
def ev(S:ab):Operand->H
 | .tmp t=>S.get t
 | .const v=>match v with
  | .agg cs=> .d (.agg (cs.toList.map .v))
  |v=> .d (.v v)
 | .global g=> .d (.v (.pointer (some ⟨g,0,none⟩)))
 | .func f=> .fn f [] []
structure Eff where
 val:H
 acc:List Nat:=[]
 upd:List (Nat×Option Own):=[]
 new:List Nat:=[]
def fK(E:Env)(M:Mem)(vs:Array Value)(l:List H):Prop:=
 vs.size=l.length/\∀(i:Nat) (c:Value) (x:H),vs[i]?=some c->l[i]?=some x->aP E M c x
def mO(E:Env)(w:World)(own:List (Nat×Own))(b:Nat):Prop:=∃n o,gt own n=some o/\o.foot w (E n) b
structure DM (E:Env) (M:Mem) (w:World) (own:List (Nat×Own)):Prop where
 ok:∀n o,gt own n=some o->aJ E M w n o
 apart:∀n m o o' b,n≠m->gt own n=some o->gt own m=some o'->o.foot w (E n) b->¬o'.foot w (E m) b
structure p9 (E:Env) (M:Mem) (own:List (Nat×Own)) (w:World) (v:Value) (r:H) (own':List (Nat×Own)) (E':Env) (M':Mem) (w':World):Prop where
 rep:aP E' M' v r
 owns:DM E' M' w' own'
 mle:M.le M'
 mem:∀b o v,M' b o=some v->w'.cell? ⟨b,o,none⟩=some v
 mnew:∀b o v,M' b o=some v->M b o=some v\/mO E w own b\/w.heap.size<=b
 home:∀n o b,gt own' n=some o->o.foot w' (E' n) b->mO E w own b\/w.heap.size<=b
 frame:∀k,k<w.heap.size->¬mO E w own k->w'.heap[k]?=w.heap[k]?
 grows:w.heap.size<=w'.heap.size
 os:w'.os=w.os
 tape:w'.tape=w.tape
 output:w'.output=w.output
 env:∀n,given<=n->E' n=E n
def dS(P:Program)(f:FuncId):Bool:=
 match P.funcs[f]? with
 |some fn=>fn.name != "runtime.NumGoroutine" &&fn.body.isSome
 |none=>false
def c8(P:Program)(f:FuncId)(args:List H)(own:List (Nat×Own))(r:H)(own':List (Nat×Own)):Prop:=
 dS P f=true/\∀(E:Env) (M:Mem) (w:World) (vs:Array Value),GOk M w->(∀b o v,M b o=some v->w.cell? ⟨b,o,none⟩=some v)->DM E M w own->fK E M vs args->
  Calls P f vs w λe w'=>∃v E' M',e= .returned v/\p9 E M own w v r own' E' M' w'
def FR(P:Program)(f:FuncId)(args:List H)(own:List (Nat×Own))(r:H)(own':List (Nat×Own)):Prop:=
 dS P f=true/\∀(E:Env) (M:Mem) (w:World) (vs:Array Value),GOk M w->(∀b o v,M b o=some v->w.cell? ⟨b,o,none⟩=some v)->DM E M w own->fK E M vs args->
  Calls P f vs w λe w'=>∃v E' M',e= .returned v/\p9 E M own w v r own' E' M' w'/\∀n,(gt own' n=none\/∃o,gt own n=some o)->E' n=E n
def eB(own:List (Nat×Own)):List (Nat×Own)->List Nat
 |[]=>[]
 |(n,_)::r=>match gt own n with
  |some _=>eB own r
  |none=>n::eB own r
def gq(r:H)(own own':List (Nat×Own)):Eff:=
 {val:=r,acc:=own.map (·.1),upd:=own'.map (λp=>(p.1,some p.2))++own.map (λp=>(p.1,none)),new:=eB own own'}
def u_(P:Program)(f:FuncId)(args:List H)(ω:Nat->Option Own)(k:Eff->Prop):Prop:=
 ∃own r own',FR P f args own r own'/\(∀p∈own,ω p.1=some p.2)/\k (gq r own own')
def oh(op:BinOp)(k:IntKind)(x y:Int):Option Value:=
 match op with
 | .add=>some (.int k (k.wrap (x+y)))
 | .sub=>some (.int k (k.wrap (x-y)))
 | .mul=>some (.int k (k.wrap (x *y)))
 | .eql=>some (.bool (x==y))
 | .neq=>some (.bool (x !=y))
 | .lss=>some (.bool (decide (x<y)))
 | .leq=>some (.bool (decide (x<=y)))
 | .gtr=>some (.bool (decide (x>y)))
 | .geq=>some (.bool (decide (x>=y)))
 | .and=>some (.int k (Bs.iand k x y))
 | .or=>some (.int k (Bs.ior k x y))
 | .xor=>some (.int k (Bs.ixor k x y))
 | .andNot=>some (.int k (Bs.iandn k x y))
 |_=>none
def d7(cells:List H)(off:Nat)(new:List H):List H:=cells.take off++new++cells.drop (off+new.length)
def mN(pl:List (Nat×Nat)):List H->List (Nat×H)->Option (List H)
 |cells,[]=>some cells
 |cells,(i,x)::r=>match pl[i]?,x.cells with
  |some (off,sz),some cs=>if cs.length=sz/\off+sz<=cells.length then mN pl (d7 cells off cs) r else none
  |_,_=>none
def fnD:H->H
 | .fn f [] []=> .d (.v (.func (.func f) #[] #[]))
 |h=>h
def oR(sz:Nat):Nat->List (Nat×H)->Option (List (List D))
 |_,[]=>some []
 |i,(j,x)::r=>if i=j then match x.cells with
  |some cs=>match fL cs,oR sz (i+1) r with
   |some ds,some rows=>if ds.length=sz then some (ds::rows)else none
   |_,_=>none
  |none=>none
  else none
def bnd(ρ:Operand->H):Option Operand->Int->Option Int
 |some l,_=>match ρ l with
  | .d (.v (.int _ n))=>some n
  |_=>none
 |none,n=>some n
def d6:TypeDesc->Bool
 | .int _=>true
 | .string=>true
 | .bool=>true
 |_=>false
def tw(kind:TypeDesc)(key:Value):List (Value×D)->Option (Option D)
 |[]=>some none
 |(k,d)::r=>match Instr.sameNow kind key k with
  |some true=>some (some d)
  |some false=>tw kind key r
  |none=>none
def Gy(kind:TypeDesc)(key:Value)(x:D):List (Value×D)->Option (List (Value×D))
 |[]=>some [(key,x)]
 |(k,d)::r=>match Instr.sameNow kind key k with
  |some true=>some ((key,x)::r)
  |some false=>match Gy kind key x r with
   |some l=>some ((k,d)::l)
   |none=>none
  |none=>none
def gQ(kind:TypeDesc)(key:Value)(es:List (Value×D)):Bool:=es.all λp=>(Instr.sameNow kind key p.1).isSome
def mh(P:Program)(t:TypeId):Option D:=match P.info? t with
 |some i=>match i.zero with
  |some (.agg cs)=>some (.agg (cs.toList.map .v))
  |some v=>some (.v v)
  |none=>none
 |none=>none
def isSl(P:Program)(t:TypeId):Bool:=match P.underlying t with
 |some (.slice _)=>true
 |_=>false
def cE(P:Program):List TypeId->Nat
 |[]=>0
 |t::_=>match P.underlying t with
  |some .string=>1
  |some (.slice _)=>2
  |some (.map _ _)=>3
  |_=>0
def FI(P:Program)(ρ:Operand->H)(ω:Nat->Option Own)(t:TypeId)(x i y:Operand)(k:Eff->Prop):Prop:=match P.underlying t with
 |some (.map kt _)=>match P.underlying kt,ρ x,ρ i,ρ y with
  |some kind, .mp n, .d (.v key), .d dv=>match ω n with
   |some (.map es)=>match Gy kind key dv es with
    |some es'=>(d6 kind=true/\gQ kind key es=true)/\∃es2:List (Value×D),es2.Perm es'/\k {val:= .junk,acc:=[n],upd:=[(n,some (.map es2))]}
    |none=>False
   |_=>False
  |_,_,_,_=>False
 |_=>False
def od(ρ:Operand->H):Option Operand->Bool
 |none=>true
 |some x=>match ρ x with
  | .d (.v (.int _ _))=>true
  |_=>false
def Iq(P:Program)(t:TypeId):Bool:=match P.underlying t with
 |some (.interface _)=>false
 |some _=>true
 |none=>false
def Hx(P:Program)(t:TypeId):Bool:=match P.underlying t with
 |some (.interface _)=>true
 |_=>false
def lJ(P:Program)(t:TypeId):Bool:=match P.underlying t with
 |some (.pointer _)=>true
 |_=>false
def row1(k:IntKind)(n:Int):List D:=[.v (.int k n)]
def pO(k:IntKind):List (List D)->Option (List Int)
 |[]=>some []
 |[.v (.int k' n)]::r=>if k'=k then match pO k r with
  |some l=>some (n::l)
  |none=>none
  else none
 |_::_=>none
def tP(t:TypeId):List Value->Option TypeId
 | .pointer none:: .slice none 0 0::_=>some t
 |_=>none
def aT(P:Program)(nm:Nat->Nat)(o:Oper)(ρ:Operand->H)(ω:Nat->Option Own)(k:Eff->Prop):Prop:=
 match o.op with
 | .move x=>k {val:=ρ x}
 | .assign x=>k {val:=ρ x}
 | .pick c x y=>match ρ c with
  | .d (.v (.bool t))=>k {val:=if t then ρ x else ρ y}
  |_=>False
 | .alloc t=>match gn P t,o.dst with
  |some z,some d=>k {val:= .bp (nm d) 0,acc:=[],upd:=[(nm d,some (.box (tP t z) (z.map λx=> .d (.v x))))],new:=[nm d]}
  |_,_=>False
 | .box t x=>match(ρ x).cells,o.dst with
  |some cs,some d=>∃q:Option TypeId,(q=none\/q=some t)/\k {val:= .bp (nm d) 0,acc:=[],upd:=[(nm d,some (.box q cs))],new:=[nm d]}
  |_,_=>False
 | .load t x=>match bu P t with
  |some (ag,sz)=>match ρ x with
   | .bp n off=>match ω n with
    |some (.box _ cells)=>match eX ag sz (cells.drop off)with
     |some h=>k {val:=h,acc:=[n]}
     |none=>False
    |_=>False
   | .ep n s i off=>match ω n with
    |some (.vec _ s' rows)=>match rows[i]? with
     |some r=>match de ag sz (r.drop off)with
      |some x=>s=s'/\k {val:= .d x,acc:=[n]}
      |none=>False
     |none=>False
    |_=>False
   | .d (.rp cells)=>match de ag sz cells with
    |some x=>k {val:= .d x}
    |none=>False
   |_=>False
  |none=>False
 | .store t x y=>match bu P t with
  |some (_,sz)=>match ρ x,(ρ y).cells with
   | .bp n off,some cs=>match ω n with
    |some (.box o cells)=>(cs.length=sz/\cs.all H.one=true/\off+sz<=cells.length)/\k {val:= .junk,acc:=[n],upd:=[(n,some (.box o (d7 cells off cs)))]}
    |_=>False
   | .ep n s i off,some cs=>match ω n with
    |some (.vec e s' rows)=>match rows[i]?,fL cs with
     |some r,some ds=>(s=s'/\cs.length=sz/\cs.all H.one=true/\off+sz<=s')/\
      k {val:= .junk,acc:=[n],upd:=[(n,some (.vec e s' (rows.set i (r.take off++ds++r.drop (off+ds.length)))))]}
     |_,_=>False
    |_=>False
   |_,_=>False
  |none=>False
 | .nilCheck x=>match ρ x with
  | .bp n off=>k {val:= .bp n off}
  | .ep n s i off=>k {val:= .ep n s i off}
  | .d (.rp cells)=>k {val:= .d (.rp cells)}
  | .np n b=>match b with
   |true=>k {val:= .bp n 0}
   |false=>False
  |_=>False
 | .binOp op xt x y _=>match ρ x,ρ y with
  | .d (.v (.int kx a)), .d (.v (.int ky b))=>match oh op kx a b with
   |some v=>kx=ky/\k {val:= .d (.v v)}
   |none=>match op with
    | .quo=>(kx=ky/\b≠0)/\k {val:= .d (.v (.int kx (kx.wrap (a.tdiv b))))}
    | .rem=>(kx=ky/\b≠0)/\k {val:= .d (.v (.int kx (a.tmod b)))}
    | .shl=>(0<=b)/\k {val:= .d (.v (.int kx (Bs.ishl kx a b)))}
    | .shr=>(0<=b)/\k {val:= .d (.v (.int kx (Bs.ishr kx a b)))}
    |_=>False
  | .d (.v (.bool a)), .d (.v (.bool b))=>match op with
   | .eql=>(P.underlying xt=some .bool)/\k {val:= .d (.v (.bool (a==b)))}
   | .neq=>(P.underlying xt=some .bool)/\k {val:= .d (.v (.bool (!(a==b))))}
   |_=>False
  | .d (.v (.string a)), .d (.v (.string b))=>match op with
   | .eql=>k {val:= .d (.v (.bool (a.toList==b.toList)))}
   | .neq=>k {val:= .d (.v (.bool (!(a.toList==b.toList))))}
   | .add=>(a.size+b.size<=1000000000000)/\k {val:= .d (.v (.string (a++b)))}
   |op=>match Bs.scmp op a b with
    |some c=>k {val:= .d (.v (.bool c))}
    |none=>False
  | .d (.v (.slice a _ _)), .d (.v (.slice none 0 0))=>match op with
   | .eql=>(isSl P xt=true)/\k {val:= .d (.v (.bool a.isNone))}
   | .neq=>(isSl P xt=true)/\k {val:= .d (.v (.bool (!a.isNone)))}
   |_=>False
  | .d (.sl _ (_::_)), .d (.v (.slice none 0 0))=>match op with
   | .eql=>(isSl P xt=true)/\k {val:= .d (.v (.bool false))}
   | .neq=>(isSl P xt=true)/\k {val:= .d (.v (.bool true))}
   |_=>False
  | .np _ b, .d (.v (.pointer none))=>match op with
   | .eql=>(lJ P xt=true)/\k {val:= .d (.v (.bool (!b)))}
   | .neq=>(lJ P xt=true)/\k {val:= .d (.v (.bool b))}
   |_=>False
  | .d (.er b), .d (.v .nilIface)=>match op with
   | .eql=>(Hx P xt=true/\y= .const .nilIface)/\k {val:= .d (.v (.bool (!b)))}
   | .neq=>(Hx P xt=true/\y= .const .nilIface)/\k {val:= .d (.v (.bool b))}
   |_=>False
  |_,_=>False
 | .makeInterface t _=>(Iq P t=true)/\k {val:= .d (.er true)}
 | .unOp op _ x=>match op,ρ x with
  | .not, .d (.v (.bool b))=>k {val:= .d (.v (.bool (!b)))}
  | .neg, .d (.v (.int ki n))=>k {val:= .d (.v (.int ki (ki.wrap (0-n))))}
  |_,_=>False
 | .convert s t x=>match P.underlying s,P.underlying t,ρ x with
  |some _,some (.int ki), .d (.v (.int _ n))=>k {val:= .d (.v (.int ki (ki.wrap n)))}
  |some _,some .string, .d (.v (.int _ n))=>k {val:= .d (.v (.string (Bs.enc1 n)))}
  |some .string,some (.slice e), .d (.v (.string s))=>match P.underlying e,o.dst with
   |some (.int .i32),some d=>((Bs.runes s).length<=1000000000000)/\k {val:= .vh (nm d) (Bs.runes s).length,acc:=[],upd:=[(nm d,some (.vec e 1 ((Bs.runes s).map (row1 .i32))))],new:=[nm d]}
   |some (.int .u8),_=>k {val:= .d (.sl 1 ((Bs.ints s).map (row1 .u8)))}
   |_,_=>False
  |some (.slice e),some .string, .d (.sl z rows)=>match P.underlying e with
   |some (.int .i32)=>match pO .i32 rows with
    |some ns=>(z=1)/\k {val:= .d (.v (.string (Bs.text ns)))}
    |none=>False
   |some (.int .u8)=>match pO .u8 rows with
    |some ns=>(z=1)/\k {val:= .d (.v (.string (Bs.bytes ns)))}
    |none=>False
   |_=>False
  |some (.slice e),some .string, .d (.v (.slice none 0 0))=>match P.underlying e with
   |some (.int .i32)=>k {val:= .d (.v (.string O7))}
   |some (.int .u8)=>k {val:= .d (.v (.string O7))}
   |_=>False
  |_,_,_=>False
 | .build t parts=>match gn P t,places P t with
  |some z,some pl=>match mN pl (z.map λx=> .d (.v x)) (parts.toList.map λ(i,x)=>(i,ρ x))with
   |some cs=>k {val:=bA cs}
   |none=>False
  |_,_=>False
 | .buildSlice t len parts=>match bg P t with
  |some (e,sz,_)=>match oR sz 0 (parts.toList.map λ(i,x)=>(i,fnD (ρ x)))with
   |some rows=>(rows.length=len/\len *sz<=16777216)/\match o.dst with
    |some d=>if nm d=d then k {val:= .d (.sl sz rows)}else k {val:= .vh (nm d) rows.length,acc:=[],upd:=[(nm d,some (.vec e sz rows))],new:=[nm d]}
    |none=>k {val:= .d (.sl sz rows)}
   |none=>False
  |none=>False
 | .makeSlice t l c=>match bg P t,o.dst with
  |some (e,sz,bytes),some d=>match gn P e,ρ l,ρ c with
   |some z, .d (.v (.int _ n)), .d (.v (.int _ m))=>((n=m\/n=0)/\0<=n/\0<=m/\m<=4294967296/\bytes<=32768)/\
    k {val:= .vh (nm d) n.toNat,acc:=[],upd:=[(nm d,some (.vec e sz (Pc n.toNat (z.map .v))))],new:=[nm d]}
   |_,_,_=>False
  |_,_=>False
 | .makeMap t hint=>match P.underlying t,o.dst with
  |some (.map _ _),some d=>(od ρ hint=true)/\k {val:= .mp (nm d),acc:=[],upd:=[(nm d,some (.map []))],new:=[nm d]}
  |_,_=>False
 | .lookup t x i commaOk=>match P.underlying t with
  |some (.map kt et)=>match P.underlying kt,mh P et,ρ x,ρ i with
   |some kind,some z, .mp n, .d (.v key)=>match ω n with
    |some (.map es)=>match tw kind key es with
     |some q=>match commaOk with
      |true=>(d6 kind=true/\gQ kind key es=true)/\k {val:= .tup [.d (q.getD z), .d (.v (.bool q.isSome))],acc:=[n]}
      |false=>(d6 kind=true/\gQ kind key es=true)/\k {val:= .d (q.getD z),acc:=[n]}
     |none=>False
    |_=>False
   |_,_,_,_=>False
  |_=>False
 | .mapUpdate t x i y=>FI P ρ ω t x i y k
 | .insert t x i y=>FI P ρ ω t x i y k
 | .range t x=>match P.underlying t,ρ x,o.dst with
  |some .string, .d (.v (.string s)),some d=>k {val:= .bp (nm d) 0,acc:=[],upd:=[(nm d,some (.iter s 0))],new:=[nm d]}
  |some (.map _ _), .mp m,some d=>match ω m with
   |some (.map es)=>k {val:= .bp (nm d) 0,acc:=[m],upd:=[(nm d,some (.miter m es es none)),(m,none)],new:=[nm d]}
   |_=>False
  |_,_,_=>False
 | .next x is=>match is with
  |false=>match ρ x with
   | .bp n off=>match ω n with
    |some (.miter m es rest _)=>(off=0)/\(rest=[]->k {val:= .tup [.d (.v (.bool false))],acc:=[n,m],upd:=[(m,some (.map es)),(n,none)]})/\
     ∀(i:Nat) (p:Value×D),rest[i]?=some p->k {val:= .tup [.d (.v (.bool true)), .d (.v p.1), .d p.2],acc:=[n],upd:=[(n,some (.miter m es (rest.eraseIdx i) (some p)))]}
    |_=>False
   |_=>False
  |true=>match ρ x with
   | .bp n off=>match ω n with
    |some (.iter s pos)=>match PQ pos s.size with
     |true=>(off=0)/\k {val:= .tup [.d (.v (.bool true)), .d (.v (.int .i64 pos)), .d (.v (.int .i32 (Utf8.decode s pos).1))],acc:=[n],upd:=[(n,some (.iter s (pos+(Utf8.decode s pos).2)))]}
     |false=>(off=0)/\k {val:= .tup [.d (.v (.bool false))],acc:=[n]}
    |_=>False
   |_=>False
 | .entry x=>match ρ x with
  | .bp n off=>match ω n with
   |some (.miter _ _ _ (some p))=>(off=0)/\k {val:= .tup [.d (.v p.1), .d p.2],acc:=[n]}
   |_=>False
  |_=>False
 | .fieldAddr s x f=>match rm P s f with
  |some fo=>match ρ x with
   | .bp n off=>k {val:= .bp n (off+fo)}
   | .ep n sz i off=>k {val:= .ep n sz i (off+fo)}
   | .d (.rp cells)=>(fo<=cells.length)/\k {val:= .d (.rp (cells.drop fo))}
   |_=>False
  |none=>False
 | .field s x f=>match rn P s f with
  |some (off,ag,sz)=>match ρ x with
   | .d (.agg ds)=>match de ag sz (ds.drop off)with
    |some y=>k {val:= .d y}
    |none=>False
   | .agg cs=>match eX ag sz (cs.drop off)with
    |some y=>k {val:=y}
    |none=>False
   |_=>False
  |none=>False
 | .indexAddr t x i=>match bg P t with
  |some (_,sz,_)=>match ρ x,ρ i with
   | .d (.sl sz' rows), .d (.v (.int _ n))=>match rows[n.toNat]? with
    |some r=>(sz=sz'/\0<=n)/\k {val:= .d (.rp r)}
    |none=>False
   | .vh m len, .d (.v (.int _ n))=>match ω m with
    |some (.vec _ _ _)=>(0<=n/\n<len)/\k {val:= .ep m sz n.toNat 0,acc:=[m]}
    |_=>False
   |_,_=>False
  |none=>False
 | .index t x i=>match P.underlying t,ρ x,ρ i with
  |some .string, .d (.v (.string s)), .d (.v (.int _ n))=>match s[n.toNat]? with
   |some b=>(0<=n)/\k {val:= .d (.v (.int .u8 b.toNat))}
   |none=>False
  |_,_,_=>False
 | .slice t x lo hi mx=>match mx with
  |some _=>False
  |none=>match P.underlying t,ρ x with
   |some .string, .d (.v (.string s))=>match bnd ρ lo 0,bnd ρ hi s.size with
    |some l,some h=>(0<=l/\l<=h/\h<=s.size)/\k {val:= .d (.v (.string (s.extract l.toNat h.toNat)))}
    |_,_=>False
   |some (.slice _), .d (.sl sz rows)=>match bg P t,bnd ρ lo 0,bnd ρ hi rows.length with
    |some (_,sz',_),some l,some h=>(sz'=sz/\0<=l/\l<=h/\h<=rows.length)/\k {val:= .d (.sl sz ((rows.take h.toNat).drop l.toNat))}
    |_,_,_=>False
   |some (.slice _), .vh m len=>match ω m,bg P t,bnd ρ lo 0,bnd ρ hi len with
    |some (.vec _ _ _),some _,some l,some h=>(l=0/\0<=h/\h<=len)/\k {val:= .vh m h.toNat,acc:=[m]}
    |_,_,_,_=>False
   |_,_=>False
 | .extract x i=>match ρ x with
  | .tup vs=>match vs[i]? with
   |some h=>k {val:=h}
   |none=>False
  |_=>False
 | .makeFunc fn first captured=>match fn with
  | .func f=>k {val:= .fn f (first.toList.map ρ) (captured.toList.map ρ)}
  |_=>False
 | .call c=>match c.callee with
  | .value f=>match ρ f with
   | .fn fid first captured=>u_ P fid (first++c.args.toList.map ρ++captured) ω k
   | .d (.v (.func (.func fid) ⟨[]⟩ ⟨[]⟩))=>u_ P fid (c.args.toList.map ρ) ω k
   |_=>False
  | .builtin b=>match b,c.args.toList.map ρ with
   | .len,[x]=>match x with
    | .d (.sl _ rows)=>(cE P c.argTypes.toList=2)/\k {val:= .d (.v (.int .i64 rows.length))}
    | .vh _ n=>(cE P c.argTypes.toList=2)/\k {val:= .d (.v (.int .i64 n))}
    | .mp n=>match ω n with
     |some (.map es)=>(cE P c.argTypes.toList=3)/\k {val:= .d (.v (.int .i64 es.length)),acc:=[n]}
     |_=>False
    | .d (.v (.string s))=>(cE P c.argTypes.toList=1)/\k {val:= .d (.v (.int .i64 s.size))}
    |_=>False
   | .min,[x,y]=>match x,y with
    | .d (.v (.int kx a)), .d (.v (.int _ b))=>k {val:= .d (.v (.int kx (min a b)))}
    |_,_=>False
   | .max,[x,y]=>match x,y with
    | .d (.v (.int kx a)), .d (.v (.int _ b))=>k {val:= .d (.v (.int kx (max a b)))}
    |_,_=>False
   | .append,[x,y]=>match o.dst with
    |none=>False
    |some d=>match c.argTypes.toList with
     |[t,t']=>match bg P t with
      |some (e,sz,bytes)=>match y with
       | .d (.sl sz' news)=>match x with
        | .vh n len=>match ω n with
         |some (.vec e' s' rows)=>
          (t=t'/\e=e'/\sz=s'/\sz=sz'/\len=rows.length/\news.all (λr=>r.all D.one)=true/\(rows.length+news.length) *bytes<=140737488355328/\rows.length+news.length<=1000000000000)/\
          k {val:= .vh (nm d) (len+news.length),acc:=[n],upd:=[(nm d,some (.vec e sz (rows++news))),(n,none)],new:=[nm d]}
         |_=>False
        | .d (.v (.slice none 0 0))=>
          (t=t'/\sz=sz'/\news.all (λr=>r.all D.one)=true/\news.length *bytes<=140737488355328/\news.length<=1000000000000)/\
          k {val:= .vh (nm d) news.length,acc:=[],upd:=[(nm d,some (.vec e sz news))],new:=[nm d]}
        |_=>False
       | .d (.v (.string s))=>match x with
        | .vh n len=>match ω n with
         |some (.vec e' s' rows)=>
          (P.underlying t'=some .string/\mh P e=some (.v (.int .u8 0))/\e=e'/\sz=1/\s'=1/\bytes=1/\len=rows.length/\rows.length+s.size<=1000000000000)/\
          k {val:= .vh (nm d) (len+(Bs.ints s).length),acc:=[n],upd:=[(nm d,some (.vec e 1 (rows++(Bs.ints s).map (row1 .u8)))),(n,none)],new:=[nm d]}
         |_=>False
        | .d (.v (.slice none 0 0))=>
          (P.underlying t'=some .string/\mh P e=some (.v (.int .u8 0))/\sz=1/\bytes=1/\s.size<=1000000000000)/\
          k {val:= .vh (nm d) (Bs.ints s).length,acc:=[],upd:=[(nm d,some (.vec e 1 ((Bs.ints s).map (row1 .u8))))],new:=[nm d]}
        |_=>False
       |_=>False
      |none=>False
     |_=>False
   | .unsafeSliceData,[x]=>match x with
    | .vh n _=>match ω n with
     |some (.vec _ _ _)=>(lJ P o.type=true)/\k {val:= .sd n,acc:=[n]}
     |_=>False
    |_=>False
   | .unsafeString,[x,y]=>match x,y with
    | .sd n, .d (.v (.int ki l))=>match ω n with
     |some (.vec e z rows)=>match pO .u8 rows,c.argTypes.toList with
      |some ns,[pt,_]=>(P.underlying pt=some (.pointer e)/\P.cellsOf e=1/\z=1/\ki= .i64/\l=rows.length/\l<=1000000000000)/\
       k {val:= .d (.v (.string (Bs.bytes ns))),acc:=[n],upd:=[(n,none)]}
      |_,_=>False
     |_=>False
    |_,_=>False
   |_,_=>False
  |_=>False
 |_=>False
end Go.Awp
end
section
namespace Go.Awp
variable [Inhabited GMem]
def ab.app(S:ab)(dst:Option Tmp)(e:Eff):ab:={tmps:=mR dst e.val S.tmps,own:=e.upd++S.own}
theorem aP.dv{E:Env}{M:Mem}{v x:Value}(h:aP E M v (.d (.v x))):v=x:=by
 cases h with
 |d h=>cases h;rfl
theorem aP.dagg{E:Env}{M:Mem}{v:Value}{l:List D}(h:aP E M v (.d (.agg l))):
 ∃cs:Array Value,v= .agg cs/\cs.size=l.length/\∀(i:Nat) (c:Value) (x:D),cs[i]?=some c->l[i]?=some x->bW M c x:=by
 cases h with
 |d h=>cases h with
  |agg cs l hl h=>exact⟨cs,rfl,hl,h⟩
theorem aP.hagg{E:Env}{M:Mem}{v:Value}{l:List H}(h:aP E M v (.agg l)):
 ∃cs:Array Value,v= .agg cs/\cs.size=l.length/\∀(i:Nat) (c:Value) (x:H),cs[i]?=some c->l[i]?=some x->aP E M c x:=by
 cases h with
 |agg cs l hl h=>exact⟨cs,rfl,hl,h⟩
theorem aP.htup{E:Env}{M:Mem}{v:Value}{l:List H}(h:aP E M v (.tup l)):
 ∃cs:Array Value,v= .tuple cs/\cs.size=l.length/\∀(i:Nat) (c:Value) (x:H),cs[i]?=some c->l[i]?=some x->aP E M c x:=by
 cases h with
 |tup cs l hl h=>exact⟨cs,rfl,hl,h⟩
theorem Sim.get{C:Ctx}{E:Env}{M:Mem}{S:ab}{a:Act}{w:World}(h:Sim C E M S a w)(t:Nat):aP E M (a.tmps.getD t undef) (S.get t):=by
 unfold ab.get
 cases hg:gt S.tmps t with
 |none=>exact .junk _
 |some x=>
  obtain⟨v,hv,hr⟩:=h.tmps t x hg
  simpa[hv]using hr
theorem Sim.ev{C:Ctx}{E:Env}{M:Mem}{S:ab}{a:Act}{w:World}(h:Sim C E M S a w)(x:Operand):aP E M (a.eval x) (ev S x):=by
 cases x with
 |tmp t=>exact h.get t
 |const v=>
  cases v<;>simp only[Go.Awp.ev,Act.eval]<;>try exact .d (.v _)
  rename_i cs
  refine .d (.agg cs _ (by simp) λi c x hc hx=> ?_)
  simp at hx
  have hc':cs[i]?=some c:=by simpa using hc
  rw[hc']at hx
  simp at hx
  subst hx
  exact .v c
 |global g=>exact .d (.v _)
 |func f=>exact .fn f #[] #[] [] [] rfl rfl (λi c x hc hx=>by simp at hc) (λi c x hc hx=>by simp at hc)
theorem ap{P:Program}{o:Oper}{a:Act}{w w':World}{K:Act->World->Prop}{Q:Exit->Act->World->Prop}{v:Value}
 (h:(execOp a.eval o).run P w= .ok (.value v) w')(hk:K (a.put o.dst v) w'):o.wp P a w K Q:=by
 unfold Oper.wp;rw[h];exact hk
theorem ja{P:Program}{o:Oper}{a:Act}{w w':World}{K:Act->World->Prop}{Q:Exit->Act->World->Prop}
 (h:(execOp a.eval o).run P w= .ok .skip w')(hk:K (a.put o.dst undef) w'):o.wp P a w K Q:=by
 unfold Oper.wp;rw[h];exact hk
theorem bF(b o n:Nat):(⟨b,o,none⟩:Addr).add n=⟨b,o+n,none⟩:=by
 unfold Addr.add;split<;>simp_all
def jd(C:Ctx)(nm:Nat->Nat)(o:Oper):Prop:=
 ∀(E:Env) (M:Mem) (S:ab) (a:Act) (w:World) (K:Act->World->Prop) (Q:Exit->Act->World->Prop) (k:Eff->Prop),Sim C E M S a w->
  aT C.P nm o (Go.Awp.ev S) S.own? (λe=>(∀d∈e.new,S.fresh d=true/\d<given)/\k e)->
  (∀e E' M' a' w',k e->Sim C E' M' (S.app o.dst e) a' w'->K a' w')->o.wp C.P a w K Q
section
variable {C:Ctx} {nm:Nat->Nat} {o:Oper} (hd:∀d,o.dst=some d->C.wr d)
include hd
theorem Sim.app_val{E:Env}{M:Mem}{S:ab}{a:Act}{w:World}(h:Sim C E M S a w){v:Value}{e:Eff}(hu:e.upd=[])(hx:aP E M v e.val):
 Sim C E M (S.app o.dst e) (a.put o.dst v) w:=by
 have:=h.put o.dst hd hx
 unfold ab.app
 rw[hu]
 exact this
theorem Cy{x:Operand}(ho:o.op= .move x\/o.op= .assign x):jd C nm o:=by
 intro E M S a w K Q k hs hv hK
 refine ap (v:=a.eval x) (w':=w) ?_ ?_
 ·rcases ho with ho|ho<;>simp[execOp,ho]
 ·have hv':k {val:=Go.Awp.ev S x}:=by rcases ho with ho|ho<;>simpa[aT,ho]using hv
  exact hK _ _ _ _ _ hv' (hs.app_val hd rfl (hs.ev x))
theorem It{c x y:Operand}(ho:o.op= .pick c x y):jd C nm o:=by
 intro E M S a w K Q k hs hv hK
 simp only[aT,ho]at hv
 split at hv
 ·rename_i t ht
  have hc:=hs.ev c
  rw[ht]at hc
  have hc:=hc.dv
  refine ap (v:=if t then a.eval x else a.eval y) (w':=w) ?_ ?_
  ·simp[execOp,ho,hc,asBool]
  ·refine hK _ _ _ _ _ hv.2 (hs.app_val hd rfl ?_)
   cases t
   ·exact hs.ev y
   ·exact hs.ev x
 ·exact hv.elim
theorem wj{x:Operand}(ho:o.op= .nilCheck x):jd C nm o:=by
 intro E M S a w K Q k hs hv hK
 simp only[aT,ho]at hv
 have hx:=hs.ev x
 have key:∀ad:Addr,a.eval x= .pointer (some ad)->(execOp a.eval o).run C.P w= .ok (.value (a.eval x)) w:=by
  intro ad h
  simp[execOp,ho,h]
 split at hv
 ·rename_i n off he
  rw[he]at hx
  refine ap (v:=a.eval x) (w':=w) ?_ (hK _ _ _ _ _ hv.2 (hs.app_val hd rfl hx))
  cases hq:a.eval x with
  |_=>(rw[hq]at hx;cases hx<;>simp[execOp,ho,hq])
 ·rename_i n s i off he
  rw[he]at hx
  refine ap (v:=a.eval x) (w':=w) ?_ (hK _ _ _ _ _ hv.2 (hs.app_val hd rfl hx))
  cases hq:a.eval x with
  |_=>(rw[hq]at hx;cases hx<;>simp[execOp,ho,hq])
 ·rename_i cells he
  rw[he]at hx
  refine ap (v:=a.eval x) (w':=w) ?_ (hK _ _ _ _ _ hv.2 (hs.app_val hd rfl hx))
  cases hq:a.eval x with
  |_=>(rw[hq]at hx;cases hx<;>rename_i hx<;>cases hx<;>simp[execOp,ho,hq])
 ·rename_i n b he
  rw[he]at hx
  split at hv
  ·generalize hq:a.eval x=q at hx
   cases hx with
   |np1 n b hE=>
    exact ap (v:=a.eval x) (w':=w) (key _ hq) (hK _ _ _ _ _ hv.2 (hs.app_val hd rfl (by rw[hq];exact .bp n 0 b hE)))
  ·exact hv.elim
 ·exact hv.elim
theorem ur{s:TypeId}{x:Operand}{f:Nat}(ho:o.op= .fieldAddr s x f):jd C nm o:=by
 intro E M S a w K Q k hs hv hK
 simp only[aT,ho]at hv
 have hx:=hs.ev x
 split at hv
 ·rename_i fo hfo
  have key:∀b off,a.eval x= .pointer (some ⟨b,off,none⟩)->(execOp a.eval o).run C.P w= .ok (.value (.pointer (some ⟨b,off+fo,none⟩))) w:=by
   intro b off h
   unfold rm at hfo
   split at hfo
   ·rename_i fs hfs
    split at hfo
    ·rename_i fd hfd
     split at hfo
     ·rename_i i hi
      split at hfo
      ·cases hfo
      ·rename_i hz
       simp at hfo;subst hfo
       simp[execOp,ho,h,Instr.fieldAt,run_underlying hfs,hfd,Instr.sureAddr,fieldPlace,sizeOf,typeInfo,hi,hz,bF]
     ·cases hfo
    ·cases hfo
   ·cases hfo
  split at hv
  ·rename_i n off he
   rw[he]at hx
   generalize hq:a.eval x=q at hx
   cases hx with
   |bp n off b hE=>exact ap (key b off hq) (hK _ _ _ _ _ hv.2 (hs.app_val hd rfl (.bp n (off+fo) b hE)))
  ·rename_i n sz i off he
   rw[he]at hx
   generalize hq:a.eval x=q at hx
   cases hx with
   |ep n sz i off b q0 l c hE hi=>exact ap (key b _ hq) (hK _ _ _ _ _ hv.2 (hs.app_val hd rfl (by rw[Pl];exact .ep n sz i (off+fo) b q0 l c hE hi)))
  ·rename_i cells he
   rw[he]at hx
   generalize hq:a.eval x=q at hx
   cases hx with
   |d hx=>cases hx with
    |rp b off cells c hm h=>
     refine ap (key b off hq) (hK _ _ _ _ _ hv.2.2 (hs.app_val hd rfl (.d ?_)))
     refine .rp b (off+fo) _ (λk=>c (fo+k)) (λk hk=> ?_) λj x hx=> ?_
     ·rw[Pl];exact hm _ (by simp at hk;omega)
     ·rw[OX]at hx
      exact h _ x hx
  ·exact hv.elim
 ·exact hv.elim
end
end Go.Awp
end
section
namespace Go.Awp
variable [Inhabited GMem]
theorem eT:∀{l:List H} {ds:List D},fL l=some ds->ds.length=l.length/\∀i:Nat,l[i]?=(ds[i]?).map H.d
 |[],ds,h=>by simp[fL]at h;subst h;simp
 | .d x::r,ds,h=>by
  simp only[fL]at h
  split at h
  ·rename_i l hl
   simp at h;subst h
   have ih:=eT hl
   refine⟨by simp[ih.1],λi=> ?_⟩
   cases i with
   |zero=>simp
   |succ i=>simpa using ih.2 i
  ·cases h
 | .junk::r,ds,h=>by simp[fL]at h
 | .bp .. ::r,ds,h=>by simp[fL]at h
 | .vh .. ::r,ds,h=>by simp[fL]at h
 | .ep .. ::r,ds,h=>by simp[fL]at h
 | .sv .. ::r,ds,h=>by simp[fL]at h
 | .mp .. ::r,ds,h=>by simp[fL]at h
 | .np .. ::r,ds,h=>by simp[fL]at h
 | .sd .. ::r,ds,h=>by simp[fL]at h
 | .agg .. ::r,ds,h=>by simp[fL]at h
 | .tup .. ::r,ds,h=>by simp[fL]at h
 | .fn .. ::r,ds,h=>by simp[fL]at h
theorem aP.mk_agg{E:Env}{M:Mem}{cs:Array Value}{l:List H}(hl:cs.size=l.length)
 (h:∀(i:Nat) (c:Value) (x:H),cs[i]?=some c->l[i]?=some x->aP E M c x):aP E M (.agg cs) (bA l):=by
 unfold bA
 split
 ·rename_i ds hds
  obtain⟨h1,h2⟩:=eT hds
  refine .d (.agg cs ds (by omega) λi c x hc hx=> ?_)
  have:=h i c (.d x) hc (by rw[h2,hx];rfl)
  cases this with
  |d q=>exact q
 ·exact .agg cs l hl h
theorem aP.cells{E:Env}{M:Mem}{v:Value}{x:H}(h:aP E M v x){l:List H}(hl:x.cells=some l):
 v.cells.size=l.length/\∀(i:Nat) (c:Value) (y:H),v.cells[i]?=some c->l[i]?=some y->aP E M c y:=by
 have one:∀{v:Value} {y:H},v.cells= #[v]->aP E M v y->v.cells.size=[y].length/\∀(i:Nat) (c:Value) (z:H),v.cells[i]?=some c->[y][i]?=some z->aP E M c z:=by
  intro v y hv hy
  rw[hv]
  refine⟨rfl,λi c z hc hz=> ?_⟩
  cases i with
  |zero=>simp at hc hz;subst hc;subst hz;exact hy
  |succ i=>simp at hz
 cases h with
 |d h=>
  cases h with
  |v x=>
   simp only[H.cells]at hl
   split at hl
   ·rename_i hc
    simp at hl;subst hl
    exact one (by cases v<;>first|rfl|simp[ct]at hc) (.d (.v v))
   ·cases hl
  |agg cs ds hd h=>
   simp only[H.cells,Om]at hl
   subst hl
   refine⟨by simpa[Value.cells]using hd,λi c y hc hy=> ?_⟩
   simp only[Oq]at hy
   cases hx:ds[i]? with
   |none=>rw[hx]at hy;cases hy
   |some x=>rw[hx]at hy;simp at hy;subst hy;exact .d (h i c x hc hx)
  |slnil sz=>simp only[H.cells,Om]at hl;subst hl;exact one rfl (.d (.slnil sz))
  |slmt a cap sz=>simp only[H.cells,Om]at hl;subst hl;exact one rfl (.d (.slmt a cap sz))
  |sl b off len cap sz rows c h1 h2 h3 h4 h5=>simp only[H.cells,Om]at hl;subst hl;exact one rfl (.d (.sl b off len cap sz rows c h1 h2 h3 h4 h5))
  |rp b off cells c h1 h2=>simp only[H.cells,Om]at hl;subst hl;exact one rfl (.d (.rp b off cells c h1 h2))
  |ern=>simp only[H.cells,Om]at hl;subst hl;exact one rfl (.d .ern)
  |ere t x=>simp only[H.cells,Om]at hl;subst hl;exact one rfl (.d (.ere t x))
 |junk v=>simp[H.cells]at hl
 |bp n off b h=>simp only[H.cells,Om]at hl;subst hl;exact one rfl (.bp n off b h)
 |vh n len l c a h hl'=>simp only[H.cells,Om]at hl;subst hl;exact one rfl (.vh n len l c a h hl')
 |ep n sz i off b q l c h hi=>simp only[H.cells,Om]at hl;subst hl;exact one rfl (.ep n sz i off b q l c h hi)
 |sv n sz i off b l c h hi=>simp only[H.cells,Om]at hl;subst hl;exact one rfl (.sv n sz i off b l c h hi)
 |sv0 n sz h=>simp only[H.cells,Om]at hl;subst hl;exact one rfl (.sv0 n sz h)
 |mp n r h=>simp only[H.cells,Om]at hl;subst hl;exact one rfl (.mp n r h)
 |np0 n=>simp only[H.cells,Om]at hl;subst hl;exact one rfl (.np0 n)
 |np1 n b h=>simp only[H.cells,Om]at hl;subst hl;exact one rfl (.np1 n b h)
 |sd n p h=>simp only[H.cells,Om]at hl;subst hl;exact one rfl (.sd n p h)
 |agg cs l' h1 h2=>simp only[H.cells,Om]at hl;subst hl;exact⟨h1,h2⟩
 |tup cs l' h1 h2=>simp[H.cells]at hl
 |fn f a b l1 l2 h1 h2 h3 h4=>simp only[H.cells,Om]at hl;subst hl;exact one rfl (.fn f a b l1 l2 h1 h2 h3 h4)
theorem aP.one{E:Env}{M:Mem}{v:Value}{x:H}(h:aP E M v x)(hx:x.one=true):v.oneCell'=true:=by
 cases h with
 |d h=>cases h with
  |v x=>exact hx
  |agg=>simp[H.one,D.one]at hx
  |_=>rfl
 |junk=>simp[H.one]at hx
 |agg=>simp[H.one]at hx
 |tup=>simp[H.one]at hx
 |_=>rfl
theorem run_load{P:Program}{w:World}{t:TypeId}{ag:Bool}{sz:Nat}(ht:bu P t=some (ag,sz)){b off:Nat}{cs:List Value}
 (hc:∀(j:Nat) v,cs[j]?=some v->w.cell? ⟨b,off+j,none⟩=some v):
 (ag=true->cs.length=sz->(loadVar t ⟨b,off,none⟩).run P w= .ok (.agg cs.toArray) w)/\
 (ag=false->∀v,cs[0]?=some v->(loadVar t ⟨b,off,none⟩).run P w= .ok v w):=by
 unfold bu at ht
 split at ht
 ·rename_i d i hd hi
  simp only[Om,OV]at ht
  obtain⟨h1,h2⟩:=ht
  have hagg:(isAgg t).run P w= .ok ag w:=by
   unfold isAgg
   rw[Sem.run_bind,run_underlying hd w]
   subst h1
   cases d<;>simp[qz]
  refine⟨λha hl=> ?_,λha v hv=> ?_⟩
  ·subst ha
   have hl':=run_loadCells_list (P:=P) w ⟨b,off,none⟩ cs (λj v hv=>by rw[bF];exact hc j v hv)
   rw[hl]at hl'
   simp[loadVar,Sem.run_bind,hagg,sizeOf,typeInfo,hi,h2,hl']
  ·subst ha
   have:=hc 0 v hv
   simp only[Pd]at this
   simp[loadVar,Sem.run_bind,hagg,load,Sem.run,this]
 ·cases ht
theorem fl{P:Program}{w:World}{o:Oper}{a:Act}{t:TypeId}{x:Operand}{ad:Addr}(ho:o.op= .load t x)(hx:a.eval x= .pointer (some ad)){v:Value}
 (h:(loadVar t ad).run P w= .ok v w):(execOp a.eval o).run P w= .ok (.value v) w:=by
 simp[execOp,ho,hx,Instr.loadAt,Instr.sureAddr,h]
theorem ie{E:Env}{M:Mem}{P:Program}{w:World}{t:TypeId}{ag:Bool}{sz:Nat}(ht:bu P t=some (ag,sz)){b off:Nat}{cs:List Value}{l:List H}{h:H}
 (hl:cs.length=l.length)(hc:∀(j:Nat) v,cs[j]?=some v->w.cell? ⟨b,off+j,none⟩=some v)
 (hr:∀(i:Nat) (c:Value) (x:H),cs[i]?=some c->l[i]?=some x->aP E M c x)(hh:eX ag sz l=some h):
 ∃v,(loadVar t ⟨b,off,none⟩).run P w= .ok v w/\aP E M v h:=by
 cases ag with
 |true=>
  simp only[eX]at hh
  split at hh
  ·rename_i hle
   simp at hh;subst hh
   refine⟨.agg (cs.take sz).toArray,(run_load ht (λj v hv=> ?_)).1 rfl (by simp;omega),?_⟩
   ·rw[OE]at hv
    split at hv
    ·exact hc j v hv
    ·cases hv
   ·refine aP.mk_agg (by simp;omega) λi c x h1 h2=> ?_
    rw[OE]at h2
    simp[OE]at h1
    split at h2
    ·exact hr i c x h1.2 h2
    ·cases h2
  ·cases hh
 |false=>
  simp only[eX]at hh
  cases l with
  |nil=>simp at hh
  |cons y r=>
   simp at hh;subst hh
   cases cs with
   |nil=>simp at hl
   |cons c cr=>exact⟨c,(run_load ht hc).2 rfl c rfl,hr 0 c y rfl rfl⟩
theorem ic{ag:Bool}{sz:Nat}{l:List D}{x:D}(h:de ag sz l=some x):eX ag sz (l.map H.d)=some (.d x):=by
 have key:∀m:List D,fL (m.map H.d)=some m:=by
  intro m
  induction m with
  |nil=>rfl
  |cons y r ih=>simp[fL,ih]
 cases ag with
 |true=>
  simp only[de]at h
  split at h
  ·rename_i hle
   simp at h;subst h
   simp only[eX,On]
   rw[RS hle,<-Pq,bA,key]
  ·cases h
 |false=>
  simp only[de]at h
  cases l with
  |nil=>simp at h
  |cons y r=>simp at h;subst h;rfl
theorem aJ.box_cell{E:Env}{M:Mem}{w:World}{n:Nat}{o:Option TypeId}{cells:List H}(h:aJ E M w n (.box o cells)){b:Nat}(hE:E n= .pointer (some ⟨b,0,none⟩)):
 ∃(cs:Array Value) (ty:TypeId),w.heap[b]?=some (.cells cs ty (0,0))/\cs.size=cells.length/\
  (∀(i:Nat) (c:Value) (x:H),cs[i]?=some c->cells[i]?=some x->aP E M c x)/\(∀(j:Nat) v,cs[j]?=some v->w.cell? ⟨b,j,none⟩=some v)/\∀t,o=some t->ty=t:=by
 obtain⟨b',cs,ty,h1,h2,h3,h4,h5,h6⟩:=h
 rw[hE]at h1
 simp at h1;subst h1
 exact⟨cs,ty,h2,h3,h4,λj v hv=>by rw[cell_of_row w b j cs ty (0,0) h2];exact hv,h6⟩
section
variable {C:Ctx} {nm:Nat->Nat} {o:Oper} (hd:∀d,o.dst=some d->C.wr d)
include hd
theorem Sim.app_acc{E:Env}{M:Mem}{S:ab}{a:Act}{w:World}(h:Sim C E M S a w){v:Value}{x:H}{l:List Nat}(hx:aP E M v x):
 Sim C E M (S.app o.dst {val:=x,acc:=l}) (a.put o.dst v) w:=h.app_val hd rfl hx
theorem Ir{t:TypeId}{x:Operand}(ho:o.op= .load t x):jd C nm o:=by
 intro E M S a w K Q k hs hv hK
 simp only[aT,ho]at hv
 have hx:=hs.ev x
 split at hv
 ·rename_i ag sz ht
  split at hv
  ·rename_i n off he
   rw[he]at hx
   split at hv
   ·rename_i oty cells hc
    split at hv
    ·rename_i hh hl
     generalize hq:a.eval x=q at hx
     cases hx with
     |bp n off b hE=>
      obtain⟨cs,ty,h1,h2,h3,h4,_⟩:=(hs.own n _ hc).box_cell hE
      obtain⟨v,hr,hrep⟩:=ie (cs:=cs.toList.drop off) (w:=w) (b:=b) (off:=off) ht (by simp[h2]) (λj v hv=>h4 _ v (by simpa using hv)) (λi c y hc hy=>h3 (off+i) c y (by simpa using hc) (by simpa using hy)) hl
      exact ap (fl ho hq hr) (hK _ _ _ _ _ hv.2 (hs.app_acc hd hrep))
    ·exact hv.elim
   ·exact hv.elim
  ·rename_i n s i off he
   rw[he]at hx
   split at hv
   ·rename_i e s' rows hc
    split at hv
    ·rename_i r hr
     split at hv
     ·rename_i y hy
      obtain⟨rfl,hv⟩:=hv
      generalize hq:a.eval x=q at hx
      cases hx with
      |ep n sz i off b q0 l c hE hi=>
       obtain⟨xs,h1,h2,h3,h4⟩:=hs.own n _ hc
       obtain rfl:q0=0:=by
        rcases h1.2 with⟨hn,_⟩|⟨g,cap,cur,hv,_⟩
        ·rw[hE]at hn;cases hn
        ·rw[hE]at hv;simp at hv;exact hv.1.2
       rw[OS]at hq
       have hlr:=h2 r (OA hr)
       have hir:i<rows.length:=(Ol.1 hr).1
       rw[hE]at h1
       have hlc:l=rows.length:=by
        rcases h1.2 with⟨hn,_⟩|⟨g,cap,cur,hv,_⟩
        ·cases hn
        ·simp at hv;exact hv.2.1
       subst hlc
       have hmul:(i+1) *s<=rows.length *s:=OH _ hir
       rw[OY]at hmul
       have hxl:=h1.1
       obtain⟨v,hrun,hrep⟩:=ie (E:=E) (M:=M) (cs:=((xs.drop (i *s)).take s).drop off) (l:=(r.drop off).map H.d) (w:=w) (b:=b) (off:=i *s+off) ht (by simp[hlr,hxl];omega)
        (λj v hv=>by
          rw[OX,OE]at hv
          split at hv
          ·rw[h1.cellAt _ (by omega)]
           rw[OX]at hv
           rw[Pl];exact hv
          ·cases hv)
        (λj c z hc hz=>by
          simp only[Oq,OX]at hz
          cases hz':r[off+j]? with
          |none=>rw[hz']at hz;cases hz
          |some z'=>
           rw[hz']at hz;simp at hz;subst hz
           rw[OX,OE]at hc
           split at hc
           ·rw[OX]at hc
            exact .d (h3 i (off+j) r c z' hr hz' hc)
           ·cases hc) (ic hy)
       exact ap (fl ho hq hrun) (hK _ _ _ _ _ hv.2 (hs.app_acc hd hrep))
     ·exact hv.elim
    ·exact hv.elim
   ·exact hv.elim
  ·rename_i cells he
   rw[he]at hx
   split at hv
   ·rename_i y hy
    generalize hq:a.eval x=q at hx
    cases hx with
    |d hx=>cases hx with
     |rp b off cells c hm h=>
      obtain⟨v,hrun,hrep⟩:=ie (E:=E) (M:=M) (cs:=(P9 cells.length).map c) (l:=cells.map H.d) (w:=w) (b:=b) (off:=off) ht (by simp)
       (λj v hv=>by
         simp only[Oq]at hv
         by_cases hj:j<cells.length
         ·rw[PP hj]at hv
          simp at hv;subst hv
          exact hs.mem _ _ _ (hm j hj)
         ·rw[Qt (by simp;omega)]at hv;cases hv)
       (λj v z hv hz=>by
         simp only[Oq]at hv hz
         cases hz':cells[j]? with
         |none=>rw[hz']at hz;cases hz
         |some z'=>
          have hj:j<cells.length:=(Ol.1 hz').1
          rw[hz']at hz;simp at hz;subst hz
          rw[PP hj]at hv
          simp at hv;subst hv
          exact .d (h j z' hz')) (ic hy)
      exact ap (fl ho hq hrun) (hK _ _ _ _ _ hv.2 (hs.app_acc hd hrep))
   ·exact hv.elim
  ·exact hv.elim
 ·exact hv.elim
end
end Go.Awp
end
section
namespace Go.Awp
variable [Inhabited GMem]
theorem jH{l:List H}(h:l.all H.one=true){i:Nat}{x:H}(hx:l[i]?=some x):x.one=true:=by
 rw[OD]at h;exact h x (OA hx)
theorem qw(n:Nat):∀l:List D,H.hasL n (l.map H.d)=false
 |[]=>by simp[H.hasL]
 |x::r=>by simp[H.hasL,H.has,qw n r]
theorem fa{P:Program}{w:World}{t ty:TypeId}{ag:Bool}{sz:Nat}(ht:bu P t=some (ag,sz)){b off:Nat}{cur:Array Value}(hw:w.heap[b]?=some (.cells cur ty (0,0)))
 {v:Value}(hsz:v.cells.size=sz)(hfit:off+sz<=cur.size)(h1:∀u∈v.cells.toList,u.oneCell'=true):
 (storeVar t ⟨b,off,none⟩ v).run P w= .ok () (w.setRow b (cur.toList.take off++v.cells.toList++cur.toList.drop (off+sz)).toArray):=by
 unfold bu at ht
 split at ht
 ·rename_i d i hd hi
  simp only[Om,OV]at ht
  obtain⟨_,h2⟩:=ht
  have:=run_storeCells_at P b off ty v.cells.toList 0 cur w hw (by simp;omega) h1
  simp only[Pd,PB,hsz]at this
  simp[storeVar,sizeOf,typeInfo,hi,h2,hsz,this]
 ·cases ht
theorem iS{o:Oper}{P:Program}{w w':World}{a:Act}{t:TypeId}{x y:Operand}{ad:Addr}(ho:o.op= .store t x y)(hx:a.eval x= .pointer (some ad))
 (h:(storeVar t ad (a.eval y)).run P w= .ok () w'):(execOp a.eval o).run P w= .ok .skip w':=by
 simp[execOp,ho,hx,Instr.storeAt,Instr.sureAddr,h]
theorem di(w:World)(b:Nat)(cs:Array Value):w.grownBy (w.setRow b cs) (some b):=
 ⟨rfl,rfl,rfl,by simp,λk _ hk=>setRow_other w b k _ (λe=>hk (by rw[e]))⟩
theorem bD{α:Type}(l new:List α)(off i:Nat)(hle:off+new.length<=l.length):
 (l.take off++new++l.drop (off+new.length))[i]?=if i<off then l[i]? else if i<off+new.length then new[i-off]? else l[i]?:=by
 have hto:(l.take off).length=off:=by rw[O1];omega
 by_cases h1:i<off
 ·rw[RS h1,O9,OK (by omega),OE,RS h1]
 ·rw[RR h1]
  by_cases h2:i<off+new.length
  ·rw[RS h2,O9,OI (by omega),hto,OK (by omega)]
  ·rw[RR h2,OI (by rw[OJ,hto];omega),OJ,hto,OX]
   congr 1;omega
section
variable {C:Ctx} {nm:Nat->Nat} {o:Oper} (hd:∀d,o.dst=some d->C.wr d)
include hd
theorem Sim.app_box{E:Env}{M:Mem}{S:ab}{a:Act}{w:World}(h:Sim C E M S a w){n:Nat}{cs:Array Value}{ty:TypeId}{oty:Option TypeId}{cells:List H}(hty:∀t,oty=some t->ty=t)
 (hl:cs.size=cells.length)(hr:∀(i:Nat) (c:Value) (x:H),cs[i]?=some c->cells[i]?=some x->aP E M c x)(hf:S.fresh n=true)(hg:n<given)
 (hcl:Own.has n (.box oty cells)=false):
 Sim C (λm=>if m=n then .pointer (some ⟨w.heap.size,0,none⟩)else E m) M (S.app o.dst {val:= .bp n 0,upd:=[(n,some (.box oty cells))],new:=[n]}) (a.put o.dst (.pointer (some ⟨w.heap.size,0,none⟩))) (w.alloc (.cells cs ty)):=by
 have h1:Sim C (λm=>if m=n then .pointer (some ⟨w.heap.size,0,none⟩)else E m) M {S with own:=(n,some (.box oty cells))::S.own} a (w.alloc (.cells cs ty)):=by
  refine h.own_new (World.grownBy_alloc w _ none) (λm hm=>by simp[hm]) hf hg (λb hb=> ?_) ?_
  ·simp[Own.foot,ak]at hb;omega
  ·refine⟨w.heap.size,cs,ty,by simp,heap_alloc_new w _,hl,λi c x hc hx=> ?_,λk=> ?_,hty⟩
   ·refine(hr i c x hc hx).set ?_
    exact H.hasL_get (by simpa[Own.has]using hcl) hx
   ·cases hm:M w.heap.size k with
    |none=>rfl
    |some v=>have:=h.cell_lt hm;omega
 have h2:=h1.put o.dst hd (aP.bp n 0 w.heap.size (by simp))
 refine h2.weaken (λt x hx=> .inl ?_) (λm p hm=> ?_)
 ·exact hx
 ·exact hm
theorem Ex{t:TypeId}(ho:o.op= .alloc t):jd C nm o:=by
 intro E M S a w K Q k hs hv hK
 simp only[aT,ho]at hv
 split at hv
 ·rename_i z d hz hdst
  obtain⟨hnew,hk⟩:=hv
  unfold gn at hz
  split at hz
  ·rename_i i hi
   split at hz
   ·rename_i zv hzv
    simp at hz;subst hz
    have hn:=hnew (nm d) (by simp)
    refine ap (v:= .pointer (some ⟨w.heap.size,0,none⟩)) (w':=w.alloc (.cells zv.cells t)) ?_ ?_
    ·simp[execOp,ho,Instr.alloc,zeroValue,typeInfo,hi,hzv,newVar,newRow,newObj,Sem.run]
    ·have:=hs.app_box (o:=o) hd (n:=nm d) (cs:=zv.cells) (ty:=t) (oty:=tP t zv.cells.toList) (cells:=zv.cells.toList.map λx=> .d (.v x)) (λt' ht'=>by
      unfold tP at ht'
      split at ht'
      ·simpa using ht'
      ·cases ht') (by simp) (λi c x hc hx=>by
      simp only[Oq]at hx
      have hc':zv.cells.toList[i]?=some c:=by simpa using hc
      rw[hc']at hx;simp at hx;subst hx
      exact .d (.v c)) hn.1 hn.2 (by
       simp only[Own.has]
       induction zv.cells.toList with
       |nil=>simp[H.hasL]
       |cons y r ih=>simp[H.hasL,H.has,ih])
     exact hK _ _ _ _ _ hk (this.weaken (λt x hx=> .inl (by simpa[ab.app]using hx)) (λm p hm=>by simpa[ab.app]using hm))
   ·cases hz
  ·cases hz
 ·exact hv.elim
theorem Kw{t:TypeId}{x:Operand}(ho:o.op= .box t x):jd C nm o:=by
 intro E M S a w K Q k hs hv hK
 simp only[aT,ho]at hv
 split at hv
 ·rename_i cs d hcs hdst
  obtain⟨q,hq,hnew,hk⟩:=hv
  have hn:=hnew (nm d) (by simp)
  have hx:=hs.ev x
  obtain⟨hsz,hcell⟩:=hx.cells hcs
  refine ap (v:= .pointer (some ⟨w.heap.size,0,none⟩)) (w':=w.alloc (.cells (a.eval x).cells t)) ?_ ?_
  ·simp[execOp,ho,Instr.box,newVar,newRow,newObj,Sem.run]
  ·have hfr:H.has (nm d) (Go.Awp.ev S x)=false:=by
    cases x with
    |tmp t=>
     simp only[Go.Awp.ev,ab.get]
     cases hg:gt S.tmps t with
     |none=>simp[H.has]
     |some y=>simpa using ab.fresh_tmp hn.1 hg
    |const v=>cases v<;>simp[Go.Awp.ev,H.has]
    |global g=>simp[Go.Awp.ev,H.has]
    |func f=>simp[Go.Awp.ev,H.has,H.hasL]
   have hcl:Own.has (nm d) (.box none cs)=false:=by
    simp only[Own.has]
    generalize Go.Awp.ev S x=y at hcs hfr
    cases y with
    |d q=>
     cases q with
     |v z=>
      simp only[H.cells]at hcs
      split at hcs
      ·simp at hcs;subst hcs;simp[H.hasL,H.has]
      ·cases hcs
     |agg ds=>
      simp[H.cells]at hcs;subst hcs
      exact qw _ ds
     |sl sz rows=>simp[H.cells]at hcs;subst hcs;simp[H.hasL,H.has]
     |rp cells=>simp[H.cells]at hcs;subst hcs;simp[H.hasL,H.has]
     |er b=>simp[H.cells]at hcs;subst hcs;simp[H.hasL,H.has]
    |junk=>simp[H.cells]at hcs
    |agg l=>simp[H.cells]at hcs;subst hcs;simpa[H.has]using hfr
    |tup l=>simp[H.cells]at hcs
    |bp n o=>simp[H.cells]at hcs;subst hcs;simpa[H.hasL]using hfr
    |vh n o=>simp[H.cells]at hcs;subst hcs;simpa[H.hasL]using hfr
    |ep n s i o=>simp[H.cells]at hcs;subst hcs;simpa[H.hasL]using hfr
    |sv n s i o=>simp[H.cells]at hcs;subst hcs;simpa[H.hasL]using hfr
    |mp n=>simp[H.cells]at hcs;subst hcs;simpa[H.hasL]using hfr
    |np n b=>simp[H.cells]at hcs;subst hcs;simpa[H.hasL]using hfr
    |sd n=>simp[H.cells]at hcs;subst hcs;simpa[H.hasL]using hfr
    |fn f a b=>simp[H.cells]at hcs;subst hcs;simpa[H.hasL]using hfr
   have:=hs.app_box (o:=o) hd (n:=nm d) (cs:=(a.eval x).cells) (ty:=t) (oty:=q) (cells:=cs) (λt' ht'=>by rcases hq with rfl|rfl<;>cases ht';rfl) hsz hcell hn.1 hn.2 hcl
   exact hK _ _ _ _ _ hk (this.weaken (λt x hx=> .inl (by simpa[ab.app]using hx)) (λm p hm=>by simpa[ab.app]using hm))
 ·exact hv.elim
theorem EF{t:TypeId}{x y:Operand}(ho:o.op= .store t x y):jd C nm o:=by
 intro E M S a w K Q k hs hv hK
 simp only[aT,ho]at hv
 have hx:=hs.ev x
 have hy:=hs.ev y
 split at hv
 ·rename_i ag sz ht
  split at hv
  ·rename_i n off cs he hcs
   rw[he]at hx
   obtain⟨hysz,hycell⟩:=hy.cells hcs
   split at hv
   ·rename_i oty cells hc
    obtain⟨⟨hlen,hone,hfit⟩,_,hk⟩:=hv
    generalize hq:a.eval x=q at hx
    cases hx with
    |bp n off b hE=>
     obtain⟨cur,ty,h1,h2,h3,h4,hty⟩:=(hs.own n _ hc).box_cell hE
     have hone':∀u∈(a.eval y).cells.toList,u.oneCell'=true:=by
      intro u hu
      obtain⟨i,hi⟩:=P4.1 hu
      have hi':(a.eval y).cells[i]?=some u:=by simpa using hi
      have hlt:i<cs.length:=by
       have:=(OC.1 hi').1;omega
      exact(hycell i u cs[i] hi' (Ou hlt)).one (jH hone (Ou hlt))
     have hrun:=fa ht h1 (v:=a.eval y) (off:=off) (by omega) (by omega) hone'
     refine ja (iS ho hq hrun) ?_
     have hsp:(cur.toList.take off++(a.eval y).cells.toList++cur.toList.drop (off+sz)).length=cells.length:=by
      simp;omega
     have hmv:=hs.own_step (E':=E) (n:=n) (d:=n) (o':= .box oty (d7 cells off cs)) hc (w':=w.setRow b (cur.toList.take off++(a.eval y).cells.toList++cur.toList.drop (off+sz)).toArray)
      (by rw[hE];exact di w b _) (λ_ _=>rfl) (.inl ⟨rfl,rfl⟩) (λb' hb=> .inl hb)
      (λb' hb=>by have:=hs.block_lt hc hb;simpa[World.setRow]using this)
      ⟨b,_,ty,hE,setRow_heap w b cur _ ty _ h1,by
       rw[P3,hsp];simp[d7];omega,λi c z hcz hz=>by
       have hl1:(a.eval y).cells.toList.length=sz:=by simp;omega
       have e1:=bD cur.toList (a.eval y).cells.toList off i (by rw[hl1];simp;omega)
       have e2:=bD cells cs off i (by omega)
       rw[hl1]at e1
       rw[hlen]at e2
       simp only[d7,hlen]at hz
       rw[Qs,e1]at hcz
       rw[e2]at hz
       split at hcz
       ·rename_i hi;rw[RS hi]at hz
        exact h3 i c z (by simpa using hcz) hz
       ·rename_i hi;rw[RR hi]at hz
        split at hcz
        ·rename_i hi2;rw[RS hi2]at hz
         exact hycell _ c z (by simpa using hcz) hz
        ·rename_i hi2;rw[RR hi2]at hz
         exact h3 i c z (by simpa using hcz) hz,λk=>((hs.own n _ hc).block (b:=b) (by rw[hE];rfl)).2 k,hty⟩
     have hp:=hmv.put o.dst hd (aP.junk undef)
     refine hK _ _ _ _ _ hk (hp.weaken (λt x hx=> .inl hx) (λm p hm=> ?_))
     simp only[ab.own?,ab.app,OG,OM,af]at hm⊢
     by_cases hnm:n=m
     ·rw[RS hnm]at hm⊢;exact hm
     ·rw[RR hnm]at hm⊢;rw[RR hnm];exact hm
   ·exact hv.elim
  ·rename_i n s i off cs he hcs
   rw[he]at hx
   obtain⟨hysz,hycell⟩:=hy.cells hcs
   split at hv
   ·rename_i e s' rows hc
    split at hv
    ·rename_i r ds hr hds
     obtain⟨⟨rfl,hlen,hone,hfit⟩,_,hk⟩:=hv
     obtain⟨hdl,hdg⟩:=eT hds
     generalize hq:a.eval x=q at hx
     cases hx with
     |ep n sz' i off b q0 l c hE hi=>
      have hown:=hs.own n _ hc
      obtain⟨xs,h1,h2,h3,h4⟩:=hown
      obtain rfl:q0=0:=by
       rcases h1.2 with⟨hn,_⟩|⟨g,cap,cur,hv,_⟩
       ·rw[hE]at hn;cases hn
       ·rw[hE]at hv;simp at hv;exact hv.1.2
      rw[OS]at hq
      have hlr:=h2 r (OA hr)
      have hir:i<rows.length:=(Ol.1 hr).1
      have hlc:l=rows.length:=by
       rcases h1.2 with⟨hn,_⟩|⟨g,cap,cur,hv,_⟩
       ·rw[hE]at hn;cases hn
       ·rw[hE]at hv;simp at hv;exact hv.2.1
      subst hlc
      rcases h1.2 with⟨hn,_⟩|⟨g,cap,cur,hv,hbg,hg,hnc,hcm,hcs',htake⟩
      ·rw[hE]at hn;cases hn
      rw[hE]at hv
      simp only[Value.slice.injEq,Om,Addr.mk.injEq,and_true,true_and]at hv
      obtain⟨rfl,rfl⟩:=hv
      have hmul:(i+1) *s<=rows.length *s:=OH _ hir
      have hmul2:rows.length *s<=c *s:=OH _ hnc
      rw[OY]at hmul
      have hone':∀u∈(a.eval y).cells.toList,u.oneCell'=true:=by
       intro u hu
       obtain⟨j,hj⟩:=P4.1 hu
       have hj':(a.eval y).cells[j]?=some u:=by simpa using hj
       have hlt:j<cs.length:=by
        have:=(OC.1 hj').1;omega
       exact(hycell j u cs[j] hj' (Ou hlt)).one (jH hone (Ou hlt))
      have hrun:=fa ht hg (v:=a.eval y) (off:=i *s+off) (by omega) (by omega) hone'
      refine ja (iS ho hq hrun) ?_
      have hl1:(a.eval y).cells.toList.length=sz:=by simp;omega
      have hmv:=hs.own_step (E':=E) (n:=n) (d:=n) (o':= .vec e s (rows.set i (r.take off++ds++r.drop (off+ds.length)))) hc
       (w':=w.setRow b (cur.toList.take (i *s+off)++(a.eval y).cells.toList++cur.toList.drop (i *s+off+sz)).toArray)
       (by rw[hE];exact di w b _) (λ_ _=>rfl) (.inl ⟨rfl,rfl⟩) (λb' hb=> .inl hb)
       (λb' hb=>by have:=hs.block_lt hc hb;simpa[World.setRow]using this)
       ⟨(cur.toList.take (i *s+off)++(a.eval y).cells.toList++cur.toList.drop (i *s+off+sz)).take (rows.length *s),by
        rw[Pi]
        refine⟨by simp;omega, .inr ⟨b,c,_,hE,hbg,setRow_heap w b cur _ e _ hg,hnc,hcm,?_,rfl⟩⟩
        simp;omega,
        λr' hr'=>by
         rcases Qg hr' with h|h
         ·exact h2 r' h
         ·subst h;simp;omega,
        (λi' j r' c' z hr' hz hcc=>by
          have e1:=bD cur.toList (a.eval y).cells.toList (i *s+off) (i' *s+j) (by rw[hl1];simp only[PB];omega)
          rw[hl1]at e1
          rw[OE]at hcc
          split at hcc
          ·rename_i hlt
           rw[e1]at hcc
           have old:∀q:Nat,q<rows.length *s->cur.toList[q]?=xs[q]?:=by
            intro q hq;rw[<-htake,OE,RS hq]
           rw[Pa]at hr'
           split at hr'
           ·rename_i hii
            subst hii
            simp only[Om]at hr';subst hr'
            have e2:=bD r ds off j (by omega)
            rw[e2]at hz
            split at hz
            ·rename_i hj
             rw[RS (by omega)]at hcc
             exact h3 i j r c' z hr hz (by rw[<-old _ (by omega)];exact hcc)
            ·rename_i hj
             split at hz
             ·rename_i hj2
              rw[RR (by omega),RS (by omega)]at hcc
              have h5:(a.eval y).cells[j-off]?=some c':=by
               have:i *s+j-(i *s+off)=j-off:=by omega
               rw[this]at hcc;simpa using hcc
              have:=hycell (j-off) c' (.d z) h5 (by rw[hdg,hz];rfl)
              cases this with
              |d q=>exact q
             ·rename_i hj2
              rw[RR (by omega),RR (by omega)]at hcc
              exact h3 i j r c' z hr hz (by rw[<-old _ (by omega)];exact hcc)
           ·rename_i hii
            have hrl:=h2 r' (OA hr')
            have hjl:j<s:=by have:=(Ol.1 hz).1;omega
            have hout:i' *s+j<i *s+off\/i *s+off+sz<=i' *s+j:=by
             rcases Nat.lt_or_gt_of_ne hii with h|h
             ·right
              have:(i+1) *s<=i' *s:=OH _ h
              rw[OY]at this;omega
             ·left
              have:(i'+1) *s<=i *s:=OH _ h
              rw[OY]at this;omega
            have hcc':cur.toList[i' *s+j]?=some c':=by
             rcases hout with h|h
             ·rw[RS h]at hcc;exact hcc
             ·rw[RR (by omega),RR (by omega)]at hcc;exact hcc
            exact h3 i' j r' c' z hr' hz (by rw[<-old _ hlt];exact hcc')
          ·cases hcc),
        λb' hb'=>h4 b' hb'⟩
      have hp:=hmv.put o.dst hd (aP.junk undef)
      refine hK _ _ _ _ _ hk (hp.weaken (λt x hx=> .inl hx) (λm p hm=> ?_))
      simp only[ab.own?,ab.app,OG,OM,af]at hm⊢
      by_cases hnm:n=m
      ·rw[RS hnm]at hm⊢;exact hm
      ·rw[RR hnm]at hm⊢;rw[RR hnm];exact hm
    ·exact hv.elim
   ·exact hv.elim
  ·exact hv.elim
 ·exact hv.elim
end
end Go.Awp
end
section
namespace Go.Awp
variable [Inhabited GMem]
theorem aP.toD'{E:Env}{M:Mem}{v:Value}{x:D}(h:aP E M v (.d x)):bW M v x:=by
 cases h with
 |d h=>exact h
theorem zx{P:Program}{w:World}{op:BinOp}{t:TypeId}{k:IntKind}{x y:Int}{v:Value}(h:oh op k x y=some v):
 (binOp op t (.int k x) (.int k y)).run P w= .ok v w:=by
 cases op<;>simp only[oh,Om]at h<;>first|(subst h;simp[binOp,Op.intArith,Op.intCmp];done)|(subst h;simp[binOp,Op.intBits,Bs.iand,Bs.ior,Bs.ixor,Bs.iandn];done)|cases h
theorem fk{P:Program}{w:World}{op:BinOp}{t:TypeId}{x y:Operand}{k k':IntKind}{a b:Int}:(eqGuard op t x y (.int k a) (.int k' b)).run P w= .ok () w:=by
 unfold eqGuard;cases op<;>rfl
theorem mr{P:Program}{w:World}{op:BinOp}{t:TypeId}{x y:Operand}{a b:Bool}:(eqGuard op t x y (.bool a) (.bool b)).run P w= .ok () w:=by
 unfold eqGuard;cases op<;>rfl
theorem eA{P:Program}{w:World}{op:BinOp}{t:TypeId}{x y:Operand}{a b:ByteArray}:(eqGuard op t x y (.string a) (.string b)).run P w= .ok () w:=by
 unfold eqGuard;cases op<;>rfl
theorem E3{P:Program}{w:World}{op:BinOp}{t:TypeId}{a b:ByteArray}{c:Bool}(h:Bs.scmp op a b=some c):(binOp op t (.string a) (.string b)).run P w= .ok (.bool c) w:=by
 cases op<;>simp only[Bs.scmp,Om]at h<;>first|(subst h;simp[binOp,Op.stringOp,Bs.blt];done)|cases h
theorem g5{P:Program}{w:World}{t:TypeId}(d:Nat)(a b:Bool)(hu:P.underlying t=some .bool):(Op.equalIn (d+1) t (.bool a) (.bool b)).run P w= .ok (a==b) w:=by
 simp only[Op.equalIn,Sem.run_bind,run_underlying hu,Result.andThen_ok];rfl
theorem sm{P:Program}{w:World}{t:TypeId}{a b:Bool}(hu:P.underlying t=some .bool):(binOp .eql t (.bool a) (.bool b)).run P w= .ok (.bool (a==b)) w:=by
 have h:=g5 (w:=w) 9999 a b hu
 simp only[binOp,Op.equal,Op.maxDepth,Sem.run_bind,h,Result.andThen_ok];rfl
theorem sn{P:Program}{w:World}{t:TypeId}{a b:Bool}(hu:P.underlying t=some .bool):(binOp .neq t (.bool a) (.bool b)).run P w= .ok (.bool (!(a==b))) w:=by
 have h:=g5 (w:=w) 9999 a b hu
 simp only[binOp,Op.equal,Op.maxDepth,Sem.run_bind,h,Result.andThen_ok];rfl
theorem eU{P:Program}{w:World}{op:BinOp}{t:TypeId}{x y:Operand}{a b:Option Addr}{n c n' c':Nat}:(eqGuard op t x y (.slice a n c) (.slice b n' c')).run P w= .ok () w:=by
 unfold eqGuard;cases op<;>rfl
theorem gl{P:Program}{w:World}{t:TypeId}(d:Nat)(a:Option Addr)(n c:Nat)(hu:isSl P t=true):(Op.equalIn (d+1) t (.slice a n c) (.slice none 0 0)).run P w= .ok a.isNone w:=by
 unfold isSl at hu
 split at hu
 ·rename_i e he
  cases a with
  |none=>simp only[Op.equalIn,Sem.run_bind,run_underlying he,Result.andThen_ok];rfl
  |some a=>simp only[Op.equalIn,Sem.run_bind,run_underlying he,Result.andThen_ok];rfl
 ·cases hu
theorem ld{P:Program}{w:World}{t:TypeId}{a:Option Addr}{n c:Nat}(hu:isSl P t=true):(binOp .eql t (.slice a n c) (.slice none 0 0)).run P w= .ok (.bool a.isNone) w:=by
 have h:=gl (w:=w) 9999 a n c hu
 simp only[binOp,Op.equal,Op.maxDepth,Sem.run_bind,h,Result.andThen_ok];rfl
theorem lg{P:Program}{w:World}{t:TypeId}{a:Option Addr}{n c:Nat}(hu:isSl P t=true):(binOp .neq t (.slice a n c) (.slice none 0 0)).run P w= .ok (.bool (!a.isNone)) w:=by
 have h:=gl (w:=w) 9999 a n c hu
 simp only[binOp,Op.equal,Op.maxDepth,Sem.run_bind,h,Result.andThen_ok];rfl
theorem gu{P:Program}{w:World}{op:BinOp}{t:TypeId}{x y:Operand}{a b:Option Addr}:(eqGuard op t x y (.pointer a) (.pointer b)).run P w= .ok () w:=by
 unfold eqGuard;cases op<;>rfl
theorem dX{P:Program}{w:World}{t:TypeId}(d:Nat)(a:Option Addr)(hu:lJ P t=true):(Op.equalIn (d+1) t (.pointer a) (.pointer none)).run P w= .ok a.isNone w:=by
 unfold lJ at hu
 split at hu
 ·rename_i e he
  cases a with
  |none=>simp only[Op.equalIn,Sem.run_bind,run_underlying he,Result.andThen_ok];rfl
  |some a=>simp only[Op.equalIn,Sem.run_bind,run_underlying he,Result.andThen_ok];rfl
 ·cases hu
theorem ww{P:Program}{w:World}{t:TypeId}{a:Option Addr}(hu:lJ P t=true):(binOp .eql t (.pointer a) (.pointer none)).run P w= .ok (.bool a.isNone) w:=by
 have h:=dX (w:=w) 9999 a hu
 simp only[binOp,Op.equal,Op.maxDepth,Sem.run_bind,h,Result.andThen_ok];rfl
theorem wy{P:Program}{w:World}{t:TypeId}{a:Option Addr}(hu:lJ P t=true):(binOp .neq t (.pointer a) (.pointer none)).run P w= .ok (.bool (!a.isNone)) w:=by
 have h:=dX (w:=w) 9999 a hu
 simp only[binOp,Op.equal,Op.maxDepth,Sem.run_bind,h,Result.andThen_ok];rfl
theorem vE{P:Program}{w:World}{op:BinOp}{t:TypeId}{x:Operand}:(eqGuard op t x (.const .nilIface) .nilIface .nilIface).run P w= .ok () w:=by
 unfold eqGuard;cases op<;>cases x<;>rfl
theorem vD{P:Program}{w:World}{op:BinOp}{t t':TypeId}{x y:Operand}{v:Value}:(eqGuard op t x y (.iface t' v) .nilIface).run P w= .ok () w:=by
 unfold eqGuard;cases op<;>rfl
theorem jD{P:Program}{w:World}{t:TypeId}(d:Nat){v:Value}{M:Mem}{b:Bool}(hv:bW M v (.er b))(hu:Hx P t=true):(Op.equalIn (d+1) t v .nilIface).run P w= .ok (!b) w:=by
 unfold Hx at hu
 split at hu
 ·rename_i e he
  cases hv with
  |ern=>simp only[Op.equalIn,Sem.run_bind,run_underlying he,Result.andThen_ok];rfl
  |ere t' x=>simp only[Op.equalIn,Sem.run_bind,run_underlying he,Result.andThen_ok];rfl
 ·cases hu
theorem zy{P:Program}{w:World}{t:TypeId}{v:Value}{M:Mem}{b:Bool}(hv:bW M v (.er b))(hu:Hx P t=true):(binOp .eql t v .nilIface).run P w= .ok (.bool (!b)) w:=by
 have h:=jD (w:=w) 9999 hv hu
 cases hv<;>(simp only[binOp,Op.equal,Op.maxDepth,Sem.run_bind,h,Result.andThen_ok];rfl)
theorem zz{P:Program}{w:World}{t:TypeId}{v:Value}{M:Mem}{b:Bool}(hv:bW M v (.er b))(hu:Hx P t=true):(binOp .neq t v .nilIface).run P w= .ok (.bool (!(!b))) w:=by
 have h:=jD (w:=w) 9999 hv hu
 cases hv<;>(simp only[binOp,Op.equal,Op.maxDepth,Sem.run_bind,h,Result.andThen_ok];rfl)
theorem mG(s:ByteArray):∀(n i:Nat) (acc:Array Value),Conv.runesFrom s n i acc=acc++((Bs.runesAt s n i).map (Value.int .i32)).toArray
 |0,_,acc=>by simp[Conv.runesFrom,Bs.runesAt]
 |n+1,i,acc=>by
  unfold Conv.runesFrom Bs.runesAt
  split
  ·show Conv.runesFrom s n (i+(Utf8.decode s i).2) (acc.push (.int .i32 (Int.ofNat (Utf8.decode s i).1)))=_
   rw[mG s n]
   simp
  ·simp
theorem iU{k:IntKind}:∀{rows:List (List D)} {ns:List Int},pO k rows=some ns->rows=ns.map (row1 k)
 |[],ns,h=>by simp[pO]at h;subst h;rfl
 |r::rest,ns,h=>by
  unfold pO at h
  split at h
  ·rename_i heq;cases heq
  ·rename_i k' n r' heq
   simp only[PF]at heq
   obtain⟨rfl,rfl⟩:=heq
   split at h
   ·rename_i hk
    split at h
    ·rename_i l hl
     simp only[Om]at h
     subst h;subst hk
     rw[iU hl];rfl
    ·cases h
   ·cases h
  ·cases h
theorem yQ(ns:List Int):∀s:ByteArray,ns.foldl (λr n=>r.push (Rq n.toNat)) s=s++Bs.bytes ns:=by
 induction ns with
 |nil=>intro s;simp[Bs.bytes];apply QW;simp
 |cons n ns ih=>
  intro s
  rw[Rp,ih]
  apply QW
  simp[Bs.bytes,ByteArray.push]
theorem bW.ints{M:Mem}{v:Value}{k:IntKind}{ns:List Int}(h:bW M v (.sl 1 (ns.map (row1 k)))):
 (v= .slice none 0 0/\ns=[])\/(∃a cap,v= .slice (some a) 0 cap/\ns=[])\/∃b off cap,v= .slice (some ⟨b,off,none⟩) ns.length cap/\∀(j:Nat) (n:Int),ns[j]?=some n->M b (off+j)=some (.int k n):=by
 generalize hq:D.sl 1 (ns.map (row1 k))=q at h
 cases h with
 |slnil sz=>simp only[D.sl.injEq]at hq;exact .inl ⟨rfl,by simpa using hq.2⟩
 |slmt a cap sz=>simp only[D.sl.injEq]at hq;exact .inr (.inl ⟨a,cap,rfl,by simpa using hq.2⟩)
 |sl b off len cap sz rows c hlen hcap hsz hm hc=>
  simp only[D.sl.injEq]at hq
  obtain⟨rfl,rfl⟩:=hq
  refine .inr (.inr ⟨b,off,cap,by rw[hlen];simp,λj n hj=> ?_⟩)
  have hlt:j<ns.length:=(Ol.1 hj).1
  have h1:=hm j (by rw[hlen];simpa using hlt)
  have h2:=hc j 0 (row1 k n) (.v (.int k n)) (by rw[Oq,hj];rfl) rfl
  simp only[Qn,Pd]at h2
  rw[h1]
  generalize c j=u at h2
  cases h2
  rfl
 |v x=>cases hq
 |agg cs l hl h=>cases hq
 |rp b off cells c hm h=>cases hq
 |ern=>cases hq
 |ere t x=>cases hq
theorem qy{P:Program}{w:World}{k:IntKind}{b off:Nat}{ns:List Int}(h:∀(j:Nat) (n:Int),ns[j]?=some n->w.cell? ⟨b,off+j,none⟩=some (.int k n)):
 (loadCells ⟨b,off,none⟩ ns.length).run P w= .ok (ns.map (Value.int k)).toArray w:=by
 have:=run_loadCells_list (P:=P) w ⟨b,off,none⟩ (ns.map (Value.int k)) λj v hv=>by
  rw[Oq,OB]at hv
  obtain⟨n,hn,rfl⟩:=hv
  rw[bF];exact h j n hn
 simpa using this
section
variable {C:Ctx} {nm:Nat->Nat} {o:Oper} (hd:∀d,o.dst=some d->C.wr d)
include hd
theorem Ey{op:BinOp}{t t':TypeId}{x y:Operand}(ho:o.op= .binOp op t x y t'):jd C nm o:=by
 intro E M S a w K Q k hs hv hK
 simp only[aT,ho]at hv
 have hx:=hs.ev x
 have hy:=hs.ev y
 have fin:∀(va vb r:Value),a.eval x=va->a.eval y=vb->(eqGuard op t x y va vb).run C.P w= .ok () w->(binOp op t va vb).run C.P w= .ok r w->k {val:= .d (.v r)}->o.wp C.P a w K Q:=by
  intro va vb r h1 h2 h3 h5 hk
  refine ap (v:=r) (w':=w) ?_ (hK _ _ _ _ _ hk (hs.app_val hd rfl (.d (.v r))))
  simp[execOp,ho,h1,h2,h3,h5]
 split at hv
 ·rename_i kx m ky n hex hey
  rw[hex]at hx;rw[hey]at hy
  have hx:=hx.dv;have hy:=hy.dv
  split at hv
  ·rename_i v hb
   obtain⟨rfl,hv⟩:=hv
   exact fin _ _ v hx hy fk (zx hb) hv.2
  ·split at hv
   ·obtain⟨⟨rfl,hz⟩,hv⟩:=hv
    exact fin _ _ _ hx hy fk (by simp[binOp,Op.intDiv,hz]) hv.2
   ·obtain⟨⟨rfl,hz⟩,hv⟩:=hv
    exact fin _ _ _ hx hy fk (by simp[binOp,Op.intDiv,hz]) hv.2
   ·obtain⟨hz,hv⟩:=hv
    exact fin _ _ _ hx hy fk (by simp[binOp,Op.shift,Int.not_lt.2 hz,Bs.ishl]) hv.2
   ·obtain⟨hz,hv⟩:=hv
    exact fin _ _ _ hx hy fk (by simp[binOp,Op.shift,Int.not_lt.2 hz,Bs.ishr]) hv.2
   ·exact hv.elim
 ·rename_i m n hex hey
  rw[hex]at hx;rw[hey]at hy
  have hx:=hx.dv;have hy:=hy.dv
  split at hv
  ·obtain⟨hu,hv⟩:=hv
   exact fin _ _ _ hx hy mr (sm hu) hv.2
  ·obtain⟨hu,hv⟩:=hv
   exact fin _ _ _ hx hy mr (sn hu) hv.2
  ·exact hv.elim
 ·rename_i m n hex hey
  rw[hex]at hx;rw[hey]at hy
  have hx:=hx.dv;have hy:=hy.dv
  split at hv
  ·exact fin _ _ _ hx hy eA (by simp[binOp,Op.stringOp]) hv.2
  ·exact fin _ _ _ hx hy eA (by simp[binOp,Op.stringOp]) hv.2
  ·obtain⟨hle,hv⟩:=hv
   refine fin _ _ _ hx hy eA ?_ hv.2
   have h63:¬(((m.size+n.size:Nat):Int)>IntKind.i64.max):=by
    have:IntKind.i64.max=9223372036854775807:=by decide
    rw[this];omega
   simp only[binOp,Op.stringOp]
   rw[RR h63]
   rfl
  ·split at hv
   ·rename_i hq
    exact fin _ _ _ hx hy eA (E3 hq) hv.2
   ·exact hv.elim
 ·rename_i ad n c hex hey
  rw[hex]at hx;rw[hey]at hy
  have hx:=hx.dv;have hy:=hy.dv
  split at hv
  ·obtain⟨hu,hv⟩:=hv
   exact fin _ _ _ hx hy eU (ld hu) hv.2
  ·obtain⟨hu,hv⟩:=hv
   exact fin _ _ _ hx hy eU (lg hu) hv.2
  ·exact hv.elim
 ·rename_i sz r rs hex hey
  rw[hex]at hx;rw[hey]at hy
  have hy:=hy.dv
  obtain⟨ad,n,c,hx⟩:∃(ad:Addr) (n c:Nat),a.eval x= .slice (some ad) n c:=by
   generalize a.eval x=u at hx
   cases hx with
   |d hd=>cases hd with
    |sl b off len cap _ _ _=>exact⟨_,_,_,rfl⟩
  split at hv
  ·obtain⟨hu,hv⟩:=hv
   exact fin _ _ _ hx hy eU (ld hu) hv.2
  ·obtain⟨hu,hv⟩:=hv
   exact fin _ _ _ hx hy eU (lg hu) hv.2
  ·exact hv.elim
 ·rename_i n b hex hey
  rw[hex]at hx;rw[hey]at hy
  have hy:=hy.dv
  obtain⟨p,hx,hb⟩:∃p:Option Addr,a.eval x= .pointer p/\p.isNone= !b:=by
   generalize a.eval x=u at hx
   cases hx with
   |np0=>exact⟨_,rfl,rfl⟩
   |np1=>exact⟨_,rfl,rfl⟩
  split at hv
  ·obtain⟨hu,hv⟩:=hv
   exact fin _ _ _ hx hy gu (ww hu) (by rw[hb];exact hv.2)
  ·obtain⟨hu,hv⟩:=hv
   exact fin _ _ _ hx hy gu (wy hu) (by rw[hb,Bool.not_not];exact hv.2)
  ·exact hv.elim
 ·rename_i b hex hey
  rw[hex]at hx;rw[hey]at hy
  have hy:=hy.dv
  have hx:=hx.toD'
  have hg:∀op,y= .const .nilIface->(eqGuard op t x y (a.eval x) .nilIface).run C.P w= .ok () w:=by
   intro op hyc
   subst hyc
   generalize a.eval x=u at hx
   cases hx with
   |ern=>exact vE
   |ere t' v=>exact vD
  split at hv
  ·obtain⟨⟨hu,hyc⟩,hv⟩:=hv
   exact fin _ _ _ rfl hy (hg _ hyc) (zy hx hu) hv.2
  ·obtain⟨⟨hu,hyc⟩,hv⟩:=hv
   exact fin _ _ _ rfl hy (hg _ hyc) (zz hx hu) (by rw[Bool.not_not];exact hv.2)
  ·exact hv.elim
 ·exact hv.elim
theorem Iu{op:UnOp}{t:TypeId}{x:Operand}(ho:o.op= .unOp op t x):jd C nm o:=by
 intro E M S a w K Q k hs hv hK
 simp only[aT,ho]at hv
 have hx:=hs.ev x
 split at hv
 ·rename_i b he
  rw[he]at hx;have hx:=hx.dv
  exact ap (v:= .bool (!b)) (w':=w) (by simp[execOp,ho,hx,Op.unary]) (hK _ _ _ _ _ hv.2 (hs.app_val hd rfl (.d (.v _))))
 ·rename_i ki n he
  rw[he]at hx;have hx:=hx.dv
  exact ap (v:= .int ki (ki.wrap (0-n))) (w':=w) (by simp[execOp,ho,hx,Op.unary,Op.intArith]) (hK _ _ _ _ _ hv.2 (hs.app_val hd rfl (.d (.v _))))
 ·exact hv.elim
theorem zc{s t:TypeId}{x:Operand}(ho:o.op= .convert s t x):jd C nm o:=by
 intro E M S a w K Q k hs hv hK
 simp only[aT,ho]at hv
 have hx:=hs.ev x
 split at hv
 ·rename_i ds ki kk n h1 h2 he
  rw[he]at hx;have hx:=hx.dv
  refine ap (v:= .int ki (ki.wrap n)) (w':=w) ?_ (hK _ _ _ _ _ hv.2 (hs.app_val hd rfl (.d (.v _))))
  cases ds<;>simp[execOp,ho,hx,convert,run_underlying h1,run_underlying h2,Conv.intToInt]
 ·rename_i ds kk n h1 h2 he
  rw[he]at hx;have hx:=hx.dv
  refine ap (v:= .string (Bs.enc1 n)) (w':=w) ?_ (hK _ _ _ _ _ hv.2 (hs.app_val hd rfl (.d (.v _))))
  cases ds<;>simp[execOp,ho,hx,convert,run_underlying h1,run_underlying h2,Conv.intToString,Bs.enc1]
 ·rename_i e s' h1 h2 he
  rw[he]at hx;have hx:=hx.dv
  split at hv
  ·rename_i d hu hdst
   obtain⟨hsz,hnw,hk⟩:=hv
   have hn:=hnw (nm d) (by simp)
   have hrf:Conv.runesFrom s' s'.size 0 #[]=((Bs.runes s').map (Value.int .i32)).toArray:=by rw[mG];simp[Bs.runes]
   have hrs:(Conv.runesFrom s' s'.size 0 #[]).size=(Bs.runes s').length:=by rw[hrf];simp
   have hr:=run_runes_of_string (P:=C.P) w s t e s' h1 h2 hu (by rw[hrs];omega)
   rw[hrs,hrf]at hr
   have hge:=grownCap_ge w (Bs.runes s').length 0 e
   have hle:=grownCap_le_maxLen w (Bs.runes s').length 0 e (by have:(1000000000000:Nat)<=maxLen:=(by decide);omega)
   generalize hcap:grownCap w (Bs.runes s').length 0 e=cap at hr hge hle
   refine ap (v:= .slice (some ⟨w.heap.size,0,none⟩) (Bs.runes s').length cap) (w':=w.drew.alloc (.cells (((Bs.runes s').map (Value.int .i32)).toArray++Qj (cap-(Bs.runes s').length) (.int .i32 0)) e)) (by simp[execOp,ho,hx,hr]) ?_
   have hnew:∀(k:Nat),M w.heap.size k=none:=by
    intro k
    cases hm:M w.heap.size k with
    |none=>rfl
    |some v=>have:=hs.cell_lt hm;omega
   have h1:=hs.drew.own_new (E':=λm=>if m=nm d then .slice (some ⟨w.heap.size,0,none⟩) (Bs.runes s').length cap else E m) (d:=nm d) (o':= .vec e 1 ((Bs.runes s').map (row1 .i32)))
    (World.grownBy_alloc w.drew (.cells (((Bs.runes s').map (Value.int .i32)).toArray++Qj (cap-(Bs.runes s').length) (.int .i32 0)) e) none)
    (λm hm=>by simp[hm]) hn.1 hn.2 (λb hb=>by
      have:w.drew.heap.size=w.heap.size:=rfl
      simp[Own.foot,ak]at hb;omega)
    ⟨(Bs.runes s').map (Value.int .i32),⟨by simp, .inr ⟨w.heap.size,cap,_,by simp,Pu _,heap_alloc_new w.drew _,by simpa using hge,hle,by simp;omega,by simp⟩⟩,λr hr=>by
      obtain⟨n,_,rfl⟩:=OT.1 hr;rfl,λi j r c x hr hx hc=>by
      rw[Oq,OB]at hr
      obtain⟨n,hn',rfl⟩:=hr
      cases j with
      |zero=>
       simp only[row1,PW,Om]at hx
       subst hx
       simp only[Qn,Pd,Oq,hn',OW,Om]at hc
       subst hc;exact .v _
      |succ j=>simp[row1]at hx,λb hb k=>by simp[Own.foot,ak]at hb;subst hb;exact hnew k⟩
   have h2:=h1.put o.dst hd (aP.vh (nm d) (Bs.runes s').length _ cap (some ⟨w.heap.size,0,none⟩) (by simp) (OO _))
   exact hK _ _ _ _ _ hk (by rw[hdst]at h2⊢;exact h2.weaken (λt x hx=> .inl hx) (λm p hm=>hm))
  ·rename_i hu
   have hr:=Lib.run_convert_string_bytes (P:=C.P) w s t e s' h1 h2 hu
   have hnew:∀(k:Nat),M w.heap.size k=none:=by
    intro k
    cases hm:M w.heap.size k with
    |none=>rfl
    |some v=>have:=hs.cell_lt hm;omega
   have hg:w.grownBy (Lib.bytesWorld w e s') none:=⟨rfl,rfl,rfl,by rw[Lib.bytesWorld_size];omega,λk hk _=>Lib.bytesWorld_at_old w e s' k hk⟩
   have hle:Mem.le M (λb k=>if b=w.heap.size then(if k<s'.size then some (.int .u8 (s'.data.toList.getD k 0).toNat)else none)else M b k):=by
    intro b k v hv
    by_cases hb:b=w.heap.size
    ·subst hb;rw[hnew]at hv;cases hv
    ·simp[hb,hv]
   have h1:Sim C E (λb k=>if b=w.heap.size then(if k<s'.size then some (.int .u8 (s'.data.toList.getD k 0).toNat)else none)else M b k) S a (Lib.bytesWorld w e s'):=by
    refine hs.ro_new hg hle (λb k v hv=> ?_) (λb k v hv hb=> ?_)
    ·by_cases hb:b=w.heap.size
     ·right;omega
     ·left;simpa[hb]using hv
    ·by_cases hb':b=w.heap.size
     ·subst hb'
      simp only[RO]at hv
      split at hv
      ·rename_i hk
       cases hv
       exact Lib.bytesWorld_cell w e s' k hk
      ·cases hv
     ·simp only[hb',RP]at hv
      have:=hs.cell_lt hv;omega
   have hlen:(Bs.ints s').length=s'.size:=by simp[Bs.ints]
   refine ap (v:= .slice (some ⟨w.heap.size,0,none⟩) s'.size (grownCap w s'.size 0 e)) (w':=Lib.bytesWorld w e s') (by simp[execOp,ho,hx,hr]) (hK _ _ _ _ _ hv.2 (h1.app_val hd rfl (.d ?_)))
   refine .sl w.heap.size 0 s'.size _ 1 _ (λk=> .int .u8 (s'.data.toList.getD k 0).toNat) (by rw[On,hlen]) (grownCap_ge w s'.size 0 e) (λr hr=>by
    obtain⟨n,_,rfl⟩:=OT.1 hr;rfl) (λk hk=> ?_) λi j r x hr hx=> ?_
   ·simp only[OS,RO]
    rw[RS (by omega)]
   ·rw[Oq,OB]at hr
    obtain⟨n,hn,rfl⟩:=hr
    cases j with
    |zero=>
     simp only[row1,PW,Om]at hx
     subst hx
     have e2:n=((s'.data.toList.getD i 0).toNat:Int):=by
      simp only[Bs.ints,Oq,OB]at hn
      obtain⟨b,hb,rfl⟩:=hn
      simp[RL,hb]
     rw[Qn,Pd,<-e2]
     exact .v _
    |succ j=>simp[row1]at hx
  ·exact hv.elim
 ·rename_i e z rows h1 h2 he
  rw[he]at hx
  generalize hq:a.eval x=q at hx
  have hx:=hx.toD'
  split at hv
  ·rename_i hu
   split at hv
   ·rename_i ns hns
    obtain⟨rfl,hv⟩:=hv
    rw[iU hns]at hx
    refine ap (v:= .string (Bs.text ns)) (w':=w) ?_ (hK _ _ _ _ _ hv.2 (hs.app_val hd rfl (.d (.v _))))
    simp only[execOp,ho,hq,convert,Sem.run_bind,run_underlying h1,run_underlying h2,run_underlying hu,Result.andThen_ok]
    rcases hx.ints with⟨rfl,rfl⟩|⟨ad,cap,rfl,rfl⟩|⟨b,off,cap,rfl,hc⟩
    ·simp[Conv.runesToString,Bs.text,run_underlying h1,run_underlying h2,run_underlying hu]
    ·have:=run_runesToString (P:=C.P) w ad 0 cap [] (run_loadCells_list (P:=C.P) w ad [] λj v hv=>by simp at hv)
     simp[run_underlying h1,run_underlying h2,run_underlying hu,this,Bs.text,runesBytes]
    ·have:=run_runesToString (P:=C.P) w ⟨b,off,none⟩ ns.length cap ns (qy λj n hj=>hs.mem _ _ _ (hc j n hj))
     simp[run_underlying h1,run_underlying h2,run_underlying hu,this,Bs.text,runesBytes]
   ·exact hv.elim
  ·rename_i hu
   split at hv
   ·rename_i ns hns
    obtain⟨rfl,hv⟩:=hv
    rw[iU hns]at hx
    refine ap (v:= .string (Bs.bytes ns)) (w':=w) ?_ (hK _ _ _ _ _ hv.2 (hs.app_val hd rfl (.d (.v _))))
    simp only[execOp,ho,hq,convert,Sem.run_bind,run_underlying h1,run_underlying h2,run_underlying hu,Result.andThen_ok]
    rcases hx.ints with⟨rfl,rfl⟩|⟨ad,cap,rfl,rfl⟩|⟨b,off,cap,rfl,hc⟩
    ·simp only[run_underlying h2,run_underlying hu,Result.andThen_ok,Conv.bytesToString,Sem.run_bind,Sem.run_pure]
     rfl
    ·have:=run_bytesToString (P:=C.P) w ad 0 cap [] (run_loadCells_list (P:=C.P) w ad [] λj v hv=>by simp at hv)
     simp only[run_underlying h2,run_underlying hu,Result.andThen_ok,Sem.run_bind,this,Sem.run_pure]
     rfl
    ·have:=run_bytesToString (P:=C.P) w ⟨b,off,none⟩ ns.length cap ns (qy λj n hj=>hs.mem _ _ _ (hc j n hj))
     simp[run_underlying h1,run_underlying h2,run_underlying hu,this,yQ]
   ·exact hv.elim
  ·exact hv.elim
 ·rename_i e h1 h2 he
  rw[he]at hx;have hx:=hx.dv
  split at hv
  ·rename_i hu
   refine ap (v:= .string O7) (w':=w) ?_ (hK _ _ _ _ _ hv.2 (hs.app_val hd rfl (.d (.v _))))
   simp[execOp,ho,hx,convert,run_underlying h1,run_underlying h2,run_underlying hu,Conv.runesToString]
  ·rename_i hu
   refine ap (v:= .string O7) (w':=w) ?_ (hK _ _ _ _ _ hv.2 (hs.app_val hd rfl (.d (.v _))))
   simp[execOp,ho,hx,convert,run_underlying h1,run_underlying h2,run_underlying hu,Conv.bytesToString]
  ·exact hv.elim
 ·exact hv.elim
theorem mQ{t:TypeId}{x:Operand}(ho:o.op= .makeInterface t x):jd C nm o:=by
 intro E M S a w K Q k hs hv hK
 simp only[aT,ho]at hv
 obtain⟨hn,hv⟩:=hv
 refine ap (v:= .iface t (a.eval x)) (w':=w) ?_ (hK _ _ _ _ _ hv.2 (hs.app_val hd rfl (.d (.ere _ _))))
 unfold Iq at hn
 split at hn
 ·cases hn
 ·rename_i d hu hni
  have:(Instr.makeInterface t (a.eval x)).run C.P w= .ok (.iface t (a.eval x)) w:=by
   unfold Instr.makeInterface
   rw[Sem.run_bind,run_underlying hni,Result.andThen_ok]
   cases d<;>first|rfl|(exact(hu _ rfl).elim)
  simp[execOp,ho,this]
 ·cases hn
theorem zd{x:Operand}{i:Nat}(ho:o.op= .extract x i):jd C nm o:=by
 intro E M S a w K Q k hs hv hK
 simp only[aT,ho]at hv
 have hx:=hs.ev x
 split at hv
 ·rename_i vs he
  rw[he]at hx
  obtain⟨cs,h1,h2,h3⟩:=hx.htup
  split at hv
  ·rename_i y hy
   have hi:i<cs.size:=by have:=(Ol.1 hy).1;omega
   refine ap (v:=cs[i]) (w':=w) ?_ (hK _ _ _ _ _ hv.2 (hs.app_val hd rfl (h3 i _ y (OU hi) hy)))
   simp[execOp,ho,h1,Instr.extract,hi]
  ·exact hv.elim
 ·exact hv.elim
theorem wi{fn:Fn}{first captured:Array Operand}(ho:o.op= .makeFunc fn first captured):jd C nm o:=by
 intro E M S a w K Q k hs hv hK
 simp only[aT,ho]at hv
 split at hv
 ·rename_i f
  have key:∀(l:Array Operand) (i:Nat) (c:Value) (x:H),(l.map a.eval)[i]?=some c->(l.toList.map (Go.Awp.ev S))[i]?=some x->aP E M c x:=by
   intro l i c x hc hx
   simp only[Array.getElem?_map,Oq,Pm]at hc hx
   cases hl:l[i]? with
   |none=>rw[hl]at hc;cases hc
   |some y=>rw[hl]at hc hx;simp at hc hx;subst hc;subst hx;exact hs.ev y
  refine ap (v:= .func (.func f) (first.map a.eval) (captured.map a.eval)) (w':=w) (by simp[execOp,ho,Instr.makeFunc]) (hK _ _ _ _ _ hv.2 (hs.app_val hd rfl ?_))
  exact .fn f _ _ _ _ (by simp) (by simp) (key first) (key captured)
 ·exact hv.elim
theorem EB{t:TypeId}{x i:Operand}(ho:o.op= .index t x i):jd C nm o:=by
 intro E M S a w K Q k hs hv hK
 simp only[aT,ho]at hv
 have hx:=hs.ev x
 have hi:=hs.ev i
 split at hv
 ·rename_i s kk n h1 he hei
  rw[he]at hx;rw[hei]at hi
  have hx:=hx.dv;have hi:=hi.dv
  split at hv
  ·rename_i b hb
   obtain⟨h0,hv⟩:=hv
   refine ap (v:= .int .u8 b.toNat) (w':=w) ?_ (hK _ _ _ _ _ hv.2 (hs.app_val hd rfl (.d (.v _))))
   simp[execOp,ho,hx,hi,Instr.index,asIntOf,run_underlying h1,h0,hb]
  ·exact hv.elim
 ·exact hv.elim
theorem ut{t:TypeId}{x i:Operand}(ho:o.op= .indexAddr t x i):jd C nm o:=by
 intro E M S a w K Q k hs hv hK
 simp only[aT,ho]at hv
 have hx:=hs.ev x
 have hi:=hs.ev i
 split at hv
 ·rename_i e sz by_ ht
  have hel:∃ii,C.P.underlying t=some (.slice e)/\C.P.info? e=some ii/\ii.size=sz:=by
   unfold bg at ht
   split at ht
   ·rename_i e' hu
    split at ht
    ·rename_i ii hii
     split at ht
     ·split at ht
      ·simp at ht;obtain⟨rfl,rfl,rfl⟩:=ht;exact⟨ii,hu,hii,rfl⟩
      ·cases ht
     ·cases ht
    ·cases ht
   ·cases ht
  obtain⟨ii,hu,hii,hsz⟩:=hel
  have run:∀(b off len cap:Nat) (kk:IntKind) (n:Int),a.eval x= .slice (some ⟨b,off,none⟩) len cap->a.eval i= .int kk n->0<=n->n<len->
   (execOp a.eval o).run C.P w= .ok (.value (.pointer (some ⟨b,off+n.toNat *sz,none⟩))) w:=by
   intro b off len cap kk n h1 h2 h3 h4
   simp[execOp,ho,h1,h2,Instr.indexAt,asIntOf,run_underlying hu,sizeOf,typeInfo,hii,hsz,h3,h4,bF]
  split at hv
  ·rename_i sz' rows kk n he hei
   rw[he]at hx;rw[hei]at hi
   have hi:=hi.dv
   split at hv
   ·rename_i r hr
    obtain⟨⟨rfl,h0⟩,hv⟩:=hv
    have hlt:n.toNat<rows.length:=(Ol.1 hr).1
    generalize hq:a.eval x=q at hx
    cases hx with
    |d hx=>cases hx with
     |slnil=>simp at hlt
     |slmt=>simp at hlt
     |sl b off len cap sz rows c hlen hcap hszs hm h=>
      have hrl:=hszs r (OA hr)
      have hmul:(n.toNat+1) *sz<=len *sz:=OH _ (by omega)
      rw[OY]at hmul
      refine ap (run b off len cap kk n hq hi h0 (by omega)) (hK _ _ _ _ _ hv.2 (hs.app_val hd rfl (.d ?_)))
      refine .rp b _ r (λj=>c (n.toNat *sz+j)) (λj hj=> ?_) λj x hx=>h n.toNat j r x hr hx
      rw[Pl];exact hm _ (by omega)
   ·exact hv.elim
  ·rename_i m len kk n he hei
   rw[he]at hx;rw[hei]at hi
   have hi:=hi.dv
   split at hv
   ·rename_i e' s' rows hc
    obtain⟨⟨h0,h1⟩,hv⟩:=hv
    generalize hq:a.eval x=q at hx
    cases hx with
    |vh m len l c ad hE hl=>
     obtain⟨xs,ho1,ho2,ho3,ho4⟩:=hs.own m _ hc
     rcases ho1.2 with⟨hn,hz⟩|⟨g,cap,cur,hv',_⟩
     ·rw[hE]at hn;cases hn;omega
     ·rw[hE]at hv';simp at hv';obtain⟨rfl,rfl,rfl⟩:=hv'
      refine ap (run g 0 len c kk n hq hi h0 (by omega)) (hK _ _ _ _ _ hv.2 (hs.app_val hd rfl ?_))
      have:=aP.ep (E:=E) (M:=M) m sz n.toNat 0 g 0 _ _ hE (by omega)
      simpa using this
   ·exact hv.elim
  ·exact hv.elim
 ·exact hv.elim
end
end Go.Awp
end
section
namespace Go.Awp
variable [Inhabited GMem]
theorem aP.toD{E:Env}{M:Mem}{v:Value}{x:D}(h:aP E M v (.d x)):bW M v x:=by
 cases h with
 |d h=>exact h
theorem gA(vs:List Value):∀(off k:Nat) (cells:Array Value) (i:Nat),k+off+vs.length<=cells.size->
 ((vs.zipIdx k).foldl (λcs (p:Value×Nat)=>cs.setIfInBounds (off+p.2) p.1) cells).size=cells.size/\
 ((vs.zipIdx k).foldl (λcs (p:Value×Nat)=>cs.setIfInBounds (off+p.2) p.1) cells)[i]?=if i<off+k then cells[i]? else if i<off+k+vs.length then vs[i-(off+k)]? else cells[i]?:=by
 induction vs with
 |nil=>intro off k cells i h;refine⟨rfl,?_⟩;simp;omega
 |cons v r ih=>
  intro off k cells i h
  simp only[O_]at h
  simp only[List.zipIdx_cons,Rp]
  obtain⟨h1,h2⟩:=ih off (k+1) (cells.setIfInBounds (off+k) v) i (by simp;omega)
  refine⟨by rw[h1];simp,?_⟩
  rw[h2]
  by_cases c1:i<off+k
  ·rw[RS (by omega),RS c1,Pb (by omega)]
  ·rw[RR c1]
   by_cases c2:i=off+k
   ·subst c2
    rw[RS (by omega),RS (by simp)]
    have hs:(cells.setIfInBounds (off+k) v).size=cells.size:=by simp
    rw[OU (by omega)]
    simp
   ·rw[RR (by omega)]
    by_cases c3:i<off+(k+1)+r.length
    ·rw[RS c3,RS (by simp;omega)]
     have:i-(off+k)=(i-(off+(k+1)))+1:=by omega
     rw[this];simp
    ·rw[RR c3,RR (by simp;omega),Pb (by omega)]
theorem mY{E:Env}{M:Mem}(pl:List (Nat×Nat)):∀(parts:List (Nat×H)) (vals:List (Nat×Value)) (cells:Array Value) (l out:List H),mN pl l parts=some out->
 vals.length=parts.length->(∀(i:Nat) (p:Nat×Value) (q:Nat×H),vals[i]?=some p->parts[i]?=some q->p.1=q.1/\aP E M p.2 q.2)->
 cells.size=l.length->(∀(i:Nat) (c:Value) (x:H),cells[i]?=some c->l[i]?=some x->aP E M c x)->
 ∃cells',Instr.fill (λx=>pl[x]?) cells vals=some cells'/\cells'.size=out.length/\∀(i:Nat) (c:Value) (x:H),cells'[i]?=some c->out[i]?=some x->aP E M c x
 |[],[],cells,l,out,h,_,_,h1,h2=>by
  simp[mN]at h;subst h
  exact⟨cells,rfl,h1,h2⟩
 |[],_::_,_,_,_,_,h,_,_,_=>by simp at h
 |_::_,[],_,_,_,_,h,_,_,_=>by simp at h
 |(i,x)::pr,(j,v)::vr,cells,l,out,h,hl,hp,h1,h2=>by
  obtain⟨hij,hv⟩:=hp 0 (j,v) (i,x) rfl rfl
  simp only at hij hv
  subst hij
  simp only[mN]at h
  split at h
  ·rename_i off sz cs hpl hcs
   split at h
   ·rename_i hc
    obtain⟨hvs,hvc⟩:=hv.cells hcs
    have key:=λi=>gA v.cells.toList off 0 cells i (by simp;omega)
    have hnew:(v.cells.zipIdx.foldl (λcs (p:Value×Nat)=>cs.setIfInBounds (off+p.2) p.1) cells)=(v.cells.toList.zipIdx 0).foldl (λcs (p:Value×Nat)=>cs.setIfInBounds (off+p.2) p.1) cells:=by
     rw[<-QO];simp
    obtain⟨cells',e1,e2,e3⟩:=mY pl pr vr (v.cells.zipIdx.foldl (λcs (p:Value×Nat)=>cs.setIfInBounds (off+p.2) p.1) cells) (d7 l off cs) out h (by simpa using hl)
     (λi p q a b=>hp (i+1) p q (by simpa using a) (by simpa using b))
     (by rw[hnew,(key 0).1];simp[d7];omega)
     (λi c y a b=>by
       rw[hnew,(key i).2]at a
       simp only[d7]at b
       rw[bD l cs off i (by omega)]at b
       simp only[Pd,PB]at a
       split at a
       ·rename_i q;rw[RS q]at b;exact h2 i c y a b
       ·rename_i q;rw[RR q]at b
        split at a
        ·rename_i q2;rw[RS (by omega)]at b;exact hvc _ c y (by simpa using a) b
        ·rename_i q2;rw[RR (by omega)]at b;exact h2 i c y a b)
    refine⟨cells',?_,e2,e3⟩
    simp only[Instr.fill,hpl]
    rw[RR (by simp;omega)]
    exact e1
   ·cases h
  ·cases h
theorem oT{E:Env}{M:Mem}{sz:Nat}(hsz:0<sz):∀(parts:List (Nat×H)) (vals:List (Nat×Value)) (cells:Array Value) (i:Nat) (rows:List (List D)),oR sz i parts=some rows->
 vals.length=parts.length->(∀(i:Nat) (p:Nat×Value) (q:Nat×H),vals[i]?=some p->parts[i]?=some q->p.1=q.1/\aP E M p.2 q.2)->cells.size=(i+rows.length) *sz->
 (∀r∈rows,r.length=sz)/\∃cells',Instr.fill (λj=>some (j *sz,sz)) cells vals=some cells'/\cells'.size=cells.size/\
   (∀q,q<i *sz->cells'[q]?=cells[q]?)/\∀(k j:Nat) (r:List D) (x:D),rows[k]?=some r->r[j]?=some x->∃c,cells'[(i+k) *sz+j]?=some c/\bW M c x
 |[],[],cells,i,rows,h,_,_,_=>by
  simp[oR]at h;subst h
  exact⟨by simp,cells,rfl,rfl,λ_ _=>rfl,by simp⟩
 |[],_::_,_,_,_,_,h,_,_=>by simp at h
 |_::_,[],_,_,_,_,h,_,_=>by simp at h
 |(i',x)::pr,(j,v)::vr,cells,i,rows,h,hl,hp,h1=>by
  obtain⟨hij,hv⟩:=hp 0 (j,v) (i',x) rfl rfl
  simp only at hij hv
  subst hij
  simp only[oR]at h
  split at h
  ·rename_i hii
   subst hii
   split at h
   ·rename_i cs hcs
    split at h
    ·rename_i ds rest hds hrest
     split at h
     ·rename_i hlen
      simp at h;subst h
      obtain⟨hvs,hvc⟩:=hv.cells hcs
      obtain⟨hdl,hdg⟩:=eT hds
      simp only[O_]at h1
      have hmul:i *sz+sz<=(i+(rest.length+1)) *sz:=by rw[<-OY];exact OH _ (by omega)
      have hvl:v.cells.toList.length=sz:=by simp;omega
      have key:=λq=>gA v.cells.toList (i *sz) 0 cells q (by rw[hvl];omega)
      have hnew:(v.cells.zipIdx.foldl (λcs (p:Value×Nat)=>cs.setIfInBounds (i *sz+p.2) p.1) cells)=(v.cells.toList.zipIdx 0).foldl (λcs (p:Value×Nat)=>cs.setIfInBounds (i *sz+p.2) p.1) cells:=by
       rw[<-QO];simp
      obtain⟨e0,cells',e1,e2,e3,e4⟩:=oT hsz pr vr (v.cells.zipIdx.foldl (λcs (p:Value×Nat)=>cs.setIfInBounds (i *sz+p.2) p.1) cells) (i+1) rest hrest (by simpa using hl)
       (λi p q a b=>hp (i+1) p q (by simpa using a) (by simpa using b)) (by rw[hnew,(key 0).1,h1];congr 1;omega)
      refine⟨λr hr=> ?_,cells',?_,by rw[e2,hnew,(key 0).1],λq hq=> ?_,λk j r y hr hy=> ?_⟩
      ·rcases Oz.1 hr with h|h
       ·subst h;omega
       ·exact e0 r h
      ·simp only[Instr.fill]
       rw[RR (by simp;omega)]
       exact e1
      ·rw[e3 q (by rw[OY];omega),hnew,(key q).2,RS (by omega)]
      ·cases k with
       |zero=>
        simp at hr;subst hr
        have hj:j<sz:=by have:=(Ol.1 hy).1;omega
        have hjv:j<v.cells.size:=by omega
        refine⟨v.cells[j],?_,?_⟩
        ·rw[Pd,e3 _ (by rw[OY];omega),hnew,(key _).2,RR (by omega),RS (by rw[hvl];omega)]
         have:i *sz+j-(i *sz+0)=j:=by omega
         rw[this];simp[hjv]
        ·exact(hvc j v.cells[j] (.d y) (OU hjv) (by rw[hdg,hy];rfl)).toD
       |succ k=>
        have:=e4 k j r y (by simpa using hr) hy
        rwa [show i+1+k=i+(k+1) by omega]at this
     ·cases h
    ·cases h
   ·cases h
  ·cases h
theorem ba{P:Program}{t e:TypeId}{sz by_:Nat}(h:bg P t=some (e,sz,by_)):
 ∃i z,P.underlying t=some (.slice e)/\P.info? e=some i/\i.zero=some z/\z.cells.size=sz/\i.size=sz/\i.bytes=by_/\0<sz:=by
 unfold bg at h
 split at h
 ·rename_i e' hu
  split at h
  ·rename_i ii hii
   split at h
   ·rename_i z hz
    split at h
    ·rename_i hc
     simp at h;obtain⟨rfl,rfl,rfl⟩:=h
     exact⟨ii,z,hu,hii,hz,hc.1,rfl,rfl,hc.2⟩
    ·cases h
   ·cases h
  ·cases h
 ·cases h
theorem vI{E:Env}{M:Mem}{v:Value}{x:H}(h:aP E M v x):aP E M v (fnD x):=by
 unfold fnD
 split
 ·cases h with
  |fn f first captured l l' h1 h2 h3 h4=>
   obtain rfl:first= #[]:=Qk h1
   obtain rfl:captured= #[]:=Qk h2
   exact .d (.v _)
 ·exact h
section
variable {C:Ctx} {nm:Nat->Nat} {o:Oper} (hd:∀d,o.dst=some d->C.wr d)
include hd
theorem xC{t:TypeId}{parts:Array (Nat×Operand)}(ho:o.op= .build t parts):jd C nm o:=by
 intro E M S a w K Q k hs hv hK
 simp only[aT,ho]at hv
 split at hv
 ·rename_i z pl hz hpl
  split at hv
  ·rename_i cs hcs
   unfold gn at hz
   split at hz
   ·rename_i it hit
    split at hz
    ·rename_i zv hzv
     simp at hz;subst hz
     unfold places at hpl
     split at hpl
     ·rename_i fs hfs
      obtain⟨cells',e1,e2,e3⟩:=mY (E:=E) (M:=M) pl _ (parts.toList.map λ(i,x)=>(i,a.eval x)) zv.cells _ cs hcs (by simp)
       (λi p q hp hq=>by
         simp only[Oq]at hp hq
         cases hx:parts.toList[i]? with
         |none=>rw[hx]at hp;cases hp
         |some y=>
          rw[hx]at hp hq;simp at hp hq;subst hp;subst hq
          exact⟨rfl,hs.ev y.2⟩) (by simp)
       (λi c x hc hx=>by
         simp only[Oq]at hx
         have hc':zv.cells.toList[i]?=some c:=by simpa using hc
         rw[hc']at hx;simp at hx;subst hx
         exact .d (.v c))
      refine ap (v:= .agg cells') (w':=w) ?_ (hK _ _ _ _ _ hv.2 (hs.app_val hd rfl (aP.mk_agg e2 e3)))
      have hb:C.P.built t (parts.map λ(i,x)=>(i,a.eval x)).toList=some cells':=by
       simp only[Program.built,hit,hfs,hzv,hpl]
       simpa using e1
      have:=run_build (P:=C.P) w t (parts.map λ(i,x)=>(i,a.eval x)) cells' hb
      simp[execOp,ho,this]
     ·cases hpl
    ·cases hz
   ·cases hz
  ·exact hv.elim
 ·exact hv.elim
theorem sa{t:TypeId}{len:Nat}{parts:Array (Nat×Operand)}(ho:o.op= .buildSlice t len parts):jd C nm o:=by
 intro E M S a w K Q k hs hv hK
 simp only[aT,ho]at hv
 split at hv
 ·rename_i e sz by_ ht
  obtain⟨ii,z,hu,hii,hz,hzs,his,hib,hpos⟩:=ba ht
  split at hv
  ·rename_i rows hrows
   obtain⟨⟨hlen,hsm⟩,hv⟩:=hv
   subst hlen
   have hzero:∃cells0:Array Value,cells0.size=rows.length *sz/\∀cells',Instr.fill (λj=>some (j *sz,sz)) cells0 (parts.toList.map λ(i,x)=>(i,a.eval x))=some cells'->
    (execOp a.eval o).run C.P w= .ok (.value (.slice (some ⟨w.heap.size,0,none⟩) rows.length rows.length)) (w.alloc (.cells cells' e)):=by
    have hsm':¬rows.length *sz>2^24:=by omega
    by_cases h0:rows.length *sz=0
    ·refine⟨(QL (rows.length *sz)).map (λi=>(#[]:Array Value)[i%(#[]:Array Value).size]!),by simp,λcells' hf=> ?_⟩
     have hf':Instr.fill (λi=>some (i *sz,sz)) ((QL (rows.length *sz)).map (λi=>(#[]:Array Value)[i%(#[]:Array Value).size]!)) (parts.map λ(i,x)=>(i,a.eval x)).toList=some cells':=by
      simpa using hf
     simp only[execOp,ho,Instr.buildSlice,Sem.run_bind,run_underlying hu,Result.andThen_ok,sizeOf,typeInfo,program,Sem.run,hii,his,Sem.run_pure]
     rw[RR hsm']
     simp only[Sem.run_bind,Sem.run_pure,Result.andThen_ok,h0,RO]
     rw[h0]at hf'
     simp only[hf',newRow,Sem.run_bind,Sem.run_pure,Result.andThen_ok,run_newObj_alloc]
    ·refine⟨(QL (rows.length *sz)).map (λi=>z.cells[i%z.cells.size]!),by simp,λcells' hf=> ?_⟩
     have hf':Instr.fill (λi=>some (i *sz,sz)) ((QL (rows.length *sz)).map (λi=>z.cells[i%z.cells.size]!)) (parts.map λ(i,x)=>(i,a.eval x)).toList=some cells':=by
      simpa using hf
     simp only[execOp,ho,Instr.buildSlice,Sem.run_bind,run_underlying hu,Result.andThen_ok,sizeOf,typeInfo,program,Sem.run,hii,his,Sem.run_pure]
     rw[RR hsm']
     rw[RR h0]
     simp only[Sem.run_bind,Sem.run_pure,Result.andThen_ok,zeroValue,typeInfo,program,Sem.run,hii,hz,hf',newRow,run_newObj_alloc]
   obtain⟨cells0,hc0,hrun⟩:=hzero
   obtain⟨g0,cells',g1,g2,_,g4⟩:=oT (E:=E) (M:=M) hpos _ (parts.toList.map λ(i,x)=>(i,a.eval x)) cells0 0 rows hrows (by simp)
    (λi p q hp hq=>by
      simp only[Oq]at hp hq
      cases hx:parts.toList[i]? with
      |none=>rw[hx]at hp;cases hp
      |some y=>
       rw[hx]at hp hq;simp at hp hq;subst hp;subst hq
       exact⟨rfl,vI (hs.ev y.2)⟩) (by simpa using hc0)
   refine ap (hrun cells' g1) ?_
   have hsize:cells'.size=rows.length *sz:=by omega
   have hnew:∀(k:Nat),M w.heap.size k=none:=by
    intro k
    cases hm:M w.heap.size k with
    |none=>rfl
    |some v=>have:=hs.cell_lt hm;omega
   by_cases hdec:∃d,o.dst=some d/\nm d≠d
   ·obtain⟨d,hdst,hnd⟩:=hdec
    rw[hdst]at hv
    simp only[RR hnd]at hv
    obtain⟨hnw,hk⟩:=hv
    have hn:=hnw (nm d) (by simp)
    have hmx:rows.length<=maxLen:=by
     have:rows.length<=rows.length *sz:=Nat.le_mul_of_pos_right _ hpos
     have:(16777216:Nat)<=maxLen:=by decide
     omega
    have h1:=hs.own_new (E':=λm=>if m=nm d then .slice (some ⟨w.heap.size,0,none⟩) rows.length rows.length else E m) (d:=nm d) (o':= .vec e sz rows) (World.grownBy_alloc w (.cells cells' e) none)
     (λm hm=>by simp[hm]) hn.1 hn.2 (λb hb=>by simp[Own.foot,ak]at hb;omega)
     ⟨cells'.toList,⟨by simp[hsize], .inr ⟨w.heap.size,rows.length,cells',by simp,Pu _,heap_alloc_new w _,OO _,hmx,hsize,by rw[O8];simp[hsize]⟩⟩,g0,
      (λi j r c x hr hx hc=>by
        obtain⟨c',hc',hrep⟩:=g4 i j r x hr hx
        rw[OS]at hc'
        have:cells'[i *sz+j]?=some c:=by simpa using hc
        rw[hc']at this
        cases this;exact hrep),λb hb k=>by simp[ak]at hb;subst hb;exact hnew k⟩
    have h2:=h1.put o.dst hd (aP.vh (nm d) rows.length rows.length rows.length (some ⟨w.heap.size,0,none⟩) (by simp) (OO _))
    rw[hdst]at h2
    exact hK _ _ _ _ _ hk (by rw[hdst];exact h2.weaken (λt x hx=> .inl hx) (λm p hm=>hm))
   have hv:(∀d∈({val:= .d (.sl sz rows)}:Eff).new,S.fresh d=true/\d<given)/\k {val:= .d (.sl sz rows)}:=by
    split at hv
    ·rename_i d hdst
     by_cases hnd:nm d=d
     ·rw[RS hnd]at hv;exact hv
     ·exact(hdec ⟨d,hdst,hnd⟩).elim
    ·exact hv
   have hle:Mem.le M (λb k=>if b=w.heap.size then cells'[k]? else M b k):=by
    intro b k v hv
    by_cases hb:b=w.heap.size
    ·subst hb;rw[hnew]at hv;cases hv
    ·simp[hb,hv]
   have h1:Sim C E (λb k=>if b=w.heap.size then cells'[k]? else M b k) S a (w.alloc (.cells cells' e)):=by
    refine hs.ro_new (World.grownBy_alloc w _ none) hle (λb k v hv=> ?_) (λb k v hv hb=> ?_)
    ·by_cases hb:b=w.heap.size
     ·right;omega
     ·left;simpa[hb]using hv
    ·by_cases hb':b=w.heap.size
     ·subst hb'
      simp at hv
      rw[cell_of_row _ w.heap.size k cells' e (0,0) (heap_alloc_new w _)]
      exact hv
     ·simp only[hb',RP]at hv
      have:=hs.cell_lt hv;omega
   refine hK _ _ _ _ _ hv.2 (h1.app_val hd rfl (.d ?_))
   refine .sl w.heap.size 0 rows.length rows.length sz rows (λk=>cells'.getD k undef) rfl (OO _) g0 (λk hk=> ?_) λi j r x hr hx=> ?_
   ·simp only[OS,RO]
    rw[OU (by omega)]
    simp[show k<cells'.size by omega]
   ·obtain⟨c,hc,hrep⟩:=g4 i j r x hr hx
    rw[OS]at hc
    have:cells'.getD (i *sz+j) undef=c:=by simp[hc]
    rw[this]
    exact hrep.mono hle
  ·exact hv.elim
 ·exact hv.elim
end
end Go.Awp
end
section
namespace Go.Awp
variable [Inhabited GMem]
theorem xK{P:Program}{w:World}{t:TypeId}{ag:Bool}{sz:Nat}(ht:bu P t=some (ag,sz)){E:Env}{M:Mem}{cs:Array Value}{l:List H}{off:Nat}{h:H}
 (hl:cs.size=l.length)(hr:∀(i:Nat) (c:Value) (x:H),cs[i]?=some c->l[i]?=some x->aP E M c x)(hh:eX ag sz (l.drop off)=some h):
 ∃v,(part t cs off).run P w= .ok v w/\aP E M v h:=by
 unfold bu at ht
 split at ht
 ·rename_i d i hd hi
  simp only[Om,OV]at ht
  obtain⟨h1,h2⟩:=ht
  have hagg:(isAgg t).run P w= .ok ag w:=by
   unfold isAgg
   rw[Sem.run_bind,run_underlying hd w]
   subst h1
   cases d<;>simp[qz]
  cases ag with
  |true=>
   simp only[eX]at hh
   split at hh
   ·rename_i hle
    simp at hh;subst hh
    simp only[O5]at hle
    refine⟨.agg (cs.extract off (off+sz)),by simp[part,hagg,sizeOf,typeInfo,hi,h2],?_⟩
    refine aP.mk_agg (by simp;omega) λj c x hc hx=> ?_
    rw[OE]at hx
    split at hx
    ·rw[OX]at hx
     rw[Array.getElem?_extract]at hc
     split at hc
     ·exact hr _ c x hc hx
     ·cases hc
    ·cases hx
   ·cases hh
  |false=>
   simp only[eX]at hh
   have hx:l[off]?=some h:=by
    rw[List.head?_drop]at hh;exact hh
   have hlt:off<cs.size:=by have:=(Ol.1 hx).1;omega
   exact⟨cs[off],by simp[part,hagg,hlt],hr off _ h (OU hlt) hx⟩
 ·cases ht
theorem bW.cellsH{E:Env}{M:Mem}{cs:Array Value}{ds:List D}(h:∀(i:Nat) (c:Value) (x:D),cs[i]?=some c->ds[i]?=some x->bW M c x):
 ∀(i:Nat) (c:Value) (x:H),cs[i]?=some c->(ds.map H.d)[i]?=some x->aP E M c x:=by
 intro i c x hc hx
 simp only[Oq]at hx
 cases hz:ds[i]? with
 |none=>rw[hz]at hx;cases hx
 |some z=>rw[hz]at hx;simp at hx;subst hx;exact .d (h i c z hc hz)
theorem ez{C:Ctx}{E:Env}{M:Mem}{S:ab}{a:Act}{w:World}(hs:Sim C E M S a w){lo:Option Operand}{d l:Int}(h:bnd (Go.Awp.ev S) lo d=some l):
 (lo.map a.eval=none/\l=d)\/∃k,lo.map a.eval=some (.int k l):=by
 cases lo with
 |none=>simp[bnd]at h;exact .inl ⟨rfl,h.symm⟩
 |some x=>
  right
  simp only[bnd]at h
  split at h
  ·rename_i k n he
   simp at h;subst h
   have hx:=hs.ev x
   rw[he]at hx
   exact⟨k,by simp[hx.dv]⟩
  ·cases h
theorem eo{P:Program}{w:World}(isSlice:Bool){len cap:Nat}{lo hi:Option Value}{l h:Int}(hlo:(lo=none/\l=0)\/∃k,lo=some (.int k l))
 (hhi:(hi=none/\h=len)\/∃k,hi=some (.int k h))(h0:0<=l)(h1:l<=h)(h2:h<=cap):
 (Instr.sliceBounds isSlice len cap lo hi none).run P w= .ok (l.toNat,h.toNat,cap) w:=by
 have hb:∀(k:IntKind) (n:Int) (y:Nat) (code:BoundsCode),0<=n->n<=y->(Instr.sliceBound (.int k n) y code).run P w= .ok n.toNat w:=by
  intro k n y code a b
  simp[Instr.sliceBound,asIntOf,a,b]
 rcases hlo with⟨rfl,rfl⟩|⟨k,rfl⟩<;>rcases hhi with⟨rfl,rfl⟩|⟨k',rfl⟩
 ·simp[Instr.sliceBounds]
 ·simp[Instr.sliceBounds,hb k' h cap _ (by omega) h2]
 ·simp[Instr.sliceBounds,hb k l _ _ h0 h1]
 ·simp[Instr.sliceBounds,hb k' h cap _ (by omega) h2,hb k l h.toNat _ h0 (by omega)]
section
variable {C:Ctx} {nm:Nat->Nat} {o:Oper} (hd:∀d,o.dst=some d->C.wr d)
include hd
theorem EA{s:TypeId}{x:Operand}{f:Nat}(ho:o.op= .field s x f):jd C nm o:=by
 intro E M S a w K Q k hs hv hK
 simp only[aT,ho]at hv
 have hx:=hs.ev x
 split at hv
 ·rename_i off ag sz hf
  have key:∀(cs:Array Value) (v:Value),a.eval x= .agg cs->(∀fd:Go.Field,fd.offset=off->bu C.P fd.type=some (ag,sz)->(part fd.type cs off).run C.P w= .ok v w)->(execOp a.eval o).run C.P w= .ok (.value v) w:=by
   intro cs v h1 h2
   unfold rn at hf
   split at hf
   ·rename_i fs hfs
    split at hf
    ·rename_i fd hfd
     split at hf
     ·rename_i g z hg
      simp at hf;obtain⟨h3,h4,h5⟩:=hf
      have:=h2 fd h3 (by rw[hg,h4,h5])
      simp[execOp,ho,h1,Instr.field,run_underlying hfs,hfd,asAgg,h3,this]
     ·cases hf
    ·cases hf
   ·cases hf
  have hty:∃fd:Go.Field,fd.offset=off/\bu C.P fd.type=some (ag,sz):=by
   unfold rn at hf
   split at hf
   ·split at hf
    ·rename_i fd hfd
     split at hf
     ·rename_i g z hg
      simp at hf;obtain⟨h3,h4,h5⟩:=hf
      exact⟨fd,h3,by rw[hg,h4,h5]⟩
     ·cases hf
    ·cases hf
   ·cases hf
  have same:∀(cs:Array Value) (l:List H) (h:H),cs.size=l.length->(∀(i:Nat) (c:Value) (x:H),cs[i]?=some c->l[i]?=some x->aP E M c x)->eX ag sz (l.drop off)=some h->
   ∃v,aP E M v h/\∀fd:Go.Field,fd.offset=off->bu C.P fd.type=some (ag,sz)->(part fd.type cs off).run C.P w= .ok v w:=by
   intro cs l h h1 h2 h3
   cases ag with
   |true=>
    refine⟨.agg (cs.extract off (off+sz)),?_,λfd _ ht=> ?_⟩
    ·obtain⟨fd,_,ht⟩:=hty
     obtain⟨v,hv1,hv2⟩:=xK (w:=w) ht h1 h2 h3
     unfold bu at ht
     split at ht
     ·rename_i d i hdd hi
      simp only[Om,OV]at ht
      have hagg:(isAgg fd.type).run C.P w= .ok true w:=by
       unfold isAgg
       rw[Sem.run_bind,run_underlying hdd w]
       have:=ht.1
       cases d<;>simp[qz]at this⊢
      simp[part,hagg,sizeOf,typeInfo,hi,ht.2]at hv1
      rw[<-hv1]at hv2;exact hv2
     ·cases ht
    ·unfold bu at ht
     split at ht
     ·rename_i d i hdd hi
      simp only[Om,OV]at ht
      have hagg:(isAgg fd.type).run C.P w= .ok true w:=by
       unfold isAgg
       rw[Sem.run_bind,run_underlying hdd w]
       have:=ht.1
       cases d<;>simp[qz]at this⊢
      simp[part,hagg,sizeOf,typeInfo,hi,ht.2]
     ·cases ht
   |false=>
    simp only[eX]at h3
    rw[List.head?_drop]at h3
    have hlt:off<cs.size:=by have:=(Ol.1 h3).1;omega
    refine⟨cs[off],h2 off _ h (OU hlt) h3,λfd _ ht=> ?_⟩
    unfold bu at ht
    split at ht
    ·rename_i d i hdd hi
     simp only[Om,OV]at ht
     have hagg:(isAgg fd.type).run C.P w= .ok false w:=by
      unfold isAgg
      rw[Sem.run_bind,run_underlying hdd w]
      have:=ht.1
      cases d<;>simp[qz]at this⊢
     simp[part,hagg,hlt]
    ·cases ht
  split at hv
  ·rename_i ds he
   rw[he]at hx
   obtain⟨cs,h1,h2,h3⟩:=hx.dagg
   split at hv
   ·rename_i y hy
    obtain⟨v,hv1,hv2⟩:=same cs (ds.map H.d) (.d y) (by simpa using h2) (bW.cellsH h3) (by rw[<-Pr];exact ic hy)
    exact ap (key cs v h1 hv2) (hK _ _ _ _ _ hv.2 (hs.app_val hd rfl hv1))
   ·exact hv.elim
  ·rename_i cl he
   rw[he]at hx
   obtain⟨cs,h1,h2,h3⟩:=hx.hagg
   split at hv
   ·rename_i y hy
    obtain⟨v,hv1,hv2⟩:=same cs cl y h2 h3 hy
    exact ap (key cs v h1 hv2) (hK _ _ _ _ _ hv.2 (hs.app_val hd rfl hv1))
   ·exact hv.elim
  ·exact hv.elim
 ·exact hv.elim
theorem EE{t:TypeId}{x:Operand}{lo hi mx:Option Operand}(ho:o.op= .slice t x lo hi mx):jd C nm o:=by
 intro E M S a w K Q k hs hv hK
 simp only[aT,ho]at hv
 have hx:=hs.ev x
 split at hv
 ·exact hv.elim
 ·split at hv
  ·rename_i s hu he
   rw[he]at hx;have hx:=hx.dv
   split at hv
   ·rename_i l h hl hh
    obtain⟨⟨h0,h1,h2⟩,hv⟩:=hv
    have hr:=eo (P:=C.P) (w:=w) false (len:=s.size) (cap:=s.size) (ez hs hl) (ez hs hh) h0 h1 h2
    refine ap (v:= .string (s.extract l.toNat h.toNat)) (w':=w) ?_ (hK _ _ _ _ _ hv.2 (hs.app_val hd rfl (.d (.v _))))
    simp[execOp,ho,hx,Instr.sliceAt,Instr.slice,run_underlying hu,hr]
   ·exact hv.elim
  ·rename_i e0 sz rows hu he
   rw[he]at hx
   split at hv
   ·rename_i e sz' by_ l h ht hl hh
    obtain⟨⟨rfl,h0,h1,h2⟩,hv⟩:=hv
    obtain⟨ii,z,hu',hii,hz,hzs,his,hib,hpos⟩:=ba ht
    rw[hu]at hu';simp at hu';subst hu'
    have hrl:((rows.take h.toNat).drop l.toNat).length=h.toNat-l.toNat:=by simp;omega
    have run:∀(ad:Option Addr) (cap:Nat),a.eval x= .slice ad rows.length cap->rows.length<=cap->
     (execOp a.eval o).run C.P w= .ok (.value (.slice (if cap=l.toNat then ad else ad.map (·.add (l.toNat *sz'))) (h.toNat-l.toNat) (cap-l.toNat))) w:=by
     intro ad cap hq hcap
     have hr:=eo (P:=C.P) (w:=w) true (len:=rows.length) (cap:=cap) (ez hs hl) (ez hs hh) h0 h1 (by omega)
     simp[execOp,ho,hq,Instr.sliceAt,Instr.slice,run_underlying hu,hr,sizeOf,typeInfo,hii,his]
    generalize hq:a.eval x=q at hx
    cases hx with
    |d hx=>cases hx with
     |slnil=>
      refine ap (run none 0 hq (by simp)) (hK _ _ _ _ _ hv.2 (hs.app_val hd rfl (.d ?_)))
      have hh0:h.toNat=0:=by simp at h2;omega
      simp[hh0]
      exact .slnil _
     |slmt ad cap=>
      refine ap (run (some ad) cap hq (by simp)) (hK _ _ _ _ _ hv.2 (hs.app_val hd rfl (.d ?_)))
      have hh0:h.toNat=0:=by simp at h2;omega
      simp[hh0]
      split<;>exact .slmt _ _ _
     |sl b off len cap sz rows c hlen hcap hsz hm hc=>
      subst hlen
      refine ap (run _ cap hq hcap) (hK _ _ _ _ _ hv.2 (hs.app_val hd rfl (.d ?_)))
      by_cases hlc:cap=l.toNat
      ·rw[RS hlc]
       exact .sl b off _ _ sz' _ (λ_=>undef) hrl.symm (by omega) (λr hr=>hsz r (Pg (Px hr)))
        (λk hk=>by have:h.toNat-l.toNat=0:=(by omega);rw[this]at hk;omega)
        (λi j r x hr _=>by
          have:=(Ol.1 hr).1;omega)
      ·rw[RR hlc]
       simp only[OW,bF]
       refine .sl b _ _ _ sz' _ (λk=>c (l.toNat *sz'+k)) hrl.symm (by omega) (λr hr=>hsz r (Pg (Px hr))) (λk hk=> ?_) (λi j r x hr hx=> ?_)
       ·rw[Pl]
        refine hm _ ?_
        have e1:(h.toNat-l.toNat) *sz'+l.toNat *sz'<=rows.length *sz':=by rw[<-Qb];exact OH _ (by omega)
        omega
       ·rw[OX,OE]at hr
        split at hr
        ·have:=hc _ j r x hr hx
         rw[Qb]at this
         rw[<-Pl];exact this
        ·cases hr
   ·exact hv.elim
  ·rename_i e0 m len hu he
   rw[he]at hx
   split at hv
   ·rename_i e' s' rows q' l h hc ht hl hh
    obtain⟨⟨rfl,h0,h1⟩,hv⟩:=hv
    obtain⟨e,sz',by_⟩:=q'
    obtain⟨ii,z,hu',hii,hz,hzs,his,hib,hpos⟩:=ba ht
    rw[hu]at hu';simp at hu';subst hu'
    generalize hq:a.eval x=q at hx
    cases hx with
    |vh m len ll c ad hE hl'=>
     obtain⟨xs,ho1,ho2,ho3,ho4⟩:=hs.own m _ hc
     have hcap:len<=c:=by
      rcases ho1.2 with⟨hn,hz⟩|⟨g,cap,cur,hv',_,_,hnc,_⟩
      ·rw[hE]at hn;simp at hn;omega
      ·rw[hE]at hv';simp at hv';omega
     have hr:=eo (P:=C.P) (w:=w) true (len:=len) (cap:=c) (ez hs hl) (ez hs hh) (Int.le_refl 0) h0 (by omega)
     refine ap (v:= .slice ad h.toNat c) (w':=w) ?_ (hK _ _ _ _ _ hv.2 (hs.app_val hd rfl (.vh m _ ll c ad hE (by omega))))
     simp[execOp,ho,hq,Instr.sliceAt,Instr.slice,run_underlying hu,hr,sizeOf,typeInfo,hii]
     cases ad with
     |none=>simp
     |some ad=>intro _;simp[Addr.add]
   ·exact hv.elim
  ·exact hv.elim
end
end Go.Awp
end
