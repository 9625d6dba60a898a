/-
  Texts of this claim, joined by a program of mine: what the theorem uses.
-/
import Derived.Test.YtcghbgmmgcljkaaGreatDoorPkI
import Derived.Test.YtcghbgmmgcljkaaGreatDoorPkF
import Derived.Test.YtcghbgmmgcljkaaGreatDoorCards
import Derived.Test.YtcghbgmmgcljkaaGreatDoorTie
import Derived.WalkKit
import Derived.ProofKit
import Derived.OpenShut
import Derived.LaidMore
import Derived.Lay
import Derived.SevenTiedAt
import Derived.Stop.Joined
import Derived.Deep.DeepHandedRow
open Bool renaming and_eq_true→aac,false_eq_true→Z5,false_or→ab6,not_false→aa4,not_true→aaC
open ByteArray renaming empty→abm,mk→Z4
open Int renaming le_refl→aaE,mul_nonneg→acz,natCast_zero→aar,reduceBEq→aaT,toNat→aav,toNat_natCast→Z_,toNat_zero→aaG
open List renaming all_eq_true→aak,any_cons→ab5,append_assoc→abo,append_nil→ab3,drop→acp,drop_eq_getElem_cons→abT,drop_replicate→adt,drop_zero→aau,foldl_cons→acN,getD_eq_getElem?_getD→aa5,getElem?_append_left→aat,getElem?_append_right→aao,getElem?_eq_getElem→Z8,getElem?_eq_some_iff→Z9,getElem?_map→aaa,getElem?_of_mem→abx,length_append→aax,length_cons→aaf,length_drop→aaJ,length_map→aab,length_replicate→aaU,length_reverse→aa3,length_set→aaW,length_take→aaR,map_append→aa0,map_cons→aah,map_drop→abb,map_map→aaK,map_nil→aaY,map_replicate→abS,map_take→aba,mem_cons→aan,mem_cons_of_mem→aag,mem_cons_self→aal,mem_of_getElem?→aae,mem_singleton→aaS,nil_append→aai,replicate→aap,reverse_cons→ab8,set_append_right→acF,take→abg,take_append_of_le_length→abH,take_of_length_le→aaN,take_zero→aco
open Nat renaming add_sub_cancel→acR,sub_zero→aaP,zero_add→aad
open Option renaming bind_eq_bind→Z6,bind_some→Z3,isNone_none→ach,isSome_some→acv
open Option.some renaming inj→aa8
open Sum renaming inl→aaL,inr→abc
noncomputable section
set_option linter.unusedSimpArgs false
set_option linter.unusedVariables false
section
namespace Go.Proofs.YtcghbgmmgcljkaaGreatDoor
set_option maxRecDepth 20000
set_option maxHeartbeats 4000000
def Dq(g:Lg):Option bX:=if g.kind=0 then none else some (bX.mk g.kind g.stop)
def lr(b e:Nat)(l:List aB)(ck:Bool)(steps place high:Int)(en:Option bX)(argv:List aE)(z:aE)(f:aB)(d at1:Int)(res:Option aE)(cnt:List Int)(sn pl st:List Item):=
 ((b:Int),(e:Int),l,ck,steps,place,high,en,argv,z,f.name0,f.params,f.places,f.type0.base,f.type0.bits,f.type0.name0,f.type0.opt,f.type0.err,f.code,d,at1,res,cnt,sn.map val,pl.map val,(st.map val).reverse,())
theorem D9(b e:Nat)(l:List aB)(ck:Bool)(steps place high:Int)(en:Option bX)(argv:List aE)(z:aE)(f:aB)(d at1:Int)(v:aE)(cnt:List Int)(sn pl st:List Item):
 aX (lt b e l ck steps place high en argv z f d at1 (some v) cnt sn pl st)=some (abc (lr b e l ck steps place high en argv z f d at1 (some v) cnt sn pl st)):=by
 rw[aX]
 unfold lt lr
 simp only[Option.isNone_some,Z5,adF,Z_]
theorem un(b e:Nat)(l:List aB)(ck:Bool)(place high:Int)(argv:List aE)(z:aE)(f:aB)(d at1:Int)(cnt:List Int)(sn pl st:List Item):
 aX (lt b e l ck 40000 place high none argv z f d at1 none cnt sn pl st)=some (aaL ((b:Int),(e:Int),l,ck,40000,place,high,some (bX.mk 2 0),argv,cnt,sn.map val,val (cj 0),())):=by
 rw[aX]
 unfold lt
 simp only[ach,adE,beq_self_eq_true,d_,Z6,Z3,Z_]
 rfl
def vF(b e:Nat)(l:List aB)(ck:Bool)(place:Int)(argv:List aE)(z:aE)(f:aB)(d:Int)(a:Nat)(g:Lg)(pl st:List Item)(r:Item×Lg):Prop:=
 (r.2.kind=0/\∃at2 pl2 st2,aX (lt b e l ck g.steps place g.high none argv z f d (a:Int) none g.counts g.seen pl st)=some (abc (lr b e l ck r.2.steps place r.2.high none argv z f d at2 (some (val r.1)) r.2.counts r.2.seen pl2 st2)))\/
 (r.2.kind≠0/\aX (lt b e l ck g.steps place g.high none argv z f d (a:Int) none g.counts g.seen pl st)=some (aaL ((b:Int),(e:Int),l,ck,r.2.steps,place,r.2.high,some (bX.mk r.2.kind r.2.stop),argv,r.2.counts,r.2.seen.map val,val (cj 0),())))
theorem Ds(h:aB)(args:List Item)(hp:(args.length:Int)<=h.places):
 abg (aap h.places.toNat (val (cj 0))).length (args.map val)++acp args.length (aap h.places.toNat (val (cj 0)))=(cG h args).map val:=by
 unfold cG
 rw[aaU,aaN (by simp;omega),adt,aa0,abS]
theorem p40{l:List aB}{k:Nat}{h:aB}(hk:l[k]?=some h){b e:Nat}{argv:List aE}{args:List Item}(hb:b+e<=argv.length)(ha:abg e (acp b argv)=args.map val)(he:args.length=e)
 {ck:Bool}{place d:Int}{g:Lg}(hd:¬30<d)(hp0:(e:Int)<=h.places)(hp1:h.places<=200)(hg:g.kind=0)(hc:g.counts.length=l.length)(hkl:k<l.length)
 (hpl:d=1->place<h.places)(hs:d=1->g.seen.length<=99){r:Item×Lg}
 (hl:vF b e l ck place argv (val (cj 0)) h d 0 {g with counts:=p_ g.counts k,seen:=if d=1/\0<=place then g.seen++[(cG h args).getD place.toNat (cj 0)]else g.seen} (cG h args) [] r)(hz:r.2.kind≠0->r.1=cj 0):
 n_40s78a4 ((k:Int),(b:Int),(e:Int),d,l,ck,g.steps,place,g.high,none,argv,g.counts,g.seen.map val,())=
  some ((b:Int),(e:Int),l,ck,r.2.steps,place,r.2.high,Dq r.2,argv,r.2.counts,r.2.seen.map val,val r.1,()):=by
 have hk0:(0:Int)<=(k:Int):=by omega
 have hk1:(k:Int)<(g.counts.length:Int):=by omega
 obtain⟨x,hx⟩:∃x,g.counts[k]?=some x:=⟨_,Z8 (by omega)⟩
 have hbump:g.counts.set k (IntKind.i64.wrap (x+1))=p_ g.counts k:=by
  unfold p_;rw[aa5,hx];rfl
 have h0:0<=h.places:=by omega
 have h4:h.places<=4294967296:=by omega
 have em:=Ds h args (by omega)
 rw[he]at em
 rw[n_40s78a4]
 have hz0:aE.mk (aF.mk 0 0 (Z4 #[]) false false) 0 false (Z4 #[]) (aF.mk 0 0 (Z4 #[]) false false)=val (cj 0):=rfl
 have hd':¬d>30:=by omega
 simp only[hd',adK,Z5,adF,hk0,hk1,and_self,adE,Z_,hx,hk,h0,h4,Z6,Z3,hb,hz0,ha,em,hbump,Su]
 have fin:∀{α:Type} (X:Option α) (y:α),X=some y->X=some y:=λ_ _ h=>h
 have key:∀sn:List Item,sn=(if d=1/\0<=place then g.seen++[(cG h args).getD place.toNat (cj 0)]else g.seen)->
  (aX (lt b e l ck g.steps place g.high none argv (val (cj 0)) h d 0 none (p_ g.counts k) sn (cG h args) [])>>=λx6=>match x6 with
    | .inl y6=>some y6
    | .inr y6=>(y6.2.2.2.2.2.2.2.2.2.2.2.2.2.2.2.2.2.2.2.2.2.1:Option (aE))>>=λx7=>
     some (((↑y6.1.toNat:Int),(↑y6.2.1.toNat:Int),y6.2.2.1,y6.2.2.2.1,y6.2.2.2.2.1,y6.2.2.2.2.2.1,y6.2.2.2.2.2.2.1,y6.2.2.2.2.2.2.2.1,y6.2.2.2.2.2.2.2.2.1,y6.2.2.2.2.2.2.2.2.2.2.2.2.2.2.2.2.2.2.2.2.2.2.1,y6.2.2.2.2.2.2.2.2.2.2.2.2.2.2.2.2.2.2.2.2.2.2.2.1,x7,())))=
  some ((b:Int),(e:Int),l,ck,r.2.steps,place,r.2.high,Dq r.2,argv,r.2.counts,r.2.seen.map val,val r.1,()):=by
  intro sn hsn
  subst hsn
  rcases hl with⟨hk0,at2,pl2,st2,hl⟩|⟨hk0,hl⟩
  ·simp only[aar]at hl
   rw[hl]
   unfold lr Dq
   simp only[Z6,Z3,Z_,hk0,adE]
  ·simp only[aar]at hl
   rw[hl]
   unfold Dq
   simp only[Z6,Z3,hk0,adF,hz hk0]
 unfold lt at key
 by_cases h1:d=1
 ·have hb1:(d==1)=true:=by simpa using h1
  simp only[hb1,adE,Z3,Z_]
  by_cases hp:0<=place
  ·have hlt:=hpl h1
   have hlen:(cG h args).length=h.places.toNat:=by
    unfold cG
    rw[aax,aaU];omega
   have hlt2:place<(((cG h args).map val).length:Int):=by rw[aab,hlen];omega
   have hget:((cG h args).map val)[place.toNat]?=some (val ((cG h args).getD place.toNat (cj 0))):=by
    rw[aaa,aa5,Z8 (by omega)];rfl
   have hs':(g.seen.map val).length+[val ((cG h args).getD place.toNat (cj 0))].length<=4294967296:=by have:=hs h1;simp;omega
   simp only[ge_iff_le,hp,adJ,adE,hlt2,and_self,hget,Z3,hs',Z_]
   refine Eq.trans ?_ (key _ (by rw[adI ⟨h1,hp⟩]))
   rw[aa0]
   rfl
  ·simp only[ge_iff_le,hp,adK,Z5,adF,Z3,Z_]
   exact key _ (by rw[adH (λh=>hp h.2)])
 ·have hb1:(d==1)=false:=by simpa using h1
  simp only[hb1,Z5,adF,Z3,Z_]
  exact key _ (by rw[adH (λh=>h1 h.1)])
end Go.Proofs.YtcghbgmmgcljkaaGreatDoor
end
section
namespace Go.Proofs.YtcghbgmmgcljkaaGreatDoor
set_option maxRecDepth 20000
set_option maxHeartbeats 4000000
theorem Ji{l:List aB}{k b e:Nat}{argv:List aE}{ck:Bool}{place d:Int}{g:Lg}(hd:30<d):
 n_40s78a4 ((k:Int),(b:Int),(e:Int),d,l,ck,g.steps,place,g.high,none,argv,g.counts,g.seen.map val,())=
  some ((b:Int),(e:Int),l,ck,g.steps,place,g.high,some (bX.mk 2 0),argv,g.counts,g.seen.map val,val (cj 0),()):=by
 rw[n_40s78a4]
 have hd':d>30:=hd
 simp only[hd',adJ,adE,d_,Z6,Z3,Z_]
 rfl
theorem Oc{l:List aB}(R:nS l)(s:ByteArray):LI (l,s,())=some (max (cv l s) 0,decide (cv l s>=0),0,()):=by
 have hv:=py l (by have:=R.len;omega) (λf hf=>by have:=(R.fns f hf).2.2.2.2.1;omega)
 rw[LI]
 simp only[hv,nG l (by have:=R.len;omega),Z6,Z3,R.valid,bne_self_eq_false,Z5,adF]
theorem L5(st:List Item){b:Nat}(hb:b<=st.length):abg (st.length-b) (st.map val).reverse=((st.drop b).map val).reverse/\abg b (acp (st.length-b) (st.map val).reverse)=((st.take b).reverse).map val:=by
 constructor
 ·rw[List.take_reverse,aab,show st.length-(st.length-b)=b by omega,abb]
 ·rw[List.drop_reverse,aab,show st.length-(st.length-b)=b by omega,aaN (by simp;omega),List.map_reverse,aba]
theorem p93{l:List aB}(R:nS l){c:aQ}{k b:Nat}(hk:cv l c.name0=(k:Int))(hb:c.b=(b:Int)){st:List Item}(hbl:b<=st.length)(hst:st.length<=65)(f:aB){d at1:Int}(hd1:1<=d)(hd2:d<=30)(ck:Bool)(place:Int)(pl:List Item)(g:Lg)
 {x:Item}{g2:Lg}(hc:g2.counts.length=g.counts.length){en:Option bX}
 (h40:n_40s78a4 ((k:Int),((st.length-b:Nat):Int),(b:Int),d+1,l,ck,g.steps,place,g.high,none,(st.map val).reverse,g.counts,g.seen.map val,())=
   some (((st.length-b:Nat):Int),(b:Int),l,ck,g2.steps,place,g2.high,en,(st.map val).reverse,g2.counts,g2.seen.map val,val x,())):
 n_93sae8a (c,tu f d at1 none l ck g.steps place g.high none pl st g.counts g.seen ())=
  some (if en.isNone=true then tu f d at1 none l ck g2.steps place (aV d g2.high (st.length-b+1)) en pl (x::st.drop b) g2.counts g2.seen ()
   else tu f d at1 none l ck g2.steps place g2.high en pl (st.drop b) g2.counts g2.seen ()):=by
 have hp:=fA f d at1 none l ck g2.steps place g2.high en pl (st.drop b) g2.counts g2.seen x (by rw[aaJ];omega)
 rw[aaJ]at hp
 unfold tu at hp
 obtain⟨c1,c2⟩:=L5 st hbl
 have hL:(((st.map val).reverse).length:Int)=(st.length:Int):=by rw[lT]
 have w:IntKind.i64.wrap ((st.length:Int) -(b:Int))=((st.length-b:Nat):Int):=by rw[w64 (by omega) (by omega)];omega
 have w2:IntKind.i64.wrap (d+1)=d+1:=w64 (by omega) (by omega)
 have i1:(0:Int)<=((st.length-b:Nat):Int):=by omega
 have i2:((st.length-b:Nat):Int)<=(st.length:Int):=by omega
 have i3:(st.length:Int)<=(st.length:Int):=aaE _
 have hmax:max (k:Int) 0=(k:Int):=by omega
 have e1:st.length-(st.length-b)=b:=by omega
 have e2:st.length-b-aav 0=st.length-b:=rfl
 have e3:st.length-b<=((st.map val).reverse).length:=by rw[lT];omega
 rw[n_93sae8a]
 unfold tu
 simp only[hL,hb,w,i1,i2,i3,and_self,adE,aaE,Oc R,hk,hmax,Z6,Z3,Z_,e1,e2,w2,h40,hc,e3,c1]
 cases hen:en with
 |none=>
  rw[hen]at hp
  simp only[ach,adE,hp,hc,Z3]
 |some y=>simp only[Option.isNone_some,Z5,adF]
theorem MQ{l:List aB}{f:aB}{c:aQ}(h:di l f c=true)(e:c.op=0):d4 c.type0=true:=by
 unfold di at h
 rw[adI e]at h
 simp only[aac]at h
 exact h.1.2.1.1
theorem yh{l:List aB}{f:aB}{c:aQ}(h:di l f c=true)(e:c.op=2\/c.op=3)(h0:0<=f.places)(h1:f.places<=200):0<=c.a/\c.a<f.places:=by
 unfold di at h
 rw[adH (by omega),adI e]at h
 simp only[aac,rng,adG]at h
 have w:IntKind.i64.wrap (f.places-1)=f.places-1:=w64 (by omega) (by omega)
 have:=h.1.1.1
 rw[w]at this
 omega
theorem Qu{l:List aB}{f:aB}{c:aQ}(h:di l f c=true)(e:c.op=5):(5<=c.a/\c.a<=17)/\cK c.type0=true:=by
 unfold di at h
 rw[adH (by omega),adH (by omega),adI e]at h
 simp only[aac,rng,adG]at h
 exact⟨h.1.1.1,h.1.2⟩
theorem TC{l:List aB}{f:aB}{c:aQ}(h:di l f c=true)(e:c.op=6):18<=c.a/\c.a<=23:=by
 unfold di at h
 rw[adH (by omega),adH (by omega),adH (by omega),adI e]at h
 simp only[aac,rng,adG]at h
 exact h.1.1.1
theorem Ao{l:List aB}{f:aB}{c:aQ}(h:di l f c=true)(e:c.op=7\/c.op=9\/c.op=10):cK c.type0=true:=by
 unfold di at h
 rw[adH (by omega),adH (by omega),adH (by omega),adH (by omega),adI e]at h
 simp only[aac]at h
 exact h.1.2
theorem Gx{ck:Bool}{c:aQ}{at1:Int}{pl:List Item}{x:Item}{s:List Item}(e:c.op=7\/c.op=8\/c.op=9\/c.op=10\/c.op=11):cM ck c at1 pl (x::s)=im (bA ck c.op c.type0 x) at1 pl s:=by
 rw[cM,adH (by omega),adH (by omega),adH (by omega),adH (by omega),adH (by omega),adH (by omega),adH (by omega),adH (by omega),adI e]
 rfl
theorem ld{l:List aB}(R:nS l)(ck:Bool)(place:Int):∀(N:Nat) (f:aB) (d:Int) (a:Nat) (pl st:List Item) (g:Lg),OkA l f d a pl st->OkG l g->(d=1->(st.length:Int)<=g.high)->40000-g.steps<=(N:Int)->
 ∀(b e:Nat) (argv:List aE) (z:aE),vF b e l ck place argv z f d a g pl st (gK l ck place N f d (a:Int) pl st g)
 |0,f,d,a,pl,st,g,A,G,hh,hN,b,e,argv,z=>by
  have hs:g.steps=40000:=by have:=G.s1;omega
  rw[gK]
  refine .inr ⟨by simp[zD],?_⟩
  rw[hs,un]
  simp only[zD,hs,G.stop]
 |N+1,f,d,a,pl,st,g,A,G,hh,hN,b,e,argv,z=>by
  obtain⟨c,hc,hcm,hcode,hal,hl3⟩:=A.code R
  have s0:=G.s0
  have s1:=G.s1
  have hst:=A.st_le R
  have hd1:=A.d1
  have hd2:=A.d2
  rw[gK]
  by_cases hs:g.steps=40000
  ·rw[adI hs]
   refine .inr ⟨by simp[zD],?_⟩
   rw[hs,un]
   simp only[zD,hs,G.stop]
  ·rw[adH hs]
   simp only[Z_,hc]
   obtain⟨hk,hw⟩:=jE R A.mem A.reach hc
   have ht:=hk.1
   have hr:=nE hcode
   have go:∀(at1:Int) (pl1 st1:List Item),cM ck c ((a:Int)+1) pl st= .go at1 pl1 st1->
    aX (lt b e l ck g.steps place g.high none argv z f d (a:Int) none g.counts g.seen pl st)=aX (lt b e l ck (g.steps+1) place (aV d g.high st1.length) none argv z f d at1 none g.counts (iB d place c st g.seen) pl1 st1)->
    vF b e l ck place argv z f d a g pl st (gK l ck place N f d at1 pl1 st1 {g with steps:=g.steps+1,high:=aV d g.high st1.length,seen:=iB d place c st g.seen}):=by
    intro at1 pl1 st1 ha hn
    obtain⟨⟨b',hb',A'⟩,G'⟩:=w8 (place:=place) R A G hs hc ha
    subst hb'
    have ih:=ld R ck place N f d b' pl1 st1 _ A' G' (λhd=>nu hd) (by simp only[];omega) b e argv z
    unfold vF at ih⊢
    rw[hn]
    exact ih
   have ret:∀(x:Item) (at2:Int) (pl2 st2:List Item),
    aX (lt b e l ck g.steps place g.high none argv z f d (a:Int) none g.counts g.seen pl st)=aX (lt b e l ck (g.steps+1) place g.high none argv z f d at2 (some (val x)) g.counts g.seen pl2 st2)->
    vF b e l ck place argv z f d a g pl st (x,{g with steps:=g.steps+1}):=by
    intro x at2 pl2 st2 hn
    refine .inl ⟨G.kind,at2,pl2,st2,?_⟩
    rw[hn,D9]
   have stop:∀(w:Int) (hi:Int),aX (lt b e l ck g.steps place g.high none argv z f d (a:Int) none g.counts g.seen pl st)=
    some (aaL ((b:Int),(e:Int),l,ck,g.steps+1,place,g.high,some (bX.mk 1 w),argv,g.counts,g.seen.map val,val (cj 0),()))->
    vF b e l ck place argv z f d a g pl st (cj 0,{g with steps:=g.steps+1,kind:=1,stop:=w}):=by
    intro w hi hn
    exact .inr ⟨by simp,hn⟩
   have hop:c.op=0\/c.op=1\/c.op=2\/c.op=3\/c.op=4\/c.op=5\/c.op=6\/c.op=7\/c.op=8\/c.op=9\/c.op=10\/c.op=11\/c.op=12\/c.op=13\/c.op=14\/c.op=15\/c.op=16\/c.op=17\/c.op=18\/c.op=19:=by omega
   have hse:c.op≠3->iB d place c st g.seen=g.seen:=λh=>by unfold iB;rw[adH (λq=>h q.1)]
   have hpl:=A.pls
   have hplc:=R.places f A.mem
   have hfn:=R.fns f A.mem
   rcases hop with e0|e0|e0|e0|e0|e0|e0|e0|e0|e0|e0|e0|e0|e0|e0|e0|e0|e0|e0|e0
   ·have ha:cM ck c ((a:Int)+1) pl st= .go ((a:Int)+1) pl (cj (lB c.type0 c.a)::st):=by simp[cM,e0]
    rw[ha]
    refine go _ _ _ ha ?_
    rw[Xn b e l ck g.steps place g.high argv z f d a g.counts g.seen pl st e0 hc hs s0 s1 (by omega) (p77 f d ((a:Int)+1) none l ck (g.steps+1) place g.high none pl st g.counts g.seen c (by omega) (MQ hcode e0)) rfl rfl (λ_=>rfl) nofun,hse (by omega)]
    rfl
   ·have ha:cM ck c ((a:Int)+1) pl st= .go ((a:Int)+1) pl (Item.mk 0 true (Z4 #[])::st):=by simp[cM,e0]
    rw[ha]
    refine go _ _ _ ha ?_
    rw[Xo b e l ck g.steps place g.high argv z f d a g.counts g.seen pl st e0 hc hs s0 s1 (by omega) (p78 f d ((a:Int)+1) none l ck (g.steps+1) place g.high none pl st g.counts g.seen c (by omega)) rfl rfl (λ_=>rfl) nofun,hse (by omega)]
    rfl
   ·obtain⟨a0,a1⟩:=yh hcode (by omega) (by omega) hplc
    have ha:cM ck c ((a:Int)+1) pl st= .go ((a:Int)+1) pl (pl.getD c.a.toNat (cj 0)::st):=by simp[cM,e0]
    rw[ha]
    refine go _ _ _ ha ?_
    rw[Xp b e l ck g.steps place g.high argv z f d a g.counts g.seen pl st e0 hc hs s0 s1 (by omega) (p79 f d ((a:Int)+1) none l ck (g.steps+1) place g.high none pl st g.counts g.seen c (by omega) a0 (by omega)) rfl rfl (λ_=>rfl) nofun,hse (by omega)]
    rfl
   ·obtain⟨a0,a1⟩:=yh hcode (by omega) (by omega) hplc
    obtain⟨x,s,rfl⟩:=de rfl (by rw[(bH hr.1 hr.2 (by omega)).2 (by omega)]at ht;exact ht)
    rw[aaf]at hst
    have ha:cM ck c ((a:Int)+1) pl (x::s)= .go ((a:Int)+1) (pl.set c.a.toNat x) s:=by simp[cM,e0]
    rw[ha]
    refine go _ _ _ ha ?_
    have hsn:iB d place c (x::s) g.seen=if d=1/\place=c.a/\g.seen.length<100 then g.seen++[x]else g.seen:=by unfold iB;simp[e0]
    rw[Xq b e l ck g.steps place g.high argv z f d a g.counts g.seen pl (x::s) e0 hc hs s0 s1 (by omega) (p80 f d ((a:Int)+1) none l ck (g.steps+1) place g.high none pl s g.counts g.seen c x (by omega) a0 (by omega) G.seen) (by rw[aaW]) rfl nofun nofun,hsn,gn (λq=>by have:=hh q;simp only[aaf]at this;omega)]
    rfl
   ·obtain⟨x,s,rfl⟩:=de rfl (by rw[(bH hr.1 hr.2 (by omega)).2 (by omega)]at ht;exact ht)
    rw[aaf]at hst
    have ha:cM ck c ((a:Int)+1) pl (x::s)= .go ((a:Int)+1) pl s:=by simp[cM,e0]
    rw[ha]
    refine go _ _ _ ha ?_
    rw[Xr b e l ck g.steps place g.high argv z f d a g.counts g.seen pl (x::s) e0 hc hs s0 s1 (by omega) (p81 f d ((a:Int)+1) none l ck (g.steps+1) place g.high none pl s g.counts g.seen c x (by omega)) rfl rfl (λ_=>rfl) nofun,hse (by omega),gn (λq=>by have:=hh q;simp only[aaf]at this;omega)]
    rfl
   ·obtain⟨o1,o2⟩:=Qu hcode e0
    obtain⟨x,y,s,rfl⟩:=rP rfl (by rw[(bH hr.1 hr.2 (by omega)).1 (by omega)]at ht;exact ht)
    rw[aaf,aaf]at hst
    have ha:cM ck c ((a:Int)+1) pl (x::y::s)=im (opS ck c.a c.type0 y x) ((a:Int)+1) pl s:=by simp[cM,e0]
    have hp:=p82 f d ((a:Int)+1) none l ck (g.steps+1) place g.high none pl s g.counts g.seen c y x (by omega) o2 o1
    generalize opS ck c.a c.type0 y x=r at ha hp
    unfold im at ha
    by_cases h0:r.2=0
    ·rw[adI h0]at ha hp
     rw[ha]
     refine go _ _ _ ha ?_
     rw[WW b e l ck g.steps place g.high argv z f d a g.counts g.seen pl (x::y::s) e0 hc hs s0 s1 (by omega) hp rfl rfl (λ_=>rfl) nofun,hse (by omega)]
     rfl
    ·rw[adH h0]at ha hp
     rw[ha]
     refine stop _ 0 ?_
     rw[WW b e l ck g.steps place g.high argv z f d a g.counts g.seen pl (x::y::s) e0 hc hs s0 s1 (by omega) hp rfl rfl (λ_=>rfl) nofun]
     rfl
   ·have o1:=TC hcode e0
    obtain⟨x,y,s,rfl⟩:=rP rfl (by rw[(bH hr.1 hr.2 (by omega)).1 (by omega)]at ht;exact ht)
    rw[aaf,aaf]at hst
    have ha:cM ck c ((a:Int)+1) pl (x::y::s)= .go ((a:Int)+1) pl (gd (jL c.a y.n x.n)::s):=by simp[cM,e0]
    rw[ha]
    refine go _ _ _ ha ?_
    rw[Xs b e l ck g.steps place g.high argv z f d a g.counts g.seen pl (x::y::s) e0 hc hs s0 s1 (by omega) (p83 f d ((a:Int)+1) none l ck (g.steps+1) place g.high none pl s g.counts g.seen c y x (by omega) o1) rfl rfl (λ_=>rfl) nofun,hse (by omega)]
    rfl
   ·have o2:=Ao hcode (by omega)
    obtain⟨x,s,rfl⟩:=de rfl (by rw[(bH hr.1 hr.2 (by omega)).2 (by omega)]at ht;exact ht)
    rw[aaf]at hst
    have ha:cM ck c ((a:Int)+1) pl (x::s)=im (bA ck c.op c.type0 x) ((a:Int)+1) pl s:=Gx (by omega)
    rw[e0]at ha
    have hp:=p84 f d ((a:Int)+1) none l ck (g.steps+1) place g.high none pl s g.counts g.seen c x (by omega) o2
    generalize bA ck 7 c.type0 x=r at ha hp
    unfold im at ha
    by_cases h0:r.2=0
    ·rw[adI h0]at ha hp
     rw[ha]
     refine go _ _ _ ha ?_
     rw[WX b e l ck g.steps place g.high argv z f d a g.counts g.seen pl (x::s) e0 hc hs s0 s1 (by omega) hp rfl rfl (λ_=>rfl) nofun,hse (by omega)]
     rfl
    ·rw[adH h0]at ha hp
     rw[ha]
     refine stop _ 0 ?_
     rw[WX b e l ck g.steps place g.high argv z f d a g.counts g.seen pl (x::s) e0 hc hs s0 s1 (by omega) hp rfl rfl (λ_=>rfl) nofun]
     rfl
   ·obtain⟨x,s,rfl⟩:=de rfl (by rw[(bH hr.1 hr.2 (by omega)).2 (by omega)]at ht;exact ht)
    rw[aaf]at hst
    have ha:cM ck c ((a:Int)+1) pl (x::s)=im (bA ck c.op c.type0 x) ((a:Int)+1) pl s:=Gx (by omega)
    rw[e0]at ha
    have hal2:bA ck 8 c.type0 x=(gd (x.n==0),0):=rfl
    rw[hal2]at ha
    have ha2:cM ck c ((a:Int)+1) pl (x::s)= .go ((a:Int)+1) pl (gd (x.n==0)::s):=ha
    rw[ha2]
    refine go _ _ _ ha2 ?_
    rw[Xt b e l ck g.steps place g.high argv z f d a g.counts g.seen pl (x::s) e0 hc hs s0 s1 (by omega) (p85 f d ((a:Int)+1) none l ck (g.steps+1) place g.high none pl s g.counts g.seen c x (by omega)) rfl rfl (λ_=>rfl) nofun,hse (by omega)]
    rfl
   ·have o2:=Ao hcode (by omega)
    obtain⟨x,s,rfl⟩:=de rfl (by rw[(bH hr.1 hr.2 (by omega)).2 (by omega)]at ht;exact ht)
    rw[aaf]at hst
    have ha:cM ck c ((a:Int)+1) pl (x::s)=im (bA ck c.op c.type0 x) ((a:Int)+1) pl s:=Gx (by omega)
    rw[e0]at ha
    have hp:=p86 f d ((a:Int)+1) none l ck (g.steps+1) place g.high none pl s g.counts g.seen c x (by omega) o2
    generalize bA ck 9 c.type0 x=r at ha hp
    unfold im at ha
    by_cases h0:r.2=0
    ·rw[adI h0]at ha hp
     rw[ha]
     refine go _ _ _ ha ?_
     rw[WY b e l ck g.steps place g.high argv z f d a g.counts g.seen pl (x::s) e0 hc hs s0 s1 (by omega) hp rfl rfl (λ_=>rfl) nofun,hse (by omega)]
     rfl
    ·rw[adH h0]at ha hp
     rw[ha]
     refine stop _ 0 ?_
     rw[WY b e l ck g.steps place g.high argv z f d a g.counts g.seen pl (x::s) e0 hc hs s0 s1 (by omega) hp rfl rfl (λ_=>rfl) nofun]
     rfl
   ·have o2:=Ao hcode (by omega)
    obtain⟨x,s,rfl⟩:=de rfl (by rw[(bH hr.1 hr.2 (by omega)).2 (by omega)]at ht;exact ht)
    rw[aaf]at hst
    have ha:cM ck c ((a:Int)+1) pl (x::s)=im (bA ck c.op c.type0 x) ((a:Int)+1) pl s:=Gx (by omega)
    rw[e0]at ha
    have hal2:bA ck 10 c.type0 x=(cj (bt c.type0 x.n),0):=rfl
    rw[hal2]at ha
    have ha2:cM ck c ((a:Int)+1) pl (x::s)= .go ((a:Int)+1) pl (cj (bt c.type0 x.n)::s):=ha
    rw[ha2]
    refine go _ _ _ ha2 ?_
    rw[Xu b e l ck g.steps place g.high argv z f d a g.counts g.seen pl (x::s) e0 hc hs s0 s1 (by omega) (p87 f d ((a:Int)+1) none l ck (g.steps+1) place g.high none pl s g.counts g.seen c x (by omega) o2) rfl rfl (λ_=>rfl) nofun,hse (by omega)]
    rfl
   ·obtain⟨x,s,rfl⟩:=de rfl (by rw[(bH hr.1 hr.2 (by omega)).2 (by omega)]at ht;exact ht)
    rw[aaf]at hst
    have ha:cM ck c ((a:Int)+1) pl (x::s)=im (bA ck c.op c.type0 x) ((a:Int)+1) pl s:=Gx (by omega)
    rw[e0]at ha
    have hp:=p88 f d ((a:Int)+1) none l ck (g.steps+1) place g.high none pl s g.counts g.seen c x (by omega)
    generalize bA ck 11 c.type0 x=r at ha hp
    unfold im at ha
    by_cases h0:r.2=0
    ·rw[adI h0]at ha hp
     rw[ha]
     refine go _ _ _ ha ?_
     rw[WZ b e l ck g.steps place g.high argv z f d a g.counts g.seen pl (x::s) e0 hc hs s0 s1 (by omega) hp rfl rfl (λ_=>rfl) nofun,hse (by omega)]
     rfl
    ·rw[adH h0]at ha hp
     rw[ha]
     refine stop _ 0 ?_
     rw[WZ b e l ck g.steps place g.high argv z f d a g.counts g.seen pl (x::s) e0 hc hs s0 s1 (by omega) hp rfl rfl (λ_=>rfl) nofun]
     rfl
   ·obtain⟨x,s,rfl⟩:=de rfl (by rw[(bH hr.1 hr.2 (by omega)).2 (by omega)]at ht;exact ht)
    rw[aaf]at hst
    have ha:cM ck c ((a:Int)+1) pl (x::s)=if x.null=true then .go c.a pl s else .go ((a:Int)+1) pl (x::s):=by simp[cM,e0]
    have hp:=p89 f d ((a:Int)+1) none l ck (g.steps+1) place g.high none pl s g.counts g.seen c x (by omega)
    by_cases h0:x.null=true
    ·rw[adI h0]at ha hp
     rw[ha]
     refine go _ _ _ ha ?_
     rw[W0 b e l ck g.steps place g.high argv z f d a g.counts g.seen pl (x::s) e0 hc hs s0 s1 (by omega) hp rfl rfl (λ_=>rfl) nofun,hse (by omega),gn (λq=>by have:=hh q;simp only[aaf]at this;omega)]
     rfl
    ·rw[adH h0]at ha hp
     rw[ha]
     refine go _ _ _ ha ?_
     rw[W0 b e l ck g.steps place g.high argv z f d a g.counts g.seen pl (x::s) e0 hc hs s0 s1 (by omega) hp rfl rfl (λ_=>rfl) nofun,hse (by omega),gn hh]
     rfl
   ·obtain⟨x,s,rfl⟩:=de rfl (by rw[(bH hr.1 hr.2 (by omega)).2 (by omega)]at ht;exact ht)
    rw[aaf]at hst
    have ha:cM ck c ((a:Int)+1) pl (x::s)=if x.err=Z4 #[]then .go ((a:Int)+1) pl (x::s)else .go c.a pl (x::s):=by simp[cM,e0]
    have hp:=p90 f d ((a:Int)+1) none l ck (g.steps+1) place g.high none pl s g.counts g.seen c x (by omega)
    by_cases h0:x.err=Z4 #[]
    ·rw[adI h0]at ha hp
     rw[ha]
     refine go _ _ _ ha ?_
     rw[W4 b e l ck g.steps place g.high argv z f d a g.counts g.seen pl (x::s) e0 hc hs s0 s1 (by omega) hp rfl rfl (λ_=>rfl) (λ_=>rfl),hse (by omega),gn hh]
     rfl
    ·rw[adH h0]at ha hp
     rw[ha]
     refine go _ _ _ ha ?_
     rw[W4 b e l ck g.steps place g.high argv z f d a g.counts g.seen pl (x::s) e0 hc hs s0 s1 (by omega) hp rfl rfl (λ_=>rfl) (λ_=>rfl),hse (by omega),gn hh]
     rfl
   ·have ha:cM ck c ((a:Int)+1) pl st= .go c.a pl st:=by simp[cM,e0]
    rw[ha]
    refine go _ _ _ ha ?_
    rw[Xv b e l ck g.steps place g.high argv z f d a g.counts g.seen pl st e0 hc hs s0 s1 (by omega) (p91 f d ((a:Int)+1) none l ck (g.steps+1) place g.high none pl st g.counts g.seen c) rfl rfl (λ_=>rfl) (λ_=>rfl),hse (by omega),gn hh]
    rfl
   ·obtain⟨x,s,rfl⟩:=de rfl (by rw[(bH hr.1 hr.2 (by omega)).2 (by omega)]at ht;exact ht)
    rw[aaf]at hst
    have ha:cM ck c ((a:Int)+1) pl (x::s)= .go (if x.n=0 then c.a else(a:Int)+1) pl s:=by
     by_cases h0:x.n=0<;>simp[cM,e0,h0]
    rw[ha]
    refine go _ _ _ ha ?_
    rw[Xw b e l ck g.steps place g.high argv z f d a g.counts g.seen pl (x::s) e0 hc hs s0 s1 (by omega) (p92 f d ((a:Int)+1) none l ck (g.steps+1) place g.high none pl s g.counts g.seen c x (by omega)) rfl rfl (λ_=>rfl) nofun,hse (by omega),gn (λq=>by have:=hh q;simp only[aaf]at this;omega)]
    rfl
   ·have ha:=(rV hcode (ck:=ck) (at1:=(a:Int)+1) (pl:=pl) (st:=st)).mpr e0
    rw[ha]
    obtain⟨k,h,n,h1,h2,h3,h4,h5,h6,h7,h8,h9,h10⟩:=pe R A hc e0
    simp only[h1,h3,h4,Z_]
    by_cases hd:30<d+1
    ·rw[adI hd]
     have q:=p93 R h1 h4 h5 hst f (at1:=(a:Int)+1) hd1 hd2 ck place pl {g with steps:=g.steps+1} (x:=cj 0) (g2:={g with steps:=g.steps+1}) rfl (Ji (g:={g with steps:=g.steps+1}) hd)
     refine .inr ⟨by simp[zD],?_⟩
     rw[TQ b e l ck g.steps place g.high argv z f d a g.counts g.seen pl st e0 hc hs s0 s1 (by omega) q rfl rfl nofun nofun]
     simp only[zD,G.stop]
     rfl
    ·rw[adH hd]
     have G1:OkG l {g with steps:=g.steps+1,counts:=p_ g.counts k}:=⟨by simp only[];omega,by simp only[];omega,G.kind,G.stop,by simp only[p_,aaW];exact G.cnt,G.seen⟩
     have A1:=h10 (by omega)
     have L:=gL R ck place N h (d+1) 0 _ [] _ A1 G1
     have I:=ld R ck place N h (d+1) 0 _ [] _ A1 G1 (λq=>by omega) (by simp only[];omega) (st.length-n) n ((st.map val).reverse) (val (cj 0))
     rw[aar]at L I
     generalize hrr:gK l ck place N h (d+1) 0 (cG h (st.take n).reverse) [] {g with steps:=g.steps+1,counts:=p_ g.counts k}=r at L I⊢
     have L0:=L.s0
     have L1:=L.s1
     have Lh:=L.high (by omega)
     simp only[]at L0 Lh
     have h40:=p40 h3 (b:=st.length-n) (e:=n) (argv:=(st.map val).reverse) (args:=(st.take n).reverse) (by rw[lT];omega) (L5 st h5).2 (by simp;omega) (ck:=ck) (place:=place) (d:=d+1) (g:={g with steps:=g.steps+1}) (by omega) (by omega) h8 G.kind G.cnt h2 (λq=>by omega) (λq=>by omega) (r:=r) (by
      rw[adH (λq=>by omega)]
      exact I) L.zero
     have q:=p93 R h1 h4 h5 hst f (at1:=(a:Int)+1) hd1 hd2 ck place pl {g with steps:=g.steps+1} (x:=r.1) (g2:=r.2) (by rw[L.cnt];exact G.cnt.symm) h40
     by_cases hk:r.2.kind=0
     ·rw[adI hk]
      have een:Dq r.2=none:=by unfold Dq;rw[adI hk]
      rw[een]at q
      have G2:OkG l {r.2 with high:=aV d r.2.high (st.length-n+1)}:=⟨by simp only[];omega,L1,hk,L.stop hk,L.cnt,L.seen⟩
      have ih:=ld R ck place N f d (a+1) pl _ _ (h9 r.1) G2 (λq=>by
       have:(((r.1::st.drop n).length:Nat):Int)=((st.length-n+1:Nat):Int):=by rw[aaf,aaJ]
       rw[this];exact nu q) (by simp only[];omega) b e argv z
      have e1:(((a+1:Nat):Int))=(a:Int)+1:=rfl
      rw[e1]at ih
      unfold vF at ih⊢
      rw[e1]at ih
      rw[TQ b e l ck g.steps place g.high argv z f d a g.counts g.seen pl st e0 hc hs s0 s1 (by omega) q rfl (by rw[L.cnt];exact G.cnt.symm) nofun nofun]
      exact ih
     ·rw[adH hk]
      have een:Dq r.2=some (bX.mk r.2.kind r.2.stop):=by unfold Dq;rw[adH hk]
      rw[een]at q
      refine .inr ⟨hk,?_⟩
      rw[TQ b e l ck g.steps place g.high argv z f d a g.counts g.seen pl st e0 hc hs s0 s1 (by omega) q rfl (by rw[L.cnt];exact G.cnt.symm) nofun nofun]
      rfl
   ·obtain⟨x,s,rfl⟩:=de rfl (by rw[(bH hr.1 hr.2 (by omega)).2 (by omega)]at ht;exact ht)
    rw[aaf]at hst
    have ha:cM ck c ((a:Int)+1) pl (x::s)= .ret x:=by simp[cM,e0]
    rw[ha]
    refine ret x ((a:Int)+1) pl s ?_
    rw[Xx b e l ck g.steps place g.high argv z f d a g.counts g.seen pl (x::s) e0 hc hs s0 s1 (by omega) (p94 f d ((a:Int)+1) none l ck (g.steps+1) place g.high none pl s g.counts g.seen c x (by omega)) rfl rfl (λ_=>rfl) nofun]
    rfl
   ·have ha:cM ck c ((a:Int)+1) pl st= .go ((a:Int)+1) pl (Item.mk 0 false c.name0::st):=by simp[cM,e0]
    rw[ha]
    refine go _ _ _ ha ?_
    rw[Xy b e l ck g.steps place g.high argv z f d a g.counts g.seen pl st e0 hc hs s0 s1 (by omega) (p95 f d ((a:Int)+1) none l ck (g.steps+1) place g.high none pl st g.counts g.seen c (by omega)) rfl rfl (λ_=>rfl) nofun,hse (by omega)]
    rfl
   ·have ha:cM ck c ((a:Int)+1) pl st=if ck=true then .stop c.a else .ret (cj 0):=by simp[cM,e0]
    have hp:=p96 f d ((a:Int)+1) none l ck (g.steps+1) place g.high none pl st g.counts g.seen c
    by_cases h0:ck=true
    ·rw[adI h0]at ha hp
     rw[ha]
     refine stop _ 0 ?_
     rw[W5 b e l ck g.steps place g.high argv z f d a g.counts g.seen pl st e0 hc hs s0 s1 (by omega) hp rfl rfl (λ_=>rfl) (λ_=>rfl)]
     rfl
    ·rw[adH h0]at ha hp
     rw[ha]
     refine ret _ ((a:Int)+1) pl st ?_
     rw[W5 b e l ck g.steps place g.high argv z f d a g.counts g.seen pl st e0 hc hs s0 s1 (by omega) hp rfl rfl (λ_=>rfl) (λ_=>rfl)]
     rfl
end Go.Proofs.YtcghbgmmgcljkaaGreatDoor
end
section
namespace Go.Proofs.YtcghbgmmgcljkaaGreatDoor
open IntKind (i64)
set_option maxRecDepth 20000
set_option maxHeartbeats 8000000
def rt(k:Nat)(l:List aB)(d:Int)(ck:Bool)(at1 steps high place:Int)(i0:Item)(lg:Log)(pl st:List Item)(cnt:List Int)(sn:List Item):=
 (l,(k:Int),d,ck,at1,(0:Int),(0:Int),steps,high,place,i0,lg,pl,st.reverse,cnt,sn,())
theorem bV(x:Item)(s:List Item):(((x::s).reverse.length:Nat):Int)=(s.length:Int)+1:=by simp
theorem dL(x:Item)(s:List Item):(x::s).reverse[s.length]?=some x:=by
 rw[ab8,aao (by simp)];simp
theorem cF(x:Item)(s:List Item):abg s.length (x::s).reverse=s.reverse:=by
 rw[ab8,List.take_left' (by simp)]
theorem zk(x y:Item)(s:List Item):(x::y::s).reverse[s.length]?=some y:=by
 rw[ab8,aat (by simp),dL]
theorem nJ(x y:Item)(s:List Item):abg s.length (x::y::s).reverse=s.reverse:=by
 rw[ab8,abH (by simp),cF]
theorem cZ(x:Item)(s:List Item):s.reverse++[x]=(x::s).reverse:=by simp
theorem zj:((([]:List Item).reverse.length:Nat):Int)=0:=rfl
theorem lU{st:List Item}(h:st.length<=65)(v:Item):st.reverse.length+[v].length<=4294967296:=by simp;omega
structure Rh (l:List aB) (f:aB) (c:aQ) (k a:Nat) (d steps high:Int) (st:List Item) (op:Int):Prop where
 hk:l[k]?=some f
 hc:f.code[a]?=some c
 hs:¬steps=40000
 h0:0<=steps
 h1:steps<=40000
 ha:a<=3000
 hh:d=1->(st.length:Int)<=high
 hst:st.length<=65
 e:c.op=op
section
variable {k:Nat} {l:List aB} {d:Int} {ck:Bool} {a:Nat} {steps high place:Int} {i0:Item} {lg:Log} {pl:List Item} {cnt:List Int} {sn:List Item} {f:aB} {c:aQ}
theorem JA:(∀(_:Rh l f c k a d steps high ([]:List Item) 0) (_:d4 c.type0=true),aA (rt k l d ck (a:Int) steps high place i0 lg pl [] cnt sn)=aA (rt k l d ck ((a:Int)+1) (steps+1) (aV d high (([]:List Item).length+1)) place i0 lg pl (cj (lB c.type0 c.a)::[]) cnt sn))/\
 (∀(_:Rh l f c k a d steps high ([]:List Item) 1) (_:True),aA (rt k l d ck (a:Int) steps high place i0 lg pl [] cnt sn)=aA (rt k l d ck ((a:Int)+1) (steps+1) (aV d high (([]:List Item).length+1)) place i0 lg pl (Item.mk 0 true (Z4 #[])::[]) cnt sn))/\
 (∀(_:Rh l f c k a d steps high ([]:List Item) 18) (_:True),aA (rt k l d ck (a:Int) steps high place i0 lg pl [] cnt sn)=aA (rt k l d ck ((a:Int)+1) (steps+1) (aV d high (([]:List Item).length+1)) place i0 lg pl (Item.mk 0 false c.name0::[]) cnt sn))/\
 (∀(_:Rh l f c k a d steps high ([]:List Item) 2) (_:0<=c.a/\c.a<(pl.length:Int)),aA (rt k l d ck (a:Int) steps high place i0 lg pl [] cnt sn)=aA (rt k l d ck ((a:Int)+1) (steps+1) (aV d high (([]:List Item).length+1)) place i0 lg pl (pl.getD c.a.toNat (cj 0)::[]) cnt sn)):=by
 refine⟨?_,?_,?_,?_⟩<;>(
  intro H E
  obtain⟨hk,hc,hs,h0,h1,ha,hh,hst,e⟩:=H
  have w1:i64.wrap ((a:Int)+1)=(a:Int)+1:=w64 (by omega) (by omega)
  have w2:i64.wrap (steps+1)=steps+1:=w64 (by omega) (by omega)
  have hb:(steps==40000)=false:=by simpa using hs
  have ha0:(0:Int)<=(a:Int):=by omega
  have hk0:(0:Int)<=(k:Int):=by omega
  have hle:=λv=>lU hst v
  have wn:i64.wrap ((0:Int) -1)= -1:=by decide
  have p1:¬(0:Int)<= -1:=by decide
  conv=>lhs;rw[aA]
  unfold rt
  by_cases hd:d=1
  ·have hd1:(d==1)=true:=by simpa using hd
   have hm:max high (0:Int)=high:=by have:=hh hd;simp at this⊢;omega
   simp only[hd1,hm,zj,wn,p1,hb,Z5,adF,adE,hk0,ha0,Z_,hk,hc,Z6,Z3,w1,w2,e,reduceIte,adJ,adK,and_self,ge_iff_le,du,aai,aaP,aad,aaG,bne_self_eq_false,aaE,true_and,and_true,aaT]
   have hg:0<=c.a/\c.a<(pl.length:Int)->pl[c.a.toNat]?=some (pl.getD c.a.toNat (cj 0)):=λq=>by rw[aa5,Z8 (by omega)];rfl
   first
    |simp only[lh _ _ E,Z3,adE,adF,and_self,hle,cZ,hd1,bV,Z5,bne_self_eq_false,reduceIte]
    |simp only[E.1,E.2,hg E,Z3,adE,adF,and_self,hle,cZ,hd1,bV,Z5,bne_self_eq_false,reduceIte]
    |simp only[Z3,adE,adF,and_self,hle,cZ,hd1,bV,Z5,bne_self_eq_false,reduceIte]
   unfold aV
   rw[adI hd]
   try rfl
  ·have hd1:(d==1)=false:=by simpa using hd
   simp only[hd1,zj,wn,p1,hb,Z5,adF,adE,hk0,ha0,Z_,hk,hc,Z6,Z3,w1,w2,e,reduceIte,adJ,adK,and_self,ge_iff_le,du,aai,aaP,aad,aaG,bne_self_eq_false,aaE,true_and,and_true,aaT]
   have hg:0<=c.a/\c.a<(pl.length:Int)->pl[c.a.toNat]?=some (pl.getD c.a.toNat (cj 0)):=λq=>by rw[aa5,Z8 (by omega)];rfl
   first
    |simp only[lh _ _ E,Z3,adE,adF,and_self,hle,cZ,hd1,bV,Z5,bne_self_eq_false,reduceIte]
    |simp only[E.1,E.2,hg E,Z3,adE,adF,and_self,hle,cZ,hd1,bV,Z5,bne_self_eq_false,reduceIte]
    |simp only[Z3,adE,adF,and_self,hle,cZ,hd1,bV,Z5,bne_self_eq_false,reduceIte]
   unfold aV
   rw[adH hd]
   try rfl)
theorem XE(H:Rh l f c k a d steps high ([]:List Item) 0)(E:d4 c.type0=true):aA (rt k l d ck (a:Int) steps high place i0 lg pl [] cnt sn)=aA (rt k l d ck ((a:Int)+1) (steps+1) (aV d high (([]:List Item).length+1)) place i0 lg pl (cj (lB c.type0 c.a)::[]) cnt sn):=JA.1 H E
theorem XM(H:Rh l f c k a d steps high ([]:List Item) 1)(E:True):aA (rt k l d ck (a:Int) steps high place i0 lg pl [] cnt sn)=aA (rt k l d ck ((a:Int)+1) (steps+1) (aV d high (([]:List Item).length+1)) place i0 lg pl (Item.mk 0 true (Z4 #[])::[]) cnt sn):=JA.2.1 H E
theorem T_(H:Rh l f c k a d steps high ([]:List Item) 18)(E:True):aA (rt k l d ck (a:Int) steps high place i0 lg pl [] cnt sn)=aA (rt k l d ck ((a:Int)+1) (steps+1) (aV d high (([]:List Item).length+1)) place i0 lg pl (Item.mk 0 false c.name0::[]) cnt sn):=JA.2.2.1 H E
theorem XO(H:Rh l f c k a d steps high ([]:List Item) 2)(E:0<=c.a/\c.a<(pl.length:Int)):aA (rt k l d ck (a:Int) steps high place i0 lg pl [] cnt sn)=aA (rt k l d ck ((a:Int)+1) (steps+1) (aV d high (([]:List Item).length+1)) place i0 lg pl (pl.getD c.a.toNat (cj 0)::[]) cnt sn):=JA.2.2.2 H E
theorem Jz:(∀{x:Item} {s:List Item} (_:Rh l f c k a d steps high (x::s) 0) (_:d4 c.type0=true),aA (rt k l d ck (a:Int) steps high place i0 lg pl (x::s) cnt sn)=aA (rt k l d ck ((a:Int)+1) (steps+1) (aV d high ((x::s).length+1)) place i0 lg pl (cj (lB c.type0 c.a)::(x::s)) cnt sn))/\
 (∀{x:Item} {s:List Item} (_:Rh l f c k a d steps high (x::s) 1) (_:True),aA (rt k l d ck (a:Int) steps high place i0 lg pl (x::s) cnt sn)=aA (rt k l d ck ((a:Int)+1) (steps+1) (aV d high ((x::s).length+1)) place i0 lg pl (Item.mk 0 true (Z4 #[])::(x::s)) cnt sn))/\
 (∀{x:Item} {s:List Item} (_:Rh l f c k a d steps high (x::s) 18) (_:True),aA (rt k l d ck (a:Int) steps high place i0 lg pl (x::s) cnt sn)=aA (rt k l d ck ((a:Int)+1) (steps+1) (aV d high ((x::s).length+1)) place i0 lg pl (Item.mk 0 false c.name0::(x::s)) cnt sn))/\
 (∀{x:Item} {s:List Item} (_:Rh l f c k a d steps high (x::s) 2) (_:0<=c.a/\c.a<(pl.length:Int)),aA (rt k l d ck (a:Int) steps high place i0 lg pl (x::s) cnt sn)=aA (rt k l d ck ((a:Int)+1) (steps+1) (aV d high ((x::s).length+1)) place i0 lg pl (pl.getD c.a.toNat (cj 0)::(x::s)) cnt sn)):=by
 refine⟨?_,?_,?_,?_⟩<;>(
  intro x s H E
  obtain⟨hk,hc,hs,h0,h1,ha,hh,hst,e⟩:=H
  have w1:i64.wrap ((a:Int)+1)=(a:Int)+1:=w64 (by omega) (by omega)
  have w2:i64.wrap (steps+1)=steps+1:=w64 (by omega) (by omega)
  have hb:(steps==40000)=false:=by simpa using hs
  have ha0:(0:Int)<=(a:Int):=by omega
  have hk0:(0:Int)<=(k:Int):=by omega
  have hst1:s.length<=64:=by rw[aaf]at hst;omega
  have wn:i64.wrap ((s.length:Int)+1-1)=(s.length:Int):=by rw[w64 (by omega) (by omega)];omega
  have p1:(0:Int)<=(s.length:Int):=by omega
  have p2:(s.length:Int)<(s.length:Int)+1:=by omega
  have p3:(s.length:Int)<=(s.length:Int)+1:=by omega
  have p8:s.length<=4294967296:=by omega
  have hst2:s.length<=65:=by omega
  have hle:=λv=>lU hst v
  have p7:s.length<=(x::s).reverse.length:=by simp
  conv=>lhs;rw[aA]
  unfold rt
  by_cases hd:d=1
  ·have hd1:(d==1)=true:=by simpa using hd
   have hm:max high ((s.length:Int)+1)=high:=by have:=hh hd;simp at this⊢;omega
   simp only[hd1,hm,bV,wn,p1,p2,p3,dL,cF,p7,p8,hb,Z5,adF,adE,hk0,ha0,Z_,hk,hc,Z6,Z3,w1,w2,e,reduceIte,adJ,adK,and_self,ge_iff_le,du,aai,aaP,aad,aaG,bne_self_eq_false,aaE,true_and,and_true,aaT]
   have hg:0<=c.a/\c.a<(pl.length:Int)->pl[c.a.toNat]?=some (pl.getD c.a.toNat (cj 0)):=λq=>by rw[aa5,Z8 (by omega)];rfl
   first
    |simp only[lh _ _ E,Z3,adE,adF,and_self,hle,cZ,hd1,bV,Z5,bne_self_eq_false,reduceIte]
    |simp only[E.1,E.2,hg E,Z3,adE,adF,and_self,hle,cZ,hd1,bV,Z5,bne_self_eq_false,reduceIte]
    |simp only[Z3,adE,adF,and_self,hle,cZ,hd1,bV,Z5,bne_self_eq_false,reduceIte]
   unfold aV
   rw[adI hd]
   try rfl
  ·have hd1:(d==1)=false:=by simpa using hd
   simp only[hd1,bV,wn,p1,p2,p3,dL,cF,p7,p8,hb,Z5,adF,adE,hk0,ha0,Z_,hk,hc,Z6,Z3,w1,w2,e,reduceIte,adJ,adK,and_self,ge_iff_le,du,aai,aaP,aad,aaG,bne_self_eq_false,aaE,true_and,and_true,aaT]
   have hg:0<=c.a/\c.a<(pl.length:Int)->pl[c.a.toNat]?=some (pl.getD c.a.toNat (cj 0)):=λq=>by rw[aa5,Z8 (by omega)];rfl
   first
    |simp only[lh _ _ E,Z3,adE,adF,and_self,hle,cZ,hd1,bV,Z5,bne_self_eq_false,reduceIte]
    |simp only[E.1,E.2,hg E,Z3,adE,adF,and_self,hle,cZ,hd1,bV,Z5,bne_self_eq_false,reduceIte]
    |simp only[Z3,adE,adF,and_self,hle,cZ,hd1,bV,Z5,bne_self_eq_false,reduceIte]
   unfold aV
   rw[adH hd]
   try rfl)
theorem XD{x:Item}{s:List Item}(H:Rh l f c k a d steps high (x::s) 0)(E:d4 c.type0=true):aA (rt k l d ck (a:Int) steps high place i0 lg pl (x::s) cnt sn)=aA (rt k l d ck ((a:Int)+1) (steps+1) (aV d high ((x::s).length+1)) place i0 lg pl (cj (lB c.type0 c.a)::(x::s)) cnt sn):=Jz.1 H E
theorem XL{x:Item}{s:List Item}(H:Rh l f c k a d steps high (x::s) 1)(E:True):aA (rt k l d ck (a:Int) steps high place i0 lg pl (x::s) cnt sn)=aA (rt k l d ck ((a:Int)+1) (steps+1) (aV d high ((x::s).length+1)) place i0 lg pl (Item.mk 0 true (Z4 #[])::(x::s)) cnt sn):=Jz.2.1 H E
theorem T9{x:Item}{s:List Item}(H:Rh l f c k a d steps high (x::s) 18)(E:True):aA (rt k l d ck (a:Int) steps high place i0 lg pl (x::s) cnt sn)=aA (rt k l d ck ((a:Int)+1) (steps+1) (aV d high ((x::s).length+1)) place i0 lg pl (Item.mk 0 false c.name0::(x::s)) cnt sn):=Jz.2.2.1 H E
theorem XN{x:Item}{s:List Item}(H:Rh l f c k a d steps high (x::s) 2)(E:0<=c.a/\c.a<(pl.length:Int)):aA (rt k l d ck (a:Int) steps high place i0 lg pl (x::s) cnt sn)=aA (rt k l d ck ((a:Int)+1) (steps+1) (aV d high ((x::s).length+1)) place i0 lg pl (pl.getD c.a.toNat (cj 0)::(x::s)) cnt sn):=Jz.2.2.2 H E
theorem LN:(∀(_:Rh l f c k a d steps high ([]:List Item) 14) (_:True),aA (rt k l d ck (a:Int) steps high place i0 lg pl [] cnt sn)=aA (rt k l d ck c.a (steps+1) (aV d high 0) place i0 lg pl [] cnt sn))/\
 (∀(_:Rh l f c k a d steps high ([]:List Item) 19) (_:1<=c.a),aA (rt k l d ck (a:Int) steps high place i0 lg pl [] cnt sn)=if ck=true then some (cj 0,1,c.a,steps+1,high,place,cnt,sn,())else some ((cj 0),0,0,steps+1,high,place,cnt,sn,())):=by
 refine⟨?_,?_⟩<;>(
  intro H E
  obtain⟨hk,hc,hs,h0,h1,ha,hh,hst,e⟩:=H
  have w1:i64.wrap ((a:Int)+1)=(a:Int)+1:=w64 (by omega) (by omega)
  have w2:i64.wrap (steps+1)=steps+1:=w64 (by omega) (by omega)
  have hb:(steps==40000)=false:=by simpa using hs
  have ha0:(0:Int)<=(a:Int):=by omega
  have hk0:(0:Int)<=(k:Int):=by omega
  have hle:=λv=>lU hst v
  have wn:i64.wrap ((0:Int) -1)= -1:=by decide
  have p1:¬(0:Int)<= -1:=by decide
  conv=>lhs;rw[aA]
  unfold rt
  by_cases hd:d=1
  ·have hd1:(d==1)=true:=by simpa using hd
   have hm:max high (0:Int)=high:=by have:=hh hd;simp at this⊢;omega
   simp only[hd1,hm,zj,wn,p1,hb,Z5,adF,adE,hk0,ha0,Z_,hk,hc,Z6,Z3,w1,w2,e,reduceIte,adJ,adK,and_self,ge_iff_le,du,aai,aaP,aad,aaG,bne_self_eq_false,aaE,true_and,and_true,aaT]
   have hca:1<=c.a->(c.a !=0)=true:=λq=>by simp;omega
   first
    |(cases ck
      ·simp only[Z3,bne_self_eq_false,aa4,adE,Z5,adF]
       rfl
      ·simp only[Z3,aaC,hca E,adE,Z5,adF]
       rfl)
    |(unfold aV
      rw[adI hd]
      first
       |done
       |rfl
       |rw[show max high ((0:Nat):Int)=high from hm])
  ·have hd1:(d==1)=false:=by simpa using hd
   simp only[hd1,zj,wn,p1,hb,Z5,adF,adE,hk0,ha0,Z_,hk,hc,Z6,Z3,w1,w2,e,reduceIte,adJ,adK,and_self,ge_iff_le,du,aai,aaP,aad,aaG,bne_self_eq_false,aaE,true_and,and_true,aaT]
   have hca:1<=c.a->(c.a !=0)=true:=λq=>by simp;omega
   first
    |(cases ck
      ·simp only[Z3,bne_self_eq_false,aa4,adE,Z5,adF]
       rfl
      ·simp only[Z3,aaC,hca E,adE,Z5,adF]
       rfl)
    |(unfold aV
      rw[adH hd]
      first
       |done
       |rfl
       |skip))
theorem T6(H:Rh l f c k a d steps high ([]:List Item) 14)(E:True):aA (rt k l d ck (a:Int) steps high place i0 lg pl [] cnt sn)=aA (rt k l d ck c.a (steps+1) (aV d high 0) place i0 lg pl [] cnt sn):=LN.1 H E
theorem Q9(H:Rh l f c k a d steps high ([]:List Item) 19)(E:1<=c.a):aA (rt k l d ck (a:Int) steps high place i0 lg pl [] cnt sn)=if ck=true then some (cj 0,1,c.a,steps+1,high,place,cnt,sn,())else some ((cj 0),0,0,steps+1,high,place,cnt,sn,()):=LN.2 H E
theorem LM:(∀{x:Item} {s:List Item} (_:Rh l f c k a d steps high (x::s) 14) (_:True),aA (rt k l d ck (a:Int) steps high place i0 lg pl (x::s) cnt sn)=aA (rt k l d ck c.a (steps+1) (aV d high (s.length+1)) place i0 lg pl (x::s) cnt sn))/\
 (∀{x:Item} {s:List Item} (_:Rh l f c k a d steps high (x::s) 19) (_:1<=c.a),aA (rt k l d ck (a:Int) steps high place i0 lg pl (x::s) cnt sn)=if ck=true then some (cj 0,1,c.a,steps+1,high,place,cnt,sn,())else some ((cj 0),0,0,steps+1,high,place,cnt,sn,())):=by
 refine⟨?_,?_⟩<;>(
  intro x s H E
  obtain⟨hk,hc,hs,h0,h1,ha,hh,hst,e⟩:=H
  have w1:i64.wrap ((a:Int)+1)=(a:Int)+1:=w64 (by omega) (by omega)
  have w2:i64.wrap (steps+1)=steps+1:=w64 (by omega) (by omega)
  have hb:(steps==40000)=false:=by simpa using hs
  have ha0:(0:Int)<=(a:Int):=by omega
  have hk0:(0:Int)<=(k:Int):=by omega
  have hst1:s.length<=64:=by rw[aaf]at hst;omega
  have wn:i64.wrap ((s.length:Int)+1-1)=(s.length:Int):=by rw[w64 (by omega) (by omega)];omega
  have p1:(0:Int)<=(s.length:Int):=by omega
  have p2:(s.length:Int)<(s.length:Int)+1:=by omega
  have p3:(s.length:Int)<=(s.length:Int)+1:=by omega
  have p8:s.length<=4294967296:=by omega
  have hst2:s.length<=65:=by omega
  have hle:=λv=>lU hst v
  have p7:s.length<=(x::s).reverse.length:=by simp
  conv=>lhs;rw[aA]
  unfold rt
  by_cases hd:d=1
  ·have hd1:(d==1)=true:=by simpa using hd
   have hm:max high ((s.length:Int)+1)=high:=by have:=hh hd;simp at this⊢;omega
   simp only[hd1,hm,bV,wn,p1,p2,p3,dL,cF,p7,p8,hb,Z5,adF,adE,hk0,ha0,Z_,hk,hc,Z6,Z3,w1,w2,e,reduceIte,adJ,adK,and_self,ge_iff_le,du,aai,aaP,aad,aaG,bne_self_eq_false,aaE,true_and,and_true,aaT]
   have hca:1<=c.a->(c.a !=0)=true:=λq=>by simp;omega
   first
    |(cases ck
      ·simp only[Z3,bne_self_eq_false,aa4,adE,Z5,adF]
       rfl
      ·simp only[Z3,aaC,hca E,adE,Z5,adF]
       rfl)
    |(unfold aV
      rw[adI hd]
      first
       |done
       |rfl
       |rw[show max high (((s.length+1):Nat):Int)=high from hm])
  ·have hd1:(d==1)=false:=by simpa using hd
   simp only[hd1,bV,wn,p1,p2,p3,dL,cF,p7,p8,hb,Z5,adF,adE,hk0,ha0,Z_,hk,hc,Z6,Z3,w1,w2,e,reduceIte,adJ,adK,and_self,ge_iff_le,du,aai,aaP,aad,aaG,bne_self_eq_false,aaE,true_and,and_true,aaT]
   have hca:1<=c.a->(c.a !=0)=true:=λq=>by simp;omega
   first
    |(cases ck
      ·simp only[Z3,bne_self_eq_false,aa4,adE,Z5,adF]
       rfl
      ·simp only[Z3,aaC,hca E,adE,Z5,adF]
       rfl)
    |(unfold aV
      rw[adH hd]
      first
       |done
       |rfl
       |skip))
theorem T5{x:Item}{s:List Item}(H:Rh l f c k a d steps high (x::s) 14)(E:True):aA (rt k l d ck (a:Int) steps high place i0 lg pl (x::s) cnt sn)=aA (rt k l d ck c.a (steps+1) (aV d high (s.length+1)) place i0 lg pl (x::s) cnt sn):=LM.1 H E
theorem Q8{x:Item}{s:List Item}(H:Rh l f c k a d steps high (x::s) 19)(E:1<=c.a):aA (rt k l d ck (a:Int) steps high place i0 lg pl (x::s) cnt sn)=if ck=true then some (cj 0,1,c.a,steps+1,high,place,cnt,sn,())else some ((cj 0),0,0,steps+1,high,place,cnt,sn,()):=LM.2 H E
theorem XQ:(∀{x:Item} {s:List Item} (_:Rh l f c k a d steps high (x::s) 4) (_:True),aA (rt k l d ck (a:Int) steps high place i0 lg pl (x::s) cnt sn)=aA (rt k l d ck ((a:Int)+1) (steps+1) (aV d high s.length) place i0 lg pl s cnt sn)):=by
 (
  intro x s H E
  obtain⟨hk,hc,hs,h0,h1,ha,hh,hst,e⟩:=H
  have w1:i64.wrap ((a:Int)+1)=(a:Int)+1:=w64 (by omega) (by omega)
  have w2:i64.wrap (steps+1)=steps+1:=w64 (by omega) (by omega)
  have hb:(steps==40000)=false:=by simpa using hs
  have ha0:(0:Int)<=(a:Int):=by omega
  have hk0:(0:Int)<=(k:Int):=by omega
  have hst1:s.length<=64:=by rw[aaf]at hst;omega
  have wn:i64.wrap ((s.length:Int)+1-1)=(s.length:Int):=by rw[w64 (by omega) (by omega)];omega
  have p1:(0:Int)<=(s.length:Int):=by omega
  have p2:(s.length:Int)<(s.length:Int)+1:=by omega
  have p3:(s.length:Int)<=(s.length:Int)+1:=by omega
  have p8:s.length<=4294967296:=by omega
  have hst2:s.length<=65:=by omega
  have hle:=λv=>lU hst2 v
  have p7:s.length<=(x::s).reverse.length:=by simp
  conv=>lhs;rw[aA]
  unfold rt
  by_cases hd:d=1
  ·have hd1:(d==1)=true:=by simpa using hd
   have hm:max high ((s.length:Int)+1)=high:=by have:=hh hd;simp at this⊢;omega
   simp only[hd1,hm,bV,wn,p1,p2,p3,dL,cF,p7,p8,hb,Z5,adF,adE,hk0,ha0,Z_,hk,hc,Z6,Z3,w1,w2,e,reduceIte,adJ,adK,and_self,ge_iff_le,du,aai,aaP,aad,aaG,bne_self_eq_false,aaE,true_and,and_true,aaT]
   simp only[aa3]
   unfold aV
   rw[adI hd]
   try rfl
  ·have hd1:(d==1)=false:=by simpa using hd
   simp only[hd1,bV,wn,p1,p2,p3,dL,cF,p7,p8,hb,Z5,adF,adE,hk0,ha0,Z_,hk,hc,Z6,Z3,w1,w2,e,reduceIte,adJ,adK,and_self,ge_iff_le,du,aai,aaP,aad,aaG,bne_self_eq_false,aaE,true_and,and_true,aaT]
   unfold aV
   rw[adH hd]
   try rfl)
theorem rl4{x:Item}{s:List Item}(H:Rh l f c k a d steps high (x::s) 4)(E:True):aA (rt k l d ck (a:Int) steps high place i0 lg pl (x::s) cnt sn)=aA (rt k l d ck ((a:Int)+1) (steps+1) (aV d high s.length) place i0 lg pl s cnt sn):=XQ H E
theorem T8:(∀{x:Item} {s:List Item} (_:Rh l f c k a d steps high (x::s) 17) (_:True),aA (rt k l d ck (a:Int) steps high place i0 lg pl (x::s) cnt sn)=some (x,0,0,steps+1,high,place,cnt,sn,())):=by
 (
  intro x s H E
  obtain⟨hk,hc,hs,h0,h1,ha,hh,hst,e⟩:=H
  have w1:i64.wrap ((a:Int)+1)=(a:Int)+1:=w64 (by omega) (by omega)
  have w2:i64.wrap (steps+1)=steps+1:=w64 (by omega) (by omega)
  have hb:(steps==40000)=false:=by simpa using hs
  have ha0:(0:Int)<=(a:Int):=by omega
  have hk0:(0:Int)<=(k:Int):=by omega
  have hst1:s.length<=64:=by rw[aaf]at hst;omega
  have wn:i64.wrap ((s.length:Int)+1-1)=(s.length:Int):=by rw[w64 (by omega) (by omega)];omega
  have p1:(0:Int)<=(s.length:Int):=by omega
  have p2:(s.length:Int)<(s.length:Int)+1:=by omega
  have p3:(s.length:Int)<=(s.length:Int)+1:=by omega
  have p8:s.length<=4294967296:=by omega
  have hst2:s.length<=65:=by omega
  have hle:=λv=>lU hst2 v
  have p7:s.length<=(x::s).reverse.length:=by simp
  conv=>lhs;rw[aA]
  unfold rt
  by_cases hd:d=1
  ·have hd1:(d==1)=true:=by simpa using hd
   have hm:max high ((s.length:Int)+1)=high:=by have:=hh hd;simp at this⊢;omega
   simp only[hd1,hm,bV,wn,p1,p2,p3,dL,cF,p7,p8,hb,Z5,adF,adE,hk0,ha0,Z_,hk,hc,Z6,Z3,w1,w2,e,reduceIte,adJ,adK,and_self,ge_iff_le,du,aai,aaP,aad,aaG,bne_self_eq_false,aaE,true_and,and_true,aaT]
  ·have hd1:(d==1)=false:=by simpa using hd
   simp only[hd1,bV,wn,p1,p2,p3,dL,cF,p7,p8,hb,Z5,adF,adE,hk0,ha0,Z_,hk,hc,Z6,Z3,w1,w2,e,reduceIte,adJ,adK,and_self,ge_iff_le,du,aai,aaP,aad,aaG,bne_self_eq_false,aaE,true_and,and_true,aaT])
theorem XK{x:Item}{s:List Item}(H:Rh l f c k a d steps high (x::s) 17)(E:True):aA (rt k l d ck (a:Int) steps high place i0 lg pl (x::s) cnt sn)=some (x,0,0,steps+1,high,place,cnt,sn,()):=T8 H E
theorem T3:(∀{x:Item} {s:List Item} (_:Rh l f c k a d steps high (x::s) 12) (_:True),aA (rt k l d ck (a:Int) steps high place i0 lg pl (x::s) cnt sn)=if x.null=true then aA (rt k l d ck c.a (steps+1) (aV d high s.length) place i0 lg pl s cnt sn)else aA (rt k l d ck ((a:Int)+1) (steps+1) (aV d high (s.length+1)) place i0 lg pl (x::s) cnt sn)):=by
 (
  intro x s H E
  obtain⟨hk,hc,hs,h0,h1,ha,hh,hst,e⟩:=H
  have w1:i64.wrap ((a:Int)+1)=(a:Int)+1:=w64 (by omega) (by omega)
  have w2:i64.wrap (steps+1)=steps+1:=w64 (by omega) (by omega)
  have hb:(steps==40000)=false:=by simpa using hs
  have ha0:(0:Int)<=(a:Int):=by omega
  have hk0:(0:Int)<=(k:Int):=by omega
  have hst1:s.length<=64:=by rw[aaf]at hst;omega
  have wn:i64.wrap ((s.length:Int)+1-1)=(s.length:Int):=by rw[w64 (by omega) (by omega)];omega
  have p1:(0:Int)<=(s.length:Int):=by omega
  have p2:(s.length:Int)<(s.length:Int)+1:=by omega
  have p3:(s.length:Int)<=(s.length:Int)+1:=by omega
  have p8:s.length<=4294967296:=by omega
  have hst2:s.length<=65:=by omega
  have hle:=λv=>lU hst2 v
  have p7:s.length<=(x::s).reverse.length:=by simp
  conv=>lhs;rw[aA]
  unfold rt
  by_cases hd:d=1
  ·have hd1:(d==1)=true:=by simpa using hd
   have hm:max high ((s.length:Int)+1)=high:=by have:=hh hd;simp at this⊢;omega
   simp only[hd1,hm,bV,wn,p1,p2,p3,dL,cF,p7,p8,hb,Z5,adF,adE,hk0,ha0,Z_,hk,hc,Z6,Z3,w1,w2,e,reduceIte,adJ,adK,and_self,ge_iff_le,du,aai,aaP,aad,aaG,bne_self_eq_false,aaE,true_and,and_true,aaT]
   cases hn:x.null
   ·simp only[Z3,bne_self_eq_false,beq_self_eq_true,Z5,adF,adE,hd1,bV,hm]
    unfold aV
    rw[adI hd]
    rw[show max high ((s.length+1:Nat):Int)=high from hm]
   ·simp only[Z3,bne_self_eq_false,beq_self_eq_true,Z5,adF,adE,hd1,aa3]
    unfold aV
    rw[adI hd]
    try rfl
  ·have hd1:(d==1)=false:=by simpa using hd
   simp only[hd1,bV,wn,p1,p2,p3,dL,cF,p7,p8,hb,Z5,adF,adE,hk0,ha0,Z_,hk,hc,Z6,Z3,w1,w2,e,reduceIte,adJ,adK,and_self,ge_iff_le,du,aai,aaP,aad,aaG,bne_self_eq_false,aaE,true_and,and_true,aaT]
   cases hn:x.null
   ·simp only[Z3,bne_self_eq_false,beq_self_eq_true,Z5,adF,adE,hd1,bV]
    unfold aV
    rw[adH hd]
   ·simp only[Z3,bne_self_eq_false,beq_self_eq_true,Z5,adF,adE,hd1,aa3]
    unfold aV
    rw[adH hd]
    try rfl)
theorem XH{x:Item}{s:List Item}(H:Rh l f c k a d steps high (x::s) 12)(E:True):aA (rt k l d ck (a:Int) steps high place i0 lg pl (x::s) cnt sn)=if x.null=true then aA (rt k l d ck c.a (steps+1) (aV d high s.length) place i0 lg pl s cnt sn)else aA (rt k l d ck ((a:Int)+1) (steps+1) (aV d high (s.length+1)) place i0 lg pl (x::s) cnt sn):=T3 H E
theorem T4:(∀{x:Item} {s:List Item} (_:Rh l f c k a d steps high (x::s) 13) (_:True),aA (rt k l d ck (a:Int) steps high place i0 lg pl (x::s) cnt sn)=if x.err=Z4 #[]then aA (rt k l d ck ((a:Int)+1) (steps+1) (aV d high (s.length+1)) place i0 lg pl (x::s) cnt sn)else aA (rt k l d ck c.a (steps+1) (aV d high (s.length+1)) place i0 lg pl (x::s) cnt sn)):=by
 (
  intro x s H E
  obtain⟨hk,hc,hs,h0,h1,ha,hh,hst,e⟩:=H
  have w1:i64.wrap ((a:Int)+1)=(a:Int)+1:=w64 (by omega) (by omega)
  have w2:i64.wrap (steps+1)=steps+1:=w64 (by omega) (by omega)
  have hb:(steps==40000)=false:=by simpa using hs
  have ha0:(0:Int)<=(a:Int):=by omega
  have hk0:(0:Int)<=(k:Int):=by omega
  have hst1:s.length<=64:=by rw[aaf]at hst;omega
  have wn:i64.wrap ((s.length:Int)+1-1)=(s.length:Int):=by rw[w64 (by omega) (by omega)];omega
  have p1:(0:Int)<=(s.length:Int):=by omega
  have p2:(s.length:Int)<(s.length:Int)+1:=by omega
  have p3:(s.length:Int)<=(s.length:Int)+1:=by omega
  have p8:s.length<=4294967296:=by omega
  have hst2:s.length<=65:=by omega
  have hle:=λv=>lU hst2 v
  have p7:s.length<=(x::s).reverse.length:=by simp
  conv=>lhs;rw[aA]
  unfold rt
  by_cases hd:d=1
  ·have hd1:(d==1)=true:=by simpa using hd
   have hm:max high ((s.length:Int)+1)=high:=by have:=hh hd;simp at this⊢;omega
   simp only[hd1,hm,bV,wn,p1,p2,p3,dL,cF,p7,p8,hb,Z5,adF,adE,hk0,ha0,Z_,hk,hc,Z6,Z3,w1,w2,e,reduceIte,adJ,adK,and_self,ge_iff_le,du,aai,aaP,aad,aaG,bne_self_eq_false,aaE,true_and,and_true,aaT]
   simp only[eo]
   by_cases hn:x.err=Z4 #[]
   ·simp only[Z3,bne_self_eq_false,beq_self_eq_true,Z5,adF,adE,hd1,hn,adJ,adK,aaC,aa4,bV,hm]
    unfold aV
    rw[adI hd]
    rw[show max high ((s.length+1:Nat):Int)=high from hm]
   ·simp only[Z3,bne_self_eq_false,beq_self_eq_true,Z5,adF,adE,hd1,hn,adJ,adK,aaC,aa4,bV,hm]
    unfold aV
    rw[adI hd]
    rw[show max high ((s.length+1:Nat):Int)=high from hm]
  ·have hd1:(d==1)=false:=by simpa using hd
   simp only[hd1,bV,wn,p1,p2,p3,dL,cF,p7,p8,hb,Z5,adF,adE,hk0,ha0,Z_,hk,hc,Z6,Z3,w1,w2,e,reduceIte,adJ,adK,and_self,ge_iff_le,du,aai,aaP,aad,aaG,bne_self_eq_false,aaE,true_and,and_true,aaT]
   simp only[eo]
   by_cases hn:x.err=Z4 #[]
   ·simp only[Z3,bne_self_eq_false,beq_self_eq_true,Z5,adF,adE,hd1,hn,adJ,adK,aaC,aa4,bV]
    unfold aV
    rw[adH hd]
   ·simp only[Z3,bne_self_eq_false,beq_self_eq_true,Z5,adF,adE,hd1,hn,adJ,adK,aaC,aa4,bV]
    unfold aV
    rw[adH hd])
theorem XI{x:Item}{s:List Item}(H:Rh l f c k a d steps high (x::s) 13)(E:True):aA (rt k l d ck (a:Int) steps high place i0 lg pl (x::s) cnt sn)=if x.err=Z4 #[]then aA (rt k l d ck ((a:Int)+1) (steps+1) (aV d high (s.length+1)) place i0 lg pl (x::s) cnt sn)else aA (rt k l d ck c.a (steps+1) (aV d high (s.length+1)) place i0 lg pl (x::s) cnt sn):=T4 H E
theorem T7:(∀{x:Item} {s:List Item} (_:Rh l f c k a d steps high (x::s) 15) (_:True),aA (rt k l d ck (a:Int) steps high place i0 lg pl (x::s) cnt sn)=if x.n=0 then aA (rt k l d ck c.a (steps+1) (aV d high s.length) place i0 lg pl s cnt sn)else aA (rt k l d ck ((a:Int)+1) (steps+1) (aV d high s.length) place i0 lg pl s cnt sn)):=by
 (
  intro x s H E
  obtain⟨hk,hc,hs,h0,h1,ha,hh,hst,e⟩:=H
  have w1:i64.wrap ((a:Int)+1)=(a:Int)+1:=w64 (by omega) (by omega)
  have w2:i64.wrap (steps+1)=steps+1:=w64 (by omega) (by omega)
  have hb:(steps==40000)=false:=by simpa using hs
  have ha0:(0:Int)<=(a:Int):=by omega
  have hk0:(0:Int)<=(k:Int):=by omega
  have hst1:s.length<=64:=by rw[aaf]at hst;omega
  have wn:i64.wrap ((s.length:Int)+1-1)=(s.length:Int):=by rw[w64 (by omega) (by omega)];omega
  have p1:(0:Int)<=(s.length:Int):=by omega
  have p2:(s.length:Int)<(s.length:Int)+1:=by omega
  have p3:(s.length:Int)<=(s.length:Int)+1:=by omega
  have p8:s.length<=4294967296:=by omega
  have hst2:s.length<=65:=by omega
  have hle:=λv=>lU hst2 v
  have p7:s.length<=(x::s).reverse.length:=by simp
  conv=>lhs;rw[aA]
  unfold rt
  by_cases hd:d=1
  ·have hd1:(d==1)=true:=by simpa using hd
   have hm:max high ((s.length:Int)+1)=high:=by have:=hh hd;simp at this⊢;omega
   simp only[hd1,hm,bV,wn,p1,p2,p3,dL,cF,p7,p8,hb,Z5,adF,adE,hk0,ha0,Z_,hk,hc,Z6,Z3,w1,w2,e,reduceIte,adJ,adK,and_self,ge_iff_le,du,aai,aaP,aad,aaG,bne_self_eq_false,aaE,true_and,and_true,aaT]
   by_cases hn:x.n=0
   ·have hn1:(x.n==0)=true:=by simpa using hn
    simp only[Z3,bne_self_eq_false,beq_self_eq_true,Z5,adF,adE,hd1,hn,hn1,aa3]
    unfold aV
    rw[adI hd]
    try rfl
   ·have hn1:(x.n==0)=false:=by simpa using hn
    simp only[Z3,bne_self_eq_false,beq_self_eq_true,Z5,adF,adE,hd1,hn,hn1,aa3]
    unfold aV
    rw[adI hd]
    try rfl
  ·have hd1:(d==1)=false:=by simpa using hd
   simp only[hd1,bV,wn,p1,p2,p3,dL,cF,p7,p8,hb,Z5,adF,adE,hk0,ha0,Z_,hk,hc,Z6,Z3,w1,w2,e,reduceIte,adJ,adK,and_self,ge_iff_le,du,aai,aaP,aad,aaG,bne_self_eq_false,aaE,true_and,and_true,aaT]
   by_cases hn:x.n=0
   ·have hn1:(x.n==0)=true:=by simpa using hn
    simp only[Z3,bne_self_eq_false,beq_self_eq_true,Z5,adF,adE,hd1,hn,hn1,aa3]
    unfold aV
    rw[adH hd]
    try rfl
   ·have hn1:(x.n==0)=false:=by simpa using hn
    simp only[Z3,bne_self_eq_false,beq_self_eq_true,Z5,adF,adE,hd1,hn,hn1,aa3]
    unfold aV
    rw[adH hd]
    try rfl)
theorem XJ{x:Item}{s:List Item}(H:Rh l f c k a d steps high (x::s) 15)(E:True):aA (rt k l d ck (a:Int) steps high place i0 lg pl (x::s) cnt sn)=if x.n=0 then aA (rt k l d ck c.a (steps+1) (aV d high s.length) place i0 lg pl s cnt sn)else aA (rt k l d ck ((a:Int)+1) (steps+1) (aV d high s.length) place i0 lg pl s cnt sn):=T7 H E
theorem XR:(∀{x y:Item} {s:List Item} (_:Rh l f c k a d steps high (x::y::s) 5) (_:cK c.type0=true),aA (rt k l d ck (a:Int) steps high place i0 lg pl (x::y::s) cnt sn)=if(opS ck c.a c.type0 y x).2=0 then aA (rt k l d ck ((a:Int)+1) (steps+1) (aV d high (s.length+1)) place i0 lg pl ((opS ck c.a c.type0 y x).1::s) cnt sn)else some (cj 0,1,(opS ck c.a c.type0 y x).2,steps+1,high,place,cnt,sn,())):=by
 (
  intro x y s H E
  obtain⟨hk,hc,hs,h0,h1,ha,hh,hst,e⟩:=H
  have w1:i64.wrap ((a:Int)+1)=(a:Int)+1:=w64 (by omega) (by omega)
  have w2:i64.wrap (steps+1)=steps+1:=w64 (by omega) (by omega)
  have hb:(steps==40000)=false:=by simpa using hs
  have ha0:(0:Int)<=(a:Int):=by omega
  have hk0:(0:Int)<=(k:Int):=by omega
  have hst1:(y::s).length<=64:=by rw[aaf]at hst;omega
  have wn:i64.wrap (((y::s).length:Int)+1-1)=((y::s).length:Int):=by rw[w64 (by omega) (by omega)];omega
  have p1:(0:Int)<=((y::s).length:Int):=by omega
  have p2:((y::s).length:Int)<((y::s).length:Int)+1:=by omega
  have p3:((y::s).length:Int)<=((y::s).length:Int)+1:=by omega
  have p8:s.length<=4294967296:=by rw[aaf]at hst1;omega
  have hst2:s.length<=65:=by rw[aaf]at hst1;omega
  have hle:=λv=>lU hst2 v
  have hyl:(((y::s).length:Nat):Int)=(s.length:Int)+1:=rfl
  have wn2:i64.wrap (((y::s).length:Int) -1)=(s.length:Int):=by rw[hyl,w64 (by omega) (by omega)];omega
  have p4:(0:Int)<=(s.length:Int):=by omega
  have p5:(s.length:Int)<(((y::s).length:Nat):Int)+1:=by omega
  have p6:(s.length:Int)<=(((y::s).length:Nat):Int)+1:=by omega
  have p7:s.length<=(x::y::s).reverse.length:=by rw[aa3,aaf,aaf];omega
  conv=>lhs;rw[aA]
  unfold rt
  by_cases hd:d=1
  ·have hd1:(d==1)=true:=by simpa using hd
   have hm:max high (((y::s).length:Int)+1)=high:=by have:=hh hd;simp at this⊢;omega
   simp only[hd1,hm,bV,wn,p1,p2,p3,dL,cF,p7,p8,wn2,p4,p5,p6,zk,nJ,hb,Z5,adF,adE,hk0,ha0,Z_,hk,hc,Z6,Z3,w1,w2,e,reduceIte,adJ,adK,and_self,ge_iff_le,du,aai,aaP,aad,aaG,bne_self_eq_false,aaE,true_and,and_true,aaT]
   simp only[qY ck _ _ _ _ E,hle,Z3,adE]
   by_cases hz:(opS ck c.a c.type0 y x).2=0
   ·have hz1:((opS ck c.a c.type0 y x).2 !=0)=false:=by simpa using hz
    simp only[Z3,bne_self_eq_false,beq_self_eq_true,Z5,adF,adE,hd1,hz1,hz,cZ,bV]
    unfold aV
    rw[adI hd]
    try rfl
   ·have hz1:((opS ck c.a c.type0 y x).2 !=0)=true:=by simpa using hz
    simp only[hz1,hz,adE,adF]
    rfl
  ·have hd1:(d==1)=false:=by simpa using hd
   simp only[hd1,bV,wn,p1,p2,p3,dL,cF,p7,p8,wn2,p4,p5,p6,zk,nJ,hb,Z5,adF,adE,hk0,ha0,Z_,hk,hc,Z6,Z3,w1,w2,e,reduceIte,adJ,adK,and_self,ge_iff_le,du,aai,aaP,aad,aaG,bne_self_eq_false,aaE,true_and,and_true,aaT]
   simp only[qY ck _ _ _ _ E,hle,Z3,adE]
   by_cases hz:(opS ck c.a c.type0 y x).2=0
   ·have hz1:((opS ck c.a c.type0 y x).2 !=0)=false:=by simpa using hz
    simp only[Z3,bne_self_eq_false,beq_self_eq_true,Z5,adF,adE,hd1,hz1,hz,cZ,bV]
    unfold aV
    rw[adH hd]
    try rfl
   ·have hz1:((opS ck c.a c.type0 y x).2 !=0)=true:=by simpa using hz
    simp only[hz1,hz,adE,adF]
    rfl)
theorem rl5{x y:Item}{s:List Item}(H:Rh l f c k a d steps high (x::y::s) 5)(E:cK c.type0=true):aA (rt k l d ck (a:Int) steps high place i0 lg pl (x::y::s) cnt sn)=if(opS ck c.a c.type0 y x).2=0 then aA (rt k l d ck ((a:Int)+1) (steps+1) (aV d high (s.length+1)) place i0 lg pl ((opS ck c.a c.type0 y x).1::s) cnt sn)else some (cj 0,1,(opS ck c.a c.type0 y x).2,steps+1,high,place,cnt,sn,()):=XR H E
theorem XS:(∀{x y:Item} {s:List Item} (_:Rh l f c k a d steps high (x::y::s) 6) (_:True),aA (rt k l d ck (a:Int) steps high place i0 lg pl (x::y::s) cnt sn)=aA (rt k l d ck ((a:Int)+1) (steps+1) (aV d high (s.length+1)) place i0 lg pl (gd (jL c.a y.n x.n)::s) cnt sn)):=by
 (
  intro x y s H E
  obtain⟨hk,hc,hs,h0,h1,ha,hh,hst,e⟩:=H
  have w1:i64.wrap ((a:Int)+1)=(a:Int)+1:=w64 (by omega) (by omega)
  have w2:i64.wrap (steps+1)=steps+1:=w64 (by omega) (by omega)
  have hb:(steps==40000)=false:=by simpa using hs
  have ha0:(0:Int)<=(a:Int):=by omega
  have hk0:(0:Int)<=(k:Int):=by omega
  have hst1:(y::s).length<=64:=by rw[aaf]at hst;omega
  have wn:i64.wrap (((y::s).length:Int)+1-1)=((y::s).length:Int):=by rw[w64 (by omega) (by omega)];omega
  have p1:(0:Int)<=((y::s).length:Int):=by omega
  have p2:((y::s).length:Int)<((y::s).length:Int)+1:=by omega
  have p3:((y::s).length:Int)<=((y::s).length:Int)+1:=by omega
  have p8:s.length<=4294967296:=by rw[aaf]at hst1;omega
  have hst2:s.length<=65:=by rw[aaf]at hst1;omega
  have hle:=λv=>lU hst2 v
  have hyl:(((y::s).length:Nat):Int)=(s.length:Int)+1:=rfl
  have wn2:i64.wrap (((y::s).length:Int) -1)=(s.length:Int):=by rw[hyl,w64 (by omega) (by omega)];omega
  have p4:(0:Int)<=(s.length:Int):=by omega
  have p5:(s.length:Int)<(((y::s).length:Nat):Int)+1:=by omega
  have p6:(s.length:Int)<=(((y::s).length:Nat):Int)+1:=by omega
  have p7:s.length<=(x::y::s).reverse.length:=by rw[aa3,aaf,aaf];omega
  conv=>lhs;rw[aA]
  unfold rt
  by_cases hd:d=1
  ·have hd1:(d==1)=true:=by simpa using hd
   have hm:max high (((y::s).length:Int)+1)=high:=by have:=hh hd;simp at this⊢;omega
   simp only[hd1,hm,bV,wn,p1,p2,p3,dL,cF,p7,p8,wn2,p4,p5,p6,zk,nJ,hb,Z5,adF,adE,hk0,ha0,Z_,hk,hc,Z6,Z3,w1,w2,e,reduceIte,adJ,adK,and_self,ge_iff_le,du,aai,aaP,aad,aaG,bne_self_eq_false,aaE,true_and,and_true,aaT]
   simp only[oy,Z3,adE,adF,and_self,hle,cZ,hd1,bV,Z5,bne_self_eq_false,reduceIte]
   unfold aV
   rw[adI hd]
   try rfl
  ·have hd1:(d==1)=false:=by simpa using hd
   simp only[hd1,bV,wn,p1,p2,p3,dL,cF,p7,p8,wn2,p4,p5,p6,zk,nJ,hb,Z5,adF,adE,hk0,ha0,Z_,hk,hc,Z6,Z3,w1,w2,e,reduceIte,adJ,adK,and_self,ge_iff_le,du,aai,aaP,aad,aaG,bne_self_eq_false,aaE,true_and,and_true,aaT]
   simp only[oy,Z3,adE,adF,and_self,hle,cZ,hd1,bV,Z5,bne_self_eq_false,reduceIte]
   unfold aV
   rw[adH hd]
   try rfl)
theorem rl6{x y:Item}{s:List Item}(H:Rh l f c k a d steps high (x::y::s) 6)(E:True):aA (rt k l d ck (a:Int) steps high place i0 lg pl (x::y::s) cnt sn)=aA (rt k l d ck ((a:Int)+1) (steps+1) (aV d high (s.length+1)) place i0 lg pl (gd (jL c.a y.n x.n)::s) cnt sn):=XS H E
theorem Q_:(∀{x:Item} {s:List Item} (_:Rh l f c k a d steps high (x::s) 7) (_:cK c.type0=true),aA (rt k l d ck (a:Int) steps high place i0 lg pl (x::s) cnt sn)=if(bA ck 7 c.type0 x).2=0 then aA (rt k l d ck ((a:Int)+1) (steps+1) (aV d high (s.length+1)) place i0 lg pl ((bA ck 7 c.type0 x).1::s) cnt sn)else some (cj 0,1,(bA ck 7 c.type0 x).2,steps+1,high,place,cnt,sn,()))/\
 (∀{x:Item} {s:List Item} (_:Rh l f c k a d steps high (x::s) 8) (_:True),aA (rt k l d ck (a:Int) steps high place i0 lg pl (x::s) cnt sn)=if(bA ck 8 c.type0 x).2=0 then aA (rt k l d ck ((a:Int)+1) (steps+1) (aV d high (s.length+1)) place i0 lg pl ((bA ck 8 c.type0 x).1::s) cnt sn)else some (cj 0,1,(bA ck 8 c.type0 x).2,steps+1,high,place,cnt,sn,()))/\
 (∀{x:Item} {s:List Item} (_:Rh l f c k a d steps high (x::s) 9) (_:cK c.type0=true),aA (rt k l d ck (a:Int) steps high place i0 lg pl (x::s) cnt sn)=if(bA ck 9 c.type0 x).2=0 then aA (rt k l d ck ((a:Int)+1) (steps+1) (aV d high (s.length+1)) place i0 lg pl ((bA ck 9 c.type0 x).1::s) cnt sn)else some (cj 0,1,(bA ck 9 c.type0 x).2,steps+1,high,place,cnt,sn,()))/\
 (∀{x:Item} {s:List Item} (_:Rh l f c k a d steps high (x::s) 10) (_:cK c.type0=true),aA (rt k l d ck (a:Int) steps high place i0 lg pl (x::s) cnt sn)=if(bA ck 10 c.type0 x).2=0 then aA (rt k l d ck ((a:Int)+1) (steps+1) (aV d high (s.length+1)) place i0 lg pl ((bA ck 10 c.type0 x).1::s) cnt sn)else some (cj 0,1,(bA ck 10 c.type0 x).2,steps+1,high,place,cnt,sn,()))/\
 (∀{x:Item} {s:List Item} (_:Rh l f c k a d steps high (x::s) 11) (_:True),aA (rt k l d ck (a:Int) steps high place i0 lg pl (x::s) cnt sn)=if(bA ck 11 c.type0 x).2=0 then aA (rt k l d ck ((a:Int)+1) (steps+1) (aV d high (s.length+1)) place i0 lg pl ((bA ck 11 c.type0 x).1::s) cnt sn)else some (cj 0,1,(bA ck 11 c.type0 x).2,steps+1,high,place,cnt,sn,())):=by
 refine⟨?_,?_,?_,?_,?_⟩<;>(
  intro x s H E
  obtain⟨hk,hc,hs,h0,h1,ha,hh,hst,e⟩:=H
  have w1:i64.wrap ((a:Int)+1)=(a:Int)+1:=w64 (by omega) (by omega)
  have w2:i64.wrap (steps+1)=steps+1:=w64 (by omega) (by omega)
  have hb:(steps==40000)=false:=by simpa using hs
  have ha0:(0:Int)<=(a:Int):=by omega
  have hk0:(0:Int)<=(k:Int):=by omega
  have hst1:s.length<=64:=by rw[aaf]at hst;omega
  have wn:i64.wrap ((s.length:Int)+1-1)=(s.length:Int):=by rw[w64 (by omega) (by omega)];omega
  have p1:(0:Int)<=(s.length:Int):=by omega
  have p2:(s.length:Int)<(s.length:Int)+1:=by omega
  have p3:(s.length:Int)<=(s.length:Int)+1:=by omega
  have p8:s.length<=4294967296:=by omega
  have hst2:s.length<=65:=by omega
  have hle:=λv=>lU hst2 v
  have p7:s.length<=(x::s).reverse.length:=by simp
  conv=>lhs;rw[aA]
  unfold rt
  by_cases hd:d=1
  ·have hd1:(d==1)=true:=by simpa using hd
   have hm:max high ((s.length:Int)+1)=high:=by have:=hh hd;simp at this⊢;omega
   simp only[hd1,hm,bV,wn,p1,p2,p3,dL,cF,p7,p8,hb,Z5,adF,adE,hk0,ha0,Z_,hk,hc,Z6,Z3,w1,w2,e,reduceIte,adJ,adK,and_self,ge_iff_le,du,aai,aaP,aad,aaG,bne_self_eq_false,aaE,true_and,and_true,aaT]
   have R:=ya ck c.op c.type0 x (by omega) (λq=>by first|exact E|omega)
   rw[e]at R
   simp only[R,hle,Z3,adE]
   rw[<-e]
   generalize bA ck c.op c.type0 x=r
   by_cases hz:r.2=0
   ·have hz1:(r.2 !=0)=false:=by simpa using hz
    simp only[Z3,bne_self_eq_false,beq_self_eq_true,Z5,adF,adE,hd1,hz1,hz,cZ,bV]
    unfold aV
    rw[adI hd]
    try rfl
   ·have hz1:(r.2 !=0)=true:=by simpa using hz
    simp only[hz1,hz,adE,adF]
    rfl
  ·have hd1:(d==1)=false:=by simpa using hd
   simp only[hd1,bV,wn,p1,p2,p3,dL,cF,p7,p8,hb,Z5,adF,adE,hk0,ha0,Z_,hk,hc,Z6,Z3,w1,w2,e,reduceIte,adJ,adK,and_self,ge_iff_le,du,aai,aaP,aad,aaG,bne_self_eq_false,aaE,true_and,and_true,aaT]
   have R:=ya ck c.op c.type0 x (by omega) (λq=>by first|exact E|omega)
   rw[e]at R
   simp only[R,hle,Z3,adE]
   rw[<-e]
   generalize bA ck c.op c.type0 x=r
   by_cases hz:r.2=0
   ·have hz1:(r.2 !=0)=false:=by simpa using hz
    simp only[Z3,bne_self_eq_false,beq_self_eq_true,Z5,adF,adE,hd1,hz1,hz,cZ,bV]
    unfold aV
    rw[adH hd]
    try rfl
   ·have hz1:(r.2 !=0)=true:=by simpa using hz
    simp only[hz1,hz,adE,adF]
    rfl)
theorem rl7{x:Item}{s:List Item}(H:Rh l f c k a d steps high (x::s) 7)(E:cK c.type0=true):aA (rt k l d ck (a:Int) steps high place i0 lg pl (x::s) cnt sn)=if(bA ck 7 c.type0 x).2=0 then aA (rt k l d ck ((a:Int)+1) (steps+1) (aV d high (s.length+1)) place i0 lg pl ((bA ck 7 c.type0 x).1::s) cnt sn)else some (cj 0,1,(bA ck 7 c.type0 x).2,steps+1,high,place,cnt,sn,()):=Q_.1 H E
theorem rl8{x:Item}{s:List Item}(H:Rh l f c k a d steps high (x::s) 8)(E:True):aA (rt k l d ck (a:Int) steps high place i0 lg pl (x::s) cnt sn)=if(bA ck 8 c.type0 x).2=0 then aA (rt k l d ck ((a:Int)+1) (steps+1) (aV d high (s.length+1)) place i0 lg pl ((bA ck 8 c.type0 x).1::s) cnt sn)else some (cj 0,1,(bA ck 8 c.type0 x).2,steps+1,high,place,cnt,sn,()):=Q_.2.1 H E
theorem rl9{x:Item}{s:List Item}(H:Rh l f c k a d steps high (x::s) 9)(E:cK c.type0=true):aA (rt k l d ck (a:Int) steps high place i0 lg pl (x::s) cnt sn)=if(bA ck 9 c.type0 x).2=0 then aA (rt k l d ck ((a:Int)+1) (steps+1) (aV d high (s.length+1)) place i0 lg pl ((bA ck 9 c.type0 x).1::s) cnt sn)else some (cj 0,1,(bA ck 9 c.type0 x).2,steps+1,high,place,cnt,sn,()):=Q_.2.2.1 H E
theorem XF{x:Item}{s:List Item}(H:Rh l f c k a d steps high (x::s) 10)(E:cK c.type0=true):aA (rt k l d ck (a:Int) steps high place i0 lg pl (x::s) cnt sn)=if(bA ck 10 c.type0 x).2=0 then aA (rt k l d ck ((a:Int)+1) (steps+1) (aV d high (s.length+1)) place i0 lg pl ((bA ck 10 c.type0 x).1::s) cnt sn)else some (cj 0,1,(bA ck 10 c.type0 x).2,steps+1,high,place,cnt,sn,()):=Q_.2.2.2.1 H E
theorem XG{x:Item}{s:List Item}(H:Rh l f c k a d steps high (x::s) 11)(E:True):aA (rt k l d ck (a:Int) steps high place i0 lg pl (x::s) cnt sn)=if(bA ck 11 c.type0 x).2=0 then aA (rt k l d ck ((a:Int)+1) (steps+1) (aV d high (s.length+1)) place i0 lg pl ((bA ck 11 c.type0 x).1::s) cnt sn)else some (cj 0,1,(bA ck 11 c.type0 x).2,steps+1,high,place,cnt,sn,()):=Q_.2.2.2.2 H E
theorem XP:(∀{x:Item} {s:List Item} (_:Rh l f c k a d steps high (x::s) 3) (_:0<=c.a/\c.a<(pl.length:Int)/\sn.length<=100),aA (rt k l d ck (a:Int) steps high place i0 lg pl (x::s) cnt sn)=aA (rt k l d ck ((a:Int)+1) (steps+1) (aV d high s.length) place i0 lg (pl.set c.a.toNat x) s cnt (iB d place c (x::s) sn))):=by
 (
  intro x s H E
  obtain⟨hk,hc,hs,h0,h1,ha,hh,hst,e⟩:=H
  have w1:i64.wrap ((a:Int)+1)=(a:Int)+1:=w64 (by omega) (by omega)
  have w2:i64.wrap (steps+1)=steps+1:=w64 (by omega) (by omega)
  have hb:(steps==40000)=false:=by simpa using hs
  have ha0:(0:Int)<=(a:Int):=by omega
  have hk0:(0:Int)<=(k:Int):=by omega
  have hst1:s.length<=64:=by rw[aaf]at hst;omega
  have wn:i64.wrap ((s.length:Int)+1-1)=(s.length:Int):=by rw[w64 (by omega) (by omega)];omega
  have p1:(0:Int)<=(s.length:Int):=by omega
  have p2:(s.length:Int)<(s.length:Int)+1:=by omega
  have p3:(s.length:Int)<=(s.length:Int)+1:=by omega
  have p8:s.length<=4294967296:=by omega
  have hst2:s.length<=65:=by omega
  have hle:=λv=>lU hst2 v
  have p7:s.length<=(x::s).reverse.length:=by simp
  conv=>lhs;rw[aA]
  unfold rt
  by_cases hd:d=1
  ·have hd1:(d==1)=true:=by simpa using hd
   have hm:max high ((s.length:Int)+1)=high:=by have:=hh hd;simp at this⊢;omega
   simp only[hd1,hm,bV,wn,p1,p2,p3,dL,cF,p7,p8,hb,Z5,adF,adE,hk0,ha0,Z_,hk,hc,Z6,Z3,w1,w2,e,reduceIte,adJ,adK,and_self,ge_iff_le,du,aai,aaP,aad,aaG,bne_self_eq_false,aaE,true_and,and_true,aaT]
   obtain⟨b0,b1,hsn⟩:=E
   have hg:pl[c.a.toNat]?=some (pl.getD c.a.toNat (cj 0)):=by rw[aa5,Z8 (by omega)];rfl
   simp only[b0,b1,hg,hd1,and_self,adE,Z3,Z5,adF,p1,p3,cF,bne_self_eq_false]
   have ie:Item.mk x.n x.null x.err=x:=rfl
   by_cases hp:place=c.a
   ·have hp1:(place==c.a)=true:=by simpa using hp
    by_cases hn:sn.length<100
    ·have hn1:(sn.length:Int)<100:=by omega
     have hn2:sn.length+[x].length<=4294967296:=by simp;omega
     simp only[Z3,bne_self_eq_false,beq_self_eq_true,Z5,adF,adE,hd1,hp1,hn1,adJ,hn2,ie,aa3]
     unfold iB aV
     rw[adI hd,adI ⟨e,hd,hp,hn⟩]
     rfl
    ·have hn1:¬(sn.length:Int)<100:=by omega
     simp only[Z3,bne_self_eq_false,beq_self_eq_true,Z5,adF,adE,hd1,hp1,hn1,adK,ie,aa3]
     unfold iB aV
     rw[adI hd,adH (λq=>hn q.2.2.2)]
   ·have hp1:(place==c.a)=false:=by simpa using hp
    simp only[Z3,bne_self_eq_false,beq_self_eq_true,Z5,adF,adE,hd1,hp1,ie,aa3]
    unfold iB aV
    rw[adI hd,adH (λq=>hp q.2.2.1)]
  ·have hd1:(d==1)=false:=by simpa using hd
   simp only[hd1,bV,wn,p1,p2,p3,dL,cF,p7,p8,hb,Z5,adF,adE,hk0,ha0,Z_,hk,hc,Z6,Z3,w1,w2,e,reduceIte,adJ,adK,and_self,ge_iff_le,du,aai,aaP,aad,aaG,bne_self_eq_false,aaE,true_and,and_true,aaT]
   obtain⟨b0,b1,hsn⟩:=E
   have hg:pl[c.a.toNat]?=some (pl.getD c.a.toNat (cj 0)):=by rw[aa5,Z8 (by omega)];rfl
   simp only[b0,b1,hg,hd1,and_self,adE,Z3,Z5,adF,p1,p3,cF,bne_self_eq_false]
   unfold iB aV
   rw[adH hd,adH (λq=>hd q.2.1)])
theorem rl3{x:Item}{s:List Item}(H:Rh l f c k a d steps high (x::s) 3)(E:0<=c.a/\c.a<(pl.length:Int)/\sn.length<=100):aA (rt k l d ck (a:Int) steps high place i0 lg pl (x::s) cnt sn)=aA (rt k l d ck ((a:Int)+1) (steps+1) (aV d high s.length) place i0 lg (pl.set c.a.toNat x) s cnt (iB d place c (x::s) sn)):=XP H E
end
end Go.Proofs.YtcghbgmmgcljkaaGreatDoor
end
section
namespace Go.Proofs.YtcghbgmmgcljkaaGreatDoor
open IntKind (i64)
set_option maxRecDepth 20000
set_option maxHeartbeats 4000000
def ro(place:Int)(r:Item×Lg):=(r.1,r.2.kind,r.2.stop,r.2.steps,r.2.high,place,r.2.counts,r.2.seen,())
theorem Fz(k:Nat)(l:List aB)(d:Int)(ck:Bool)(at1 high place:Int)(i0:Item)(lg:Log)(pl st:List Item)(cnt:List Int)(sn:List Item):
 aA (rt k l d ck at1 40000 high place i0 lg pl st cnt sn)=some (cj 0,2,0,40000,high,place,cnt,sn,()):=by
 rw[aA]
 unfold rt
 simp only[beq_self_eq_true,adE]
 rfl
theorem qF(l:List aB)(k:Int)(args:List Item)(d:Int)(ck:Bool)(u1 u2 u3 u4 u5:Int)(i0:Item)(lg:Log)(cnt:List Int)(sn:List Item):∀(j i:Nat) (pl:List Item),i+j=args.length->args.length<=pl.length->args.length<=4294967296->
 bM (l,k,args,d,ck,(i:Int),u1,u2,u3,u4,u5,i0,lg,args.take i++pl.drop i,cnt,sn,())=some (l,k,d,ck,u1,u2,u3,u4,u5,i0,lg,args++pl.drop args.length,cnt,sn,())
 |0,i,pl,h,hp,h4=>by
  have hi:i=args.length:=by omega
  subst hi
  rw[bM]
  have:¬(args.length:Int)<(args.length:Int):=by omega
  simp[this]
 |j+1,i,pl,h,hp,h4=>by
  have hlt:i<args.length:=by omega
  have h1:(i:Int)<(args.length:Int):=by omega
  have h2:(0:Int)<=(i:Int):=by omega
  have hl:(args.take i++pl.drop i).length=pl.length:=by rw[aax,aaR,aaJ];omega
  have h3:(i:Int)<((args.take i++pl.drop i).length:Int):=by rw[hl];omega
  have w:i64.wrap ((i:Int)+1)=((i+1:Nat):Int):=by rw[w64 (by omega) (by omega)];omega
  have hx:=Z8 hlt
  obtain⟨y,hy⟩:∃y,(args.take i++pl.drop i)[i]?=some y:=⟨_,Z8 (by omega)⟩
  have e:(args.take i++pl.drop i).set i args[i]=args.take (i+1)++pl.drop (i+1):=by
   rw[acF _ _ (by rw[aaR];omega),aaR,show i-min i args.length=0 by omega,List.take_succ_eq_append_getElem hlt,abo]
   congr 1
   rw[abT (show i<pl.length by omega)]
   rfl
  have ih:=qF l k args d ck u1 u2 u3 u4 u5 i0 lg cnt sn j (i+1) pl (by omega) hp h4
  rw[bM]
  simp only[h1,h2,h3,adJ,adE,and_self,Z_,hx,hy,w,Z6,Z3]
  rw[e]
  exact ih
theorem r44{l:List aB}{k:Nat}{h:aB}(hk:l[k]?=some h){args:List Item}{ck:Bool}{place d:Int}{g:Lg}(hd:¬30<d)(hp0:(args.length:Int)<=h.places)(hp1:h.places<=200)(hg:g.kind=0)(hst0:g.stop=0)(hc:g.counts.length=l.length)(hkl:k<l.length)(hll:l.length<=3000)
 (hpl:d=1->place<h.places)(hs:d=1->g.seen.length<=99){r:Item×Lg}
 (hl:∀i0 lg,aA (rt k l d ck 0 g.steps g.high place i0 lg (cG h args) [] (p_ g.counts k) (if d=1/\0<=place then g.seen++[(cG h args).getD place.toNat (cj 0)]else g.seen))=some (ro place r)):
 n_44s5ed9 (l,(k:Int),args,d,ck,0,0,g.steps,g.high,place,g.counts,g.seen,())=some (ro place r):=by
 have hk0:(0:Int)<=(k:Int):=by omega
 have hk1:(k:Int)<(g.counts.length:Int):=by omega
 obtain⟨x,hx⟩:∃x,g.counts[k]?=some x:=⟨_,Z8 (by omega)⟩
 have hbump:g.counts.set k (i64.wrap (x+1))=p_ g.counts k:=by
  unfold p_;rw[aa5,hx];rfl
 have h0:0<=h.places:=by omega
 have h4:h.places<=4294967296:=by omega
 have hcl:g.counts.length<=4294967296:=by omega
 have lp:=qF l (k:Int) args d ck 0 0 g.steps g.high place (Item.mk 0 false (Z4 #[])) (Log.mk 0 0 0 [] 0 [] 0) (p_ g.counts k) g.seen args.length 0 (aap h.places.toNat (cj 0)) (aad _) (by rw[aaU];omega) (by omega)
 rw[aco,aau,aai,aar,adt]at lp
 change _=some (l,(k:Int),d,ck,0,0,g.steps,g.high,place,Item.mk 0 false (Z4 #[]),Log.mk 0 0 0 [] 0 [] 0,cG h args,p_ g.counts k,g.seen,())at lp
 rw[show(cj 0)=Item.mk 0 false (Z4 #[])from rfl]at lp
 have hd':¬d>30:=by omega
 rw[n_44s5ed9]
 simp only[hd',adK,Z5,adF,aad,hcl,adE,aai,hk0,hk1,and_self,Z_,hx,hk,h0,h4,Z6,Z3,hbump,lp]
 unfold rt at hl
 rw[List.reverse_nil]at hl
 by_cases h1:d=1
 ·have hb1:(d==1)=true:=by simpa using h1
  simp only[hb1,adE,Z3]
  by_cases hp:0<=place
  ·have hlt:=hpl h1
   have hlen:(cG h args).length=h.places.toNat:=by
    unfold cG
    rw[aax,aaU];omega
   have hlt2:place<((cG h args).length:Int):=by rw[hlen];omega
   have hget:(cG h args)[place.toNat]?=some ((cG h args).getD place.toNat (cj 0)):=by
    rw[aa5,Z8 (by omega)];rfl
   have hs':g.seen.length+[(cG h args).getD place.toNat (cj 0)].length<=4294967296:=by have:=hs h1;simp;omega
   rw[adI ⟨h1,hp⟩]at hl
   simp only[ge_iff_le,hp,adJ,adE,hlt2,and_self,hget,Z3,hs',hl]
  ·rw[adH (λh=>hp h.2)]at hl
   simp only[ge_iff_le,hp,adK,Z5,adF,Z3,hl]
 ·have hb1:(d==1)=false:=by simpa using h1
  rw[adH (λh=>h1 h.1)]at hl
  simp only[hb1,Z5,adF,Z3,hl]
theorem Jt{l:List aB}{k:Nat}{args:List Item}{ck:Bool}{place d:Int}{g:Lg}(hd:30<d):
 n_44s5ed9 (l,(k:Int),args,d,ck,0,0,g.steps,g.high,place,g.counts,g.seen,())=some (cj 0,2,0,g.steps,g.high,place,g.counts,g.seen,()):=by
 rw[n_44s5ed9]
 have hd':d>30:=hd
 simp only[hd',adJ,adE]
 rfl
theorem Ot(st:List Item){b:Nat}(hb:b<=st.length):abg (st.length-b) st.reverse=(st.drop b).reverse/\abg b (acp (st.length-b) st.reverse)=(st.take b).reverse:=by
 constructor
 ·rw[List.take_reverse,show st.length-(st.length-b)=b by omega]
 ·rw[List.drop_reverse,show st.length-(st.length-b)=b by omega,aaN (by simp;omega)]
theorem W7(k:Nat){l:List aB}{d:Int}(ck:Bool)(a:Nat){steps high:Int}(place:Int)(i0:Item)(lg:Log)(pl:List Item)(cnt:List Int)(sn:List Item){f:aB}{c:aQ}{st:List Item}
 (hk:l[k]?=some f)(hc:f.code[a]?=some c)(hs:¬steps=40000)(h0:0<=steps)(h1:steps<=40000)(ha:a<=3000)(hh:d=1->(st.length:Int)<=high)(hst:st.length<=65)(e:c.op=16)
 {n kk:Nat}(hb:c.b=(n:Int))(hn:n<=st.length)(hf:cv l c.name0=(kk:Int))(hll:l.length<=3000)(hd1:1<=d)(hd2:d<=30){r:Item×Lg}
 (h44:n_44s5ed9 (l,(kk:Int),(st.take n).reverse,d+1,ck,0,0,steps+1,high,place,cnt,sn,())=some (ro place r))(hz:r.2.kind=0->r.2.stop=0):
 aA (rt k l d ck (a:Int) steps high place i0 lg pl st cnt sn)=
  if r.2.kind=0 then aA (rt k l d ck ((a:Int)+1) r.2.steps (aV d r.2.high (st.length-n+1)) place i0 lg pl (r.1::st.drop n) r.2.counts r.2.seen)
  else some (cj 0,r.2.kind,r.2.stop,r.2.steps,r.2.high,place,r.2.counts,r.2.seen,()):=by
 have w1:i64.wrap ((a:Int)+1)=(a:Int)+1:=w64 (by omega) (by omega)
 have w2:i64.wrap (steps+1)=steps+1:=w64 (by omega) (by omega)
 have w3:i64.wrap (d+1)=d+1:=w64 (by omega) (by omega)
 have hb0:(steps==40000)=false:=by simpa using hs
 have ha0:(0:Int)<=(a:Int):=by omega
 have hk0:(0:Int)<=(k:Int):=by omega
 have hL:((st.reverse.length:Nat):Int)=(st.length:Int):=by simp
 have hL0:st.reverse.length=st.length:=by simp
 obtain⟨c1,c2⟩:=Ot st hn
 have w:i64.wrap ((st.length:Int) -(n:Int))=((st.length-n:Nat):Int):=by rw[w64 (by omega) (by omega)];omega
 have i1:(0:Int)<=((st.length-n:Nat):Int):=by omega
 have i2:((st.length-n:Nat):Int)<=(st.length:Int):=by omega
 have e1:st.length-(st.length-n)=n:=by omega
 have e2:st.length-n+n<=st.length:=by omega
 have e3:n<=4294967296:=by omega
 have e4:st.length-n<=st.length:=by omega
 have e5:st.length-n<=4294967296:=by omega
 have e6:∀v:Item,(st.drop n).reverse.length+[v].length<=4294967296:=by intro v;simp;omega
 have hhi:∀v:Item,(((v::st.drop n).reverse.length:Nat):Int)=((st.length-n+1:Nat):Int):=by intro v;simp
 have q0:((16:Int)==0)=false:=rfl
 have q1:((16:Int)==1)=false:=rfl
 have q18:((16:Int)==18)=false:=rfl
 have q2:((16:Int)==2)=false:=rfl
 have q3:((16:Int)==3)=false:=rfl
 have q4:((16:Int)==4)=false:=rfl
 have q5:((16:Int)==5)=false:=rfl
 have q6:((16:Int)==6)=false:=rfl
 have q7:((16:Int)==7)=false:=rfl
 have q8:((16:Int)==8)=false:=rfl
 have q9:((16:Int)==9)=false:=rfl
 have q10:((16:Int)==10)=false:=rfl
 have q11:((16:Int)==11)=false:=rfl
 have q12:((16:Int)==12)=false:=rfl
 have q13:((16:Int)==13)=false:=rfl
 have q14:((16:Int)==14)=false:=rfl
 have q15:((16:Int)==15)=false:=rfl
 have q16:((16:Int)==16)=true:=rfl
 have q17:((16:Int)==17)=false:=rfl
 have fin:∀{α:Type} {x y:α},x=y->x=y:=λh=>h
 have htop:∃t:Item,∃b:Bool,(b=true->(0:Int)<=((st.length-1:Nat):Int)/\((st.length-1:Nat):Int)<(st.length:Int)/\i64.wrap ((st.length:Int) -1)=((st.length-1:Nat):Int)/\st.reverse[st.length-1]?=some t)/\(b=false->i64.wrap ((st.length:Int) -1)= -1/\t=cj 0):=by
  cases st with
  |nil=>exact⟨cj 0,false,λh=>(by cases h),λ_=>⟨by decide,rfl⟩⟩
  |cons x s=>
   rw[aaf]at hst
   refine⟨x,true,λ_=>⟨by omega,by rw[aaf];omega,by rw[aaf,w64 (by omega) (by omega)];omega,?_⟩,λh=>(by cases h)⟩
   rw[aaf,acR];exact dL x s
 obtain⟨t,b,hb1,hb2⟩:=htop
 conv=>lhs;rw[aA]
 unfold rt
 unfold ro at h44
 have p0:¬(0:Int)<= -1:=by decide
 by_cases hd:d=1
 ·have hdd:(d==1)=true:=by simpa using hd
  have hm:max high (st.length:Int)=high:=by have:=hh hd;omega
  cases b
  ·obtain⟨b1,b2⟩:=hb2 rfl
   simp only[hdd,hm,hL,hL0,hb0,Z5,adF,adE,hk0,ha0,Z_,hk,hc,Z6,Z3,w1,w2,w3,e,reduceIte,adJ,adK,and_self,ge_iff_le,aai,aaP,aad,aaG,aaE,true_and,and_true,hb,w,i1,i2,e1,e2,e3,e4,e5,e6,c1,c2,jA l (show l.length<=4294967296 by omega),hf,h44,q0,q1,q18,q2,q3,q4,q5,q6,q7,q8,q9,q10,q11,q12,q13,q14,q15,q16,q17,b1,p0]
   by_cases hz0:r.2.kind=0
   ·have hz1:(r.2.kind !=0)=false:=by simpa using hz0
    simp only[hz1,hz0,hz hz0,Z5,adF,adE,Z3,bne_self_eq_false,hdd,cZ,hhi]
    unfold aV
    rw[adI hd]
   ·have hz1:(r.2.kind !=0)=true:=by simpa using hz0
    simp only[hz1,hz0,adE,adF,Z3]
    rfl
  ·obtain⟨b1,b2,b3,b4⟩:=hb1 rfl
   simp only[hdd,hm,hL,hL0,hb0,Z5,adF,adE,hk0,ha0,Z_,hk,hc,Z6,Z3,w1,w2,w3,e,reduceIte,adJ,adK,and_self,ge_iff_le,aai,aaP,aad,aaG,aaE,true_and,and_true,hb,w,i1,i2,e1,e2,e3,e4,e5,e6,c1,c2,jA l (show l.length<=4294967296 by omega),hf,h44,q0,q1,q18,q2,q3,q4,q5,q6,q7,q8,q9,q10,q11,q12,q13,q14,q15,q16,q17,b1,b2,b3,b4]
   by_cases hz0:r.2.kind=0
   ·have hz1:(r.2.kind !=0)=false:=by simpa using hz0
    simp only[hz1,hz0,hz hz0,Z5,adF,adE,Z3,bne_self_eq_false,hdd,cZ,hhi]
    unfold aV
    rw[adI hd]
   ·have hz1:(r.2.kind !=0)=true:=by simpa using hz0
    simp only[hz1,hz0,adE,adF,Z3]
    rfl
 ·have hdd:(d==1)=false:=by simpa using hd
  cases b
  ·obtain⟨b1,b2⟩:=hb2 rfl
   simp only[hdd,hL,hL0,hb0,Z5,adF,adE,hk0,ha0,Z_,hk,hc,Z6,Z3,w1,w2,w3,e,reduceIte,adJ,adK,and_self,ge_iff_le,aai,aaP,aad,aaG,aaE,true_and,and_true,hb,w,i1,i2,e1,e2,e3,e4,e5,e6,c1,c2,jA l (show l.length<=4294967296 by omega),hf,h44,q0,q1,q18,q2,q3,q4,q5,q6,q7,q8,q9,q10,q11,q12,q13,q14,q15,q16,q17,b1,p0]
   by_cases hz0:r.2.kind=0
   ·have hz1:(r.2.kind !=0)=false:=by simpa using hz0
    simp only[hz1,hz0,hz hz0,Z5,adF,adE,Z3,bne_self_eq_false,hdd,cZ,hhi]
    unfold aV
    rw[adH hd]
   ·have hz1:(r.2.kind !=0)=true:=by simpa using hz0
    simp only[hz1,hz0,adE,adF,Z3]
    rfl
  ·obtain⟨b1,b2,b3,b4⟩:=hb1 rfl
   simp only[hdd,hL,hL0,hb0,Z5,adF,adE,hk0,ha0,Z_,hk,hc,Z6,Z3,w1,w2,w3,e,reduceIte,adJ,adK,and_self,ge_iff_le,aai,aaP,aad,aaG,aaE,true_and,and_true,hb,w,i1,i2,e1,e2,e3,e4,e5,e6,c1,c2,jA l (show l.length<=4294967296 by omega),hf,h44,q0,q1,q18,q2,q3,q4,q5,q6,q7,q8,q9,q10,q11,q12,q13,q14,q15,q16,q17,b1,b2,b3,b4]
   by_cases hz0:r.2.kind=0
   ·have hz1:(r.2.kind !=0)=false:=by simpa using hz0
    simp only[hz1,hz0,hz hz0,Z5,adF,adE,Z3,bne_self_eq_false,hdd,cZ,hhi]
    unfold aV
    rw[adH hd]
   ·have hz1:(r.2.kind !=0)=true:=by simpa using hz0
    simp only[hz1,hz0,adE,adF,Z3]
    rfl
end Go.Proofs.YtcghbgmmgcljkaaGreatDoor
end
section
namespace Go.Proofs.YtcghbgmmgcljkaaGreatDoor
set_option maxRecDepth 20000
set_option maxHeartbeats 4000000
theorem nI{l:List aB}(R:nS l)(ck:Bool)(place:Int):∀(N:Nat) (f:aB) (d:Int) (a:Nat) (pl st:List Item) (g:Lg),OkA l f d a pl st->OkG l g->(d=1->(st.length:Int)<=g.high)->40000-g.steps<=(N:Int)->
 ∀(k:Nat),l[k]?=some f->∀(i0:Item) (lg:Log),aA (rt k l d ck (a:Int) g.steps g.high place i0 lg pl st g.counts g.seen)=some (ro place (gK l ck place N f d (a:Int) pl st g))
 |0,f,d,a,pl,st,g,A,G,hh,hN,k,hkf,i0,lg=>by
  have hs:g.steps=40000:=by have:=G.s1;omega
  rw[gK,hs,Fz]
  simp only[zD,ro,hs,G.stop]
 |N+1,f,d,a,pl,st,g,A,G,hh,hN,k,hkf,i0,lg=>by
  obtain⟨c,hc,hcm,hcode,hal,hl3⟩:=A.code R
  have s0:=G.s0
  have s1:=G.s1
  have hst:=A.st_le R
  have hd1:=A.d1
  have hd2:=A.d2
  obtain⟨T,hT⟩:∃T,T=some (ro place (gK l ck place (N+1) f d (a:Int) pl st g)):=⟨_,rfl⟩
  rw[<-hT]
  rw[gK]at hT
  by_cases hs:g.steps=40000
  ·rw[hT,adI hs,hs,Fz]
   simp only[zD,ro,hs,G.stop]
  ·rw[adH hs]at hT
   simp only[Z_,hc]at hT
   obtain⟨hk,hw⟩:=jE R A.mem A.reach hc
   have ht:=hk.1
   have hr:=nE hcode
   have go3:∀(at1:Int) (pl1 st1:List Item),cM ck c ((a:Int)+1) pl st= .go at1 pl1 st1->aA (rt k l d ck (a:Int) g.steps g.high place i0 lg pl st g.counts g.seen)=aA (rt k l d ck at1 (g.steps+1) (aV d g.high st1.length) place i0 lg pl1 st1 g.counts (iB d place c st g.seen))->aA (rt k l d ck (a:Int) g.steps g.high place i0 lg pl st g.counts g.seen)=T:=by
    intro at1 pl1 st1 ha hn
    rw[ha]at hT
    obtain⟨⟨b',hb',A'⟩,G'⟩:=w8 (place:=place) R A G hs hc ha
    subst hb'
    rw[hn,hT]
    exact nI R ck place N f d b' pl1 st1 _ A' G' (λhd=>nu hd) (by simp only[];omega) k hkf i0 lg
   have go:∀(at1:Int) (pl1 st1:List Item),cM ck c ((a:Int)+1) pl st= .go at1 pl1 st1->c.op≠3->aA (rt k l d ck (a:Int) g.steps g.high place i0 lg pl st g.counts g.seen)=aA (rt k l d ck at1 (g.steps+1) (aV d g.high st1.length) place i0 lg pl1 st1 g.counts g.seen)->aA (rt k l d ck (a:Int) g.steps g.high place i0 lg pl st g.counts g.seen)=T:=
    λat1 pl1 st1 ha h hn=>go3 _ _ _ ha (by rw[hn];unfold iB;rw[adH (λq=>h q.1)])
   have stop:∀(w:Int),cM ck c ((a:Int)+1) pl st= .stop w->aA (rt k l d ck (a:Int) g.steps g.high place i0 lg pl st g.counts g.seen)=some (cj 0,1,w,g.steps+1,g.high,place,g.counts,g.seen,())->aA (rt k l d ck (a:Int) g.steps g.high place i0 lg pl st g.counts g.seen)=T:=λw ha hn=>by rw[ha]at hT;rw[hn,hT];rfl
   have re:∀(x:Item),cM ck c ((a:Int)+1) pl st= .ret x->aA (rt k l d ck (a:Int) g.steps g.high place i0 lg pl st g.counts g.seen)=some (x,0,0,g.steps+1,g.high,place,g.counts,g.seen,())->aA (rt k l d ck (a:Int) g.steps g.high place i0 lg pl st g.counts g.seen)=T:=λx ha hn=>by rw[ha]at hT;rw[hn,hT];simp only[ro,G.kind,G.stop]
   have pu:∀(r:Item×Int) (s:List Item),cM ck c ((a:Int)+1) pl st=im r ((a:Int)+1) pl s->c.op≠3->aA (rt k l d ck (a:Int) g.steps g.high place i0 lg pl st g.counts g.seen)=(if r.2=0 then aA (rt k l d ck ((a:Int)+1) (g.steps+1) (aV d g.high (s.length+1)) place i0 lg pl (r.1::s) g.counts g.seen)else some (cj 0,1,r.2,g.steps+1,g.high,place,g.counts,g.seen,()))->aA (rt k l d ck (a:Int) g.steps g.high place i0 lg pl st g.counts g.seen)=T:=by
    intro r s ha h hp
    unfold im at ha
    by_cases h0:r.2=0
    ·exact go _ _ _ (ha.trans (adI h0)) h (hp.trans (adI h0))
    ·exact stop _ (ha.trans (adH h0)) (hp.trans (adH h0))
   have co:∀{C:Prop} [Decidable C] {p q:Int} {s1 s2:List Item},cM ck c ((a:Int)+1) pl st=(if C then .go p pl s1 else .go q pl s2)->c.op≠3->aA (rt k l d ck (a:Int) g.steps g.high place i0 lg pl st g.counts g.seen)=(if C then aA (rt k l d ck p (g.steps+1) (aV d g.high s1.length) place i0 lg pl s1 g.counts g.seen)else aA (rt k l d ck q (g.steps+1) (aV d g.high s2.length) place i0 lg pl s2 g.counts g.seen))->aA (rt k l d ck (a:Int) g.steps g.high place i0 lg pl st g.counts g.seen)=T:=by
    intro C _ p q s1 s2 ha h hp
    by_cases h0:C
    ·exact go _ _ _ (ha.trans (adI h0)) h (hp.trans (adI h0))
    ·exact go _ _ _ (ha.trans (adH h0)) h (hp.trans (adH h0))
   have H:∀op,c.op=op->Rh l f c k a d g.steps g.high st op:=λ_ e=>⟨hkf,hc,hs,s0,s1,by omega,hh,hst,e⟩
   have hop:c.op=0\/c.op=1\/c.op=2\/c.op=3\/c.op=4\/c.op=5\/c.op=6\/c.op=7\/c.op=8\/c.op=9\/c.op=10\/c.op=11\/c.op=12\/c.op=13\/c.op=14\/c.op=15\/c.op=16\/c.op=17\/c.op=18\/c.op=19:=by omega
   have hpl:=A.pls
   have hplc:=R.places f A.mem
   have hfn:=R.fns f A.mem
   rcases hop with e0|e0|e0|e0|e0|e0|e0|e0|e0|e0|e0|e0|e0|e0|e0|e0|e0|e0|e0|e0
   ·exact go ((a:Int)+1) pl (cj (lB c.type0 c.a)::st) (by simp[cM,e0]) (by omega) (by cases st;exact XE (H _ e0) (MQ hcode e0);exact XD (H _ e0) (MQ hcode e0))
   ·exact go ((a:Int)+1) pl (Item.mk 0 true (Z4 #[])::st) (by simp[cM,e0]) (by omega) (by cases st;exact XM (H _ e0) trivial;exact XL (H _ e0) trivial)
   ·obtain⟨a0,a1⟩:=yh hcode (by omega) (by omega) hplc
    exact go ((a:Int)+1) pl (pl.getD c.a.toNat (cj 0)::st) (by simp[cM,e0]) (by omega) (by cases st;exact XO (H _ e0) ⟨a0,by omega⟩;exact XN (H _ e0) ⟨a0,by omega⟩)
   ·obtain⟨a0,a1⟩:=yh hcode (by omega) (by omega) hplc
    obtain⟨x,s,rfl⟩:=de rfl (by rw[(bH hr.1 hr.2 (by omega)).2 (by omega)]at ht;exact ht)
    exact go3 _ _ _ (by simp[cM,e0]) (rl3 (H _ e0) ⟨a0,by omega,G.seen⟩)
   ·obtain⟨x,s,rfl⟩:=de rfl (by rw[(bH hr.1 hr.2 (by omega)).2 (by omega)]at ht;exact ht)
    exact go _ _ _ (by simp[cM,e0]) (by omega) (rl4 (H _ e0) trivial)
   ·obtain⟨o1,o2⟩:=Qu hcode e0
    obtain⟨x,y,s,rfl⟩:=rP rfl (by rw[(bH hr.1 hr.2 (by omega)).1 (by omega)]at ht;exact ht)
    exact pu (opS ck c.a c.type0 y x) s (by simp[cM,e0]) (by omega) (rl5 (H _ e0) o2)
   ·obtain⟨x,y,s,rfl⟩:=rP rfl (by rw[(bH hr.1 hr.2 (by omega)).1 (by omega)]at ht;exact ht)
    exact go ((a:Int)+1) pl (gd (jL c.a y.n x.n)::s) (by simp[cM,e0]) (by omega) (rl6 (H _ e0) trivial)
   ·obtain⟨x,s,rfl⟩:=de rfl (by rw[(bH hr.1 hr.2 (by omega)).2 (by omega)]at ht;exact ht)
    exact pu (bA ck 7 c.type0 x) s (e0▸Gx (by omega)) (by omega) (rl7 (H _ e0) (Ao hcode (by omega)))
   ·obtain⟨x,s,rfl⟩:=de rfl (by rw[(bH hr.1 hr.2 (by omega)).2 (by omega)]at ht;exact ht)
    exact pu (bA ck 8 c.type0 x) s (e0▸Gx (by omega)) (by omega) (rl8 (H _ e0) trivial)
   ·obtain⟨x,s,rfl⟩:=de rfl (by rw[(bH hr.1 hr.2 (by omega)).2 (by omega)]at ht;exact ht)
    exact pu (bA ck 9 c.type0 x) s (e0▸Gx (by omega)) (by omega) (rl9 (H _ e0) (Ao hcode (by omega)))
   ·obtain⟨x,s,rfl⟩:=de rfl (by rw[(bH hr.1 hr.2 (by omega)).2 (by omega)]at ht;exact ht)
    exact pu (bA ck 10 c.type0 x) s (e0▸Gx (by omega)) (by omega) (XF (H _ e0) (Ao hcode (by omega)))
   ·obtain⟨x,s,rfl⟩:=de rfl (by rw[(bH hr.1 hr.2 (by omega)).2 (by omega)]at ht;exact ht)
    exact pu (bA ck 11 c.type0 x) s (e0▸Gx (by omega)) (by omega) (XG (H _ e0) trivial)
   ·obtain⟨x,s,rfl⟩:=de rfl (by rw[(bH hr.1 hr.2 (by omega)).2 (by omega)]at ht;exact ht)
    exact co (s2:=x::s) (by simp[cM,e0]) (by omega) (XH (H _ e0) trivial)
   ·obtain⟨x,s,rfl⟩:=de rfl (by rw[(bH hr.1 hr.2 (by omega)).2 (by omega)]at ht;exact ht)
    exact co (s1:=x::s) (s2:=x::s) (by simp[cM,e0]) (by omega) (XI (H _ e0) trivial)
   ·exact go c.a pl st (by simp[cM,e0]) (by omega) (by cases st;exact T6 (H _ e0) trivial;exact T5 (H _ e0) trivial)
   ·obtain⟨x,s,rfl⟩:=de rfl (by rw[(bH hr.1 hr.2 (by omega)).2 (by omega)]at ht;exact ht)
    exact co (by simp[cM,e0]) (by omega) (XJ (H _ e0) trivial)
   ·have ha:=(rV hcode (ck:=ck) (at1:=(a:Int)+1) (pl:=pl) (st:=st)).mpr e0
    rw[hT,ha]
    obtain⟨kk,h,n,h1,h2,h3,h4,h5,h6,h7,h8,h9,h10⟩:=pe R A hc e0
    simp only[h1,h3,h4,Z_]
    by_cases hd:30<d+1
    ·rw[adI hd]
     have q:=W7 k ck a place i0 lg pl g.counts g.seen hkf hc hs s0 s1 (by omega) hh hst e0 h4 h5 h1 R.len hd1 hd2 (r:=(cj 0,{g with steps:=g.steps+1,kind:=2,stop:=0})) (Jt (g:={g with steps:=g.steps+1}) hd) (λq=>rfl)
     rw[q,adH (λw=>S7 w)]
     simp only[zD,ro,G.stop]
    ·rw[adH hd]
     have G1:OkG l {g with steps:=g.steps+1,counts:=p_ g.counts kk}:=⟨by simp only[];omega,by simp only[];omega,G.kind,G.stop,by simp only[p_,aaW];exact G.cnt,G.seen⟩
     have A1:=h10 (by omega)
     have L:=gL R ck place N h (d+1) 0 _ [] _ A1 G1
     have I:=nI R ck place N h (d+1) 0 _ [] _ A1 G1 (λq=>by omega) (by simp only[];omega) kk h3
     rw[aar]at L I
     generalize hrr:gK l ck place N h (d+1) 0 (cG h (st.take n).reverse) [] {g with steps:=g.steps+1,counts:=p_ g.counts kk}=r at L I⊢
     have L0:=L.s0
     have L1:=L.s1
     have Lh:=L.high (by omega)
     simp only[]at L0 Lh
     have hal:(st.take n).reverse.length=n:=by simp;omega
     have h44:=r44 h3 (args:=(st.take n).reverse) (ck:=ck) (place:=place) (d:=d+1) (g:={g with steps:=g.steps+1}) (by omega) (by rw[hal];omega) h8 G.kind G.stop G.cnt h2 R.len (λq=>by omega) (λq=>by omega) (r:=r) (by
      rw[adH (λq=>by omega)]
      exact I)
     rw[W7 k ck a place i0 lg pl g.counts g.seen hkf hc hs s0 s1 (by omega) hh hst e0 h4 h5 h1 R.len hd1 hd2 h44 L.stop]
     by_cases hk:r.2.kind=0
     ·rw[adI hk,adI hk]
      have G2:OkG l {r.2 with high:=aV d r.2.high (st.length-n+1)}:=⟨by simp only[];omega,L1,hk,L.stop hk,L.cnt,L.seen⟩
      have ih:=nI R ck place N f d (a+1) pl _ _ (h9 r.1) G2 (λq=>by
       have:(((r.1::st.drop n).length:Nat):Int)=((st.length-n+1:Nat):Int):=by rw[aaf,aaJ]
       rw[this];exact nu q) (by simp only[];omega) k hkf i0 lg
      exact ih
     ·rw[adH hk,adH hk]
      rfl
   ·obtain⟨x,s,rfl⟩:=de rfl (by rw[(bH hr.1 hr.2 (by omega)).2 (by omega)]at ht;exact ht)
    exact re x (by simp[cM,e0]) (XK (H _ e0) trivial)
   ·exact go ((a:Int)+1) pl (Item.mk 0 false c.name0::st) (by simp[cM,e0]) (by omega) (by cases st;exact T_ (H _ e0) trivial;exact T9 (H _ e0) trivial)
   ·have hca:1<=c.a:=by
     have hq:=hcode
     unfold di at hq
     simp[e0,rng]at hq
     omega
    have ha:cM ck c ((a:Int)+1) pl st=if ck=true then .stop c.a else .ret (cj 0):=by simp[cM,e0]
    by_cases h0:ck=true
    ·exact stop _ (ha.trans (adI h0)) (by cases st;exact(Q9 (H _ e0) hca).trans (adI h0);exact(Q8 (H _ e0) hca).trans (adI h0))
    ·exact re _ (ha.trans (adH h0)) (by cases st;exact(Q9 (H _ e0) hca).trans (adH h0);exact(Q8 (H _ e0) hca).trans (adH h0))
end Go.Proofs.YtcghbgmmgcljkaaGreatDoor
end
section
namespace Go.Proofs.YtcghbgmmgcljkaaGreatDoor
set_option maxRecDepth 20000
set_option maxHeartbeats 4000000
def itm(v:aE):Item:=Item.mk v.n v.null v.err
theorem rc(args:List aE)(hl:args.length<=4294967296):∀(j k:Nat) (out:List aE),k+j=args.length->out.length=k->
 dT (args,(args.length:Int),(k:Int),out,())=some (out++(args.drop k).map (λv=>val (itm v)),())
 |0,k,out,h,ho=>by
  rw[dT,cu (by omega)]
  have:¬(k:Int)<(args.length:Int):=by omega
  simp[this]
 |j+1,k,out,h,ho=>by
  obtain⟨x,hx,hm,hd⟩:=bI (l:=args) (k:=k) (by omega)
  have h1:(k:Int)<(args.length:Int):=by omega
  have h2:(0:Int)<=(k:Int):=by omega
  have w:IntKind.i64.wrap ((k:Int)+1)=((k+1:Nat):Int):=by rw[w64 (by omega) (by omega)];omega
  have hle:∀v:aE,out.length+[v].length<=4294967296:=by intro v;simp;omega
  have ih:=rc args hl j (k+1) (out++[val (itm x)]) (by omega) (by simp;omega)
  rw[dT,hd]
  simp only[h1,h2,adJ,adE,Z_,hx,Z6,Z3,hle,w]
  refine Eq.trans ih ?_
  rw[aah,abo]
  rfl
theorem Jn(args:List aE)(hl:args.length<=4294967296):kS (args,())=some ((args.map itm).map val,()):=by
 have h:=rc args hl _ 0 [] (aad _) rfl
 rw[aar,aau,aai]at h
 rw[kS,h,aaK]
 rfl
theorem qT(args:List aE)(hl:args.length<=4294967296):∀(j k:Nat) (out:List Item),k+j=args.length->out.length=k->
 mm (args,(k:Int),out,())=some (out++(args.drop k).map itm,())
 |0,k,out,h,ho=>by
  rw[mm,cu (by omega)]
  have:¬(k:Int)<(args.length:Int):=by omega
  simp[this]
 |j+1,k,out,h,ho=>by
  obtain⟨x,hx,hm,hd⟩:=bI (l:=args) (k:=k) (by omega)
  have h1:(k:Int)<(args.length:Int):=by omega
  have h2:(0:Int)<=(k:Int):=by omega
  have w:IntKind.i64.wrap ((k:Int)+1)=((k+1:Nat):Int):=by rw[w64 (by omega) (by omega)];omega
  have hle:∀v:Item,out.length+[v].length<=4294967296:=by intro v;simp;omega
  have ih:=qT args hl j (k+1) (out++[itm x]) (by omega) (by simp;omega)
  rw[mm,hd]
  simp only[h1,h2,adJ,adE,Z_,hx,Z6,Z3,TT,hle,w]
  refine Eq.trans ih ?_
  rw[aah,abo]
  rfl
theorem Hp(args:List aE)(hl:args.length<=4294967296):SR (args,())=some (args.map itm,()):=by
 have h:=qT args hl _ 0 [] (aad _) rfl
 rw[aar,aau,aai]at h
 rw[SR,h]
 rfl
def GC(r:Item×Lg):dQ:=if r.2.kind=0 then dQ.mk 0 (val r.1) 0 []else dQ.mk r.2.kind (val (cj 0)) r.2.stop []
structure GE (l:List aB) (s:ByteArray) (args:List aE) (k:Nat) (f:aB):Prop where
 runs:nS l
 name:cv l s=(k:Int)
 lt:k<l.length
 get:l[k]?=some f
 fit:(args.length:Int)=f.params
theorem vI{l:List aB}(hl:l.length<=3000)(h3:∀f∈l,f.code.length<=3000){s:ByteArray}{args:List aE}(h:cU l s args=0):∃k f,GE l s args k f:=by
 unfold cU at h
 by_cases hc:eL l=0
 ·rw[adI hc]at h
  rcases nk l s with hf|⟨k,g,hk,hkl,hg⟩
  ·rw[adI hf]at h;cases h
  ·rw[adH (by omega),hk,Z_,hg]at h
   simp only at h
   by_cases hp:(args.length:Int)=g.params
   ·exact⟨k,g,Om hl h3 (jo.mp hc),hk,hkl,hg,hp⟩
   ·rw[adH hp]at h;cases h
 ·rw[adH hc]at h;exact absurd h hc
theorem rZ{l:List aB}{s:ByteArray}{args:List aE}{k:Nat}{f:aB}(A:GE l s args k f)(place:Int):
 OkA l f 1 0 (cG f (args.map itm)) []/\OkG l (lg1 l place k f (args.map itm)):=by
 have hm:=aae A.get
 obtain⟨_,p0,p1,_⟩:=A.runs.fns f hm
 have hfit:=A.fit
 refine⟨⟨hm,Reach.start,?_,by decide,by decide⟩,⟨aaE 0,show(0:Int)<=40000 by decide,rfl,rfl,?_,?_⟩⟩
 ·unfold cG
  rw[aax,aaU,aab]
  omega
 ·unfold lg1 lg0 p_
  simp only[aaW,aaU]
 ·unfold lg1 lg0
  simp only[]
  split
  ·simp
  ·simp
theorem zo{l:List aB}{s:ByteArray}{args:List aE}{k:Nat}{f:aB}(A:GE l s args k f)(ck:Bool)(place:Int):
 Left l 1 (lg1 l place k f (args.map itm)) (Bq l ck place k f (args.map itm)):=by
 obtain⟨b1,b2⟩:=rZ A place
 exact gL A.runs ck place 40000 f 1 0 _ [] _ b1 b2
theorem XB{l:List aB}{s:ByteArray}{args:List aE}{k:Nat}{f:aB}(A:GE l s args k f)(ha:args.length<=4294967296)(ck:Bool)(place:Int)(hp:place<f.places){r:Item×Lg}(hr:r=Bq l ck place k f (args.map itm)):
 NH (l,(k:Int),args,ck,place,())=some (l,ck,r.2.steps,place,r.2.high,Dq r.2,r.2.counts,r.2.seen.map val,GC r,()):=by
 have hm:=aae A.get
 obtain⟨_,p0,p1,_⟩:=A.runs.fns f hm
 have p2:=A.runs.places f hm
 have hfit:=A.fit
 have hll:=A.runs.len
 obtain⟨b1,b2⟩:=rZ A place
 have L:=zo A ck place
 have I:=ld A.runs ck place 40000 f 1 0 _ [] _ b1 b2 (λ_=>by unfold lg1 lg0;simp) (by unfold lg1 lg0;simp) 0 args.length ((args.map itm).map val) (val (cj 0))
 have e:gK l ck place 40000 f 1 ((0:Nat):Int) (cG f (args.map itm)) [] (lg1 l place k f (args.map itm))=r:=by rw[hr];rfl
 rw[e]at I
 rw[<-hr]at L
 have h40:=p40 A.get (b:=0) (e:=args.length) (argv:=(args.map itm).map val) (args:=args.map itm) (by simp) (by rw[aau,aaN (by simp)]) (by simp) (ck:=ck) (place:=place) (d:=1) (g:=lg0 l) (by decide) (by omega) p2 rfl (by simp[lg0]) A.lt (λ_=>hp) (λ_=>by simp[lg0]) (r:=r) I L.zero
 have hl4:(l.length:Int)<=4294967296:=by omega
 have hal:(((args.map itm).map val).length:Int)=(args.length:Int):=by simp
 have hcl:r.2.counts.length=(aap l.length (0:Int)).length:=by rw[L.cnt,aaU]
 unfold lg0 at h40
 rw[aaY]at h40
 simp only[aar]at h40
 rw[NH]
 have z:aE.mk (aF.mk 0 0 (Z4 #[]) false false) 0 false (Z4 #[]) (aF.mk 0 0 (Z4 #[]) false false)=val (cj 0):=rfl
 have nz:((0:Nat):Int)=0:=rfl
 simp only[hl4,adE,Z6,Z3,Jn args ha,Z_,hal,nz,h40,hcl]
 unfold Dq GC
 by_cases hk:r.2.kind=0
 ·simp only[hk,adE,Option.isSome_none,Z5,adF]
  try rfl
 ·simp only[hk,adF,acv,adE,Z3]
  try rfl
theorem XT{l:List aB}{s:ByteArray}{args:List aE}{k:Nat}{f:aB}(A:GE l s args k f)(ha:args.length<=4294967296)(ck:Bool)(place:Int)(hp:place<f.places){r:Item×Lg}(hr:r=Bq l ck place k f (args.map itm)):
 OY (l,s,args,ck,place,())=some (r.1,Log.mk r.2.kind r.2.stop r.2.steps r.2.counts r.2.high r.2.seen place,()):=by
 have hm:=aae A.get
 obtain⟨_,p0,p1,_⟩:=A.runs.fns f hm
 have p2:=A.runs.places f hm
 have hfit:=A.fit
 have hll:=A.runs.len
 obtain⟨b1,b2⟩:=rZ A place
 have I:=nI A.runs ck place 40000 f 1 0 _ [] _ b1 b2 (λ_=>by unfold lg1 lg0;simp) (by unfold lg1 lg0;simp) k A.get
 have e:gK l ck place 40000 f 1 ((0:Nat):Int) (cG f (args.map itm)) [] (lg1 l place k f (args.map itm))=r:=by rw[hr];rfl
 rw[e]at I
 have h44:=r44 A.get (args:=args.map itm) (ck:=ck) (place:=place) (d:=1) (g:=lg0 l) (by decide) (by rw[aab];omega) p2 rfl rfl (by simp[lg0]) A.lt hll (λ_=>hp) (λ_=>by simp[lg0]) (r:=r) I
 have hl4:(l.length:Int)<=4294967296:=by omega
 unfold lg0 ro at h44
 rw[OY]
 simp only[jA l (show l.length<=4294967296 by omega),A.name,Hp args ha,hl4,adE,Z6,Z3,Z_,h44]
end Go.Proofs.YtcghbgmmgcljkaaGreatDoor
end
section
namespace Go.Proofs.YtcghbgmmgcljkaaGreatDoor
set_option maxRecDepth 20000
set_option maxHeartbeats 4000000
end Go.Proofs.YtcghbgmmgcljkaaGreatDoor
end
section
namespace Go.Proofs.YtcghbgmmgcljkaaGreatDoor
set_option maxRecDepth 20000
set_option maxHeartbeats 4000000
def V5:aQ:=aQ.mk 19 5 0 (aF.mk 0 0 (Z4 #[]) false false) (Z4 #[])
def ext(e:Int)(f:aB):aB:=aB.mk f.name0 f.params (f.places+e) f.type0 (f.code++[V5])
end Go.Proofs.YtcghbgmmgcljkaaGreatDoor
end
section
namespace Go.Proofs.YtcghbgmmgcljkaaGreatDoor
open IntKind (i64)
set_option maxRecDepth 20000
set_option maxHeartbeats 4000000
theorem uK(l:List aB)(hl:l.length<=4294967296):∀(j k:Nat) (a:Int),k+j=l.length->
 uC (l,a,(k:Int),())=if(l.drop k).any (λf=>decide (f.places>2000))=true then some (.inl (true,()))else some (.inr (l,e9 a (l.drop k),()))
 |0,k,a,h=>by
  rw[uC,cu (by omega)]
  have:¬(k:Int)<(l.length:Int):=by omega
  simp[this,e9]
 |j+1,k,a,h=>by
  obtain⟨x,hx,hm,hd⟩:=bI (l:=l) (k:=k) (by omega)
  have h1:(k:Int)<(l.length:Int):=by omega
  have h2:(0:Int)<=(k:Int):=by omega
  have w:i64.wrap ((k:Int)+1)=((k+1:Nat):Int):=by rw[w64 (by omega) (by omega)];omega
  have ih:=uK l hl j (k+1) (i64.wrap (a+(x.code.length:Int))) (by omega)
  rw[uC,hd]
  simp only[h1,h2,adJ,adE,Z_,hx,Z6,Z3,ab5,w]
  by_cases hp:x.places>2000
  ·simp[hp]
  ·simp only[hp,adK,Z5,adF,ab6]
   exact ih
theorem yj:∀(l:List aB) (a:Int),0<=a->a+(l.length:Int) *4294967296<=4611686018427387904->(∀f∈l,f.code.length<=4294967296)->a<=e9 a l/\∀f∈l,(f.code.length:Int)<=e9 a l
 |[],a,h0,h1,h2=>⟨aaE _,λf hf=>by cases hf⟩
 |x::r,a,h0,h1,h2=>by
  have hx:=h2 x (aal ..)
  rw[aaf]at h1
  have e:(((r.length+1:Nat):Int)) *4294967296=(r.length:Int) *4294967296+4294967296:=by rw[Int.natCast_add,Int.add_mul];rfl
  rw[e]at h1
  have hr:(0:Int)<=(r.length:Int) *4294967296:=acz (by omega) (by decide)
  have w:i64.wrap (a+(x.code.length:Int))=a+(x.code.length:Int):=w64 (by omega) (by omega)
  have ih:=yj r (a+(x.code.length:Int)) (by omega) (by omega) (λf hf=>h2 f (aag _ hf))
  have ec:e9 a (x::r)=e9 (a+(x.code.length:Int)) r:=by unfold e9;rw[acN,w]
  rw[ec]
  refine⟨by omega,λf hf=> ?_⟩
  rw[aan]at hf
  rcases hf with hf|hf
  ·rw[hf];omega
  ·exact ih.2 f hf
theorem N_(l:List aB)(hl:l.length<=4294967296)(hc:∀f∈l,f.code.length<=4294967296):∃b,n_9 (l,())=some (b,())/\(b=false->l.length<=200/\∀f∈l,f.code.length<=3000):=by
 have h:=uK l hl _ 0 0 (aad _)
 rw[aar,aau]at h
 rw[n_9,h]
 by_cases ha:l.any (λf=>decide (f.places>2000))=true
 ·rw[adI ha];exact⟨true,rfl,λh=>by cases h⟩
 ·rw[adH ha]
  simp only[Z6,Z3]
  by_cases h3:e9 0 l>3000
  ·simp only[h3,adJ,adE,Z3];exact⟨true,rfl,λh=>by cases h⟩
  ·simp only[h3,adK,Z5,adF,Z3]
   refine⟨_,rfl,λhb=> ?_⟩
   have h2:l.length<=200:=by
    have:(l.length:Int)<=200:=by simpa using hb
    omega
   refine⟨h2,λf hf=> ?_⟩
   have:=(yj l 0 (aaE _) (by omega) hc).2 f hf
   omega
theorem ug(x:List Int)(hl:x.length<=4294967296):∀(j k:Nat),k+j=x.length->mf (x,x,(k:Int),())=some (.inr ())
 |0,k,h=>by
  rw[mf]
  have:¬(k:Int)<(x.length:Int):=by omega
  simp[this]
 |j+1,k,h=>by
  obtain⟨y,hy,hm,hd⟩:=bI (l:=x) (k:=k) (by omega)
  have h1:(k:Int)<(x.length:Int):=by omega
  have h2:(0:Int)<=(k:Int):=by omega
  have w:i64.wrap ((k:Int)+1)=((k+1:Nat):Int):=by rw[w64 (by omega) (by omega)];omega
  have ih:=ug x hl j (k+1) (by omega)
  rw[mf]
  simp only[h1,h2,adJ,adE,Z_,hy,Z6,Z3,bne_self_eq_false,Z5,adF,w]
  exact ih
theorem DO(x:List Int)(hl:x.length<=4294967296):SM (x,x,())=some (true,()):=by
 have h:=ug x hl _ 0 (aad _)
 rw[aar]at h
 rw[SM,h]
 simp
noncomputable def ri(l:List aB)(s:ByteArray)(args:List aE)(ck:Bool)(place:Int):Item×Lg:=
 match l[(cv l s).toNat]? with
 |some f=>Bq l ck place (cv l s).toNat f (args.map itm)
 |none=>(cj 0,lg0 l)
theorem xj{l:List aB}{s:ByteArray}{args:List aE}{k:Nat}{f:aB}(A:GE l s args k f)(ck:Bool)(place:Int):ri l s args ck place=Bq l ck place k f (args.map itm):=by
 unfold ri
 rw[A.name,Z_,A.get]
structure GH (l:List aB) (args:List aE):Prop where
 len:l.length<=3000
 code:∀f∈l,f.code.length<=3000
 args:args.length<=4294967296
section
variable {l:List aB} {s:ByteArray} {args:List aE} (F:GH l args)
include F
theorem Fl(h:cU l s args=0)(ck:Bool){place:Int}(hp:∀k f,GE l s args k f->place<f.places):
 NH (l,cv l s,args,ck,place,())=some (l,ck,(ri l s args ck place).2.steps,place,(ri l s args ck place).2.high,Dq (ri l s args ck place).2,(ri l s args ck place).2.counts,(ri l s args ck place).2.seen.map val,GC (ri l s args ck place),()):=by
 obtain⟨k,f,A⟩:=vI F.len F.code h
 rw[A.name]
 exact XB A F.args ck place (hp k f A) (xj A ck place)
theorem LO(h:cU l s args=0)(ck:Bool){place:Int}(hp:∀k f,GE l s args k f->place<f.places):
 OY (l,s,args,ck,place,())=some ((ri l s args ck place).1,Log.mk (ri l s args ck place).2.kind (ri l s args ck place).2.stop (ri l s args ck place).2.steps (ri l s args ck place).2.counts (ri l s args ck place).2.high (ri l s args ck place).2.seen place,()):=by
 obtain⟨k,f,A⟩:=vI F.len F.code h
 exact XT A F.args ck place (hp k f A) (xj A ck place)
theorem QH(h:cU l s args=0)(ck:Bool)(place:Int):∃g,Left l 1 g (ri l s args ck place):=by
 obtain⟨k,f,A⟩:=vI F.len F.code h
 rw[xj A]
 exact⟨_,zo A ck place⟩
omit F in
theorem kJ:∀(k:Nat) (f:aB),GE l s args k f->(-1:Int)<f.places:=λk f A=>by
 obtain⟨_,p0,p1,_⟩:=A.runs.fns f (aae A.get)
 omega
noncomputable def S8(l:List aB)(s:ByteArray)(args:List aE)(ck:Bool):dQ:=if cU l s args=0 then GC (ri l s args ck (-1))else dQ.mk 0 (val (cj 0)) 0 []
theorem Ra(ck:Bool):QM (l,s,args,ck,())=some (cU l s args,S8 l s args ck,()):=by
 rw[QM]
 unfold S8
 simp only[j6 l F.len F.code s args F.args,Z6,Z3]
 by_cases h:cU l s args=0
 ·have e:=Fl F h ck (place:= -1) kJ
  simp only[h,adE,bne_self_eq_false,Z5,adF,e,Z3]
 ·have hb:(cU l s args !=0)=true:=by simpa using h
  simp only[hb,h,adE,adF]
  rfl
noncomputable def zw(l:List aB)(s:ByteArray)(args:List aE)(ck:Bool):Int:=if cU l s args=0 then(ri l s args ck (-1)).2.steps else 0
theorem Ua(ck:Bool):SI (l,s,args,ck,())=some (zw l s args ck,cU l s args,()):=by
 rw[SI]
 unfold zw
 simp only[j6 l F.len F.code s args F.args,Z6,Z3]
 by_cases h:cU l s args=0
 ·have e:=Fl F h ck (place:= -1) kJ
  simp only[h,adE,bne_self_eq_false,Z5,adF,e,Z3]
 ·have hb:(cU l s args !=0)=true:=by simpa using h
  simp only[hb,h,adE,adF]
theorem Ub(ck:Bool):SJ (l,s,args,ck,())=some (zw l s args ck,cU l s args,()):=by
 rw[SJ]
 unfold zw
 simp only[qo l F.len F.code s args F.args,Z6,Z3]
 by_cases h:cU l s args=0
 ·have e:=LO F h ck (place:= -1) kJ
  simp only[h,adE,bne_self_eq_false,Z5,adF,e,Z3]
 ·have hb:(cU l s args !=0)=true:=by simpa using h
  simp only[hb,h,adE,adF]
noncomputable def lK(l:List aB)(s:ByteArray)(args:List aE)(ck:Bool):List Int:=if cU l s args=0 then(ri l s args ck (-1)).2.counts else[]
theorem ws(ck:Bool):(lK l s args ck).length<=4294967296:=by
 unfold lK
 split
 ·rename_i h
  obtain⟨g,L⟩:=QH F h ck (-1)
  rw[L.cnt];have:=F.len;omega
 ·simp
theorem Uc(ck:Bool):SK (l,s,args,ck,())=some (lK l s args ck,cU l s args,()):=by
 rw[SK]
 unfold lK
 simp only[j6 l F.len F.code s args F.args,Z6,Z3]
 by_cases h:cU l s args=0
 ·have e:=Fl F h ck (place:= -1) kJ
  simp only[h,adE,bne_self_eq_false,Z5,adF,e,Z3]
 ·have hb:(cU l s args !=0)=true:=by simpa using h
  simp only[hb,h,adE,adF]
theorem Ud(ck:Bool):SL (l,s,args,ck,())=some (lK l s args ck,cU l s args,()):=by
 rw[SL]
 unfold lK
 simp only[qo l F.len F.code s args F.args,Z6,Z3]
 by_cases h:cU l s args=0
 ·have e:=LO F h ck (place:= -1) kJ
  simp only[h,adE,bne_self_eq_false,Z5,adF,e,Z3]
 ·have hb:(cU l s args !=0)=true:=by simpa using h
  simp only[hb,h,adE,adF]
end
end Go.Proofs.YtcghbgmmgcljkaaGreatDoor
end
section
namespace Go.Proofs.YtcghbgmmgcljkaaGreatDoor
set_option maxRecDepth 20000
set_option maxHeartbeats 4000000
section
variable {l:List aB} {s:ByteArray} {args:List aE} (F:GH l args)
include F
end
def t8:aF:=aF.mk 2 8 (Z4 #[]) false false
def Gz:aQ:=aQ.mk 0 200 0 t8 (Z4 #[])
def Gy:aQ:=aQ.mk 0 100 0 t8 (Z4 #[])
def GA:aQ:=aQ.mk 5 5 0 t8 (Z4 #[])
def CA:aQ:=aQ.mk 17 0 0 (aF.mk 0 0 (Z4 #[]) false false) (Z4 #[])
def kF:aB:=aB.mk (Z4 #[102]) 0 0 t8 [Gz,Gy,GA,CA]
theorem Nd:bD Gz=0/\bD Gy=0/\bD GA=2/\bD CA=1:=by
 unfold bD Gz Gy GA CA
 simp
theorem sr{a:Nat}{h:Int}(r:Reach kF a h):(a=0/\h=0)\/(a=1/\h=1)\/(a=2/\h=2)\/(a=3/\h=1):=by
 induction r with
 |start=>exact .inl ⟨rfl,rfl⟩
 | @step a h c b k r hc hk hw hb ih=>
  rcases ih with⟨e1,e2⟩|⟨e1,e2⟩|⟨e1,e2⟩|⟨e1,e2⟩
  ·subst e1 e2
   have:c=Gz:=(aa8 hc).symm
   subst this
   rcases cT.mp hw with⟨h1,_⟩|⟨_,h2,h3⟩
   ·simp[d5,Gz]at h1
   ·right;left
    refine⟨by omega,?_⟩
    rw[h3];simp[cE,bD,bZ,Gz]
  ·subst e1 e2
   have:c=Gy:=(aa8 hc).symm
   subst this
   rcases cT.mp hw with⟨h1,_⟩|⟨_,h2,h3⟩
   ·simp[d5,Gy]at h1
   ·right;right;left
    refine⟨by omega,?_⟩
    rw[h3];simp[cE,bD,bZ,Gy]
  ·subst e1 e2
   have:c=GA:=(aa8 hc).symm
   subst this
   rcases cT.mp hw with⟨h1,_⟩|⟨_,h2,h3⟩
   ·simp[d5,GA]at h1
   ·right;right;right
    refine⟨by omega,?_⟩
    rw[h3];simp[cE,bD,bZ,GA]
  ·subst e1 e2
   have:c=CA:=(aa8 hc).symm
   subst this
   rcases cT.mp hw with⟨h1,_⟩|⟨h1,_,_⟩
   ·simp[d5,CA]at h1
   ·simp[iz,CA]at h1
theorem DW:¬gZ kF:=by
 rintro⟨a,h,c,r,hc,hF⟩
 obtain⟨t1,t2,t3,t4⟩:=Nd
 have hl:(kF.code.length:Int)=4:=rfl
 have two:∀h',Reach kF a h'->h'=h:=by
  intro h' r'
  have q1:=sr r
  have q2:=sr r'
  omega
 rcases hF with hF|⟨_,k,hw⟩|⟨h',r',hne⟩
 ·rcases sr r with⟨e1,e2⟩|⟨e1,e2⟩|⟨e1,e2⟩|⟨e1,e2⟩
  ·subst e1 e2
   have:c=Gz:=(aa8 hc).symm
   subst this
   exact hF ⟨by omega,by omega⟩
  ·subst e1 e2
   have:c=Gy:=(aa8 hc).symm
   subst this
   exact hF ⟨by omega,by omega⟩
  ·subst e1 e2
   have:c=GA:=(aa8 hc).symm
   subst this
   exact hF ⟨by omega,by omega⟩
  ·subst e1 e2
   have:c=CA:=(aa8 hc).symm
   subst this
   exact hF ⟨by omega,by omega⟩
 ·rw[hl]at hw
  rcases sr r with⟨e1,e2⟩|⟨e1,e2⟩|⟨e1,e2⟩|⟨e1,e2⟩
  ·subst e1 e2
   have:c=Gz:=(aa8 hc).symm
   subst this
   rcases cT.mp hw with⟨h1,_⟩|⟨_,h2,h3⟩
   ·simp[d5,Gz]at h1
   ·omega
  ·subst e1 e2
   have:c=Gy:=(aa8 hc).symm
   subst this
   rcases cT.mp hw with⟨h1,_⟩|⟨_,h2,h3⟩
   ·simp[d5,Gy]at h1
   ·omega
  ·subst e1 e2
   have:c=GA:=(aa8 hc).symm
   subst this
   rcases cT.mp hw with⟨h1,_⟩|⟨_,h2,h3⟩
   ·simp[d5,GA]at h1
   ·omega
  ·subst e1 e2
   have:c=CA:=(aa8 hc).symm
   subst this
   rcases cT.mp hw with⟨h1,_⟩|⟨h1,_,_⟩
   ·simp[d5,CA]at h1
   ·simp[iz,CA]at h1
 ·exact hne (two h' r')
theorem Nf:dM [kF]=0:=by kernel_rfl
theorem LE:cv [kF] (Z4 #[102])=0:=by kernel_rfl
theorem DU:cU [kF] (Z4 #[102]) []=0:=by
 have hc:eL [kF]=0:=jo.mpr ⟨Nf,by
  rintro⟨f,hf,hF⟩
  rw[aaS]at hf
  subst hf
  exact DW hF⟩
 unfold cU
 rw[adI hc,LE]
 rfl
theorem LF:GH [kF] []:=⟨by simp,by intro f hf;rw[aaS]at hf;rw[hf];simp[kF],by simp⟩
theorem LG:(Bq [kF] true (-1) 0 kF []).2.kind=1/\(Bq [kF] true (-1) 0 kF []).2.stop=1:=⟨by kernel_rfl,by kernel_rfl⟩
theorem DV:(Bq [kF] false (-1) 0 kF []).2.kind=0/\(Bq [kF] false (-1) 0 kF []).1.n=44:=⟨by kernel_rfl,by kernel_rfl⟩
theorem qV:QL ()=some (true,()):=by
 have r1:=Ra LF (s:=Z4 #[102]) true
 have r2:=Ra LF (s:=Z4 #[102]) false
 have e:∀ck,S8 [kF] (Z4 #[102]) [] ck=GC (Bq [kF] ck (-1) 0 kF []):=by
  intro ck
  unfold S8 ri
  rw[adI DU,LE]
  rfl
 rw[DU,e]at r1 r2
 have o1:(GC (Bq [kF] true (-1) 0 kF [])).kind=1/\(GC (Bq [kF] true (-1) 0 kF [])).stop=1:=by
  unfold GC
  rw[adH (by rw[LG.1];decide)]
  exact LG
 have o2:(GC (Bq [kF] false (-1) 0 kF [])).value.n=44:=by
  unfold GC
  rw[adI DV.1]
  exact DV.2
 unfold kF Gz Gy GA CA t8 at r1 r2 o1 o2
 rw[QL]
 simp only[r1,r2,o1,o2,Z6,Z3,beq_self_eq_true,adE]
end Go.Proofs.YtcghbgmmgcljkaaGreatDoor
end
section
namespace Go.Proofs.YtcghbgmmgcljkaaGreatDoor
set_option maxRecDepth 20000
set_option maxHeartbeats 4000000
section
variable (l:List aB) (x:nP) (hl:l.length<=4294967296) (hc:∀f∈l,f.code.length<=4294967296) (ha:x.args.length<=4294967296)
include hl hc ha
theorem Xk:n_7 (l,x,())=some (true,()):=by
 obtain⟨b,hb,hb2⟩:=N_ l hl hc
 rw[n_7]
 simp only[hb,Z6,Z3]
 cases b
 ·obtain⟨h1,h2⟩:=hb2 rfl
  have F:GH l x.args:=⟨by omega,h2,ha⟩
  simp only[Z5,adF,Ua F,Ub F,Uc F,Ud F,Z3,DO _ (ws F _),adE,beq_self_eq_true,qV]
 ·simp only[adE,qV,Z3]
end
end Go.Proofs.YtcghbgmmgcljkaaGreatDoor
end
section
namespace Go.Proofs.YtcghbgmmgcljkaaGreatDoor
open Go.Tx
theorem L6{ns:List Nat}:∀{i n:Nat},ns[i]?=some n->n<=ns.sum:=by
 induction ns with
 |nil=>intro i n h;simp at h
 |cons a r ih=>
  intro i n h
  cases i with
  |zero=>simp at h;subst h;simp
  |succ i=>have:=ih (i:=i) (by simpa using h);simp;omega
theorem Ou{ns:List Nat}(h:∀n∈ns,1<=n):ns.length<=ns.sum:=by
 induction ns with
 |nil=>simp
 |cons a r ih=>
  have h1:=h a aal
  have h2:=ih λn hn=>h n (aag _ hn)
  simp;omega
theorem Pd{e:Ty vw.ι}{x:den vw.N e}{m:Nat}(h:Bk vw e x m):1<=m:=by
 cases h<;>omega
theorem Mv{e:Ty SN}{xs:List (den NN e)}{m:Nat}(h:Bk vw (.sl e) xs m):xs.length+1<=m/\∀x∈xs,∃n,n+1<=m/\Bk vw e x n:=by
 cases h with
 |sl ns h1 h2 h3=>
  have h1:ns.length=xs.length:=h1
  have hp:∀n∈ns,1<=n:=λn hn=>by
   obtain⟨i,hi⟩:=abx hn
   obtain⟨x,hx⟩:∃x,xs[i]?=some x:=⟨_,Z8 (by have:=(Z9.1 hi).1;omega)⟩
   exact Pd (h2 i x n hx hi)
  have:=Ou hp
  refine⟨by omega,λx hx=> ?_⟩
  obtain⟨i,hi⟩:=abx hx
  obtain⟨n,hn⟩:∃n,ns[i]?=some n:=⟨_,Z8 (by have:=(Z9.1 hi).1;omega)⟩
  exact⟨n,by have:=L6 hn;omega,h2 i x n hi hn⟩
theorem Pe{i:SN}{x:NN i}{m:Nat}(h:Bk vw (.st i) x m):∀l∈gG i x,∃n,n+1<=m/\Bk vw l.t l.x n:=by
 cases h with
 |st ns h1 h2 h3=>
  intro l hl
  obtain⟨j,hj⟩:=abx hl
  have h1:ns.length=(gG i x).length:=h1
  obtain⟨n,hn⟩:∃n,ns[j]?=some n:=⟨_,Z8 (by have:=(Z9.1 hj).1;omega)⟩
  exact⟨n,by have:=L6 hn;omega,h2 j l n hj hn⟩
theorem yA{l:List aB}{m:Nat}(h:Bk vw (.sl (.st .myFuncT)) l m)(hm:m<=1048576):l.length<=4294967296/\∀f∈l,f.code.length<=4294967296:=by
 obtain⟨h1,h2⟩:=Mv h
 refine⟨by omega,λf hf=> ?_⟩
 obtain⟨n,hn,hb⟩:=h2 f hf
 obtain⟨k,hk,hc⟩:=Pe hb ⟨.sl (.st .myCodeT),f.code⟩ (by simp[gG])
 have:f.code.length+1<=k:=(Mv hc).1
 omega
theorem GK{x:nP}{m:Nat}(h:Bk vw (.st .askedT) x m)(hm:m<=1048576):x.args.length<=4294967296:=by
 obtain⟨k,hk,hc⟩:=Pe h ⟨.sl (.st .myValueT),x.args⟩ (by simp[gG])
 have:x.args.length+1<=k:=(Mv hc).1
 omega
theorem nb(l:List aB)(x:nP)(h0:Ok vw (.sl (.st .myFuncT)) l)(h1:Ok vw (.st .askedT) x)(m0:Nat)(b0:Bk vw (.sl (.st .myFuncT)) l m0)(m1:Nat)(b1:Bk vw (.st .askedT) x m1)(hm:m0+m1<=1048576):n_7 (l,x,())=some (true,()):=
 Xk l x (yA b0 (by omega)).1 (yA b0 (by omega)).2 (GK b1 (by omega))
end Go.Proofs.YtcghbgmmgcljkaaGreatDoor
end
section
namespace Go.Proofs.YtcghbgmmgcljkaaGreatDoor.stackCounts
open Go.ChangeShapes Go.WideShapes Go.ChangeAt Go.RowKit Go.Awp Go.Tx
open Go.Proofs.Tryz (prog)
theorem DZ:laidOutB prog=true:=by kernel_rfl
theorem own:ownKnob prog.godebug=none:=by kernel_rfl
theorem G_(x0:(List aB))(x1:nP)(h0:Ok vw (.sl (.st .myFuncT)) x0)(h1:Ok vw (.st .askedT) x1)(m0:Nat)(b0:Bk vw (.sl (.st .myFuncT)) x0 m0)(m1:Nat)(b1:Bk vw (.st .askedT) x1 m1)(hm:m0+m1<=1048576):ma prog 7 [.d (bC szN MT (.sl (.st .myFuncT)) x0), .d (bC szN MT (.st .askedT) x1)] [] (.d (.v (.bool true))) []:=
 fG (by kernel_rfl) (QW (x0,x1,()) (true,()) (.lf .bool true) (nb x0 x1 h0 h1 m0 b0 m1 b1 hm) rfl)
noncomputable def w0(os:Os):World:=World.laidAll prog os Rows.stackCountsUptoRow.laid
theorem Hs(os:Os):laidMetH prog Rows.stackCountsUptoRow.laid ((w0 os).forCall (λ_ _=>0) ⟨#[], #[.slice none 0 0, .agg #[.string abm, .slice none 0 0, .bool false]],[]⟩).memory:=by
 rw[MakeChecks.laidMetH_plain _ _ _ (by kernel_rfl)];exact laidMet_laidAll _ (by kernel_rfl) (by kernel_rfl)
set_option maxRecDepth 100000 in
theorem reads(os:Os){H:Type}(enc:TypeId×Value->H):DataW.whole enc prog ((w0 os).forCall (λ_ _=>0) ⟨#[], #[.slice none 0 0, .agg #[.string abm, .slice none 0 0, .bool false]],[]⟩).memory Tryz.f7.params.toList Rows.stackCountsSpec.vars false #[.slice none 0 0, .agg #[.string abm, .slice none 0 0, .bool false]].toList 8=some ([.nil, .agg [.lit (.string []), .nil, .lit (.bool false)]],[],[]):=by kernel_rfl
set_option maxRecDepth 100000 in
theorem QI(os:Os)(started:os.Started)(H:Type)(enc:TypeId×Value->H)(F:Stop.Interp):
 ReturnsInHanded {} Tryz.checked os 7 .any ((Rows.OpenSpec.upto Rows.stackCountsSpec).preRow enc prog Tryz.f7 Rows.stackCountsUptoRow.domain false Rows.stackCountsUptoRow.laid) (((Rows.OpenSpec.upto Rows.stackCountsSpec).at F).post enc prog Tryz.f7 false true false false):=by
 have hok:Input.okWideB prog ((w0 os).forCall (λ_ _=>0) ⟨#[], #[.slice none 0 0, .agg #[.string abm, .slice none 0 0, .bool false]],[]⟩) 7 ⟨#[], #[.slice none 0 0, .agg #[.string abm, .slice none 0 0, .bool false]],[]⟩=true:=by kernel_rfl
 refine returnsInHanded_of_row (C:=Tryz.checked) (s:=(Rows.OpenSpec.upto Rows.stackCountsSpec)) own started (by kernel_rfl) Tryz.func7
  ⟨w0 os,λ_ _=>0,⟨#[], #[.slice none 0 0, .agg #[.string abm, .slice none 0 0, .bool false]],[]⟩,World.laidAll_os _ _ _,World.shaped_of_ZipB (by kernel_rfl) (by kernel_rfl),(Input.okWide_of_okWideB (base:=0) hok).1,(Input.okWide_of_okWideB hok).2,
   OpenSpec.preRow_of_cond 8 (reads os enc) (by kernel_rfl) (λk hk=>by cases hk;kernel_rfl) (by kernel_rfl) (Hs os),
   by simp only[Assume.holds];exact⟨by simp,by simp,λ_=>Modest.zero,by simp,by simp⟩⟩ ?_
 intro W base args ds gs before hval0 hW _ hcond _ hL _ _
 have hval:∀(j:Nat) t v,Tryz.f7.params[j]?=some t->args[j]?=some v->Value.okWide prog W .any base t v:=hval0
 have hW':=hW
 obtain⟨p,q,hA0,hV,rfl,hfz,hnd⟩:=hW'
 have hA:DataW.TrodAll enc prog W 0 (λ_=>true) true Tryz.f7.params.toList args.toList ds p:=hA0
 rw[Tryz.params7]at hA hval
 obtain⟨v0,vs0,d0,ds0,p0,q0,ha0,rfl,rfl,h0,r0⟩:=trodAll_cons hA
 obtain⟨v1,vs1,d1,ds1,p1,q1,ha1,rfl,rfl,h1,r1⟩:=trodAll_cons r0
 subst ha1
 obtain⟨rfl,rfl,rfl⟩:=trodAll_nil r1
 obtain rfl:args= #[v0,v1]:=by cases args;simp_all
 obtain⟨rfl,rfl⟩:=trodVars_none hV
 have hk:Rows.uptoBulkAll ([d0,d1]++[])<=1048576:=of_decide_eq_true (hcond _ rfl)
 have hlt0:∀x∈p0,x.block<W.heap.size:=λx hx=>by simpa using hW.lt x (by simp[hx])
 have hd0:=kh d0
 have hlt1:∀x∈p1,x.block<W.heap.size:=λx hx=>by simpa using hW.lt x (by simp[hx])
 have hd1:=kh d1
 obtain⟨x0,ok0,hr0,hb0⟩:=uJ facts (τ:=(.sl (.st .myFuncT))) rfl (hval 0 22 v0 rfl rfl) h0
 obtain⟨x1,ok1,hr1,hb1⟩:=uJ facts (τ:=(.st .askedT)) rfl (hval 1 25 v1 rfl rfl) h1
 have hm:dO d0+dO d1<=1048576:=by
  simp only[ab3,Rows.uptoBulkAll]at hk
  omega
 refine((G_ x0 x1 ok0 ok1 _ hb0 _ hb1 hm).closed (W:=W) (vs:= #[v0,v1]) (DF hL) ⟨rfl,λi c x hc hx=> ?_⟩).mono λe W' ⟨he,hb⟩=> ?_
 ·match i with
  |0=>simp at hc hx;subst hc;subst hx;exact .d hr0
  |1=>simp at hc hx;subst hc;subst hx;exact .d hr1
  |i+2=>simp at hc
 subst he
 exact⟨_,rfl,_,_,_,[],_,[],hW,trodAll_cons_mk (shut_bool Tryz.underlying4 _) trodAll_mk0,
  (trodAll_cons_mk (Below.trod DZ (by kernel_rfl) (of_decide_eq_true (by kernel_rfl)) h0 hb hlt0) (trodAll_cons_mk (Below.trod DZ (by kernel_rfl) (of_decide_eq_true (by kernel_rfl)) h1 hb hlt1) trodAll_mk0)),rfl,hb.frame _,(λh=>by cases h)⟩
theorem row:Rows.StackCountsUptoSaid:=
 OpenClaim.holds_of_cond 7 Tryz.f7 rfl rfl rfl rfl rfl rfl rfl ⟨rfl,rfl,rfl,rfl,rfl⟩ rfl rfl rfl rfl rfl (by kernel_rfl) Tryz.func7 (by kernel_rfl)
  (of_decide_eq_true (by kernel_rfl)) (by unfold Func.isWrapper;first|(rw[adI (by decide+kernel)];kernel_rfl)|(rw[adH (by decide+kernel)];exact⟨rfl,rfl⟩))
  (λos started H enc _ F=>by rw[OpenClaim.pre_eq_preRow];exact QI os started H enc F)
theorem proved:Rows.StackCountsUptoCardSaid:=
 Claim7.holds_tied_plain_at .later [] [.listed, .data] true (true, "9903706971e3bb189f6f1d2425e4062bf0ab55d30c817c4194f043affe1c4612") false row (λ_ h=>by cases h) (by kernel_rfl) (λ_ h=>by cases h) stackCountsUpto_row_tie rfl ⟨rfl,rfl⟩ (by kernel_rfl) rfl
  (λf fn hf hfn=>by
    obtain rfl:f=7:=aa8 ((show prog.funcNamed "mandrel/mandrellaw13.StackCounts" =some 7 by kernel_rfl).symm.trans hf)|>.symm
    obtain rfl:fn=Tryz.f7:=(aa8 (Tryz.func7.symm.trans hfn)).symm
    exact⟨by kernel_rfl,λj t ht=>by
     rw[Tryz.params7]at ht
     have hm:t∈([22,25]:List TypeId):=by simpa using Array.mem_of_getElem? ht
     have hall:(([22,25]:List TypeId).all λu=> !prog.wantsStandIn u)=true:=by kernel_rfl
     exact(show prog.wantsStandIn t=false by simpa using aak.1 hall t hm)⟩)
  (by kernel_rfl)
end Go.Proofs.YtcghbgmmgcljkaaGreatDoor.stackCounts
end
