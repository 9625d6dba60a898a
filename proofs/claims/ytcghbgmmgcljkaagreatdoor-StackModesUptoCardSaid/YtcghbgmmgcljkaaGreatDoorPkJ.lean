/-
  Texts of this claim, joined by a program of mine: what the theorem uses.
-/
import Derived.Test.YtcghbgmmgcljkaaGreatDoorPkI
import Derived.Test.YtcghbgmmgcljkaaGreatDoorPkF
import Derived.Test.YtcghbgmmgcljkaaGreatDoorCards
import Derived.Test.YtcghbgmmgcljkaaGreatDoorTie
import Derived.WalkKit
import Derived.ProofKit
import Derived.OpenShut
import Derived.LaidMore
import Derived.Lay
import Derived.SevenTiedAt
import Derived.Stop.Joined
import Derived.Deep.DeepHandedRow
open Bool renaming and_eq_true→aaT,false_eq_true→aaL,false_or→acN,not_false→abK,not_true→abh
open ByteArray renaming empty→ab4,mk→aaK
open Eq renaming trans→ad4
open Int renaming le_refl→abk,mul_nonneg→adg,natCast_zero→aa6,reduceBEq→abz,toNat→abb,toNat_natCast→aaQ,toNat_zero→abm
open List renaming all_eq_true→aa1,any_cons→acM,append_assoc→abW,append_nil→acK,drop→ac6,drop_eq_getElem_cons→acA,drop_replicate→aea,drop_zero→aa8,foldl_cons→adu,getD_eq_getElem?_getD→abL,getElem?_append_left→aba,getElem?_append_right→aa5,getElem?_eq_getElem→aaO,getElem?_eq_some_iff→aaP,getElem?_map→aaR,getElem?_of_mem→ace,length_append→abd,length_cons→aaW,length_drop→abp,length_map→aaS,length_replicate→abA,length_reverse→abJ,length_set→abC,length_take→abx,map_append→abG,map_cons→aaY,map_drop→abT,map_map→abq,map_nil→abE,map_replicate→acz,map_take→abS,mem_cons→aa4,mem_cons_of_mem→aaX,mem_cons_self→aa2,mem_of_getElem?→aaV,mem_singleton→aby,nil_append→aaZ,replicate→aa7,reverse_cons→acP,set_append_right→adm,take→abY,take_append_of_le_length→aco,take_of_length_le→abt,take_zero→ac5
open Nat renaming add_sub_cancel→ady,sub_zero→abv,zero_add→aaU
open Option renaming bind_eq_bind→aaM,bind_some→aaJ,isNone_none→acY,isSome_some→adb
open Option.some renaming inj→abO
open Sum renaming inl→abr,inr→abQ
noncomputable section
set_option linter.unusedSimpArgs false
set_option linter.unusedVariables false
section
namespace Go.Proofs.YtcghbgmmgcljkaaGreatDoor
set_option maxRecDepth 20000
set_option maxHeartbeats 4000000
def Dv(g:Lg):Option bX:=if g.kind=0 then none else some (bX.mk g.kind g.stop)
def lr(b e:Nat)(l:List aB)(ck:Bool)(steps place high:Int)(en:Option bX)(argv:List aE)(z:aE)(f:aB)(d at1:Int)(res:Option aE)(cnt:List Int)(sn pl st:List Item):=
 ((b:Int),(e:Int),l,ck,steps,place,high,en,argv,z,f.name0,f.params,f.places,f.type0.base,f.type0.bits,f.type0.name0,f.type0.opt,f.type0.err,f.code,d,at1,res,cnt,sn.map val,pl.map val,(st.map val).reverse,())
theorem Ec(b e:Nat)(l:List aB)(ck:Bool)(steps place high:Int)(en:Option bX)(argv:List aE)(z:aE)(f:aB)(d at1:Int)(v:aE)(cnt:List Int)(sn pl st:List Item):
 aX (lt b e l ck steps place high en argv z f d at1 (some v) cnt sn pl st)=some (abQ (lr b e l ck steps place high en argv z f d at1 (some v) cnt sn pl st)):=by
 rw[aX]
 unfold lt lr
 simp only[Option.isNone_some,aaL,aem,aaQ]
theorem uu(b e:Nat)(l:List aB)(ck:Bool)(place high:Int)(argv:List aE)(z:aE)(f:aB)(d at1:Int)(cnt:List Int)(sn pl st:List Item):
 aX (lt b e l ck 40000 place high none argv z f d at1 none cnt sn pl st)=some (abr ((b:Int),(e:Int),l,ck,40000,place,high,some (bX.mk 2 0),argv,cnt,sn.map val,val (cp 0),())):=by
 rw[aX]
 unfold lt
 simp only[acY,ael,beq_self_eq_true,d_,aaM,aaJ,aaQ]
 rfl
def vL(b e:Nat)(l:List aB)(ck:Bool)(place:Int)(argv:List aE)(z:aE)(f:aB)(d:Int)(a:Nat)(g:Lg)(pl st:List Item)(r:Item×Lg):Prop:=
 (r.2.kind=0/\∃at2 pl2 st2,aX (lt b e l ck g.steps place g.high none argv z f d (a:Int) none g.counts g.seen pl st)=some (abQ (lr b e l ck r.2.steps place r.2.high none argv z f d at2 (some (val r.1)) r.2.counts r.2.seen pl2 st2)))\/
 (r.2.kind≠0/\aX (lt b e l ck g.steps place g.high none argv z f d (a:Int) none g.counts g.seen pl st)=some (abr ((b:Int),(e:Int),l,ck,r.2.steps,place,r.2.high,some (bX.mk r.2.kind r.2.stop),argv,r.2.counts,r.2.seen.map val,val (cp 0),())))
theorem Dx(h:aB)(args:List Item)(hp:(args.length:Int)<=h.places):
 abY (aa7 h.places.toNat (val (cp 0))).length (args.map val)++ac6 args.length (aa7 h.places.toNat (val (cp 0)))=(cH h args).map val:=by
 unfold cH
 rw[abA,abt (by simp;omega),aea,abG,acz]
theorem p40{l:List aB}{k:Nat}{h:aB}(hk:l[k]?=some h){b e:Nat}{argv:List aE}{args:List Item}(hb:b+e<=argv.length)(ha:abY e (ac6 b argv)=args.map val)(he:args.length=e)
 {ck:Bool}{place d:Int}{g:Lg}(hd:¬30<d)(hp0:(e:Int)<=h.places)(hp1:h.places<=200)(hg:g.kind=0)(hc:g.counts.length=l.length)(hkl:k<l.length)
 (hpl:d=1->place<h.places)(hs:d=1->g.seen.length<=99){r:Item×Lg}
 (hl:vL b e l ck place argv (val (cp 0)) h d 0 {g with counts:=qj g.counts k,seen:=if d=1/\0<=place then g.seen++[(cH h args).getD place.toNat (cp 0)]else g.seen} (cH h args) [] r)(hz:r.2.kind≠0->r.1=cp 0):
 n_40s78a4 ((k:Int),(b:Int),(e:Int),d,l,ck,g.steps,place,g.high,none,argv,g.counts,g.seen.map val,())=
  some ((b:Int),(e:Int),l,ck,r.2.steps,place,r.2.high,Dv r.2,argv,r.2.counts,r.2.seen.map val,val r.1,()):=by
 have hk0:(0:Int)<=(k:Int):=by omega
 have hk1:(k:Int)<(g.counts.length:Int):=by omega
 obtain⟨x,hx⟩:∃x,g.counts[k]?=some x:=⟨_,aaO (by omega)⟩
 have hbump:g.counts.set k (IntKind.i64.wrap (x+1))=qj g.counts k:=by
  unfold qj;rw[abL,hx];rfl
 have h0:0<=h.places:=by omega
 have h4:h.places<=4294967296:=by omega
 have em:=Dx h args (by omega)
 rw[he]at em
 rw[n_40s78a4]
 have hz0:aE.mk (aF.mk 0 0 (aaK #[]) false false) 0 false (aaK #[]) (aF.mk 0 0 (aaK #[]) false false)=val (cp 0):=rfl
 have hd':¬d>30:=by omega
 simp only[hd',aer,aaL,aem,hk0,hk1,and_self,ael,aaQ,hx,hk,h0,h4,aaM,aaJ,hb,hz0,ha,em,hbump,SW]
 have fin:∀{α:Type} (X:Option α) (y:α),X=some y->X=some y:=λ_ _ h=>h
 have key:∀sn:List Item,sn=(if d=1/\0<=place then g.seen++[(cH h args).getD place.toNat (cp 0)]else g.seen)->
  (aX (lt b e l ck g.steps place g.high none argv (val (cp 0)) h d 0 none (qj g.counts k) sn (cH h args) [])>>=λx6=>match x6 with
    | .inl y6=>some y6
    | .inr y6=>(y6.2.2.2.2.2.2.2.2.2.2.2.2.2.2.2.2.2.2.2.2.2.1:Option (aE))>>=λx7=>
     some (((↑y6.1.toNat:Int),(↑y6.2.1.toNat:Int),y6.2.2.1,y6.2.2.2.1,y6.2.2.2.2.1,y6.2.2.2.2.2.1,y6.2.2.2.2.2.2.1,y6.2.2.2.2.2.2.2.1,y6.2.2.2.2.2.2.2.2.1,y6.2.2.2.2.2.2.2.2.2.2.2.2.2.2.2.2.2.2.2.2.2.2.1,y6.2.2.2.2.2.2.2.2.2.2.2.2.2.2.2.2.2.2.2.2.2.2.2.1,x7,())))=
  some ((b:Int),(e:Int),l,ck,r.2.steps,place,r.2.high,Dv r.2,argv,r.2.counts,r.2.seen.map val,val r.1,()):=by
  intro sn hsn
  subst hsn
  rcases hl with⟨hk0,at2,pl2,st2,hl⟩|⟨hk0,hl⟩
  ·simp only[aa6]at hl
   rw[hl]
   unfold lr Dv
   simp only[aaM,aaJ,aaQ,hk0,ael]
  ·simp only[aa6]at hl
   rw[hl]
   unfold Dv
   simp only[aaM,aaJ,hk0,aem,hz hk0]
 unfold lt at key
 by_cases h1:d=1
 ·have hb1:(d==1)=true:=by simpa using h1
  simp only[hb1,ael,aaJ,aaQ]
  by_cases hp:0<=place
  ·have hlt:=hpl h1
   have hlen:(cH h args).length=h.places.toNat:=by
    unfold cH
    rw[abd,abA];omega
   have hlt2:place<(((cH h args).map val).length:Int):=by rw[aaS,hlen];omega
   have hget:((cH h args).map val)[place.toNat]?=some (val ((cH h args).getD place.toNat (cp 0))):=by
    rw[aaR,abL,aaO (by omega)];rfl
   have hs':(g.seen.map val).length+[val ((cH h args).getD place.toNat (cp 0))].length<=4294967296:=by have:=hs h1;simp;omega
   simp only[ge_iff_le,hp,aeq,ael,hlt2,and_self,hget,aaJ,hs',aaQ]
   refine ad4 ?_ (key _ (by rw[aep ⟨h1,hp⟩]))
   rw[abG]
   rfl
  ·simp only[ge_iff_le,hp,aer,aaL,aem,aaJ,aaQ]
   exact key _ (by rw[aeo (λh=>hp h.2)])
 ·have hb1:(d==1)=false:=by simpa using h1
  simp only[hb1,aaL,aem,aaJ,aaQ]
  exact key _ (by rw[aeo (λh=>h1 h.1)])
end Go.Proofs.YtcghbgmmgcljkaaGreatDoor
end
section
namespace Go.Proofs.YtcghbgmmgcljkaaGreatDoor
set_option maxRecDepth 20000
set_option maxHeartbeats 4000000
theorem Js{l:List aB}{k b e:Nat}{argv:List aE}{ck:Bool}{place d:Int}{g:Lg}(hd:30<d):
 n_40s78a4 ((k:Int),(b:Int),(e:Int),d,l,ck,g.steps,place,g.high,none,argv,g.counts,g.seen.map val,())=
  some ((b:Int),(e:Int),l,ck,g.steps,place,g.high,some (bX.mk 2 0),argv,g.counts,g.seen.map val,val (cp 0),()):=by
 rw[n_40s78a4]
 have hd':d>30:=hd
 simp only[hd',aeq,ael,d_,aaM,aaJ,aaQ]
 rfl
theorem Oz{l:List aB}(R:nV l)(s:ByteArray):LU (l,s,())=some (max (cx l s) 0,decide (cx l s>=0),0,()):=by
 have hv:=pE l (by have:=R.len;omega) (λf hf=>by have:=(R.fns f hf).2.2.2.2.1;omega)
 rw[LU]
 simp only[hv,nJ l (by have:=R.len;omega),aaM,aaJ,R.valid,bne_self_eq_false,aaL,aem]
theorem Mg(st:List Item){b:Nat}(hb:b<=st.length):abY (st.length-b) (st.map val).reverse=((st.drop b).map val).reverse/\abY b (ac6 (st.length-b) (st.map val).reverse)=((st.take b).reverse).map val:=by
 constructor
 ·rw[List.take_reverse,aaS,show st.length-(st.length-b)=b by omega,abT]
 ·rw[List.drop_reverse,aaS,show st.length-(st.length-b)=b by omega,abt (by simp;omega),List.map_reverse,abS]
theorem p93{l:List aB}(R:nV l){c:aQ}{k b:Nat}(hk:cx l c.name0=(k:Int))(hb:c.b=(b:Int)){st:List Item}(hbl:b<=st.length)(hst:st.length<=65)(f:aB){d at1:Int}(hd1:1<=d)(hd2:d<=30)(ck:Bool)(place:Int)(pl:List Item)(g:Lg)
 {x:Item}{g2:Lg}(hc:g2.counts.length=g.counts.length){en:Option bX}
 (h40:n_40s78a4 ((k:Int),((st.length-b:Nat):Int),(b:Int),d+1,l,ck,g.steps,place,g.high,none,(st.map val).reverse,g.counts,g.seen.map val,())=
   some (((st.length-b:Nat):Int),(b:Int),l,ck,g2.steps,place,g2.high,en,(st.map val).reverse,g2.counts,g2.seen.map val,val x,())):
 n_93sae8a (c,tu f d at1 none l ck g.steps place g.high none pl st g.counts g.seen ())=
  some (if en.isNone=true then tu f d at1 none l ck g2.steps place (aV d g2.high (st.length-b+1)) en pl (x::st.drop b) g2.counts g2.seen ()
   else tu f d at1 none l ck g2.steps place g2.high en pl (st.drop b) g2.counts g2.seen ()):=by
 have hp:=fA f d at1 none l ck g2.steps place g2.high en pl (st.drop b) g2.counts g2.seen x (by rw[abp];omega)
 rw[abp]at hp
 unfold tu at hp
 obtain⟨c1,c2⟩:=Mg st hbl
 have hL:(((st.map val).reverse).length:Int)=(st.length:Int):=by rw[lR]
 have w:IntKind.i64.wrap ((st.length:Int) -(b:Int))=((st.length-b:Nat):Int):=by rw[w64 (by omega) (by omega)];omega
 have w2:IntKind.i64.wrap (d+1)=d+1:=w64 (by omega) (by omega)
 have i1:(0:Int)<=((st.length-b:Nat):Int):=by omega
 have i2:((st.length-b:Nat):Int)<=(st.length:Int):=by omega
 have i3:(st.length:Int)<=(st.length:Int):=abk _
 have hmax:max (k:Int) 0=(k:Int):=by omega
 have e1:st.length-(st.length-b)=b:=by omega
 have e2:st.length-b-abb 0=st.length-b:=rfl
 have e3:st.length-b<=((st.map val).reverse).length:=by rw[lR];omega
 rw[n_93sae8a]
 unfold tu
 simp only[hL,hb,w,i1,i2,i3,and_self,ael,abk,Oz R,hk,hmax,aaM,aaJ,aaQ,e1,e2,w2,h40,hc,e3,c1]
 cases hen:en with
 |none=>
  rw[hen]at hp
  simp only[acY,ael,hp,hc,aaJ]
 |some y=>simp only[Option.isNone_some,aaL,aem]
theorem M9{l:List aB}{f:aB}{c:aQ}(h:di l f c=true)(e:c.op=0):d4 c.type0=true:=by
 unfold di at h
 rw[aep e]at h
 simp only[aaT]at h
 exact h.1.2.1.1
theorem yl{l:List aB}{f:aB}{c:aQ}(h:di l f c=true)(e:c.op=2\/c.op=3)(h0:0<=f.places)(h1:f.places<=200):0<=c.a/\c.a<f.places:=by
 unfold di at h
 rw[aeo (by omega),aep e]at h
 simp only[aaT,rng,aen]at h
 have w:IntKind.i64.wrap (f.places-1)=f.places-1:=w64 (by omega) (by omega)
 have:=h.1.1.1
 rw[w]at this
 omega
theorem QP{l:List aB}{f:aB}{c:aQ}(h:di l f c=true)(e:c.op=5):(5<=c.a/\c.a<=17)/\cL c.type0=true:=by
 unfold di at h
 rw[aeo (by omega),aeo (by omega),aep e]at h
 simp only[aaT,rng,aen]at h
 exact⟨h.1.1.1,h.1.2⟩
theorem Ud{l:List aB}{f:aB}{c:aQ}(h:di l f c=true)(e:c.op=6):18<=c.a/\c.a<=23:=by
 unfold di at h
 rw[aeo (by omega),aeo (by omega),aeo (by omega),aep e]at h
 simp only[aaT,rng,aen]at h
 exact h.1.1.1
theorem At{l:List aB}{f:aB}{c:aQ}(h:di l f c=true)(e:c.op=7\/c.op=9\/c.op=10):cL c.type0=true:=by
 unfold di at h
 rw[aeo (by omega),aeo (by omega),aeo (by omega),aeo (by omega),aep e]at h
 simp only[aaT]at h
 exact h.1.2
theorem GJ{ck:Bool}{c:aQ}{at1:Int}{pl:List Item}{x:Item}{s:List Item}(e:c.op=7\/c.op=8\/c.op=9\/c.op=10\/c.op=11):cN ck c at1 pl (x::s)=im (bA ck c.op c.type0 x) at1 pl s:=by
 rw[cN,aeo (by omega),aeo (by omega),aeo (by omega),aeo (by omega),aeo (by omega),aeo (by omega),aeo (by omega),aeo (by omega),aep e]
 rfl
theorem kZ{l:List aB}(R:nV l)(ck:Bool)(place:Int):∀(N:Nat) (f:aB) (d:Int) (a:Nat) (pl st:List Item) (g:Lg),OkA l f d a pl st->OkG l g->(d=1->(st.length:Int)<=g.high)->40000-g.steps<=(N:Int)->
 ∀(b e:Nat) (argv:List aE) (z:aE),vL b e l ck place argv z f d a g pl st (gK l ck place N f d (a:Int) pl st g)
 |0,f,d,a,pl,st,g,A,G,hh,hN,b,e,argv,z=>by
  have hs:g.steps=40000:=by have:=G.s1;omega
  rw[gK]
  refine .inr ⟨by simp[zH],?_⟩
  rw[hs,uu]
  simp only[zH,hs,G.stop]
 |N+1,f,d,a,pl,st,g,A,G,hh,hN,b,e,argv,z=>by
  obtain⟨c,hc,hcm,hcode,hal,hl3⟩:=A.code R
  have s0:=G.s0
  have s1:=G.s1
  have hst:=A.st_le R
  have hd1:=A.d1
  have hd2:=A.d2
  rw[gK]
  by_cases hs:g.steps=40000
  ·rw[aep hs]
   refine .inr ⟨by simp[zH],?_⟩
   rw[hs,uu]
   simp only[zH,hs,G.stop]
  ·rw[aeo hs]
   simp only[aaQ,hc]
   obtain⟨hk,hw⟩:=jE R A.mem A.reach hc
   have ht:=hk.1
   have hr:=nH hcode
   have go:∀(at1:Int) (pl1 st1:List Item),cN ck c ((a:Int)+1) pl st= .go at1 pl1 st1->
    aX (lt b e l ck g.steps place g.high none argv z f d (a:Int) none g.counts g.seen pl st)=aX (lt b e l ck (g.steps+1) place (aV d g.high st1.length) none argv z f d at1 none g.counts (iB d place c st g.seen) pl1 st1)->
    vL b e l ck place argv z f d a g pl st (gK l ck place N f d at1 pl1 st1 {g with steps:=g.steps+1,high:=aV d g.high st1.length,seen:=iB d place c st g.seen}):=by
    intro at1 pl1 st1 ha hn
    obtain⟨⟨b',hb',A'⟩,G'⟩:=xa (place:=place) R A G hs hc ha
    subst hb'
    have ih:=kZ R ck place N f d b' pl1 st1 _ A' G' (λhd=>nw hd) (by simp only[];omega) b e argv z
    unfold vL at ih⊢
    rw[hn]
    exact ih
   have ret:∀(x:Item) (at2:Int) (pl2 st2:List Item),
    aX (lt b e l ck g.steps place g.high none argv z f d (a:Int) none g.counts g.seen pl st)=aX (lt b e l ck (g.steps+1) place g.high none argv z f d at2 (some (val x)) g.counts g.seen pl2 st2)->
    vL b e l ck place argv z f d a g pl st (x,{g with steps:=g.steps+1}):=by
    intro x at2 pl2 st2 hn
    refine .inl ⟨G.kind,at2,pl2,st2,?_⟩
    rw[hn,Ec]
   have stop:∀(w:Int) (hi:Int),aX (lt b e l ck g.steps place g.high none argv z f d (a:Int) none g.counts g.seen pl st)=
    some (abr ((b:Int),(e:Int),l,ck,g.steps+1,place,g.high,some (bX.mk 1 w),argv,g.counts,g.seen.map val,val (cp 0),()))->
    vL b e l ck place argv z f d a g pl st (cp 0,{g with steps:=g.steps+1,kind:=1,stop:=w}):=by
    intro w hi hn
    exact .inr ⟨by simp,hn⟩
   have hop:c.op=0\/c.op=1\/c.op=2\/c.op=3\/c.op=4\/c.op=5\/c.op=6\/c.op=7\/c.op=8\/c.op=9\/c.op=10\/c.op=11\/c.op=12\/c.op=13\/c.op=14\/c.op=15\/c.op=16\/c.op=17\/c.op=18\/c.op=19:=by omega
   have hse:c.op≠3->iB d place c st g.seen=g.seen:=λh=>by unfold iB;rw[aeo (λq=>h q.1)]
   have hpl:=A.pls
   have hplc:=R.places f A.mem
   have hfn:=R.fns f A.mem
   rcases hop with e0|e0|e0|e0|e0|e0|e0|e0|e0|e0|e0|e0|e0|e0|e0|e0|e0|e0|e0|e0
   ·have ha:cN ck c ((a:Int)+1) pl st= .go ((a:Int)+1) pl (cp (lw c.type0 c.a)::st):=by simp[cN,e0]
    rw[ha]
    refine go _ _ _ ha ?_
    rw[XZ b e l ck g.steps place g.high argv z f d a g.counts g.seen pl st e0 hc hs s0 s1 (by omega) (p77 f d ((a:Int)+1) none l ck (g.steps+1) place g.high none pl st g.counts g.seen c (by omega) (M9 hcode e0)) rfl rfl (λ_=>rfl) nofun,hse (by omega)]
    rfl
   ·have ha:cN ck c ((a:Int)+1) pl st= .go ((a:Int)+1) pl (Item.mk 0 true (aaK #[])::st):=by simp[cN,e0]
    rw[ha]
    refine go _ _ _ ha ?_
    rw[X0 b e l ck g.steps place g.high argv z f d a g.counts g.seen pl st e0 hc hs s0 s1 (by omega) (p78 f d ((a:Int)+1) none l ck (g.steps+1) place g.high none pl st g.counts g.seen c (by omega)) rfl rfl (λ_=>rfl) nofun,hse (by omega)]
    rfl
   ·obtain⟨a0,a1⟩:=yl hcode (by omega) (by omega) hplc
    have ha:cN ck c ((a:Int)+1) pl st= .go ((a:Int)+1) pl (pl.getD c.a.toNat (cp 0)::st):=by simp[cN,e0]
    rw[ha]
    refine go _ _ _ ha ?_
    rw[X1 b e l ck g.steps place g.high argv z f d a g.counts g.seen pl st e0 hc hs s0 s1 (by omega) (p79 f d ((a:Int)+1) none l ck (g.steps+1) place g.high none pl st g.counts g.seen c (by omega) a0 (by omega)) rfl rfl (λ_=>rfl) nofun,hse (by omega)]
    rfl
   ·obtain⟨a0,a1⟩:=yl hcode (by omega) (by omega) hplc
    obtain⟨x,s,rfl⟩:=de rfl (by rw[(bI hr.1 hr.2 (by omega)).2 (by omega)]at ht;exact ht)
    rw[aaW]at hst
    have ha:cN ck c ((a:Int)+1) pl (x::s)= .go ((a:Int)+1) (pl.set c.a.toNat x) s:=by simp[cN,e0]
    rw[ha]
    refine go _ _ _ ha ?_
    have hsn:iB d place c (x::s) g.seen=if d=1/\place=c.a/\g.seen.length<100 then g.seen++[x]else g.seen:=by unfold iB;simp[e0]
    rw[X2 b e l ck g.steps place g.high argv z f d a g.counts g.seen pl (x::s) e0 hc hs s0 s1 (by omega) (p80 f d ((a:Int)+1) none l ck (g.steps+1) place g.high none pl s g.counts g.seen c x (by omega) a0 (by omega) G.seen) (by rw[abC]) rfl nofun nofun,hsn,gn (λq=>by have:=hh q;simp only[aaW]at this;omega)]
    rfl
   ·obtain⟨x,s,rfl⟩:=de rfl (by rw[(bI hr.1 hr.2 (by omega)).2 (by omega)]at ht;exact ht)
    rw[aaW]at hst
    have ha:cN ck c ((a:Int)+1) pl (x::s)= .go ((a:Int)+1) pl s:=by simp[cN,e0]
    rw[ha]
    refine go _ _ _ ha ?_
    rw[X3 b e l ck g.steps place g.high argv z f d a g.counts g.seen pl (x::s) e0 hc hs s0 s1 (by omega) (p81 f d ((a:Int)+1) none l ck (g.steps+1) place g.high none pl s g.counts g.seen c x (by omega)) rfl rfl (λ_=>rfl) nofun,hse (by omega),gn (λq=>by have:=hh q;simp only[aaW]at this;omega)]
    rfl
   ·obtain⟨o1,o2⟩:=QP hcode e0
    obtain⟨x,y,s,rfl⟩:=rW rfl (by rw[(bI hr.1 hr.2 (by omega)).1 (by omega)]at ht;exact ht)
    rw[aaW,aaW]at hst
    have ha:cN ck c ((a:Int)+1) pl (x::y::s)=im (opS ck c.a c.type0 y x) ((a:Int)+1) pl s:=by simp[cN,e0]
    have hp:=p82 f d ((a:Int)+1) none l ck (g.steps+1) place g.high none pl s g.counts g.seen c y x (by omega) o2 o1
    generalize opS ck c.a c.type0 y x=r at ha hp
    unfold im at ha
    by_cases h0:r.2=0
    ·rw[aep h0]at ha hp
     rw[ha]
     refine go _ _ _ ha ?_
     rw[XB b e l ck g.steps place g.high argv z f d a g.counts g.seen pl (x::y::s) e0 hc hs s0 s1 (by omega) hp rfl rfl (λ_=>rfl) nofun,hse (by omega)]
     rfl
    ·rw[aeo h0]at ha hp
     rw[ha]
     refine stop _ 0 ?_
     rw[XB b e l ck g.steps place g.high argv z f d a g.counts g.seen pl (x::y::s) e0 hc hs s0 s1 (by omega) hp rfl rfl (λ_=>rfl) nofun]
     rfl
   ·have o1:=Ud hcode e0
    obtain⟨x,y,s,rfl⟩:=rW rfl (by rw[(bI hr.1 hr.2 (by omega)).1 (by omega)]at ht;exact ht)
    rw[aaW,aaW]at hst
    have ha:cN ck c ((a:Int)+1) pl (x::y::s)= .go ((a:Int)+1) pl (gf (jL c.a y.n x.n)::s):=by simp[cN,e0]
    rw[ha]
    refine go _ _ _ ha ?_
    rw[X4 b e l ck g.steps place g.high argv z f d a g.counts g.seen pl (x::y::s) e0 hc hs s0 s1 (by omega) (p83 f d ((a:Int)+1) none l ck (g.steps+1) place g.high none pl s g.counts g.seen c y x (by omega) o1) rfl rfl (λ_=>rfl) nofun,hse (by omega)]
    rfl
   ·have o2:=At hcode (by omega)
    obtain⟨x,s,rfl⟩:=de rfl (by rw[(bI hr.1 hr.2 (by omega)).2 (by omega)]at ht;exact ht)
    rw[aaW]at hst
    have ha:cN ck c ((a:Int)+1) pl (x::s)=im (bA ck c.op c.type0 x) ((a:Int)+1) pl s:=GJ (by omega)
    rw[e0]at ha
    have hp:=p84 f d ((a:Int)+1) none l ck (g.steps+1) place g.high none pl s g.counts g.seen c x (by omega) o2
    generalize bA ck 7 c.type0 x=r at ha hp
    unfold im at ha
    by_cases h0:r.2=0
    ·rw[aep h0]at ha hp
     rw[ha]
     refine go _ _ _ ha ?_
     rw[XC b e l ck g.steps place g.high argv z f d a g.counts g.seen pl (x::s) e0 hc hs s0 s1 (by omega) hp rfl rfl (λ_=>rfl) nofun,hse (by omega)]
     rfl
    ·rw[aeo h0]at ha hp
     rw[ha]
     refine stop _ 0 ?_
     rw[XC b e l ck g.steps place g.high argv z f d a g.counts g.seen pl (x::s) e0 hc hs s0 s1 (by omega) hp rfl rfl (λ_=>rfl) nofun]
     rfl
   ·obtain⟨x,s,rfl⟩:=de rfl (by rw[(bI hr.1 hr.2 (by omega)).2 (by omega)]at ht;exact ht)
    rw[aaW]at hst
    have ha:cN ck c ((a:Int)+1) pl (x::s)=im (bA ck c.op c.type0 x) ((a:Int)+1) pl s:=GJ (by omega)
    rw[e0]at ha
    have hal2:bA ck 8 c.type0 x=(gf (x.n==0),0):=rfl
    rw[hal2]at ha
    have ha2:cN ck c ((a:Int)+1) pl (x::s)= .go ((a:Int)+1) pl (gf (x.n==0)::s):=ha
    rw[ha2]
    refine go _ _ _ ha2 ?_
    rw[X5 b e l ck g.steps place g.high argv z f d a g.counts g.seen pl (x::s) e0 hc hs s0 s1 (by omega) (p85 f d ((a:Int)+1) none l ck (g.steps+1) place g.high none pl s g.counts g.seen c x (by omega)) rfl rfl (λ_=>rfl) nofun,hse (by omega)]
    rfl
   ·have o2:=At hcode (by omega)
    obtain⟨x,s,rfl⟩:=de rfl (by rw[(bI hr.1 hr.2 (by omega)).2 (by omega)]at ht;exact ht)
    rw[aaW]at hst
    have ha:cN ck c ((a:Int)+1) pl (x::s)=im (bA ck c.op c.type0 x) ((a:Int)+1) pl s:=GJ (by omega)
    rw[e0]at ha
    have hp:=p86 f d ((a:Int)+1) none l ck (g.steps+1) place g.high none pl s g.counts g.seen c x (by omega) o2
    generalize bA ck 9 c.type0 x=r at ha hp
    unfold im at ha
    by_cases h0:r.2=0
    ·rw[aep h0]at ha hp
     rw[ha]
     refine go _ _ _ ha ?_
     rw[XD b e l ck g.steps place g.high argv z f d a g.counts g.seen pl (x::s) e0 hc hs s0 s1 (by omega) hp rfl rfl (λ_=>rfl) nofun,hse (by omega)]
     rfl
    ·rw[aeo h0]at ha hp
     rw[ha]
     refine stop _ 0 ?_
     rw[XD b e l ck g.steps place g.high argv z f d a g.counts g.seen pl (x::s) e0 hc hs s0 s1 (by omega) hp rfl rfl (λ_=>rfl) nofun]
     rfl
   ·have o2:=At hcode (by omega)
    obtain⟨x,s,rfl⟩:=de rfl (by rw[(bI hr.1 hr.2 (by omega)).2 (by omega)]at ht;exact ht)
    rw[aaW]at hst
    have ha:cN ck c ((a:Int)+1) pl (x::s)=im (bA ck c.op c.type0 x) ((a:Int)+1) pl s:=GJ (by omega)
    rw[e0]at ha
    have hal2:bA ck 10 c.type0 x=(cp (bt c.type0 x.n),0):=rfl
    rw[hal2]at ha
    have ha2:cN ck c ((a:Int)+1) pl (x::s)= .go ((a:Int)+1) pl (cp (bt c.type0 x.n)::s):=ha
    rw[ha2]
    refine go _ _ _ ha2 ?_
    rw[X6 b e l ck g.steps place g.high argv z f d a g.counts g.seen pl (x::s) e0 hc hs s0 s1 (by omega) (p87 f d ((a:Int)+1) none l ck (g.steps+1) place g.high none pl s g.counts g.seen c x (by omega) o2) rfl rfl (λ_=>rfl) nofun,hse (by omega)]
    rfl
   ·obtain⟨x,s,rfl⟩:=de rfl (by rw[(bI hr.1 hr.2 (by omega)).2 (by omega)]at ht;exact ht)
    rw[aaW]at hst
    have ha:cN ck c ((a:Int)+1) pl (x::s)=im (bA ck c.op c.type0 x) ((a:Int)+1) pl s:=GJ (by omega)
    rw[e0]at ha
    have hp:=p88 f d ((a:Int)+1) none l ck (g.steps+1) place g.high none pl s g.counts g.seen c x (by omega)
    generalize bA ck 11 c.type0 x=r at ha hp
    unfold im at ha
    by_cases h0:r.2=0
    ·rw[aep h0]at ha hp
     rw[ha]
     refine go _ _ _ ha ?_
     rw[XE b e l ck g.steps place g.high argv z f d a g.counts g.seen pl (x::s) e0 hc hs s0 s1 (by omega) hp rfl rfl (λ_=>rfl) nofun,hse (by omega)]
     rfl
    ·rw[aeo h0]at ha hp
     rw[ha]
     refine stop _ 0 ?_
     rw[XE b e l ck g.steps place g.high argv z f d a g.counts g.seen pl (x::s) e0 hc hs s0 s1 (by omega) hp rfl rfl (λ_=>rfl) nofun]
     rfl
   ·obtain⟨x,s,rfl⟩:=de rfl (by rw[(bI hr.1 hr.2 (by omega)).2 (by omega)]at ht;exact ht)
    rw[aaW]at hst
    have ha:cN ck c ((a:Int)+1) pl (x::s)=if x.null=true then .go c.a pl s else .go ((a:Int)+1) pl (x::s):=by simp[cN,e0]
    have hp:=p89 f d ((a:Int)+1) none l ck (g.steps+1) place g.high none pl s g.counts g.seen c x (by omega)
    by_cases h0:x.null=true
    ·rw[aep h0]at ha hp
     rw[ha]
     refine go _ _ _ ha ?_
     rw[XF b e l ck g.steps place g.high argv z f d a g.counts g.seen pl (x::s) e0 hc hs s0 s1 (by omega) hp rfl rfl (λ_=>rfl) nofun,hse (by omega),gn (λq=>by have:=hh q;simp only[aaW]at this;omega)]
     rfl
    ·rw[aeo h0]at ha hp
     rw[ha]
     refine go _ _ _ ha ?_
     rw[XF b e l ck g.steps place g.high argv z f d a g.counts g.seen pl (x::s) e0 hc hs s0 s1 (by omega) hp rfl rfl (λ_=>rfl) nofun,hse (by omega),gn hh]
     rfl
   ·obtain⟨x,s,rfl⟩:=de rfl (by rw[(bI hr.1 hr.2 (by omega)).2 (by omega)]at ht;exact ht)
    rw[aaW]at hst
    have ha:cN ck c ((a:Int)+1) pl (x::s)=if x.err=aaK #[]then .go ((a:Int)+1) pl (x::s)else .go c.a pl (x::s):=by simp[cN,e0]
    have hp:=p90 f d ((a:Int)+1) none l ck (g.steps+1) place g.high none pl s g.counts g.seen c x (by omega)
    by_cases h0:x.err=aaK #[]
    ·rw[aep h0]at ha hp
     rw[ha]
     refine go _ _ _ ha ?_
     rw[XG b e l ck g.steps place g.high argv z f d a g.counts g.seen pl (x::s) e0 hc hs s0 s1 (by omega) hp rfl rfl (λ_=>rfl) (λ_=>rfl),hse (by omega),gn hh]
     rfl
    ·rw[aeo h0]at ha hp
     rw[ha]
     refine go _ _ _ ha ?_
     rw[XG b e l ck g.steps place g.high argv z f d a g.counts g.seen pl (x::s) e0 hc hs s0 s1 (by omega) hp rfl rfl (λ_=>rfl) (λ_=>rfl),hse (by omega),gn hh]
     rfl
   ·have ha:cN ck c ((a:Int)+1) pl st= .go c.a pl st:=by simp[cN,e0]
    rw[ha]
    refine go _ _ _ ha ?_
    rw[X7 b e l ck g.steps place g.high argv z f d a g.counts g.seen pl st e0 hc hs s0 s1 (by omega) (p91 f d ((a:Int)+1) none l ck (g.steps+1) place g.high none pl st g.counts g.seen c) rfl rfl (λ_=>rfl) (λ_=>rfl),hse (by omega),gn hh]
    rfl
   ·obtain⟨x,s,rfl⟩:=de rfl (by rw[(bI hr.1 hr.2 (by omega)).2 (by omega)]at ht;exact ht)
    rw[aaW]at hst
    have ha:cN ck c ((a:Int)+1) pl (x::s)= .go (if x.n=0 then c.a else(a:Int)+1) pl s:=by
     by_cases h0:x.n=0<;>simp[cN,e0,h0]
    rw[ha]
    refine go _ _ _ ha ?_
    rw[X8 b e l ck g.steps place g.high argv z f d a g.counts g.seen pl (x::s) e0 hc hs s0 s1 (by omega) (p92 f d ((a:Int)+1) none l ck (g.steps+1) place g.high none pl s g.counts g.seen c x (by omega)) rfl rfl (λ_=>rfl) nofun,hse (by omega),gn (λq=>by have:=hh q;simp only[aaW]at this;omega)]
    rfl
   ·have ha:=(r6 hcode (ck:=ck) (at1:=(a:Int)+1) (pl:=pl) (st:=st)).mpr e0
    rw[ha]
    obtain⟨k,h,n,h1,h2,h3,h4,h5,h6,h7,h8,h9,h10⟩:=pj R A hc e0
    simp only[h1,h3,h4,aaQ]
    by_cases hd:30<d+1
    ·rw[aep hd]
     have q:=p93 R h1 h4 h5 hst f (at1:=(a:Int)+1) hd1 hd2 ck place pl {g with steps:=g.steps+1} (x:=cp 0) (g2:={g with steps:=g.steps+1}) rfl (Js (g:={g with steps:=g.steps+1}) hd)
     refine .inr ⟨by simp[zH],?_⟩
     rw[Up b e l ck g.steps place g.high argv z f d a g.counts g.seen pl st e0 hc hs s0 s1 (by omega) q rfl rfl nofun nofun]
     simp only[zH,G.stop]
     rfl
    ·rw[aeo hd]
     have G1:OkG l {g with steps:=g.steps+1,counts:=qj g.counts k}:=⟨by simp only[];omega,by simp only[];omega,G.kind,G.stop,by simp only[qj,abC];exact G.cnt,G.seen⟩
     have A1:=h10 (by omega)
     have L:=gL R ck place N h (d+1) 0 _ [] _ A1 G1
     have I:=kZ R ck place N h (d+1) 0 _ [] _ A1 G1 (λq=>by omega) (by simp only[];omega) (st.length-n) n ((st.map val).reverse) (val (cp 0))
     rw[aa6]at L I
     generalize hrr:gK l ck place N h (d+1) 0 (cH h (st.take n).reverse) [] {g with steps:=g.steps+1,counts:=qj g.counts k}=r at L I⊢
     have L0:=L.s0
     have L1:=L.s1
     have Lh:=L.high (by omega)
     simp only[]at L0 Lh
     have h40:=p40 h3 (b:=st.length-n) (e:=n) (argv:=(st.map val).reverse) (args:=(st.take n).reverse) (by rw[lR];omega) (Mg st h5).2 (by simp;omega) (ck:=ck) (place:=place) (d:=d+1) (g:={g with steps:=g.steps+1}) (by omega) (by omega) h8 G.kind G.cnt h2 (λq=>by omega) (λq=>by omega) (r:=r) (by
      rw[aeo (λq=>by omega)]
      exact I) L.zero
     have q:=p93 R h1 h4 h5 hst f (at1:=(a:Int)+1) hd1 hd2 ck place pl {g with steps:=g.steps+1} (x:=r.1) (g2:=r.2) (by rw[L.cnt];exact G.cnt.symm) h40
     by_cases hk:r.2.kind=0
     ·rw[aep hk]
      have een:Dv r.2=none:=by unfold Dv;rw[aep hk]
      rw[een]at q
      have G2:OkG l {r.2 with high:=aV d r.2.high (st.length-n+1)}:=⟨by simp only[];omega,L1,hk,L.stop hk,L.cnt,L.seen⟩
      have ih:=kZ R ck place N f d (a+1) pl _ _ (h9 r.1) G2 (λq=>by
       have:(((r.1::st.drop n).length:Nat):Int)=((st.length-n+1:Nat):Int):=by rw[aaW,abp]
       rw[this];exact nw q) (by simp only[];omega) b e argv z
      have e1:(((a+1:Nat):Int))=(a:Int)+1:=rfl
      rw[e1]at ih
      unfold vL at ih⊢
      rw[e1]at ih
      rw[Up b e l ck g.steps place g.high argv z f d a g.counts g.seen pl st e0 hc hs s0 s1 (by omega) q rfl (by rw[L.cnt];exact G.cnt.symm) nofun nofun]
      exact ih
     ·rw[aeo hk]
      have een:Dv r.2=some (bX.mk r.2.kind r.2.stop):=by unfold Dv;rw[aeo hk]
      rw[een]at q
      refine .inr ⟨hk,?_⟩
      rw[Up b e l ck g.steps place g.high argv z f d a g.counts g.seen pl st e0 hc hs s0 s1 (by omega) q rfl (by rw[L.cnt];exact G.cnt.symm) nofun nofun]
      rfl
   ·obtain⟨x,s,rfl⟩:=de rfl (by rw[(bI hr.1 hr.2 (by omega)).2 (by omega)]at ht;exact ht)
    rw[aaW]at hst
    have ha:cN ck c ((a:Int)+1) pl (x::s)= .ret x:=by simp[cN,e0]
    rw[ha]
    refine ret x ((a:Int)+1) pl s ?_
    rw[X9 b e l ck g.steps place g.high argv z f d a g.counts g.seen pl (x::s) e0 hc hs s0 s1 (by omega) (p94 f d ((a:Int)+1) none l ck (g.steps+1) place g.high none pl s g.counts g.seen c x (by omega)) rfl rfl (λ_=>rfl) nofun]
    rfl
   ·have ha:cN ck c ((a:Int)+1) pl st= .go ((a:Int)+1) pl (Item.mk 0 false c.name0::st):=by simp[cN,e0]
    rw[ha]
    refine go _ _ _ ha ?_
    rw[X_ b e l ck g.steps place g.high argv z f d a g.counts g.seen pl st e0 hc hs s0 s1 (by omega) (p95 f d ((a:Int)+1) none l ck (g.steps+1) place g.high none pl st g.counts g.seen c (by omega)) rfl rfl (λ_=>rfl) nofun,hse (by omega)]
    rfl
   ·have ha:cN ck c ((a:Int)+1) pl st=if ck=true then .stop c.a else .ret (cp 0):=by simp[cN,e0]
    have hp:=p96 f d ((a:Int)+1) none l ck (g.steps+1) place g.high none pl st g.counts g.seen c
    by_cases h0:ck=true
    ·rw[aep h0]at ha hp
     rw[ha]
     refine stop _ 0 ?_
     rw[XH b e l ck g.steps place g.high argv z f d a g.counts g.seen pl st e0 hc hs s0 s1 (by omega) hp rfl rfl (λ_=>rfl) (λ_=>rfl)]
     rfl
    ·rw[aeo h0]at ha hp
     rw[ha]
     refine ret _ ((a:Int)+1) pl st ?_
     rw[XH b e l ck g.steps place g.high argv z f d a g.counts g.seen pl st e0 hc hs s0 s1 (by omega) hp rfl rfl (λ_=>rfl) (λ_=>rfl)]
     rfl
end Go.Proofs.YtcghbgmmgcljkaaGreatDoor
end
section
namespace Go.Proofs.YtcghbgmmgcljkaaGreatDoor
open IntKind (i64)
set_option maxRecDepth 20000
set_option maxHeartbeats 8000000
def rt(k:Nat)(l:List aB)(d:Int)(ck:Bool)(at1 steps high place:Int)(i0:Item)(lg:Log)(pl st:List Item)(cnt:List Int)(sn:List Item):=
 (l,(k:Int),d,ck,at1,(0:Int),(0:Int),steps,high,place,i0,lg,pl,st.reverse,cnt,sn,())
theorem bV(x:Item)(s:List Item):(((x::s).reverse.length:Nat):Int)=(s.length:Int)+1:=by simp
theorem dN(x:Item)(s:List Item):(x::s).reverse[s.length]?=some x:=by
 rw[acP,aa5 (by simp)];simp
theorem cG(x:Item)(s:List Item):abY s.length (x::s).reverse=s.reverse:=by
 rw[acP,List.take_left' (by simp)]
theorem zq(x y:Item)(s:List Item):(x::y::s).reverse[s.length]?=some y:=by
 rw[acP,aba (by simp),dN]
theorem nM(x y:Item)(s:List Item):abY s.length (x::y::s).reverse=s.reverse:=by
 rw[acP,aco (by simp),cG]
theorem cZ(x:Item)(s:List Item):s.reverse++[x]=(x::s).reverse:=by simp
theorem zp:((([]:List Item).reverse.length:Nat):Int)=0:=rfl
theorem lS{st:List Item}(h:st.length<=65)(v:Item):st.reverse.length+[v].length<=4294967296:=by simp;omega
structure Rh (l:List aB) (f:aB) (c:aQ) (k a:Nat) (d steps high:Int) (st:List Item) (op:Int):Prop where
 hk:l[k]?=some f
 hc:f.code[a]?=some c
 hs:¬steps=40000
 h0:0<=steps
 h1:steps<=40000
 ha:a<=3000
 hh:d=1->(st.length:Int)<=high
 hst:st.length<=65
 e:c.op=op
section
variable {k:Nat} {l:List aB} {d:Int} {ck:Bool} {a:Nat} {steps high place:Int} {i0:Item} {lg:Log} {pl:List Item} {cnt:List Int} {sn:List Item} {f:aB} {c:aQ}
theorem JK:(∀(_:Rh l f c k a d steps high ([]:List Item) 0) (_:d4 c.type0=true),aA (rt k l d ck (a:Int) steps high place i0 lg pl [] cnt sn)=aA (rt k l d ck ((a:Int)+1) (steps+1) (aV d high (([]:List Item).length+1)) place i0 lg pl (cp (lw c.type0 c.a)::[]) cnt sn))/\
 (∀(_:Rh l f c k a d steps high ([]:List Item) 1) (_:True),aA (rt k l d ck (a:Int) steps high place i0 lg pl [] cnt sn)=aA (rt k l d ck ((a:Int)+1) (steps+1) (aV d high (([]:List Item).length+1)) place i0 lg pl (Item.mk 0 true (aaK #[])::[]) cnt sn))/\
 (∀(_:Rh l f c k a d steps high ([]:List Item) 18) (_:True),aA (rt k l d ck (a:Int) steps high place i0 lg pl [] cnt sn)=aA (rt k l d ck ((a:Int)+1) (steps+1) (aV d high (([]:List Item).length+1)) place i0 lg pl (Item.mk 0 false c.name0::[]) cnt sn))/\
 (∀(_:Rh l f c k a d steps high ([]:List Item) 2) (_:0<=c.a/\c.a<(pl.length:Int)),aA (rt k l d ck (a:Int) steps high place i0 lg pl [] cnt sn)=aA (rt k l d ck ((a:Int)+1) (steps+1) (aV d high (([]:List Item).length+1)) place i0 lg pl (pl.getD c.a.toNat (cp 0)::[]) cnt sn)):=by
 refine⟨?_,?_,?_,?_⟩<;>(
  intro H E
  obtain⟨hk,hc,hs,h0,h1,ha,hh,hst,e⟩:=H
  have w1:i64.wrap ((a:Int)+1)=(a:Int)+1:=w64 (by omega) (by omega)
  have w2:i64.wrap (steps+1)=steps+1:=w64 (by omega) (by omega)
  have hb:(steps==40000)=false:=by simpa using hs
  have ha0:(0:Int)<=(a:Int):=by omega
  have hk0:(0:Int)<=(k:Int):=by omega
  have hle:=λv=>lS hst v
  have wn:i64.wrap ((0:Int) -1)= -1:=by decide
  have p1:¬(0:Int)<= -1:=by decide
  conv=>lhs;rw[aA]
  unfold rt
  by_cases hd:d=1
  ·have hd1:(d==1)=true:=by simpa using hd
   have hm:max high (0:Int)=high:=by have:=hh hd;simp at this⊢;omega
   simp only[hd1,hm,zp,wn,p1,hb,aaL,aem,ael,hk0,ha0,aaQ,hk,hc,aaM,aaJ,w1,w2,e,reduceIte,aeq,aer,and_self,ge_iff_le,dw,aaZ,abv,aaU,abm,bne_self_eq_false,abk,true_and,and_true,abz]
   have hg:0<=c.a/\c.a<(pl.length:Int)->pl[c.a.toNat]?=some (pl.getD c.a.toNat (cp 0)):=λq=>by rw[abL,aaO (by omega)];rfl
   first
    |simp only[k_ _ _ E,aaJ,ael,aem,and_self,hle,cZ,hd1,bV,aaL,bne_self_eq_false,reduceIte]
    |simp only[E.1,E.2,hg E,aaJ,ael,aem,and_self,hle,cZ,hd1,bV,aaL,bne_self_eq_false,reduceIte]
    |simp only[aaJ,ael,aem,and_self,hle,cZ,hd1,bV,aaL,bne_self_eq_false,reduceIte]
   unfold aV
   rw[aep hd]
   try rfl
  ·have hd1:(d==1)=false:=by simpa using hd
   simp only[hd1,zp,wn,p1,hb,aaL,aem,ael,hk0,ha0,aaQ,hk,hc,aaM,aaJ,w1,w2,e,reduceIte,aeq,aer,and_self,ge_iff_le,dw,aaZ,abv,aaU,abm,bne_self_eq_false,abk,true_and,and_true,abz]
   have hg:0<=c.a/\c.a<(pl.length:Int)->pl[c.a.toNat]?=some (pl.getD c.a.toNat (cp 0)):=λq=>by rw[abL,aaO (by omega)];rfl
   first
    |simp only[k_ _ _ E,aaJ,ael,aem,and_self,hle,cZ,hd1,bV,aaL,bne_self_eq_false,reduceIte]
    |simp only[E.1,E.2,hg E,aaJ,ael,aem,and_self,hle,cZ,hd1,bV,aaL,bne_self_eq_false,reduceIte]
    |simp only[aaJ,ael,aem,and_self,hle,cZ,hd1,bV,aaL,bne_self_eq_false,reduceIte]
   unfold aV
   rw[aeo hd]
   try rfl)
theorem Yf(H:Rh l f c k a d steps high ([]:List Item) 0)(E:d4 c.type0=true):aA (rt k l d ck (a:Int) steps high place i0 lg pl [] cnt sn)=aA (rt k l d ck ((a:Int)+1) (steps+1) (aV d high (([]:List Item).length+1)) place i0 lg pl (cp (lw c.type0 c.a)::[]) cnt sn):=JK.1 H E
theorem Yn(H:Rh l f c k a d steps high ([]:List Item) 1)(E:True):aA (rt k l d ck (a:Int) steps high place i0 lg pl [] cnt sn)=aA (rt k l d ck ((a:Int)+1) (steps+1) (aV d high (([]:List Item).length+1)) place i0 lg pl (Item.mk 0 true (aaK #[])::[]) cnt sn):=JK.2.1 H E
theorem UG(H:Rh l f c k a d steps high ([]:List Item) 18)(E:True):aA (rt k l d ck (a:Int) steps high place i0 lg pl [] cnt sn)=aA (rt k l d ck ((a:Int)+1) (steps+1) (aV d high (([]:List Item).length+1)) place i0 lg pl (Item.mk 0 false c.name0::[]) cnt sn):=JK.2.2.1 H E
theorem Yp(H:Rh l f c k a d steps high ([]:List Item) 2)(E:0<=c.a/\c.a<(pl.length:Int)):aA (rt k l d ck (a:Int) steps high place i0 lg pl [] cnt sn)=aA (rt k l d ck ((a:Int)+1) (steps+1) (aV d high (([]:List Item).length+1)) place i0 lg pl (pl.getD c.a.toNat (cp 0)::[]) cnt sn):=JK.2.2.2 H E
theorem JJ:(∀{x:Item} {s:List Item} (_:Rh l f c k a d steps high (x::s) 0) (_:d4 c.type0=true),aA (rt k l d ck (a:Int) steps high place i0 lg pl (x::s) cnt sn)=aA (rt k l d ck ((a:Int)+1) (steps+1) (aV d high ((x::s).length+1)) place i0 lg pl (cp (lw c.type0 c.a)::(x::s)) cnt sn))/\
 (∀{x:Item} {s:List Item} (_:Rh l f c k a d steps high (x::s) 1) (_:True),aA (rt k l d ck (a:Int) steps high place i0 lg pl (x::s) cnt sn)=aA (rt k l d ck ((a:Int)+1) (steps+1) (aV d high ((x::s).length+1)) place i0 lg pl (Item.mk 0 true (aaK #[])::(x::s)) cnt sn))/\
 (∀{x:Item} {s:List Item} (_:Rh l f c k a d steps high (x::s) 18) (_:True),aA (rt k l d ck (a:Int) steps high place i0 lg pl (x::s) cnt sn)=aA (rt k l d ck ((a:Int)+1) (steps+1) (aV d high ((x::s).length+1)) place i0 lg pl (Item.mk 0 false c.name0::(x::s)) cnt sn))/\
 (∀{x:Item} {s:List Item} (_:Rh l f c k a d steps high (x::s) 2) (_:0<=c.a/\c.a<(pl.length:Int)),aA (rt k l d ck (a:Int) steps high place i0 lg pl (x::s) cnt sn)=aA (rt k l d ck ((a:Int)+1) (steps+1) (aV d high ((x::s).length+1)) place i0 lg pl (pl.getD c.a.toNat (cp 0)::(x::s)) cnt sn)):=by
 refine⟨?_,?_,?_,?_⟩<;>(
  intro x s H E
  obtain⟨hk,hc,hs,h0,h1,ha,hh,hst,e⟩:=H
  have w1:i64.wrap ((a:Int)+1)=(a:Int)+1:=w64 (by omega) (by omega)
  have w2:i64.wrap (steps+1)=steps+1:=w64 (by omega) (by omega)
  have hb:(steps==40000)=false:=by simpa using hs
  have ha0:(0:Int)<=(a:Int):=by omega
  have hk0:(0:Int)<=(k:Int):=by omega
  have hst1:s.length<=64:=by rw[aaW]at hst;omega
  have wn:i64.wrap ((s.length:Int)+1-1)=(s.length:Int):=by rw[w64 (by omega) (by omega)];omega
  have p1:(0:Int)<=(s.length:Int):=by omega
  have p2:(s.length:Int)<(s.length:Int)+1:=by omega
  have p3:(s.length:Int)<=(s.length:Int)+1:=by omega
  have p8:s.length<=4294967296:=by omega
  have hst2:s.length<=65:=by omega
  have hle:=λv=>lS hst v
  have p7:s.length<=(x::s).reverse.length:=by simp
  conv=>lhs;rw[aA]
  unfold rt
  by_cases hd:d=1
  ·have hd1:(d==1)=true:=by simpa using hd
   have hm:max high ((s.length:Int)+1)=high:=by have:=hh hd;simp at this⊢;omega
   simp only[hd1,hm,bV,wn,p1,p2,p3,dN,cG,p7,p8,hb,aaL,aem,ael,hk0,ha0,aaQ,hk,hc,aaM,aaJ,w1,w2,e,reduceIte,aeq,aer,and_self,ge_iff_le,dw,aaZ,abv,aaU,abm,bne_self_eq_false,abk,true_and,and_true,abz]
   have hg:0<=c.a/\c.a<(pl.length:Int)->pl[c.a.toNat]?=some (pl.getD c.a.toNat (cp 0)):=λq=>by rw[abL,aaO (by omega)];rfl
   first
    |simp only[k_ _ _ E,aaJ,ael,aem,and_self,hle,cZ,hd1,bV,aaL,bne_self_eq_false,reduceIte]
    |simp only[E.1,E.2,hg E,aaJ,ael,aem,and_self,hle,cZ,hd1,bV,aaL,bne_self_eq_false,reduceIte]
    |simp only[aaJ,ael,aem,and_self,hle,cZ,hd1,bV,aaL,bne_self_eq_false,reduceIte]
   unfold aV
   rw[aep hd]
   try rfl
  ·have hd1:(d==1)=false:=by simpa using hd
   simp only[hd1,bV,wn,p1,p2,p3,dN,cG,p7,p8,hb,aaL,aem,ael,hk0,ha0,aaQ,hk,hc,aaM,aaJ,w1,w2,e,reduceIte,aeq,aer,and_self,ge_iff_le,dw,aaZ,abv,aaU,abm,bne_self_eq_false,abk,true_and,and_true,abz]
   have hg:0<=c.a/\c.a<(pl.length:Int)->pl[c.a.toNat]?=some (pl.getD c.a.toNat (cp 0)):=λq=>by rw[abL,aaO (by omega)];rfl
   first
    |simp only[k_ _ _ E,aaJ,ael,aem,and_self,hle,cZ,hd1,bV,aaL,bne_self_eq_false,reduceIte]
    |simp only[E.1,E.2,hg E,aaJ,ael,aem,and_self,hle,cZ,hd1,bV,aaL,bne_self_eq_false,reduceIte]
    |simp only[aaJ,ael,aem,and_self,hle,cZ,hd1,bV,aaL,bne_self_eq_false,reduceIte]
   unfold aV
   rw[aeo hd]
   try rfl)
theorem Ye{x:Item}{s:List Item}(H:Rh l f c k a d steps high (x::s) 0)(E:d4 c.type0=true):aA (rt k l d ck (a:Int) steps high place i0 lg pl (x::s) cnt sn)=aA (rt k l d ck ((a:Int)+1) (steps+1) (aV d high ((x::s).length+1)) place i0 lg pl (cp (lw c.type0 c.a)::(x::s)) cnt sn):=JJ.1 H E
theorem Ym{x:Item}{s:List Item}(H:Rh l f c k a d steps high (x::s) 1)(E:True):aA (rt k l d ck (a:Int) steps high place i0 lg pl (x::s) cnt sn)=aA (rt k l d ck ((a:Int)+1) (steps+1) (aV d high ((x::s).length+1)) place i0 lg pl (Item.mk 0 true (aaK #[])::(x::s)) cnt sn):=JJ.2.1 H E
theorem UF{x:Item}{s:List Item}(H:Rh l f c k a d steps high (x::s) 18)(E:True):aA (rt k l d ck (a:Int) steps high place i0 lg pl (x::s) cnt sn)=aA (rt k l d ck ((a:Int)+1) (steps+1) (aV d high ((x::s).length+1)) place i0 lg pl (Item.mk 0 false c.name0::(x::s)) cnt sn):=JJ.2.2.1 H E
theorem Yo{x:Item}{s:List Item}(H:Rh l f c k a d steps high (x::s) 2)(E:0<=c.a/\c.a<(pl.length:Int)):aA (rt k l d ck (a:Int) steps high place i0 lg pl (x::s) cnt sn)=aA (rt k l d ck ((a:Int)+1) (steps+1) (aV d high ((x::s).length+1)) place i0 lg pl (pl.getD c.a.toNat (cp 0)::(x::s)) cnt sn):=JJ.2.2.2 H E
theorem L2:(∀(_:Rh l f c k a d steps high ([]:List Item) 14) (_:True),aA (rt k l d ck (a:Int) steps high place i0 lg pl [] cnt sn)=aA (rt k l d ck c.a (steps+1) (aV d high 0) place i0 lg pl [] cnt sn))/\
 (∀(_:Rh l f c k a d steps high ([]:List Item) 19) (_:1<=c.a),aA (rt k l d ck (a:Int) steps high place i0 lg pl [] cnt sn)=if ck=true then some (cp 0,1,c.a,steps+1,high,place,cnt,sn,())else some ((cp 0),0,0,steps+1,high,place,cnt,sn,())):=by
 refine⟨?_,?_⟩<;>(
  intro H E
  obtain⟨hk,hc,hs,h0,h1,ha,hh,hst,e⟩:=H
  have w1:i64.wrap ((a:Int)+1)=(a:Int)+1:=w64 (by omega) (by omega)
  have w2:i64.wrap (steps+1)=steps+1:=w64 (by omega) (by omega)
  have hb:(steps==40000)=false:=by simpa using hs
  have ha0:(0:Int)<=(a:Int):=by omega
  have hk0:(0:Int)<=(k:Int):=by omega
  have hle:=λv=>lS hst v
  have wn:i64.wrap ((0:Int) -1)= -1:=by decide
  have p1:¬(0:Int)<= -1:=by decide
  conv=>lhs;rw[aA]
  unfold rt
  by_cases hd:d=1
  ·have hd1:(d==1)=true:=by simpa using hd
   have hm:max high (0:Int)=high:=by have:=hh hd;simp at this⊢;omega
   simp only[hd1,hm,zp,wn,p1,hb,aaL,aem,ael,hk0,ha0,aaQ,hk,hc,aaM,aaJ,w1,w2,e,reduceIte,aeq,aer,and_self,ge_iff_le,dw,aaZ,abv,aaU,abm,bne_self_eq_false,abk,true_and,and_true,abz]
   have hca:1<=c.a->(c.a !=0)=true:=λq=>by simp;omega
   first
    |(cases ck
      ·simp only[aaJ,bne_self_eq_false,abK,ael,aaL,aem]
       rfl
      ·simp only[aaJ,abh,hca E,ael,aaL,aem]
       rfl)
    |(unfold aV
      rw[aep hd]
      first
       |done
       |rfl
       |rw[show max high ((0:Nat):Int)=high from hm])
  ·have hd1:(d==1)=false:=by simpa using hd
   simp only[hd1,zp,wn,p1,hb,aaL,aem,ael,hk0,ha0,aaQ,hk,hc,aaM,aaJ,w1,w2,e,reduceIte,aeq,aer,and_self,ge_iff_le,dw,aaZ,abv,aaU,abm,bne_self_eq_false,abk,true_and,and_true,abz]
   have hca:1<=c.a->(c.a !=0)=true:=λq=>by simp;omega
   first
    |(cases ck
      ·simp only[aaJ,bne_self_eq_false,abK,ael,aaL,aem]
       rfl
      ·simp only[aaJ,abh,hca E,ael,aaL,aem]
       rfl)
    |(unfold aV
      rw[aeo hd]
      first
       |done
       |rfl
       |skip))
theorem UC(H:Rh l f c k a d steps high ([]:List Item) 14)(E:True):aA (rt k l d ck (a:Int) steps high place i0 lg pl [] cnt sn)=aA (rt k l d ck c.a (steps+1) (aV d high 0) place i0 lg pl [] cnt sn):=L2.1 H E
theorem RA(H:Rh l f c k a d steps high ([]:List Item) 19)(E:1<=c.a):aA (rt k l d ck (a:Int) steps high place i0 lg pl [] cnt sn)=if ck=true then some (cp 0,1,c.a,steps+1,high,place,cnt,sn,())else some ((cp 0),0,0,steps+1,high,place,cnt,sn,()):=L2.2 H E
theorem LZ:(∀{x:Item} {s:List Item} (_:Rh l f c k a d steps high (x::s) 14) (_:True),aA (rt k l d ck (a:Int) steps high place i0 lg pl (x::s) cnt sn)=aA (rt k l d ck c.a (steps+1) (aV d high (s.length+1)) place i0 lg pl (x::s) cnt sn))/\
 (∀{x:Item} {s:List Item} (_:Rh l f c k a d steps high (x::s) 19) (_:1<=c.a),aA (rt k l d ck (a:Int) steps high place i0 lg pl (x::s) cnt sn)=if ck=true then some (cp 0,1,c.a,steps+1,high,place,cnt,sn,())else some ((cp 0),0,0,steps+1,high,place,cnt,sn,())):=by
 refine⟨?_,?_⟩<;>(
  intro x s H E
  obtain⟨hk,hc,hs,h0,h1,ha,hh,hst,e⟩:=H
  have w1:i64.wrap ((a:Int)+1)=(a:Int)+1:=w64 (by omega) (by omega)
  have w2:i64.wrap (steps+1)=steps+1:=w64 (by omega) (by omega)
  have hb:(steps==40000)=false:=by simpa using hs
  have ha0:(0:Int)<=(a:Int):=by omega
  have hk0:(0:Int)<=(k:Int):=by omega
  have hst1:s.length<=64:=by rw[aaW]at hst;omega
  have wn:i64.wrap ((s.length:Int)+1-1)=(s.length:Int):=by rw[w64 (by omega) (by omega)];omega
  have p1:(0:Int)<=(s.length:Int):=by omega
  have p2:(s.length:Int)<(s.length:Int)+1:=by omega
  have p3:(s.length:Int)<=(s.length:Int)+1:=by omega
  have p8:s.length<=4294967296:=by omega
  have hst2:s.length<=65:=by omega
  have hle:=λv=>lS hst v
  have p7:s.length<=(x::s).reverse.length:=by simp
  conv=>lhs;rw[aA]
  unfold rt
  by_cases hd:d=1
  ·have hd1:(d==1)=true:=by simpa using hd
   have hm:max high ((s.length:Int)+1)=high:=by have:=hh hd;simp at this⊢;omega
   simp only[hd1,hm,bV,wn,p1,p2,p3,dN,cG,p7,p8,hb,aaL,aem,ael,hk0,ha0,aaQ,hk,hc,aaM,aaJ,w1,w2,e,reduceIte,aeq,aer,and_self,ge_iff_le,dw,aaZ,abv,aaU,abm,bne_self_eq_false,abk,true_and,and_true,abz]
   have hca:1<=c.a->(c.a !=0)=true:=λq=>by simp;omega
   first
    |(cases ck
      ·simp only[aaJ,bne_self_eq_false,abK,ael,aaL,aem]
       rfl
      ·simp only[aaJ,abh,hca E,ael,aaL,aem]
       rfl)
    |(unfold aV
      rw[aep hd]
      first
       |done
       |rfl
       |rw[show max high (((s.length+1):Nat):Int)=high from hm])
  ·have hd1:(d==1)=false:=by simpa using hd
   simp only[hd1,bV,wn,p1,p2,p3,dN,cG,p7,p8,hb,aaL,aem,ael,hk0,ha0,aaQ,hk,hc,aaM,aaJ,w1,w2,e,reduceIte,aeq,aer,and_self,ge_iff_le,dw,aaZ,abv,aaU,abm,bne_self_eq_false,abk,true_and,and_true,abz]
   have hca:1<=c.a->(c.a !=0)=true:=λq=>by simp;omega
   first
    |(cases ck
      ·simp only[aaJ,bne_self_eq_false,abK,ael,aaL,aem]
       rfl
      ·simp only[aaJ,abh,hca E,ael,aaL,aem]
       rfl)
    |(unfold aV
      rw[aeo hd]
      first
       |done
       |rfl
       |skip))
theorem UB{x:Item}{s:List Item}(H:Rh l f c k a d steps high (x::s) 14)(E:True):aA (rt k l d ck (a:Int) steps high place i0 lg pl (x::s) cnt sn)=aA (rt k l d ck c.a (steps+1) (aV d high (s.length+1)) place i0 lg pl (x::s) cnt sn):=LZ.1 H E
theorem Rz{x:Item}{s:List Item}(H:Rh l f c k a d steps high (x::s) 19)(E:1<=c.a):aA (rt k l d ck (a:Int) steps high place i0 lg pl (x::s) cnt sn)=if ck=true then some (cp 0,1,c.a,steps+1,high,place,cnt,sn,())else some ((cp 0),0,0,steps+1,high,place,cnt,sn,()):=LZ.2 H E
theorem Yr:(∀{x:Item} {s:List Item} (_:Rh l f c k a d steps high (x::s) 4) (_:True),aA (rt k l d ck (a:Int) steps high place i0 lg pl (x::s) cnt sn)=aA (rt k l d ck ((a:Int)+1) (steps+1) (aV d high s.length) place i0 lg pl s cnt sn)):=by
 (
  intro x s H E
  obtain⟨hk,hc,hs,h0,h1,ha,hh,hst,e⟩:=H
  have w1:i64.wrap ((a:Int)+1)=(a:Int)+1:=w64 (by omega) (by omega)
  have w2:i64.wrap (steps+1)=steps+1:=w64 (by omega) (by omega)
  have hb:(steps==40000)=false:=by simpa using hs
  have ha0:(0:Int)<=(a:Int):=by omega
  have hk0:(0:Int)<=(k:Int):=by omega
  have hst1:s.length<=64:=by rw[aaW]at hst;omega
  have wn:i64.wrap ((s.length:Int)+1-1)=(s.length:Int):=by rw[w64 (by omega) (by omega)];omega
  have p1:(0:Int)<=(s.length:Int):=by omega
  have p2:(s.length:Int)<(s.length:Int)+1:=by omega
  have p3:(s.length:Int)<=(s.length:Int)+1:=by omega
  have p8:s.length<=4294967296:=by omega
  have hst2:s.length<=65:=by omega
  have hle:=λv=>lS hst2 v
  have p7:s.length<=(x::s).reverse.length:=by simp
  conv=>lhs;rw[aA]
  unfold rt
  by_cases hd:d=1
  ·have hd1:(d==1)=true:=by simpa using hd
   have hm:max high ((s.length:Int)+1)=high:=by have:=hh hd;simp at this⊢;omega
   simp only[hd1,hm,bV,wn,p1,p2,p3,dN,cG,p7,p8,hb,aaL,aem,ael,hk0,ha0,aaQ,hk,hc,aaM,aaJ,w1,w2,e,reduceIte,aeq,aer,and_self,ge_iff_le,dw,aaZ,abv,aaU,abm,bne_self_eq_false,abk,true_and,and_true,abz]
   simp only[abJ]
   unfold aV
   rw[aep hd]
   try rfl
  ·have hd1:(d==1)=false:=by simpa using hd
   simp only[hd1,bV,wn,p1,p2,p3,dN,cG,p7,p8,hb,aaL,aem,ael,hk0,ha0,aaQ,hk,hc,aaM,aaJ,w1,w2,e,reduceIte,aeq,aer,and_self,ge_iff_le,dw,aaZ,abv,aaU,abm,bne_self_eq_false,abk,true_and,and_true,abz]
   unfold aV
   rw[aeo hd]
   try rfl)
theorem rl4{x:Item}{s:List Item}(H:Rh l f c k a d steps high (x::s) 4)(E:True):aA (rt k l d ck (a:Int) steps high place i0 lg pl (x::s) cnt sn)=aA (rt k l d ck ((a:Int)+1) (steps+1) (aV d high s.length) place i0 lg pl s cnt sn):=Yr H E
theorem UE:(∀{x:Item} {s:List Item} (_:Rh l f c k a d steps high (x::s) 17) (_:True),aA (rt k l d ck (a:Int) steps high place i0 lg pl (x::s) cnt sn)=some (x,0,0,steps+1,high,place,cnt,sn,())):=by
 (
  intro x s H E
  obtain⟨hk,hc,hs,h0,h1,ha,hh,hst,e⟩:=H
  have w1:i64.wrap ((a:Int)+1)=(a:Int)+1:=w64 (by omega) (by omega)
  have w2:i64.wrap (steps+1)=steps+1:=w64 (by omega) (by omega)
  have hb:(steps==40000)=false:=by simpa using hs
  have ha0:(0:Int)<=(a:Int):=by omega
  have hk0:(0:Int)<=(k:Int):=by omega
  have hst1:s.length<=64:=by rw[aaW]at hst;omega
  have wn:i64.wrap ((s.length:Int)+1-1)=(s.length:Int):=by rw[w64 (by omega) (by omega)];omega
  have p1:(0:Int)<=(s.length:Int):=by omega
  have p2:(s.length:Int)<(s.length:Int)+1:=by omega
  have p3:(s.length:Int)<=(s.length:Int)+1:=by omega
  have p8:s.length<=4294967296:=by omega
  have hst2:s.length<=65:=by omega
  have hle:=λv=>lS hst2 v
  have p7:s.length<=(x::s).reverse.length:=by simp
  conv=>lhs;rw[aA]
  unfold rt
  by_cases hd:d=1
  ·have hd1:(d==1)=true:=by simpa using hd
   have hm:max high ((s.length:Int)+1)=high:=by have:=hh hd;simp at this⊢;omega
   simp only[hd1,hm,bV,wn,p1,p2,p3,dN,cG,p7,p8,hb,aaL,aem,ael,hk0,ha0,aaQ,hk,hc,aaM,aaJ,w1,w2,e,reduceIte,aeq,aer,and_self,ge_iff_le,dw,aaZ,abv,aaU,abm,bne_self_eq_false,abk,true_and,and_true,abz]
  ·have hd1:(d==1)=false:=by simpa using hd
   simp only[hd1,bV,wn,p1,p2,p3,dN,cG,p7,p8,hb,aaL,aem,ael,hk0,ha0,aaQ,hk,hc,aaM,aaJ,w1,w2,e,reduceIte,aeq,aer,and_self,ge_iff_le,dw,aaZ,abv,aaU,abm,bne_self_eq_false,abk,true_and,and_true,abz])
theorem Yl{x:Item}{s:List Item}(H:Rh l f c k a d steps high (x::s) 17)(E:True):aA (rt k l d ck (a:Int) steps high place i0 lg pl (x::s) cnt sn)=some (x,0,0,steps+1,high,place,cnt,sn,()):=UE H E
theorem Uz:(∀{x:Item} {s:List Item} (_:Rh l f c k a d steps high (x::s) 12) (_:True),aA (rt k l d ck (a:Int) steps high place i0 lg pl (x::s) cnt sn)=if x.null=true then aA (rt k l d ck c.a (steps+1) (aV d high s.length) place i0 lg pl s cnt sn)else aA (rt k l d ck ((a:Int)+1) (steps+1) (aV d high (s.length+1)) place i0 lg pl (x::s) cnt sn)):=by
 (
  intro x s H E
  obtain⟨hk,hc,hs,h0,h1,ha,hh,hst,e⟩:=H
  have w1:i64.wrap ((a:Int)+1)=(a:Int)+1:=w64 (by omega) (by omega)
  have w2:i64.wrap (steps+1)=steps+1:=w64 (by omega) (by omega)
  have hb:(steps==40000)=false:=by simpa using hs
  have ha0:(0:Int)<=(a:Int):=by omega
  have hk0:(0:Int)<=(k:Int):=by omega
  have hst1:s.length<=64:=by rw[aaW]at hst;omega
  have wn:i64.wrap ((s.length:Int)+1-1)=(s.length:Int):=by rw[w64 (by omega) (by omega)];omega
  have p1:(0:Int)<=(s.length:Int):=by omega
  have p2:(s.length:Int)<(s.length:Int)+1:=by omega
  have p3:(s.length:Int)<=(s.length:Int)+1:=by omega
  have p8:s.length<=4294967296:=by omega
  have hst2:s.length<=65:=by omega
  have hle:=λv=>lS hst2 v
  have p7:s.length<=(x::s).reverse.length:=by simp
  conv=>lhs;rw[aA]
  unfold rt
  by_cases hd:d=1
  ·have hd1:(d==1)=true:=by simpa using hd
   have hm:max high ((s.length:Int)+1)=high:=by have:=hh hd;simp at this⊢;omega
   simp only[hd1,hm,bV,wn,p1,p2,p3,dN,cG,p7,p8,hb,aaL,aem,ael,hk0,ha0,aaQ,hk,hc,aaM,aaJ,w1,w2,e,reduceIte,aeq,aer,and_self,ge_iff_le,dw,aaZ,abv,aaU,abm,bne_self_eq_false,abk,true_and,and_true,abz]
   cases hn:x.null
   ·simp only[aaJ,bne_self_eq_false,beq_self_eq_true,aaL,aem,ael,hd1,bV,hm]
    unfold aV
    rw[aep hd]
    rw[show max high ((s.length+1:Nat):Int)=high from hm]
   ·simp only[aaJ,bne_self_eq_false,beq_self_eq_true,aaL,aem,ael,hd1,abJ]
    unfold aV
    rw[aep hd]
    try rfl
  ·have hd1:(d==1)=false:=by simpa using hd
   simp only[hd1,bV,wn,p1,p2,p3,dN,cG,p7,p8,hb,aaL,aem,ael,hk0,ha0,aaQ,hk,hc,aaM,aaJ,w1,w2,e,reduceIte,aeq,aer,and_self,ge_iff_le,dw,aaZ,abv,aaU,abm,bne_self_eq_false,abk,true_and,and_true,abz]
   cases hn:x.null
   ·simp only[aaJ,bne_self_eq_false,beq_self_eq_true,aaL,aem,ael,hd1,bV]
    unfold aV
    rw[aeo hd]
   ·simp only[aaJ,bne_self_eq_false,beq_self_eq_true,aaL,aem,ael,hd1,abJ]
    unfold aV
    rw[aeo hd]
    try rfl)
theorem Yi{x:Item}{s:List Item}(H:Rh l f c k a d steps high (x::s) 12)(E:True):aA (rt k l d ck (a:Int) steps high place i0 lg pl (x::s) cnt sn)=if x.null=true then aA (rt k l d ck c.a (steps+1) (aV d high s.length) place i0 lg pl s cnt sn)else aA (rt k l d ck ((a:Int)+1) (steps+1) (aV d high (s.length+1)) place i0 lg pl (x::s) cnt sn):=Uz H E
theorem UA:(∀{x:Item} {s:List Item} (_:Rh l f c k a d steps high (x::s) 13) (_:True),aA (rt k l d ck (a:Int) steps high place i0 lg pl (x::s) cnt sn)=if x.err=aaK #[]then aA (rt k l d ck ((a:Int)+1) (steps+1) (aV d high (s.length+1)) place i0 lg pl (x::s) cnt sn)else aA (rt k l d ck c.a (steps+1) (aV d high (s.length+1)) place i0 lg pl (x::s) cnt sn)):=by
 (
  intro x s H E
  obtain⟨hk,hc,hs,h0,h1,ha,hh,hst,e⟩:=H
  have w1:i64.wrap ((a:Int)+1)=(a:Int)+1:=w64 (by omega) (by omega)
  have w2:i64.wrap (steps+1)=steps+1:=w64 (by omega) (by omega)
  have hb:(steps==40000)=false:=by simpa using hs
  have ha0:(0:Int)<=(a:Int):=by omega
  have hk0:(0:Int)<=(k:Int):=by omega
  have hst1:s.length<=64:=by rw[aaW]at hst;omega
  have wn:i64.wrap ((s.length:Int)+1-1)=(s.length:Int):=by rw[w64 (by omega) (by omega)];omega
  have p1:(0:Int)<=(s.length:Int):=by omega
  have p2:(s.length:Int)<(s.length:Int)+1:=by omega
  have p3:(s.length:Int)<=(s.length:Int)+1:=by omega
  have p8:s.length<=4294967296:=by omega
  have hst2:s.length<=65:=by omega
  have hle:=λv=>lS hst2 v
  have p7:s.length<=(x::s).reverse.length:=by simp
  conv=>lhs;rw[aA]
  unfold rt
  by_cases hd:d=1
  ·have hd1:(d==1)=true:=by simpa using hd
   have hm:max high ((s.length:Int)+1)=high:=by have:=hh hd;simp at this⊢;omega
   simp only[hd1,hm,bV,wn,p1,p2,p3,dN,cG,p7,p8,hb,aaL,aem,ael,hk0,ha0,aaQ,hk,hc,aaM,aaJ,w1,w2,e,reduceIte,aeq,aer,and_self,ge_iff_le,dw,aaZ,abv,aaU,abm,bne_self_eq_false,abk,true_and,and_true,abz]
   simp only[eo]
   by_cases hn:x.err=aaK #[]
   ·simp only[aaJ,bne_self_eq_false,beq_self_eq_true,aaL,aem,ael,hd1,hn,aeq,aer,abh,abK,bV,hm]
    unfold aV
    rw[aep hd]
    rw[show max high ((s.length+1:Nat):Int)=high from hm]
   ·simp only[aaJ,bne_self_eq_false,beq_self_eq_true,aaL,aem,ael,hd1,hn,aeq,aer,abh,abK,bV,hm]
    unfold aV
    rw[aep hd]
    rw[show max high ((s.length+1:Nat):Int)=high from hm]
  ·have hd1:(d==1)=false:=by simpa using hd
   simp only[hd1,bV,wn,p1,p2,p3,dN,cG,p7,p8,hb,aaL,aem,ael,hk0,ha0,aaQ,hk,hc,aaM,aaJ,w1,w2,e,reduceIte,aeq,aer,and_self,ge_iff_le,dw,aaZ,abv,aaU,abm,bne_self_eq_false,abk,true_and,and_true,abz]
   simp only[eo]
   by_cases hn:x.err=aaK #[]
   ·simp only[aaJ,bne_self_eq_false,beq_self_eq_true,aaL,aem,ael,hd1,hn,aeq,aer,abh,abK,bV]
    unfold aV
    rw[aeo hd]
   ·simp only[aaJ,bne_self_eq_false,beq_self_eq_true,aaL,aem,ael,hd1,hn,aeq,aer,abh,abK,bV]
    unfold aV
    rw[aeo hd])
theorem Yj{x:Item}{s:List Item}(H:Rh l f c k a d steps high (x::s) 13)(E:True):aA (rt k l d ck (a:Int) steps high place i0 lg pl (x::s) cnt sn)=if x.err=aaK #[]then aA (rt k l d ck ((a:Int)+1) (steps+1) (aV d high (s.length+1)) place i0 lg pl (x::s) cnt sn)else aA (rt k l d ck c.a (steps+1) (aV d high (s.length+1)) place i0 lg pl (x::s) cnt sn):=UA H E
theorem UD:(∀{x:Item} {s:List Item} (_:Rh l f c k a d steps high (x::s) 15) (_:True),aA (rt k l d ck (a:Int) steps high place i0 lg pl (x::s) cnt sn)=if x.n=0 then aA (rt k l d ck c.a (steps+1) (aV d high s.length) place i0 lg pl s cnt sn)else aA (rt k l d ck ((a:Int)+1) (steps+1) (aV d high s.length) place i0 lg pl s cnt sn)):=by
 (
  intro x s H E
  obtain⟨hk,hc,hs,h0,h1,ha,hh,hst,e⟩:=H
  have w1:i64.wrap ((a:Int)+1)=(a:Int)+1:=w64 (by omega) (by omega)
  have w2:i64.wrap (steps+1)=steps+1:=w64 (by omega) (by omega)
  have hb:(steps==40000)=false:=by simpa using hs
  have ha0:(0:Int)<=(a:Int):=by omega
  have hk0:(0:Int)<=(k:Int):=by omega
  have hst1:s.length<=64:=by rw[aaW]at hst;omega
  have wn:i64.wrap ((s.length:Int)+1-1)=(s.length:Int):=by rw[w64 (by omega) (by omega)];omega
  have p1:(0:Int)<=(s.length:Int):=by omega
  have p2:(s.length:Int)<(s.length:Int)+1:=by omega
  have p3:(s.length:Int)<=(s.length:Int)+1:=by omega
  have p8:s.length<=4294967296:=by omega
  have hst2:s.length<=65:=by omega
  have hle:=λv=>lS hst2 v
  have p7:s.length<=(x::s).reverse.length:=by simp
  conv=>lhs;rw[aA]
  unfold rt
  by_cases hd:d=1
  ·have hd1:(d==1)=true:=by simpa using hd
   have hm:max high ((s.length:Int)+1)=high:=by have:=hh hd;simp at this⊢;omega
   simp only[hd1,hm,bV,wn,p1,p2,p3,dN,cG,p7,p8,hb,aaL,aem,ael,hk0,ha0,aaQ,hk,hc,aaM,aaJ,w1,w2,e,reduceIte,aeq,aer,and_self,ge_iff_le,dw,aaZ,abv,aaU,abm,bne_self_eq_false,abk,true_and,and_true,abz]
   by_cases hn:x.n=0
   ·have hn1:(x.n==0)=true:=by simpa using hn
    simp only[aaJ,bne_self_eq_false,beq_self_eq_true,aaL,aem,ael,hd1,hn,hn1,abJ]
    unfold aV
    rw[aep hd]
    try rfl
   ·have hn1:(x.n==0)=false:=by simpa using hn
    simp only[aaJ,bne_self_eq_false,beq_self_eq_true,aaL,aem,ael,hd1,hn,hn1,abJ]
    unfold aV
    rw[aep hd]
    try rfl
  ·have hd1:(d==1)=false:=by simpa using hd
   simp only[hd1,bV,wn,p1,p2,p3,dN,cG,p7,p8,hb,aaL,aem,ael,hk0,ha0,aaQ,hk,hc,aaM,aaJ,w1,w2,e,reduceIte,aeq,aer,and_self,ge_iff_le,dw,aaZ,abv,aaU,abm,bne_self_eq_false,abk,true_and,and_true,abz]
   by_cases hn:x.n=0
   ·have hn1:(x.n==0)=true:=by simpa using hn
    simp only[aaJ,bne_self_eq_false,beq_self_eq_true,aaL,aem,ael,hd1,hn,hn1,abJ]
    unfold aV
    rw[aeo hd]
    try rfl
   ·have hn1:(x.n==0)=false:=by simpa using hn
    simp only[aaJ,bne_self_eq_false,beq_self_eq_true,aaL,aem,ael,hd1,hn,hn1,abJ]
    unfold aV
    rw[aeo hd]
    try rfl)
theorem Yk{x:Item}{s:List Item}(H:Rh l f c k a d steps high (x::s) 15)(E:True):aA (rt k l d ck (a:Int) steps high place i0 lg pl (x::s) cnt sn)=if x.n=0 then aA (rt k l d ck c.a (steps+1) (aV d high s.length) place i0 lg pl s cnt sn)else aA (rt k l d ck ((a:Int)+1) (steps+1) (aV d high s.length) place i0 lg pl s cnt sn):=UD H E
theorem Ys:(∀{x y:Item} {s:List Item} (_:Rh l f c k a d steps high (x::y::s) 5) (_:cL c.type0=true),aA (rt k l d ck (a:Int) steps high place i0 lg pl (x::y::s) cnt sn)=if(opS ck c.a c.type0 y x).2=0 then aA (rt k l d ck ((a:Int)+1) (steps+1) (aV d high (s.length+1)) place i0 lg pl ((opS ck c.a c.type0 y x).1::s) cnt sn)else some (cp 0,1,(opS ck c.a c.type0 y x).2,steps+1,high,place,cnt,sn,())):=by
 (
  intro x y s H E
  obtain⟨hk,hc,hs,h0,h1,ha,hh,hst,e⟩:=H
  have w1:i64.wrap ((a:Int)+1)=(a:Int)+1:=w64 (by omega) (by omega)
  have w2:i64.wrap (steps+1)=steps+1:=w64 (by omega) (by omega)
  have hb:(steps==40000)=false:=by simpa using hs
  have ha0:(0:Int)<=(a:Int):=by omega
  have hk0:(0:Int)<=(k:Int):=by omega
  have hst1:(y::s).length<=64:=by rw[aaW]at hst;omega
  have wn:i64.wrap (((y::s).length:Int)+1-1)=((y::s).length:Int):=by rw[w64 (by omega) (by omega)];omega
  have p1:(0:Int)<=((y::s).length:Int):=by omega
  have p2:((y::s).length:Int)<((y::s).length:Int)+1:=by omega
  have p3:((y::s).length:Int)<=((y::s).length:Int)+1:=by omega
  have p8:s.length<=4294967296:=by rw[aaW]at hst1;omega
  have hst2:s.length<=65:=by rw[aaW]at hst1;omega
  have hle:=λv=>lS hst2 v
  have hyl:(((y::s).length:Nat):Int)=(s.length:Int)+1:=rfl
  have wn2:i64.wrap (((y::s).length:Int) -1)=(s.length:Int):=by rw[hyl,w64 (by omega) (by omega)];omega
  have p4:(0:Int)<=(s.length:Int):=by omega
  have p5:(s.length:Int)<(((y::s).length:Nat):Int)+1:=by omega
  have p6:(s.length:Int)<=(((y::s).length:Nat):Int)+1:=by omega
  have p7:s.length<=(x::y::s).reverse.length:=by rw[abJ,aaW,aaW];omega
  conv=>lhs;rw[aA]
  unfold rt
  by_cases hd:d=1
  ·have hd1:(d==1)=true:=by simpa using hd
   have hm:max high (((y::s).length:Int)+1)=high:=by have:=hh hd;simp at this⊢;omega
   simp only[hd1,hm,bV,wn,p1,p2,p3,dN,cG,p7,p8,wn2,p4,p5,p6,zq,nM,hb,aaL,aem,ael,hk0,ha0,aaQ,hk,hc,aaM,aaJ,w1,w2,e,reduceIte,aeq,aer,and_self,ge_iff_le,dw,aaZ,abv,aaU,abm,bne_self_eq_false,abk,true_and,and_true,abz]
   simp only[ri ck _ _ _ _ E,hle,aaJ,ael]
   by_cases hz:(opS ck c.a c.type0 y x).2=0
   ·have hz1:((opS ck c.a c.type0 y x).2 !=0)=false:=by simpa using hz
    simp only[aaJ,bne_self_eq_false,beq_self_eq_true,aaL,aem,ael,hd1,hz1,hz,cZ,bV]
    unfold aV
    rw[aep hd]
    try rfl
   ·have hz1:((opS ck c.a c.type0 y x).2 !=0)=true:=by simpa using hz
    simp only[hz1,hz,ael,aem]
    rfl
  ·have hd1:(d==1)=false:=by simpa using hd
   simp only[hd1,bV,wn,p1,p2,p3,dN,cG,p7,p8,wn2,p4,p5,p6,zq,nM,hb,aaL,aem,ael,hk0,ha0,aaQ,hk,hc,aaM,aaJ,w1,w2,e,reduceIte,aeq,aer,and_self,ge_iff_le,dw,aaZ,abv,aaU,abm,bne_self_eq_false,abk,true_and,and_true,abz]
   simp only[ri ck _ _ _ _ E,hle,aaJ,ael]
   by_cases hz:(opS ck c.a c.type0 y x).2=0
   ·have hz1:((opS ck c.a c.type0 y x).2 !=0)=false:=by simpa using hz
    simp only[aaJ,bne_self_eq_false,beq_self_eq_true,aaL,aem,ael,hd1,hz1,hz,cZ,bV]
    unfold aV
    rw[aeo hd]
    try rfl
   ·have hz1:((opS ck c.a c.type0 y x).2 !=0)=true:=by simpa using hz
    simp only[hz1,hz,ael,aem]
    rfl)
theorem rl5{x y:Item}{s:List Item}(H:Rh l f c k a d steps high (x::y::s) 5)(E:cL c.type0=true):aA (rt k l d ck (a:Int) steps high place i0 lg pl (x::y::s) cnt sn)=if(opS ck c.a c.type0 y x).2=0 then aA (rt k l d ck ((a:Int)+1) (steps+1) (aV d high (s.length+1)) place i0 lg pl ((opS ck c.a c.type0 y x).1::s) cnt sn)else some (cp 0,1,(opS ck c.a c.type0 y x).2,steps+1,high,place,cnt,sn,()):=Ys H E
theorem Yt:(∀{x y:Item} {s:List Item} (_:Rh l f c k a d steps high (x::y::s) 6) (_:True),aA (rt k l d ck (a:Int) steps high place i0 lg pl (x::y::s) cnt sn)=aA (rt k l d ck ((a:Int)+1) (steps+1) (aV d high (s.length+1)) place i0 lg pl (gf (jL c.a y.n x.n)::s) cnt sn)):=by
 (
  intro x y s H E
  obtain⟨hk,hc,hs,h0,h1,ha,hh,hst,e⟩:=H
  have w1:i64.wrap ((a:Int)+1)=(a:Int)+1:=w64 (by omega) (by omega)
  have w2:i64.wrap (steps+1)=steps+1:=w64 (by omega) (by omega)
  have hb:(steps==40000)=false:=by simpa using hs
  have ha0:(0:Int)<=(a:Int):=by omega
  have hk0:(0:Int)<=(k:Int):=by omega
  have hst1:(y::s).length<=64:=by rw[aaW]at hst;omega
  have wn:i64.wrap (((y::s).length:Int)+1-1)=((y::s).length:Int):=by rw[w64 (by omega) (by omega)];omega
  have p1:(0:Int)<=((y::s).length:Int):=by omega
  have p2:((y::s).length:Int)<((y::s).length:Int)+1:=by omega
  have p3:((y::s).length:Int)<=((y::s).length:Int)+1:=by omega
  have p8:s.length<=4294967296:=by rw[aaW]at hst1;omega
  have hst2:s.length<=65:=by rw[aaW]at hst1;omega
  have hle:=λv=>lS hst2 v
  have hyl:(((y::s).length:Nat):Int)=(s.length:Int)+1:=rfl
  have wn2:i64.wrap (((y::s).length:Int) -1)=(s.length:Int):=by rw[hyl,w64 (by omega) (by omega)];omega
  have p4:(0:Int)<=(s.length:Int):=by omega
  have p5:(s.length:Int)<(((y::s).length:Nat):Int)+1:=by omega
  have p6:(s.length:Int)<=(((y::s).length:Nat):Int)+1:=by omega
  have p7:s.length<=(x::y::s).reverse.length:=by rw[abJ,aaW,aaW];omega
  conv=>lhs;rw[aA]
  unfold rt
  by_cases hd:d=1
  ·have hd1:(d==1)=true:=by simpa using hd
   have hm:max high (((y::s).length:Int)+1)=high:=by have:=hh hd;simp at this⊢;omega
   simp only[hd1,hm,bV,wn,p1,p2,p3,dN,cG,p7,p8,wn2,p4,p5,p6,zq,nM,hb,aaL,aem,ael,hk0,ha0,aaQ,hk,hc,aaM,aaJ,w1,w2,e,reduceIte,aeq,aer,and_self,ge_iff_le,dw,aaZ,abv,aaU,abm,bne_self_eq_false,abk,true_and,and_true,abz]
   simp only[oC,aaJ,ael,aem,and_self,hle,cZ,hd1,bV,aaL,bne_self_eq_false,reduceIte]
   unfold aV
   rw[aep hd]
   try rfl
  ·have hd1:(d==1)=false:=by simpa using hd
   simp only[hd1,bV,wn,p1,p2,p3,dN,cG,p7,p8,wn2,p4,p5,p6,zq,nM,hb,aaL,aem,ael,hk0,ha0,aaQ,hk,hc,aaM,aaJ,w1,w2,e,reduceIte,aeq,aer,and_self,ge_iff_le,dw,aaZ,abv,aaU,abm,bne_self_eq_false,abk,true_and,and_true,abz]
   simp only[oC,aaJ,ael,aem,and_self,hle,cZ,hd1,bV,aaL,bne_self_eq_false,reduceIte]
   unfold aV
   rw[aeo hd]
   try rfl)
theorem rl6{x y:Item}{s:List Item}(H:Rh l f c k a d steps high (x::y::s) 6)(E:True):aA (rt k l d ck (a:Int) steps high place i0 lg pl (x::y::s) cnt sn)=aA (rt k l d ck ((a:Int)+1) (steps+1) (aV d high (s.length+1)) place i0 lg pl (gf (jL c.a y.n x.n)::s) cnt sn):=Yt H E
theorem RB:(∀{x:Item} {s:List Item} (_:Rh l f c k a d steps high (x::s) 7) (_:cL c.type0=true),aA (rt k l d ck (a:Int) steps high place i0 lg pl (x::s) cnt sn)=if(bA ck 7 c.type0 x).2=0 then aA (rt k l d ck ((a:Int)+1) (steps+1) (aV d high (s.length+1)) place i0 lg pl ((bA ck 7 c.type0 x).1::s) cnt sn)else some (cp 0,1,(bA ck 7 c.type0 x).2,steps+1,high,place,cnt,sn,()))/\
 (∀{x:Item} {s:List Item} (_:Rh l f c k a d steps high (x::s) 8) (_:True),aA (rt k l d ck (a:Int) steps high place i0 lg pl (x::s) cnt sn)=if(bA ck 8 c.type0 x).2=0 then aA (rt k l d ck ((a:Int)+1) (steps+1) (aV d high (s.length+1)) place i0 lg pl ((bA ck 8 c.type0 x).1::s) cnt sn)else some (cp 0,1,(bA ck 8 c.type0 x).2,steps+1,high,place,cnt,sn,()))/\
 (∀{x:Item} {s:List Item} (_:Rh l f c k a d steps high (x::s) 9) (_:cL c.type0=true),aA (rt k l d ck (a:Int) steps high place i0 lg pl (x::s) cnt sn)=if(bA ck 9 c.type0 x).2=0 then aA (rt k l d ck ((a:Int)+1) (steps+1) (aV d high (s.length+1)) place i0 lg pl ((bA ck 9 c.type0 x).1::s) cnt sn)else some (cp 0,1,(bA ck 9 c.type0 x).2,steps+1,high,place,cnt,sn,()))/\
 (∀{x:Item} {s:List Item} (_:Rh l f c k a d steps high (x::s) 10) (_:cL c.type0=true),aA (rt k l d ck (a:Int) steps high place i0 lg pl (x::s) cnt sn)=if(bA ck 10 c.type0 x).2=0 then aA (rt k l d ck ((a:Int)+1) (steps+1) (aV d high (s.length+1)) place i0 lg pl ((bA ck 10 c.type0 x).1::s) cnt sn)else some (cp 0,1,(bA ck 10 c.type0 x).2,steps+1,high,place,cnt,sn,()))/\
 (∀{x:Item} {s:List Item} (_:Rh l f c k a d steps high (x::s) 11) (_:True),aA (rt k l d ck (a:Int) steps high place i0 lg pl (x::s) cnt sn)=if(bA ck 11 c.type0 x).2=0 then aA (rt k l d ck ((a:Int)+1) (steps+1) (aV d high (s.length+1)) place i0 lg pl ((bA ck 11 c.type0 x).1::s) cnt sn)else some (cp 0,1,(bA ck 11 c.type0 x).2,steps+1,high,place,cnt,sn,())):=by
 refine⟨?_,?_,?_,?_,?_⟩<;>(
  intro x s H E
  obtain⟨hk,hc,hs,h0,h1,ha,hh,hst,e⟩:=H
  have w1:i64.wrap ((a:Int)+1)=(a:Int)+1:=w64 (by omega) (by omega)
  have w2:i64.wrap (steps+1)=steps+1:=w64 (by omega) (by omega)
  have hb:(steps==40000)=false:=by simpa using hs
  have ha0:(0:Int)<=(a:Int):=by omega
  have hk0:(0:Int)<=(k:Int):=by omega
  have hst1:s.length<=64:=by rw[aaW]at hst;omega
  have wn:i64.wrap ((s.length:Int)+1-1)=(s.length:Int):=by rw[w64 (by omega) (by omega)];omega
  have p1:(0:Int)<=(s.length:Int):=by omega
  have p2:(s.length:Int)<(s.length:Int)+1:=by omega
  have p3:(s.length:Int)<=(s.length:Int)+1:=by omega
  have p8:s.length<=4294967296:=by omega
  have hst2:s.length<=65:=by omega
  have hle:=λv=>lS hst2 v
  have p7:s.length<=(x::s).reverse.length:=by simp
  conv=>lhs;rw[aA]
  unfold rt
  by_cases hd:d=1
  ·have hd1:(d==1)=true:=by simpa using hd
   have hm:max high ((s.length:Int)+1)=high:=by have:=hh hd;simp at this⊢;omega
   simp only[hd1,hm,bV,wn,p1,p2,p3,dN,cG,p7,p8,hb,aaL,aem,ael,hk0,ha0,aaQ,hk,hc,aaM,aaJ,w1,w2,e,reduceIte,aeq,aer,and_self,ge_iff_le,dw,aaZ,abv,aaU,abm,bne_self_eq_false,abk,true_and,and_true,abz]
   have R:=ye ck c.op c.type0 x (by omega) (λq=>by first|exact E|omega)
   rw[e]at R
   simp only[R,hle,aaJ,ael]
   rw[<-e]
   generalize bA ck c.op c.type0 x=r
   by_cases hz:r.2=0
   ·have hz1:(r.2 !=0)=false:=by simpa using hz
    simp only[aaJ,bne_self_eq_false,beq_self_eq_true,aaL,aem,ael,hd1,hz1,hz,cZ,bV]
    unfold aV
    rw[aep hd]
    try rfl
   ·have hz1:(r.2 !=0)=true:=by simpa using hz
    simp only[hz1,hz,ael,aem]
    rfl
  ·have hd1:(d==1)=false:=by simpa using hd
   simp only[hd1,bV,wn,p1,p2,p3,dN,cG,p7,p8,hb,aaL,aem,ael,hk0,ha0,aaQ,hk,hc,aaM,aaJ,w1,w2,e,reduceIte,aeq,aer,and_self,ge_iff_le,dw,aaZ,abv,aaU,abm,bne_self_eq_false,abk,true_and,and_true,abz]
   have R:=ye ck c.op c.type0 x (by omega) (λq=>by first|exact E|omega)
   rw[e]at R
   simp only[R,hle,aaJ,ael]
   rw[<-e]
   generalize bA ck c.op c.type0 x=r
   by_cases hz:r.2=0
   ·have hz1:(r.2 !=0)=false:=by simpa using hz
    simp only[aaJ,bne_self_eq_false,beq_self_eq_true,aaL,aem,ael,hd1,hz1,hz,cZ,bV]
    unfold aV
    rw[aeo hd]
    try rfl
   ·have hz1:(r.2 !=0)=true:=by simpa using hz
    simp only[hz1,hz,ael,aem]
    rfl)
theorem rl7{x:Item}{s:List Item}(H:Rh l f c k a d steps high (x::s) 7)(E:cL c.type0=true):aA (rt k l d ck (a:Int) steps high place i0 lg pl (x::s) cnt sn)=if(bA ck 7 c.type0 x).2=0 then aA (rt k l d ck ((a:Int)+1) (steps+1) (aV d high (s.length+1)) place i0 lg pl ((bA ck 7 c.type0 x).1::s) cnt sn)else some (cp 0,1,(bA ck 7 c.type0 x).2,steps+1,high,place,cnt,sn,()):=RB.1 H E
theorem rl8{x:Item}{s:List Item}(H:Rh l f c k a d steps high (x::s) 8)(E:True):aA (rt k l d ck (a:Int) steps high place i0 lg pl (x::s) cnt sn)=if(bA ck 8 c.type0 x).2=0 then aA (rt k l d ck ((a:Int)+1) (steps+1) (aV d high (s.length+1)) place i0 lg pl ((bA ck 8 c.type0 x).1::s) cnt sn)else some (cp 0,1,(bA ck 8 c.type0 x).2,steps+1,high,place,cnt,sn,()):=RB.2.1 H E
theorem rl9{x:Item}{s:List Item}(H:Rh l f c k a d steps high (x::s) 9)(E:cL c.type0=true):aA (rt k l d ck (a:Int) steps high place i0 lg pl (x::s) cnt sn)=if(bA ck 9 c.type0 x).2=0 then aA (rt k l d ck ((a:Int)+1) (steps+1) (aV d high (s.length+1)) place i0 lg pl ((bA ck 9 c.type0 x).1::s) cnt sn)else some (cp 0,1,(bA ck 9 c.type0 x).2,steps+1,high,place,cnt,sn,()):=RB.2.2.1 H E
theorem Yg{x:Item}{s:List Item}(H:Rh l f c k a d steps high (x::s) 10)(E:cL c.type0=true):aA (rt k l d ck (a:Int) steps high place i0 lg pl (x::s) cnt sn)=if(bA ck 10 c.type0 x).2=0 then aA (rt k l d ck ((a:Int)+1) (steps+1) (aV d high (s.length+1)) place i0 lg pl ((bA ck 10 c.type0 x).1::s) cnt sn)else some (cp 0,1,(bA ck 10 c.type0 x).2,steps+1,high,place,cnt,sn,()):=RB.2.2.2.1 H E
theorem Yh{x:Item}{s:List Item}(H:Rh l f c k a d steps high (x::s) 11)(E:True):aA (rt k l d ck (a:Int) steps high place i0 lg pl (x::s) cnt sn)=if(bA ck 11 c.type0 x).2=0 then aA (rt k l d ck ((a:Int)+1) (steps+1) (aV d high (s.length+1)) place i0 lg pl ((bA ck 11 c.type0 x).1::s) cnt sn)else some (cp 0,1,(bA ck 11 c.type0 x).2,steps+1,high,place,cnt,sn,()):=RB.2.2.2.2 H E
theorem Yq:(∀{x:Item} {s:List Item} (_:Rh l f c k a d steps high (x::s) 3) (_:0<=c.a/\c.a<(pl.length:Int)/\sn.length<=100),aA (rt k l d ck (a:Int) steps high place i0 lg pl (x::s) cnt sn)=aA (rt k l d ck ((a:Int)+1) (steps+1) (aV d high s.length) place i0 lg (pl.set c.a.toNat x) s cnt (iB d place c (x::s) sn))):=by
 (
  intro x s H E
  obtain⟨hk,hc,hs,h0,h1,ha,hh,hst,e⟩:=H
  have w1:i64.wrap ((a:Int)+1)=(a:Int)+1:=w64 (by omega) (by omega)
  have w2:i64.wrap (steps+1)=steps+1:=w64 (by omega) (by omega)
  have hb:(steps==40000)=false:=by simpa using hs
  have ha0:(0:Int)<=(a:Int):=by omega
  have hk0:(0:Int)<=(k:Int):=by omega
  have hst1:s.length<=64:=by rw[aaW]at hst;omega
  have wn:i64.wrap ((s.length:Int)+1-1)=(s.length:Int):=by rw[w64 (by omega) (by omega)];omega
  have p1:(0:Int)<=(s.length:Int):=by omega
  have p2:(s.length:Int)<(s.length:Int)+1:=by omega
  have p3:(s.length:Int)<=(s.length:Int)+1:=by omega
  have p8:s.length<=4294967296:=by omega
  have hst2:s.length<=65:=by omega
  have hle:=λv=>lS hst2 v
  have p7:s.length<=(x::s).reverse.length:=by simp
  conv=>lhs;rw[aA]
  unfold rt
  by_cases hd:d=1
  ·have hd1:(d==1)=true:=by simpa using hd
   have hm:max high ((s.length:Int)+1)=high:=by have:=hh hd;simp at this⊢;omega
   simp only[hd1,hm,bV,wn,p1,p2,p3,dN,cG,p7,p8,hb,aaL,aem,ael,hk0,ha0,aaQ,hk,hc,aaM,aaJ,w1,w2,e,reduceIte,aeq,aer,and_self,ge_iff_le,dw,aaZ,abv,aaU,abm,bne_self_eq_false,abk,true_and,and_true,abz]
   obtain⟨b0,b1,hsn⟩:=E
   have hg:pl[c.a.toNat]?=some (pl.getD c.a.toNat (cp 0)):=by rw[abL,aaO (by omega)];rfl
   simp only[b0,b1,hg,hd1,and_self,ael,aaJ,aaL,aem,p1,p3,cG,bne_self_eq_false]
   have ie:Item.mk x.n x.null x.err=x:=rfl
   by_cases hp:place=c.a
   ·have hp1:(place==c.a)=true:=by simpa using hp
    by_cases hn:sn.length<100
    ·have hn1:(sn.length:Int)<100:=by omega
     have hn2:sn.length+[x].length<=4294967296:=by simp;omega
     simp only[aaJ,bne_self_eq_false,beq_self_eq_true,aaL,aem,ael,hd1,hp1,hn1,aeq,hn2,ie,abJ]
     unfold iB aV
     rw[aep hd,aep ⟨e,hd,hp,hn⟩]
     rfl
    ·have hn1:¬(sn.length:Int)<100:=by omega
     simp only[aaJ,bne_self_eq_false,beq_self_eq_true,aaL,aem,ael,hd1,hp1,hn1,aer,ie,abJ]
     unfold iB aV
     rw[aep hd,aeo (λq=>hn q.2.2.2)]
   ·have hp1:(place==c.a)=false:=by simpa using hp
    simp only[aaJ,bne_self_eq_false,beq_self_eq_true,aaL,aem,ael,hd1,hp1,ie,abJ]
    unfold iB aV
    rw[aep hd,aeo (λq=>hp q.2.2.1)]
  ·have hd1:(d==1)=false:=by simpa using hd
   simp only[hd1,bV,wn,p1,p2,p3,dN,cG,p7,p8,hb,aaL,aem,ael,hk0,ha0,aaQ,hk,hc,aaM,aaJ,w1,w2,e,reduceIte,aeq,aer,and_self,ge_iff_le,dw,aaZ,abv,aaU,abm,bne_self_eq_false,abk,true_and,and_true,abz]
   obtain⟨b0,b1,hsn⟩:=E
   have hg:pl[c.a.toNat]?=some (pl.getD c.a.toNat (cp 0)):=by rw[abL,aaO (by omega)];rfl
   simp only[b0,b1,hg,hd1,and_self,ael,aaJ,aaL,aem,p1,p3,cG,bne_self_eq_false]
   unfold iB aV
   rw[aeo hd,aeo (λq=>hd q.2.1)])
theorem rl3{x:Item}{s:List Item}(H:Rh l f c k a d steps high (x::s) 3)(E:0<=c.a/\c.a<(pl.length:Int)/\sn.length<=100):aA (rt k l d ck (a:Int) steps high place i0 lg pl (x::s) cnt sn)=aA (rt k l d ck ((a:Int)+1) (steps+1) (aV d high s.length) place i0 lg (pl.set c.a.toNat x) s cnt (iB d place c (x::s) sn)):=Yq H E
end
end Go.Proofs.YtcghbgmmgcljkaaGreatDoor
end
section
namespace Go.Proofs.YtcghbgmmgcljkaaGreatDoor
open IntKind (i64)
set_option maxRecDepth 20000
set_option maxHeartbeats 4000000
def ro(place:Int)(r:Item×Lg):=(r.1,r.2.kind,r.2.stop,r.2.steps,r.2.high,place,r.2.counts,r.2.seen,())
theorem FI(k:Nat)(l:List aB)(d:Int)(ck:Bool)(at1 high place:Int)(i0:Item)(lg:Log)(pl st:List Item)(cnt:List Int)(sn:List Item):
 aA (rt k l d ck at1 40000 high place i0 lg pl st cnt sn)=some (cp 0,2,0,40000,high,place,cnt,sn,()):=by
 rw[aA]
 unfold rt
 simp only[beq_self_eq_true,ael]
 rfl
theorem qM(l:List aB)(k:Int)(args:List Item)(d:Int)(ck:Bool)(u1 u2 u3 u4 u5:Int)(i0:Item)(lg:Log)(cnt:List Int)(sn:List Item):∀(j i:Nat) (pl:List Item),i+j=args.length->args.length<=pl.length->args.length<=4294967296->
 bM (l,k,args,d,ck,(i:Int),u1,u2,u3,u4,u5,i0,lg,args.take i++pl.drop i,cnt,sn,())=some (l,k,d,ck,u1,u2,u3,u4,u5,i0,lg,args++pl.drop args.length,cnt,sn,())
 |0,i,pl,h,hp,h4=>by
  have hi:i=args.length:=by omega
  subst hi
  rw[bM]
  have:¬(args.length:Int)<(args.length:Int):=by omega
  simp[this]
 |j+1,i,pl,h,hp,h4=>by
  have hlt:i<args.length:=by omega
  have h1:(i:Int)<(args.length:Int):=by omega
  have h2:(0:Int)<=(i:Int):=by omega
  have hl:(args.take i++pl.drop i).length=pl.length:=by rw[abd,abx,abp];omega
  have h3:(i:Int)<((args.take i++pl.drop i).length:Int):=by rw[hl];omega
  have w:i64.wrap ((i:Int)+1)=((i+1:Nat):Int):=by rw[w64 (by omega) (by omega)];omega
  have hx:=aaO hlt
  obtain⟨y,hy⟩:∃y,(args.take i++pl.drop i)[i]?=some y:=⟨_,aaO (by omega)⟩
  have e:(args.take i++pl.drop i).set i args[i]=args.take (i+1)++pl.drop (i+1):=by
   rw[adm _ _ (by rw[abx];omega),abx,show i-min i args.length=0 by omega,List.take_succ_eq_append_getElem hlt,abW]
   congr 1
   rw[acA (show i<pl.length by omega)]
   rfl
  have ih:=qM l k args d ck u1 u2 u3 u4 u5 i0 lg cnt sn j (i+1) pl (by omega) hp h4
  rw[bM]
  simp only[h1,h2,h3,aeq,ael,and_self,aaQ,hx,hy,w,aaM,aaJ]
  rw[e]
  exact ih
theorem r44{l:List aB}{k:Nat}{h:aB}(hk:l[k]?=some h){args:List Item}{ck:Bool}{place d:Int}{g:Lg}(hd:¬30<d)(hp0:(args.length:Int)<=h.places)(hp1:h.places<=200)(hg:g.kind=0)(hst0:g.stop=0)(hc:g.counts.length=l.length)(hkl:k<l.length)(hll:l.length<=3000)
 (hpl:d=1->place<h.places)(hs:d=1->g.seen.length<=99){r:Item×Lg}
 (hl:∀i0 lg,aA (rt k l d ck 0 g.steps g.high place i0 lg (cH h args) [] (qj g.counts k) (if d=1/\0<=place then g.seen++[(cH h args).getD place.toNat (cp 0)]else g.seen))=some (ro place r)):
 n_44s5ed9 (l,(k:Int),args,d,ck,0,0,g.steps,g.high,place,g.counts,g.seen,())=some (ro place r):=by
 have hk0:(0:Int)<=(k:Int):=by omega
 have hk1:(k:Int)<(g.counts.length:Int):=by omega
 obtain⟨x,hx⟩:∃x,g.counts[k]?=some x:=⟨_,aaO (by omega)⟩
 have hbump:g.counts.set k (i64.wrap (x+1))=qj g.counts k:=by
  unfold qj;rw[abL,hx];rfl
 have h0:0<=h.places:=by omega
 have h4:h.places<=4294967296:=by omega
 have hcl:g.counts.length<=4294967296:=by omega
 have lp:=qM l (k:Int) args d ck 0 0 g.steps g.high place (Item.mk 0 false (aaK #[])) (Log.mk 0 0 0 [] 0 [] 0) (qj g.counts k) g.seen args.length 0 (aa7 h.places.toNat (cp 0)) (aaU _) (by rw[abA];omega) (by omega)
 rw[ac5,aa8,aaZ,aa6,aea]at lp
 change _=some (l,(k:Int),d,ck,0,0,g.steps,g.high,place,Item.mk 0 false (aaK #[]),Log.mk 0 0 0 [] 0 [] 0,cH h args,qj g.counts k,g.seen,())at lp
 rw[show(cp 0)=Item.mk 0 false (aaK #[])from rfl]at lp
 have hd':¬d>30:=by omega
 rw[n_44s5ed9]
 simp only[hd',aer,aaL,aem,aaU,hcl,ael,aaZ,hk0,hk1,and_self,aaQ,hx,hk,h0,h4,aaM,aaJ,hbump,lp]
 unfold rt at hl
 rw[List.reverse_nil]at hl
 by_cases h1:d=1
 ·have hb1:(d==1)=true:=by simpa using h1
  simp only[hb1,ael,aaJ]
  by_cases hp:0<=place
  ·have hlt:=hpl h1
   have hlen:(cH h args).length=h.places.toNat:=by
    unfold cH
    rw[abd,abA];omega
   have hlt2:place<((cH h args).length:Int):=by rw[hlen];omega
   have hget:(cH h args)[place.toNat]?=some ((cH h args).getD place.toNat (cp 0)):=by
    rw[abL,aaO (by omega)];rfl
   have hs':g.seen.length+[(cH h args).getD place.toNat (cp 0)].length<=4294967296:=by have:=hs h1;simp;omega
   rw[aep ⟨h1,hp⟩]at hl
   simp only[ge_iff_le,hp,aeq,ael,hlt2,and_self,hget,aaJ,hs',hl]
  ·rw[aeo (λh=>hp h.2)]at hl
   simp only[ge_iff_le,hp,aer,aaL,aem,aaJ,hl]
 ·have hb1:(d==1)=false:=by simpa using h1
  rw[aeo (λh=>h1 h.1)]at hl
  simp only[hb1,aaL,aem,aaJ,hl]
theorem JD{l:List aB}{k:Nat}{args:List Item}{ck:Bool}{place d:Int}{g:Lg}(hd:30<d):
 n_44s5ed9 (l,(k:Int),args,d,ck,0,0,g.steps,g.high,place,g.counts,g.seen,())=some (cp 0,2,0,g.steps,g.high,place,g.counts,g.seen,()):=by
 rw[n_44s5ed9]
 have hd':d>30:=hd
 simp only[hd',aeq,ael]
 rfl
theorem OQ(st:List Item){b:Nat}(hb:b<=st.length):abY (st.length-b) st.reverse=(st.drop b).reverse/\abY b (ac6 (st.length-b) st.reverse)=(st.take b).reverse:=by
 constructor
 ·rw[List.take_reverse,show st.length-(st.length-b)=b by omega]
 ·rw[List.drop_reverse,show st.length-(st.length-b)=b by omega,abt (by simp;omega)]
theorem XJ(k:Nat){l:List aB}{d:Int}(ck:Bool)(a:Nat){steps high:Int}(place:Int)(i0:Item)(lg:Log)(pl:List Item)(cnt:List Int)(sn:List Item){f:aB}{c:aQ}{st:List Item}
 (hk:l[k]?=some f)(hc:f.code[a]?=some c)(hs:¬steps=40000)(h0:0<=steps)(h1:steps<=40000)(ha:a<=3000)(hh:d=1->(st.length:Int)<=high)(hst:st.length<=65)(e:c.op=16)
 {n kk:Nat}(hb:c.b=(n:Int))(hn:n<=st.length)(hf:cx l c.name0=(kk:Int))(hll:l.length<=3000)(hd1:1<=d)(hd2:d<=30){r:Item×Lg}
 (h44:n_44s5ed9 (l,(kk:Int),(st.take n).reverse,d+1,ck,0,0,steps+1,high,place,cnt,sn,())=some (ro place r))(hz:r.2.kind=0->r.2.stop=0):
 aA (rt k l d ck (a:Int) steps high place i0 lg pl st cnt sn)=
  if r.2.kind=0 then aA (rt k l d ck ((a:Int)+1) r.2.steps (aV d r.2.high (st.length-n+1)) place i0 lg pl (r.1::st.drop n) r.2.counts r.2.seen)
  else some (cp 0,r.2.kind,r.2.stop,r.2.steps,r.2.high,place,r.2.counts,r.2.seen,()):=by
 have w1:i64.wrap ((a:Int)+1)=(a:Int)+1:=w64 (by omega) (by omega)
 have w2:i64.wrap (steps+1)=steps+1:=w64 (by omega) (by omega)
 have w3:i64.wrap (d+1)=d+1:=w64 (by omega) (by omega)
 have hb0:(steps==40000)=false:=by simpa using hs
 have ha0:(0:Int)<=(a:Int):=by omega
 have hk0:(0:Int)<=(k:Int):=by omega
 have hL:((st.reverse.length:Nat):Int)=(st.length:Int):=by simp
 have hL0:st.reverse.length=st.length:=by simp
 obtain⟨c1,c2⟩:=OQ st hn
 have w:i64.wrap ((st.length:Int) -(n:Int))=((st.length-n:Nat):Int):=by rw[w64 (by omega) (by omega)];omega
 have i1:(0:Int)<=((st.length-n:Nat):Int):=by omega
 have i2:((st.length-n:Nat):Int)<=(st.length:Int):=by omega
 have e1:st.length-(st.length-n)=n:=by omega
 have e2:st.length-n+n<=st.length:=by omega
 have e3:n<=4294967296:=by omega
 have e4:st.length-n<=st.length:=by omega
 have e5:st.length-n<=4294967296:=by omega
 have e6:∀v:Item,(st.drop n).reverse.length+[v].length<=4294967296:=by intro v;simp;omega
 have hhi:∀v:Item,(((v::st.drop n).reverse.length:Nat):Int)=((st.length-n+1:Nat):Int):=by intro v;simp
 have q0:((16:Int)==0)=false:=rfl
 have q1:((16:Int)==1)=false:=rfl
 have q18:((16:Int)==18)=false:=rfl
 have q2:((16:Int)==2)=false:=rfl
 have q3:((16:Int)==3)=false:=rfl
 have q4:((16:Int)==4)=false:=rfl
 have q5:((16:Int)==5)=false:=rfl
 have q6:((16:Int)==6)=false:=rfl
 have q7:((16:Int)==7)=false:=rfl
 have q8:((16:Int)==8)=false:=rfl
 have q9:((16:Int)==9)=false:=rfl
 have q10:((16:Int)==10)=false:=rfl
 have q11:((16:Int)==11)=false:=rfl
 have q12:((16:Int)==12)=false:=rfl
 have q13:((16:Int)==13)=false:=rfl
 have q14:((16:Int)==14)=false:=rfl
 have q15:((16:Int)==15)=false:=rfl
 have q16:((16:Int)==16)=true:=rfl
 have q17:((16:Int)==17)=false:=rfl
 have fin:∀{α:Type} {x y:α},x=y->x=y:=λh=>h
 have htop:∃t:Item,∃b:Bool,(b=true->(0:Int)<=((st.length-1:Nat):Int)/\((st.length-1:Nat):Int)<(st.length:Int)/\i64.wrap ((st.length:Int) -1)=((st.length-1:Nat):Int)/\st.reverse[st.length-1]?=some t)/\(b=false->i64.wrap ((st.length:Int) -1)= -1/\t=cp 0):=by
  cases st with
  |nil=>exact⟨cp 0,false,λh=>(by cases h),λ_=>⟨by decide,rfl⟩⟩
  |cons x s=>
   rw[aaW]at hst
   refine⟨x,true,λ_=>⟨by omega,by rw[aaW];omega,by rw[aaW,w64 (by omega) (by omega)];omega,?_⟩,λh=>(by cases h)⟩
   rw[aaW,ady];exact dN x s
 obtain⟨t,b,hb1,hb2⟩:=htop
 conv=>lhs;rw[aA]
 unfold rt
 unfold ro at h44
 have p0:¬(0:Int)<= -1:=by decide
 by_cases hd:d=1
 ·have hdd:(d==1)=true:=by simpa using hd
  have hm:max high (st.length:Int)=high:=by have:=hh hd;omega
  cases b
  ·obtain⟨b1,b2⟩:=hb2 rfl
   simp only[hdd,hm,hL,hL0,hb0,aaL,aem,ael,hk0,ha0,aaQ,hk,hc,aaM,aaJ,w1,w2,w3,e,reduceIte,aeq,aer,and_self,ge_iff_le,aaZ,abv,aaU,abm,abk,true_and,and_true,hb,w,i1,i2,e1,e2,e3,e4,e5,e6,c1,c2,jA l (show l.length<=4294967296 by omega),hf,h44,q0,q1,q18,q2,q3,q4,q5,q6,q7,q8,q9,q10,q11,q12,q13,q14,q15,q16,q17,b1,p0]
   by_cases hz0:r.2.kind=0
   ·have hz1:(r.2.kind !=0)=false:=by simpa using hz0
    simp only[hz1,hz0,hz hz0,aaL,aem,ael,aaJ,bne_self_eq_false,hdd,cZ,hhi]
    unfold aV
    rw[aep hd]
   ·have hz1:(r.2.kind !=0)=true:=by simpa using hz0
    simp only[hz1,hz0,ael,aem,aaJ]
    rfl
  ·obtain⟨b1,b2,b3,b4⟩:=hb1 rfl
   simp only[hdd,hm,hL,hL0,hb0,aaL,aem,ael,hk0,ha0,aaQ,hk,hc,aaM,aaJ,w1,w2,w3,e,reduceIte,aeq,aer,and_self,ge_iff_le,aaZ,abv,aaU,abm,abk,true_and,and_true,hb,w,i1,i2,e1,e2,e3,e4,e5,e6,c1,c2,jA l (show l.length<=4294967296 by omega),hf,h44,q0,q1,q18,q2,q3,q4,q5,q6,q7,q8,q9,q10,q11,q12,q13,q14,q15,q16,q17,b1,b2,b3,b4]
   by_cases hz0:r.2.kind=0
   ·have hz1:(r.2.kind !=0)=false:=by simpa using hz0
    simp only[hz1,hz0,hz hz0,aaL,aem,ael,aaJ,bne_self_eq_false,hdd,cZ,hhi]
    unfold aV
    rw[aep hd]
   ·have hz1:(r.2.kind !=0)=true:=by simpa using hz0
    simp only[hz1,hz0,ael,aem,aaJ]
    rfl
 ·have hdd:(d==1)=false:=by simpa using hd
  cases b
  ·obtain⟨b1,b2⟩:=hb2 rfl
   simp only[hdd,hL,hL0,hb0,aaL,aem,ael,hk0,ha0,aaQ,hk,hc,aaM,aaJ,w1,w2,w3,e,reduceIte,aeq,aer,and_self,ge_iff_le,aaZ,abv,aaU,abm,abk,true_and,and_true,hb,w,i1,i2,e1,e2,e3,e4,e5,e6,c1,c2,jA l (show l.length<=4294967296 by omega),hf,h44,q0,q1,q18,q2,q3,q4,q5,q6,q7,q8,q9,q10,q11,q12,q13,q14,q15,q16,q17,b1,p0]
   by_cases hz0:r.2.kind=0
   ·have hz1:(r.2.kind !=0)=false:=by simpa using hz0
    simp only[hz1,hz0,hz hz0,aaL,aem,ael,aaJ,bne_self_eq_false,hdd,cZ,hhi]
    unfold aV
    rw[aeo hd]
   ·have hz1:(r.2.kind !=0)=true:=by simpa using hz0
    simp only[hz1,hz0,ael,aem,aaJ]
    rfl
  ·obtain⟨b1,b2,b3,b4⟩:=hb1 rfl
   simp only[hdd,hL,hL0,hb0,aaL,aem,ael,hk0,ha0,aaQ,hk,hc,aaM,aaJ,w1,w2,w3,e,reduceIte,aeq,aer,and_self,ge_iff_le,aaZ,abv,aaU,abm,abk,true_and,and_true,hb,w,i1,i2,e1,e2,e3,e4,e5,e6,c1,c2,jA l (show l.length<=4294967296 by omega),hf,h44,q0,q1,q18,q2,q3,q4,q5,q6,q7,q8,q9,q10,q11,q12,q13,q14,q15,q16,q17,b1,b2,b3,b4]
   by_cases hz0:r.2.kind=0
   ·have hz1:(r.2.kind !=0)=false:=by simpa using hz0
    simp only[hz1,hz0,hz hz0,aaL,aem,ael,aaJ,bne_self_eq_false,hdd,cZ,hhi]
    unfold aV
    rw[aeo hd]
   ·have hz1:(r.2.kind !=0)=true:=by simpa using hz0
    simp only[hz1,hz0,ael,aem,aaJ]
    rfl
end Go.Proofs.YtcghbgmmgcljkaaGreatDoor
end
section
namespace Go.Proofs.YtcghbgmmgcljkaaGreatDoor
set_option maxRecDepth 20000
set_option maxHeartbeats 4000000
theorem nL{l:List aB}(R:nV l)(ck:Bool)(place:Int):∀(N:Nat) (f:aB) (d:Int) (a:Nat) (pl st:List Item) (g:Lg),OkA l f d a pl st->OkG l g->(d=1->(st.length:Int)<=g.high)->40000-g.steps<=(N:Int)->
 ∀(k:Nat),l[k]?=some f->∀(i0:Item) (lg:Log),aA (rt k l d ck (a:Int) g.steps g.high place i0 lg pl st g.counts g.seen)=some (ro place (gK l ck place N f d (a:Int) pl st g))
 |0,f,d,a,pl,st,g,A,G,hh,hN,k,hkf,i0,lg=>by
  have hs:g.steps=40000:=by have:=G.s1;omega
  rw[gK,hs,FI]
  simp only[zH,ro,hs,G.stop]
 |N+1,f,d,a,pl,st,g,A,G,hh,hN,k,hkf,i0,lg=>by
  obtain⟨c,hc,hcm,hcode,hal,hl3⟩:=A.code R
  have s0:=G.s0
  have s1:=G.s1
  have hst:=A.st_le R
  have hd1:=A.d1
  have hd2:=A.d2
  obtain⟨T,hT⟩:∃T,T=some (ro place (gK l ck place (N+1) f d (a:Int) pl st g)):=⟨_,rfl⟩
  rw[<-hT]
  rw[gK]at hT
  by_cases hs:g.steps=40000
  ·rw[hT,aep hs,hs,FI]
   simp only[zH,ro,hs,G.stop]
  ·rw[aeo hs]at hT
   simp only[aaQ,hc]at hT
   obtain⟨hk,hw⟩:=jE R A.mem A.reach hc
   have ht:=hk.1
   have hr:=nH hcode
   have go3:∀(at1:Int) (pl1 st1:List Item),cN ck c ((a:Int)+1) pl st= .go at1 pl1 st1->aA (rt k l d ck (a:Int) g.steps g.high place i0 lg pl st g.counts g.seen)=aA (rt k l d ck at1 (g.steps+1) (aV d g.high st1.length) place i0 lg pl1 st1 g.counts (iB d place c st g.seen))->aA (rt k l d ck (a:Int) g.steps g.high place i0 lg pl st g.counts g.seen)=T:=by
    intro at1 pl1 st1 ha hn
    rw[ha]at hT
    obtain⟨⟨b',hb',A'⟩,G'⟩:=xa (place:=place) R A G hs hc ha
    subst hb'
    rw[hn,hT]
    exact nL R ck place N f d b' pl1 st1 _ A' G' (λhd=>nw hd) (by simp only[];omega) k hkf i0 lg
   have go:∀(at1:Int) (pl1 st1:List Item),cN ck c ((a:Int)+1) pl st= .go at1 pl1 st1->c.op≠3->aA (rt k l d ck (a:Int) g.steps g.high place i0 lg pl st g.counts g.seen)=aA (rt k l d ck at1 (g.steps+1) (aV d g.high st1.length) place i0 lg pl1 st1 g.counts g.seen)->aA (rt k l d ck (a:Int) g.steps g.high place i0 lg pl st g.counts g.seen)=T:=
    λat1 pl1 st1 ha h hn=>go3 _ _ _ ha (by rw[hn];unfold iB;rw[aeo (λq=>h q.1)])
   have stop:∀(w:Int),cN ck c ((a:Int)+1) pl st= .stop w->aA (rt k l d ck (a:Int) g.steps g.high place i0 lg pl st g.counts g.seen)=some (cp 0,1,w,g.steps+1,g.high,place,g.counts,g.seen,())->aA (rt k l d ck (a:Int) g.steps g.high place i0 lg pl st g.counts g.seen)=T:=λw ha hn=>by rw[ha]at hT;rw[hn,hT];rfl
   have re:∀(x:Item),cN ck c ((a:Int)+1) pl st= .ret x->aA (rt k l d ck (a:Int) g.steps g.high place i0 lg pl st g.counts g.seen)=some (x,0,0,g.steps+1,g.high,place,g.counts,g.seen,())->aA (rt k l d ck (a:Int) g.steps g.high place i0 lg pl st g.counts g.seen)=T:=λx ha hn=>by rw[ha]at hT;rw[hn,hT];simp only[ro,G.kind,G.stop]
   have pu:∀(r:Item×Int) (s:List Item),cN ck c ((a:Int)+1) pl st=im r ((a:Int)+1) pl s->c.op≠3->aA (rt k l d ck (a:Int) g.steps g.high place i0 lg pl st g.counts g.seen)=(if r.2=0 then aA (rt k l d ck ((a:Int)+1) (g.steps+1) (aV d g.high (s.length+1)) place i0 lg pl (r.1::s) g.counts g.seen)else some (cp 0,1,r.2,g.steps+1,g.high,place,g.counts,g.seen,()))->aA (rt k l d ck (a:Int) g.steps g.high place i0 lg pl st g.counts g.seen)=T:=by
    intro r s ha h hp
    unfold im at ha
    by_cases h0:r.2=0
    ·exact go _ _ _ (ha.trans (aep h0)) h (hp.trans (aep h0))
    ·exact stop _ (ha.trans (aeo h0)) (hp.trans (aeo h0))
   have co:∀{C:Prop} [Decidable C] {p q:Int} {s1 s2:List Item},cN ck c ((a:Int)+1) pl st=(if C then .go p pl s1 else .go q pl s2)->c.op≠3->aA (rt k l d ck (a:Int) g.steps g.high place i0 lg pl st g.counts g.seen)=(if C then aA (rt k l d ck p (g.steps+1) (aV d g.high s1.length) place i0 lg pl s1 g.counts g.seen)else aA (rt k l d ck q (g.steps+1) (aV d g.high s2.length) place i0 lg pl s2 g.counts g.seen))->aA (rt k l d ck (a:Int) g.steps g.high place i0 lg pl st g.counts g.seen)=T:=by
    intro C _ p q s1 s2 ha h hp
    by_cases h0:C
    ·exact go _ _ _ (ha.trans (aep h0)) h (hp.trans (aep h0))
    ·exact go _ _ _ (ha.trans (aeo h0)) h (hp.trans (aeo h0))
   have H:∀op,c.op=op->Rh l f c k a d g.steps g.high st op:=λ_ e=>⟨hkf,hc,hs,s0,s1,by omega,hh,hst,e⟩
   have hop:c.op=0\/c.op=1\/c.op=2\/c.op=3\/c.op=4\/c.op=5\/c.op=6\/c.op=7\/c.op=8\/c.op=9\/c.op=10\/c.op=11\/c.op=12\/c.op=13\/c.op=14\/c.op=15\/c.op=16\/c.op=17\/c.op=18\/c.op=19:=by omega
   have hpl:=A.pls
   have hplc:=R.places f A.mem
   have hfn:=R.fns f A.mem
   rcases hop with e0|e0|e0|e0|e0|e0|e0|e0|e0|e0|e0|e0|e0|e0|e0|e0|e0|e0|e0|e0
   ·exact go ((a:Int)+1) pl (cp (lw c.type0 c.a)::st) (by simp[cN,e0]) (by omega) (by cases st;exact Yf (H _ e0) (M9 hcode e0);exact Ye (H _ e0) (M9 hcode e0))
   ·exact go ((a:Int)+1) pl (Item.mk 0 true (aaK #[])::st) (by simp[cN,e0]) (by omega) (by cases st;exact Yn (H _ e0) trivial;exact Ym (H _ e0) trivial)
   ·obtain⟨a0,a1⟩:=yl hcode (by omega) (by omega) hplc
    exact go ((a:Int)+1) pl (pl.getD c.a.toNat (cp 0)::st) (by simp[cN,e0]) (by omega) (by cases st;exact Yp (H _ e0) ⟨a0,by omega⟩;exact Yo (H _ e0) ⟨a0,by omega⟩)
   ·obtain⟨a0,a1⟩:=yl hcode (by omega) (by omega) hplc
    obtain⟨x,s,rfl⟩:=de rfl (by rw[(bI hr.1 hr.2 (by omega)).2 (by omega)]at ht;exact ht)
    exact go3 _ _ _ (by simp[cN,e0]) (rl3 (H _ e0) ⟨a0,by omega,G.seen⟩)
   ·obtain⟨x,s,rfl⟩:=de rfl (by rw[(bI hr.1 hr.2 (by omega)).2 (by omega)]at ht;exact ht)
    exact go _ _ _ (by simp[cN,e0]) (by omega) (rl4 (H _ e0) trivial)
   ·obtain⟨o1,o2⟩:=QP hcode e0
    obtain⟨x,y,s,rfl⟩:=rW rfl (by rw[(bI hr.1 hr.2 (by omega)).1 (by omega)]at ht;exact ht)
    exact pu (opS ck c.a c.type0 y x) s (by simp[cN,e0]) (by omega) (rl5 (H _ e0) o2)
   ·obtain⟨x,y,s,rfl⟩:=rW rfl (by rw[(bI hr.1 hr.2 (by omega)).1 (by omega)]at ht;exact ht)
    exact go ((a:Int)+1) pl (gf (jL c.a y.n x.n)::s) (by simp[cN,e0]) (by omega) (rl6 (H _ e0) trivial)
   ·obtain⟨x,s,rfl⟩:=de rfl (by rw[(bI hr.1 hr.2 (by omega)).2 (by omega)]at ht;exact ht)
    exact pu (bA ck 7 c.type0 x) s (e0▸GJ (by omega)) (by omega) (rl7 (H _ e0) (At hcode (by omega)))
   ·obtain⟨x,s,rfl⟩:=de rfl (by rw[(bI hr.1 hr.2 (by omega)).2 (by omega)]at ht;exact ht)
    exact pu (bA ck 8 c.type0 x) s (e0▸GJ (by omega)) (by omega) (rl8 (H _ e0) trivial)
   ·obtain⟨x,s,rfl⟩:=de rfl (by rw[(bI hr.1 hr.2 (by omega)).2 (by omega)]at ht;exact ht)
    exact pu (bA ck 9 c.type0 x) s (e0▸GJ (by omega)) (by omega) (rl9 (H _ e0) (At hcode (by omega)))
   ·obtain⟨x,s,rfl⟩:=de rfl (by rw[(bI hr.1 hr.2 (by omega)).2 (by omega)]at ht;exact ht)
    exact pu (bA ck 10 c.type0 x) s (e0▸GJ (by omega)) (by omega) (Yg (H _ e0) (At hcode (by omega)))
   ·obtain⟨x,s,rfl⟩:=de rfl (by rw[(bI hr.1 hr.2 (by omega)).2 (by omega)]at ht;exact ht)
    exact pu (bA ck 11 c.type0 x) s (e0▸GJ (by omega)) (by omega) (Yh (H _ e0) trivial)
   ·obtain⟨x,s,rfl⟩:=de rfl (by rw[(bI hr.1 hr.2 (by omega)).2 (by omega)]at ht;exact ht)
    exact co (s2:=x::s) (by simp[cN,e0]) (by omega) (Yi (H _ e0) trivial)
   ·obtain⟨x,s,rfl⟩:=de rfl (by rw[(bI hr.1 hr.2 (by omega)).2 (by omega)]at ht;exact ht)
    exact co (s1:=x::s) (s2:=x::s) (by simp[cN,e0]) (by omega) (Yj (H _ e0) trivial)
   ·exact go c.a pl st (by simp[cN,e0]) (by omega) (by cases st;exact UC (H _ e0) trivial;exact UB (H _ e0) trivial)
   ·obtain⟨x,s,rfl⟩:=de rfl (by rw[(bI hr.1 hr.2 (by omega)).2 (by omega)]at ht;exact ht)
    exact co (by simp[cN,e0]) (by omega) (Yk (H _ e0) trivial)
   ·have ha:=(r6 hcode (ck:=ck) (at1:=(a:Int)+1) (pl:=pl) (st:=st)).mpr e0
    rw[hT,ha]
    obtain⟨kk,h,n,h1,h2,h3,h4,h5,h6,h7,h8,h9,h10⟩:=pj R A hc e0
    simp only[h1,h3,h4,aaQ]
    by_cases hd:30<d+1
    ·rw[aep hd]
     have q:=XJ k ck a place i0 lg pl g.counts g.seen hkf hc hs s0 s1 (by omega) hh hst e0 h4 h5 h1 R.len hd1 hd2 (r:=(cp 0,{g with steps:=g.steps+1,kind:=2,stop:=0})) (JD (g:={g with steps:=g.steps+1}) hd) (λq=>rfl)
     rw[q,aeo (λw=>TI w)]
     simp only[zH,ro,G.stop]
    ·rw[aeo hd]
     have G1:OkG l {g with steps:=g.steps+1,counts:=qj g.counts kk}:=⟨by simp only[];omega,by simp only[];omega,G.kind,G.stop,by simp only[qj,abC];exact G.cnt,G.seen⟩
     have A1:=h10 (by omega)
     have L:=gL R ck place N h (d+1) 0 _ [] _ A1 G1
     have I:=nL R ck place N h (d+1) 0 _ [] _ A1 G1 (λq=>by omega) (by simp only[];omega) kk h3
     rw[aa6]at L I
     generalize hrr:gK l ck place N h (d+1) 0 (cH h (st.take n).reverse) [] {g with steps:=g.steps+1,counts:=qj g.counts kk}=r at L I⊢
     have L0:=L.s0
     have L1:=L.s1
     have Lh:=L.high (by omega)
     simp only[]at L0 Lh
     have hal:(st.take n).reverse.length=n:=by simp;omega
     have h44:=r44 h3 (args:=(st.take n).reverse) (ck:=ck) (place:=place) (d:=d+1) (g:={g with steps:=g.steps+1}) (by omega) (by rw[hal];omega) h8 G.kind G.stop G.cnt h2 R.len (λq=>by omega) (λq=>by omega) (r:=r) (by
      rw[aeo (λq=>by omega)]
      exact I)
     rw[XJ k ck a place i0 lg pl g.counts g.seen hkf hc hs s0 s1 (by omega) hh hst e0 h4 h5 h1 R.len hd1 hd2 h44 L.stop]
     by_cases hk:r.2.kind=0
     ·rw[aep hk,aep hk]
      have G2:OkG l {r.2 with high:=aV d r.2.high (st.length-n+1)}:=⟨by simp only[];omega,L1,hk,L.stop hk,L.cnt,L.seen⟩
      have ih:=nL R ck place N f d (a+1) pl _ _ (h9 r.1) G2 (λq=>by
       have:(((r.1::st.drop n).length:Nat):Int)=((st.length-n+1:Nat):Int):=by rw[aaW,abp]
       rw[this];exact nw q) (by simp only[];omega) k hkf i0 lg
      exact ih
     ·rw[aeo hk,aeo hk]
      rfl
   ·obtain⟨x,s,rfl⟩:=de rfl (by rw[(bI hr.1 hr.2 (by omega)).2 (by omega)]at ht;exact ht)
    exact re x (by simp[cN,e0]) (Yl (H _ e0) trivial)
   ·exact go ((a:Int)+1) pl (Item.mk 0 false c.name0::st) (by simp[cN,e0]) (by omega) (by cases st;exact UG (H _ e0) trivial;exact UF (H _ e0) trivial)
   ·have hca:1<=c.a:=by
     have hq:=hcode
     unfold di at hq
     simp[e0,rng]at hq
     omega
    have ha:cN ck c ((a:Int)+1) pl st=if ck=true then .stop c.a else .ret (cp 0):=by simp[cN,e0]
    by_cases h0:ck=true
    ·exact stop _ (ha.trans (aep h0)) (by cases st;exact(RA (H _ e0) hca).trans (aep h0);exact(Rz (H _ e0) hca).trans (aep h0))
    ·exact re _ (ha.trans (aeo h0)) (by cases st;exact(RA (H _ e0) hca).trans (aeo h0);exact(Rz (H _ e0) hca).trans (aeo h0))
end Go.Proofs.YtcghbgmmgcljkaaGreatDoor
end
section
namespace Go.Proofs.YtcghbgmmgcljkaaGreatDoor
set_option maxRecDepth 20000
set_option maxHeartbeats 4000000
def itm(v:aE):Item:=Item.mk v.n v.null v.err
theorem rm(args:List aE)(hl:args.length<=4294967296):∀(j k:Nat) (out:List aE),k+j=args.length->out.length=k->
 dU (args,(args.length:Int),(k:Int),out,())=some (out++(args.drop k).map (λv=>val (itm v)),())
 |0,k,out,h,ho=>by
  rw[dU,bZ (by omega)]
  have:¬(k:Int)<(args.length:Int):=by omega
  simp[this]
 |j+1,k,out,h,ho=>by
  obtain⟨x,hx,hm,hd⟩:=bE (l:=args) (k:=k) (by omega)
  have h1:(k:Int)<(args.length:Int):=by omega
  have h2:(0:Int)<=(k:Int):=by omega
  have w:IntKind.i64.wrap ((k:Int)+1)=((k+1:Nat):Int):=by rw[w64 (by omega) (by omega)];omega
  have hle:∀v:aE,out.length+[v].length<=4294967296:=by intro v;simp;omega
  have ih:=rm args hl j (k+1) (out++[val (itm x)]) (by omega) (by simp;omega)
  rw[dU,hd]
  simp only[h1,h2,aeq,ael,aaQ,hx,aaM,aaJ,hle,w]
  refine ad4 ih ?_
  rw[aaY,abW]
  rfl
theorem Jx(args:List aE)(hl:args.length<=4294967296):kQ (args,())=some ((args.map itm).map val,()):=by
 have h:=rm args hl _ 0 [] (aaU _) rfl
 rw[aa6,aa8,aaZ]at h
 rw[kQ,h,abq]
 rfl
theorem q_(args:List aE)(hl:args.length<=4294967296):∀(j k:Nat) (out:List Item),k+j=args.length->out.length=k->
 mn (args,(k:Int),out,())=some (out++(args.drop k).map itm,())
 |0,k,out,h,ho=>by
  rw[mn,bZ (by omega)]
  have:¬(k:Int)<(args.length:Int):=by omega
  simp[this]
 |j+1,k,out,h,ho=>by
  obtain⟨x,hx,hm,hd⟩:=bE (l:=args) (k:=k) (by omega)
  have h1:(k:Int)<(args.length:Int):=by omega
  have h2:(0:Int)<=(k:Int):=by omega
  have w:IntKind.i64.wrap ((k:Int)+1)=((k+1:Nat):Int):=by rw[w64 (by omega) (by omega)];omega
  have hle:∀v:Item,out.length+[v].length<=4294967296:=by intro v;simp;omega
  have ih:=q_ args hl j (k+1) (out++[itm x]) (by omega) (by simp;omega)
  rw[mn,hd]
  simp only[h1,h2,aeq,ael,aaQ,hx,aaM,aaJ,Rb,hle,w]
  refine ad4 ih ?_
  rw[aaY,abW]
  rfl
theorem Hz(args:List aE)(hl:args.length<=4294967296):Ts (args,())=some (args.map itm,()):=by
 have h:=q_ args hl _ 0 [] (aaU _) rfl
 rw[aa6,aa8,aaZ]at h
 rw[Ts,h]
 rfl
def uP(r:Item×Lg):b9:=if r.2.kind=0 then b9.mk 0 (val r.1) 0 []else b9.mk r.2.kind (val (cp 0)) r.2.stop []
structure GP (l:List aB) (s:ByteArray) (args:List aE) (k:Nat) (f:aB):Prop where
 runs:nV l
 name:cx l s=(k:Int)
 lt:k<l.length
 get:l[k]?=some f
 fit:(args.length:Int)=f.params
theorem vO{l:List aB}(hl:l.length<=3000)(h3:∀f∈l,f.code.length<=3000){s:ByteArray}{args:List aE}(h:dt l s args=0):∃k f,GP l s args k f:=by
 unfold dt at h
 by_cases hc:eL l=0
 ·rw[aep hc]at h
  rcases nr l s with hf|⟨k,g,hk,hkl,hg⟩
  ·rw[aep hf]at h;cases h
  ·rw[aeo (by omega),hk,aaQ,hg]at h
   simp only at h
   by_cases hp:(args.length:Int)=g.params
   ·exact⟨k,g,OL hl h3 (jo.mp hc),hk,hkl,hg,hp⟩
   ·rw[aeo hp]at h;cases h
 ·rw[aeo hc]at h;exact absurd h hc
theorem r_{l:List aB}{s:ByteArray}{args:List aE}{k:Nat}{f:aB}(A:GP l s args k f)(place:Int):
 OkA l f 1 0 (cH f (args.map itm)) []/\OkG l (lg1 l place k f (args.map itm)):=by
 have hm:=aaV A.get
 obtain⟨_,p0,p1,_⟩:=A.runs.fns f hm
 have hfit:=A.fit
 refine⟨⟨hm,Reach.start,?_,by decide,by decide⟩,⟨abk 0,show(0:Int)<=40000 by decide,rfl,rfl,?_,?_⟩⟩
 ·unfold cH
  rw[abd,abA,aaS]
  omega
 ·unfold lg1 lg0 qj
  simp only[abC,abA]
 ·unfold lg1 lg0
  simp only[]
  split
  ·simp
  ·simp
theorem zu{l:List aB}{s:ByteArray}{args:List aE}{k:Nat}{f:aB}(A:GP l s args k f)(ck:Bool)(place:Int):
 Left l 1 (lg1 l place k f (args.map itm)) (Bw l ck place k f (args.map itm)):=by
 obtain⟨b1,b2⟩:=r_ A place
 exact gL A.runs ck place 40000 f 1 0 _ [] _ b1 b2
theorem Yc{l:List aB}{s:ByteArray}{args:List aE}{k:Nat}{f:aB}(A:GP l s args k f)(ha:args.length<=4294967296)(ck:Bool)(place:Int)(hp:place<f.places){r:Item×Lg}(hr:r=Bw l ck place k f (args.map itm)):
 NY (l,(k:Int),args,ck,place,())=some (l,ck,r.2.steps,place,r.2.high,Dv r.2,r.2.counts,r.2.seen.map val,uP r,()):=by
 have hm:=aaV A.get
 obtain⟨_,p0,p1,_⟩:=A.runs.fns f hm
 have p2:=A.runs.places f hm
 have hfit:=A.fit
 have hll:=A.runs.len
 obtain⟨b1,b2⟩:=r_ A place
 have L:=zu A ck place
 have I:=kZ A.runs ck place 40000 f 1 0 _ [] _ b1 b2 (λ_=>by unfold lg1 lg0;simp) (by unfold lg1 lg0;simp) 0 args.length ((args.map itm).map val) (val (cp 0))
 have e:gK l ck place 40000 f 1 ((0:Nat):Int) (cH f (args.map itm)) [] (lg1 l place k f (args.map itm))=r:=by rw[hr];rfl
 rw[e]at I
 rw[<-hr]at L
 have h40:=p40 A.get (b:=0) (e:=args.length) (argv:=(args.map itm).map val) (args:=args.map itm) (by simp) (by rw[aa8,abt (by simp)]) (by simp) (ck:=ck) (place:=place) (d:=1) (g:=lg0 l) (by decide) (by omega) p2 rfl (by simp[lg0]) A.lt (λ_=>hp) (λ_=>by simp[lg0]) (r:=r) I L.zero
 have hl4:(l.length:Int)<=4294967296:=by omega
 have hal:(((args.map itm).map val).length:Int)=(args.length:Int):=by simp
 have hcl:r.2.counts.length=(aa7 l.length (0:Int)).length:=by rw[L.cnt,abA]
 unfold lg0 at h40
 rw[abE]at h40
 simp only[aa6]at h40
 rw[NY]
 have z:aE.mk (aF.mk 0 0 (aaK #[]) false false) 0 false (aaK #[]) (aF.mk 0 0 (aaK #[]) false false)=val (cp 0):=rfl
 have nz:((0:Nat):Int)=0:=rfl
 simp only[hl4,ael,aaM,aaJ,Jx args ha,aaQ,hal,nz,h40,hcl]
 unfold Dv uP
 by_cases hk:r.2.kind=0
 ·simp only[hk,ael,Option.isSome_none,aaL,aem]
  try rfl
 ·simp only[hk,aem,adb,ael,aaJ]
  try rfl
theorem Yu{l:List aB}{s:ByteArray}{args:List aE}{k:Nat}{f:aB}(A:GP l s args k f)(ha:args.length<=4294967296)(ck:Bool)(place:Int)(hp:place<f.places){r:Item×Lg}(hr:r=Bw l ck place k f (args.map itm)):
 Q_ (l,s,args,ck,place,())=some (r.1,Log.mk r.2.kind r.2.stop r.2.steps r.2.counts r.2.high r.2.seen place,()):=by
 have hm:=aaV A.get
 obtain⟨_,p0,p1,_⟩:=A.runs.fns f hm
 have p2:=A.runs.places f hm
 have hfit:=A.fit
 have hll:=A.runs.len
 obtain⟨b1,b2⟩:=r_ A place
 have I:=nL A.runs ck place 40000 f 1 0 _ [] _ b1 b2 (λ_=>by unfold lg1 lg0;simp) (by unfold lg1 lg0;simp) k A.get
 have e:gK l ck place 40000 f 1 ((0:Nat):Int) (cH f (args.map itm)) [] (lg1 l place k f (args.map itm))=r:=by rw[hr];rfl
 rw[e]at I
 have h44:=r44 A.get (args:=args.map itm) (ck:=ck) (place:=place) (d:=1) (g:=lg0 l) (by decide) (by rw[aaS];omega) p2 rfl rfl (by simp[lg0]) A.lt hll (λ_=>hp) (λ_=>by simp[lg0]) (r:=r) I
 have hl4:(l.length:Int)<=4294967296:=by omega
 unfold lg0 ro at h44
 rw[Q_]
 simp only[jA l (show l.length<=4294967296 by omega),A.name,Hz args ha,hl4,ael,aaM,aaJ,aaQ,h44]
theorem O5{l:List aB}{d:Int}{g:Lg}{r:Item×Lg}(L:Left l d g r)(place:Int):Tm (r.1,Log.mk r.2.kind r.2.stop r.2.steps r.2.counts r.2.high r.2.seen place,())=some (uP r,()):=by
 rw[Tm]
 unfold uP
 rcases L.kinds with h|h|⟨h,h2⟩
 ·simp[h,Ra];rfl
 ·simp[h];rfl
 ·simp[h,h2];rfl
end Go.Proofs.YtcghbgmmgcljkaaGreatDoor
end
section
namespace Go.Proofs.YtcghbgmmgcljkaaGreatDoor
set_option maxRecDepth 20000
set_option maxHeartbeats 4000000
end Go.Proofs.YtcghbgmmgcljkaaGreatDoor
end
section
namespace Go.Proofs.YtcghbgmmgcljkaaGreatDoor
set_option maxRecDepth 20000
set_option maxHeartbeats 4000000
def WF:aQ:=aQ.mk 19 5 0 (aF.mk 0 0 (aaK #[]) false false) (aaK #[])
def ext(e:Int)(f:aB):aB:=aB.mk f.name0 f.params (f.places+e) f.type0 (f.code++[WF])
end Go.Proofs.YtcghbgmmgcljkaaGreatDoor
end
section
namespace Go.Proofs.YtcghbgmmgcljkaaGreatDoor
open IntKind (i64)
set_option maxRecDepth 20000
set_option maxHeartbeats 4000000
theorem uQ(l:List aB)(hl:l.length<=4294967296):∀(j k:Nat) (a:Int),k+j=l.length->
 uH (l,a,(k:Int),())=if(l.drop k).any (λf=>decide (f.places>2000))=true then some (.inl (true,()))else some (.inr (l,e9 a (l.drop k),()))
 |0,k,a,h=>by
  rw[uH,bZ (by omega)]
  have:¬(k:Int)<(l.length:Int):=by omega
  simp[this,e9]
 |j+1,k,a,h=>by
  obtain⟨x,hx,hm,hd⟩:=bE (l:=l) (k:=k) (by omega)
  have h1:(k:Int)<(l.length:Int):=by omega
  have h2:(0:Int)<=(k:Int):=by omega
  have w:i64.wrap ((k:Int)+1)=((k+1:Nat):Int):=by rw[w64 (by omega) (by omega)];omega
  have ih:=uQ l hl j (k+1) (i64.wrap (a+(x.code.length:Int))) (by omega)
  rw[uH,hd]
  simp only[h1,h2,aeq,ael,aaQ,hx,aaM,aaJ,acM,w]
  by_cases hp:x.places>2000
  ·simp[hp]
  ·simp only[hp,aer,aaL,aem,acN]
   exact ih
theorem yn:∀(l:List aB) (a:Int),0<=a->a+(l.length:Int) *4294967296<=4611686018427387904->(∀f∈l,f.code.length<=4294967296)->a<=e9 a l/\∀f∈l,(f.code.length:Int)<=e9 a l
 |[],a,h0,h1,h2=>⟨abk _,λf hf=>by cases hf⟩
 |x::r,a,h0,h1,h2=>by
  have hx:=h2 x (aa2 ..)
  rw[aaW]at h1
  have e:(((r.length+1:Nat):Int)) *4294967296=(r.length:Int) *4294967296+4294967296:=by rw[Int.natCast_add,Int.add_mul];rfl
  rw[e]at h1
  have hr:(0:Int)<=(r.length:Int) *4294967296:=adg (by omega) (by decide)
  have w:i64.wrap (a+(x.code.length:Int))=a+(x.code.length:Int):=w64 (by omega) (by omega)
  have ih:=yn r (a+(x.code.length:Int)) (by omega) (by omega) (λf hf=>h2 f (aaX _ hf))
  have ec:e9 a (x::r)=e9 (a+(x.code.length:Int)) r:=by unfold e9;rw[adu,w]
  rw[ec]
  refine⟨by omega,λf hf=> ?_⟩
  rw[aa4]at hf
  rcases hf with hf|hf
  ·rw[hf];omega
  ·exact ih.2 f hf
theorem Ow(l:List aB)(hl:l.length<=4294967296)(hc:∀f∈l,f.code.length<=4294967296):∃b,n_9 (l,())=some (b,())/\(b=false->l.length<=200/\∀f∈l,f.code.length<=3000):=by
 have h:=uQ l hl _ 0 0 (aaU _)
 rw[aa6,aa8]at h
 rw[n_9,h]
 by_cases ha:l.any (λf=>decide (f.places>2000))=true
 ·rw[aep ha];exact⟨true,rfl,λh=>by cases h⟩
 ·rw[aeo ha]
  simp only[aaM,aaJ]
  by_cases h3:e9 0 l>3000
  ·simp only[h3,aeq,ael,aaJ];exact⟨true,rfl,λh=>by cases h⟩
  ·simp only[h3,aer,aaL,aem,aaJ]
   refine⟨_,rfl,λhb=> ?_⟩
   have h2:l.length<=200:=by
    have:(l.length:Int)<=200:=by simpa using hb
    omega
   refine⟨h2,λf hf=> ?_⟩
   have:=(yn l 0 (abk _) (by omega) hc).2 f hf
   omega
def veq(v w:aE):Bool:=Mp.ieq v.type0.base w.type0.base&&(Mp.ieq v.type0.bits w.type0.bits&&(Mp.seq v.type0.name0 w.type0.name0&&(Mp.beq v.type0.opt w.type0.opt&&(Mp.beq v.type0.err w.type0.err&&(Mp.ieq v.n w.n&&(Mp.beq v.null w.null&&(Mp.seq v.err w.err&&(Mp.ieq v.of0.base w.of0.base&&(Mp.ieq v.of0.bits w.of0.bits&&(Mp.seq v.of0.name0 w.of0.name0&&(Mp.beq v.of0.opt w.of0.opt&&Mp.beq v.of0.err w.of0.err)))))))))))
theorem ON{a b:ByteArray}:Mp.seq a b=true↔a=b:=by
 obtain⟨a⟩:=a
 obtain⟨b⟩:=b
 show(a==b)=true↔_
 simp
theorem JN(s:ByteArray):Mp.seq s s=true:=ON.mpr rfl
theorem Kq(v:aE):veq v v=true:=by
 unfold veq
 simp[Mp.ieq,Mp.beq,JN]
def FL(a b:b9):Bool:=(a.kind==b.kind)&&(veq a.value b.value&&(a.stop==b.stop))
theorem FM(a b:b9)(ha:a.trace=[])(hb:b.trace=[]):Tf (a,b,())=some (FL a b,()):=by
 have hl:pd (0,a,b,())=some (.inr ()):=by
  rw[pd]
  simp[ha]
 have hv:∀v w:aE,(Mp.ieq v.type0.base w.type0.base&&(Mp.ieq v.type0.bits w.type0.bits&&(Mp.seq v.type0.name0 w.type0.name0&&(Mp.beq v.type0.opt w.type0.opt&&(Mp.beq v.type0.err w.type0.err&&(Mp.ieq v.n w.n&&(Mp.beq v.null w.null&&(Mp.seq v.err w.err&&(Mp.ieq v.of0.base w.of0.base&&(Mp.ieq v.of0.bits w.of0.bits&&(Mp.seq v.of0.name0 w.of0.name0&&(Mp.beq v.of0.opt w.of0.opt&&Mp.beq v.of0.err w.of0.err))))))))))))=veq v w:=λ_ _=>rfl
 rw[Tf]
 unfold FL
 simp only[hv]
 by_cases hk:a.kind=b.kind
 ·have hk1:(a.kind !=b.kind)=false:=by simpa using hk
  have hk2:(a.kind==b.kind)=true:=by simpa using hk
  rw[hk1,hk2]
  cases hq:veq a.value b.value
  ·simp
  ·by_cases hs:a.stop=b.stop
   ·have hs1:(a.stop !=b.stop)=false:=by simpa using hs
    simp[hs,ha,hb,hl]
   ·have hs1:(a.stop !=b.stop)=true:=by simpa using hs
    simp[hs]
 ·have hk1:(a.kind !=b.kind)=true:=by simpa using hk
  have hk2:(a.kind==b.kind)=false:=by simpa using hk
  rw[hk1,hk2]
  simp
theorem FN(a b:b9):Tn (a,b,())=some (FL a b,()):=by
 have hv:∀v w:aE,(Mp.ieq v.type0.base w.type0.base&&(Mp.ieq v.type0.bits w.type0.bits&&(Mp.seq v.type0.name0 w.type0.name0&&(Mp.beq v.type0.opt w.type0.opt&&(Mp.beq v.type0.err w.type0.err&&(Mp.ieq v.n w.n&&(Mp.beq v.null w.null&&(Mp.seq v.err w.err&&(Mp.ieq v.of0.base w.of0.base&&(Mp.ieq v.of0.bits w.of0.bits&&(Mp.seq v.of0.name0 w.of0.name0&&(Mp.beq v.of0.opt w.of0.opt&&Mp.beq v.of0.err w.of0.err))))))))))))=veq v w:=λ_ _=>rfl
 rw[Tn]
 unfold FL
 simp only[hv]
 cases (a.kind==b.kind)
 ·simp
 ·cases veq a.value b.value<;>simp
theorem rj(r:Item×Lg):(uP r).trace=[]:=by unfold uP;split<;>rfl
theorem qb(x:List aE)(hl:x.length<=4294967296):∀(j k:Nat),k+j=x.length->me (x,x,(k:Int),())=some (.inr ())
 |0,k,h=>by
  rw[me]
  have:¬(k:Int)<(x.length:Int):=by omega
  simp[this]
 |j+1,k,h=>by
  obtain⟨y,hy,hm,hd⟩:=bE (l:=x) (k:=k) (by omega)
  have h1:(k:Int)<(x.length:Int):=by omega
  have h2:(0:Int)<=(k:Int):=by omega
  have w:i64.wrap ((k:Int)+1)=((k+1:Nat):Int):=by rw[w64 (by omega) (by omega)];omega
  have ih:=qb x hl j (k+1) (by omega)
  have hv:(Mp.ieq y.type0.base y.type0.base&&(Mp.ieq y.type0.bits y.type0.bits&&(Mp.seq y.type0.name0 y.type0.name0&&(Mp.beq y.type0.opt y.type0.opt&&(Mp.beq y.type0.err y.type0.err&&(Mp.ieq y.n y.n&&(Mp.beq y.null y.null&&(Mp.seq y.err y.err&&(Mp.ieq y.of0.base y.of0.base&&(Mp.ieq y.of0.bits y.of0.bits&&(Mp.seq y.of0.name0 y.of0.name0&&(Mp.beq y.of0.opt y.of0.opt&&Mp.beq y.of0.err y.of0.err))))))))))))=true:=Kq y
  rw[me]
  simp only[h1,h2,aeq,ael,aaQ,hy,aaM,aaJ,hv,abh,aaL,aem,w]
  exact ih
theorem xV(x:List aE)(hl:x.length<=4294967296):Ti (x,x,())=some (true,()):=by
 have h:=qb x hl _ 0 (aaU _)
 rw[aa6]at h
 rw[Ti,h]
 simp
noncomputable def qt(l:List aB)(s:ByteArray)(args:List aE)(ck:Bool)(place:Int):Item×Lg:=
 match l[(cx l s).toNat]? with
 |some f=>Bw l ck place (cx l s).toNat f (args.map itm)
 |none=>(cp 0,lg0 l)
theorem xm{l:List aB}{s:ByteArray}{args:List aE}{k:Nat}{f:aB}(A:GP l s args k f)(ck:Bool)(place:Int):qt l s args ck place=Bw l ck place k f (args.map itm):=by
 unfold qt
 rw[A.name,aaQ,A.get]
structure GS (l:List aB) (args:List aE):Prop where
 len:l.length<=3000
 code:∀f∈l,f.code.length<=3000
 args:args.length<=4294967296
section
variable {l:List aB} {s:ByteArray} {args:List aE} (F:GS l args)
include F
theorem Fv(h:dt l s args=0)(ck:Bool){place:Int}(hp:∀k f,GP l s args k f->place<f.places):
 NY (l,cx l s,args,ck,place,())=some (l,ck,(qt l s args ck place).2.steps,place,(qt l s args ck place).2.high,Dv (qt l s args ck place).2,(qt l s args ck place).2.counts,(qt l s args ck place).2.seen.map val,uP (qt l s args ck place),()):=by
 obtain⟨k,f,A⟩:=vO F.len F.code h
 rw[A.name]
 exact Yc A F.args ck place (hp k f A) (xm A ck place)
theorem RC(h:dt l s args=0)(ck:Bool){place:Int}(hp:∀k f,GP l s args k f->place<f.places):
 Q_ (l,s,args,ck,place,())=some ((qt l s args ck place).1,Log.mk (qt l s args ck place).2.kind (qt l s args ck place).2.stop (qt l s args ck place).2.steps (qt l s args ck place).2.counts (qt l s args ck place).2.high (qt l s args ck place).2.seen place,()):=by
 obtain⟨k,f,A⟩:=vO F.len F.code h
 exact Yu A F.args ck place (hp k f A) (xm A ck place)
theorem Q2(h:dt l s args=0)(ck:Bool)(place:Int):∃g,Left l 1 g (qt l s args ck place):=by
 obtain⟨k,f,A⟩:=vO F.len F.code h
 rw[xm A]
 exact⟨_,zu A ck place⟩
omit F in
theorem nC:∀(k:Nat) (f:aB),GP l s args k f->(-1:Int)<f.places:=λk f A=>by
 obtain⟨_,p0,p1,_⟩:=A.runs.fns f (aaV A.get)
 omega
noncomputable def LV(l:List aB)(s:ByteArray)(args:List aE)(ck:Bool):b9:=if dt l s args=0 then uP (qt l s args ck (-1))else b9.mk 0 (val (cp 0)) 0 []
theorem RD(ck:Bool):Q7 (l,s,args,ck,())=some (dt l s args,LV l s args ck,()):=by
 rw[Q7]
 unfold LV
 simp only[pw l F.len F.code s args F.args,aaM,aaJ]
 by_cases h:dt l s args=0
 ·have e:=Fv F h ck (place:= -1) nC
  simp only[h,ael,bne_self_eq_false,aaL,aem,e,aaJ]
 ·have hb:(dt l s args !=0)=true:=by simpa using h
  simp only[hb,h,ael,aem]
  rfl
theorem UH(ck:Bool):Q8 (l,s,args,ck,())=some (dt l s args,LV l s args ck,()):=by
 rw[Q8]
 unfold LV
 simp only[z_ l F.len F.code s args F.args,aaM,aaJ]
 by_cases h:dt l s args=0
 ·have e:=RC F h ck (place:= -1) nC
  obtain⟨g,L⟩:=Q2 F h ck (-1)
  simp only[h,ael,bne_self_eq_false,aaL,aem,e,O5 L,aaJ]
 ·have hb:(dt l s args !=0)=true:=by simpa using h
  simp only[hb,h,ael,aem]
  rfl
noncomputable def yS(l:List aB)(s:ByteArray)(args:List aE):Bool:=if dt l s args=0 then FL (uP (qt l s args true (-1))) (uP (qt l s args false (-1)))else false
theorem UI:Tg (l,s,args,())=some (yS l s args,dt l s args,()):=by
 rw[Tg]
 unfold yS
 simp only[pw l F.len F.code s args F.args,aaM,aaJ]
 by_cases h:dt l s args=0
 ·have e:=Fv F h true (place:= -1) nC
  have e2:=Fv F h false (place:= -1) nC
  simp only[h,ael,bne_self_eq_false,aaL,aem,e,e2,FN,aaJ]
 ·have hb:(dt l s args !=0)=true:=by simpa using h
  simp only[hb,h,ael,aem]
theorem UJ:Th (l,s,args,())=some (yS l s args,dt l s args,()):=by
 rw[Th]
 unfold yS
 simp only[UH F,aaM,aaJ]
 by_cases h:dt l s args=0
 ·have o:∀ck,LV l s args ck=uP (qt l s args ck (-1)):=λck=>by unfold LV;rw[aep h]
  simp only[h,ael,bne_self_eq_false,aaL,aem,o,FM _ _ (rj _) (rj _),aaJ]
 ·have hb:(dt l s args !=0)=true:=by simpa using h
  simp only[hb,h,ael,aem]
end
end Go.Proofs.YtcghbgmmgcljkaaGreatDoor
end
section
namespace Go.Proofs.YtcghbgmmgcljkaaGreatDoor
set_option maxRecDepth 20000
set_option maxHeartbeats 4000000
theorem mT(args:List aE)(hl:args.length<=4294967296):∀(j k:Nat) (out:List aE),k+j=args.length->out.length=k->
 mf (args,(args.length:Int),(k:Int),out,())=some (out++(args.drop k).map (λv=>val (itm v)),())
 |0,k,out,h,ho=>by
  rw[mf,bZ (by omega)]
  have:¬(k:Int)<(args.length:Int):=by omega
  simp[this]
 |j+1,k,out,h,ho=>by
  obtain⟨x,hx,hm,hd⟩:=bE (l:=args) (k:=k) (by omega)
  have h1:(k:Int)<(args.length:Int):=by omega
  have h2:(0:Int)<=(k:Int):=by omega
  have w:IntKind.i64.wrap ((k:Int)+1)=((k+1:Nat):Int):=by rw[w64 (by omega) (by omega)];omega
  have hle:∀v:aE,out.length+[v].length<=4294967296:=by intro v;simp;omega
  have ih:=mT args hl j (k+1) (out++[val (itm x)]) (by omega) (by simp;omega)
  rw[mf,hd]
  simp only[h1,h2,aeq,ael,aaQ,hx,aaM,aaJ,hle,w]
  refine ad4 ih ?_
  rw[aaY,abW]
  rfl
theorem OC(args:List aE)(hl:args.length<=4294967296):Tj (args,())=some (args.map (λv=>val (itm v)),()):=by
 have h:=mT args hl _ 0 [] (aaU _) rfl
 rw[aa6,aa8,aaZ]at h
 rw[Tj,h]
 rfl
theorem mU(args:List aE)(hl:args.length<=4294967296):∀(j k:Nat) (out:List aE),k+j=args.length->out.length=k->
 mg (args,(k:Int),out,())=some (out++(args.drop k).map (λv=>val (itm v)),())
 |0,k,out,h,ho=>by
  rw[mg,bZ (by omega)]
  have:¬(k:Int)<(args.length:Int):=by omega
  simp[this]
 |j+1,k,out,h,ho=>by
  obtain⟨x,hx,hm,hd⟩:=bE (l:=args) (k:=k) (by omega)
  have h1:(k:Int)<(args.length:Int):=by omega
  have h2:(0:Int)<=(k:Int):=by omega
  have w:IntKind.i64.wrap ((k:Int)+1)=((k+1:Nat):Int):=by rw[w64 (by omega) (by omega)];omega
  have hle:∀v:aE,out.length+[v].length<=4294967296:=by intro v;simp;omega
  have ih:=mU args hl j (k+1) (out++[val (itm x)]) (by omega) (by simp;omega)
  rw[mg,hd]
  simp only[h1,h2,aeq,ael,aaQ,hx,aaM,aaJ,Rb,Ra,hle,w]
  refine ad4 ih ?_
  rw[aaY,abW]
  rfl
theorem OD(args:List aE)(hl:args.length<=4294967296):Tk (args,())=some (args.map (λv=>val (itm v)),()):=by
 have h:=mU args hl _ 0 [] (aaU _) rfl
 rw[aa6,aa8,aaZ]at h
 rw[Tk,h]
 rfl
section
variable {l:List aB} {s:ByteArray} {args:List aE} (F:GS l args)
include F
end
def t8:aF:=aF.mk 2 8 (aaK #[]) false false
def GL:aQ:=aQ.mk 0 200 0 t8 (aaK #[])
def GK:aQ:=aQ.mk 0 100 0 t8 (aaK #[])
def GM:aQ:=aQ.mk 5 5 0 t8 (aaK #[])
def CF:aQ:=aQ.mk 17 0 0 (aF.mk 0 0 (aaK #[]) false false) (aaK #[])
def kF:aB:=aB.mk (aaK #[102]) 0 0 t8 [GL,GK,GM,CF]
theorem Nt:bD GL=0/\bD GK=0/\bD GM=2/\bD CF=1:=by
 unfold bD GL GK GM CF
 simp
theorem sA{a:Nat}{h:Int}(r:Reach kF a h):(a=0/\h=0)\/(a=1/\h=1)\/(a=2/\h=2)\/(a=3/\h=1):=by
 induction r with
 |start=>exact .inl ⟨rfl,rfl⟩
 | @step a h c b k r hc hk hw hb ih=>
  rcases ih with⟨e1,e2⟩|⟨e1,e2⟩|⟨e1,e2⟩|⟨e1,e2⟩
  ·subst e1 e2
   have:c=GL:=(abO hc).symm
   subst this
   rcases cU.mp hw with⟨h1,_⟩|⟨_,h2,h3⟩
   ·simp[d5,GL]at h1
   ·right;left
    refine⟨by omega,?_⟩
    rw[h3];simp[cF,bD,b_,GL]
  ·subst e1 e2
   have:c=GK:=(abO hc).symm
   subst this
   rcases cU.mp hw with⟨h1,_⟩|⟨_,h2,h3⟩
   ·simp[d5,GK]at h1
   ·right;right;left
    refine⟨by omega,?_⟩
    rw[h3];simp[cF,bD,b_,GK]
  ·subst e1 e2
   have:c=GM:=(abO hc).symm
   subst this
   rcases cU.mp hw with⟨h1,_⟩|⟨_,h2,h3⟩
   ·simp[d5,GM]at h1
   ·right;right;right
    refine⟨by omega,?_⟩
    rw[h3];simp[cF,bD,b_,GM]
  ·subst e1 e2
   have:c=CF:=(abO hc).symm
   subst this
   rcases cU.mp hw with⟨h1,_⟩|⟨h1,_,_⟩
   ·simp[d5,CF]at h1
   ·simp[iz,CF]at h1
theorem D0:¬gZ kF:=by
 rintro⟨a,h,c,r,hc,hF⟩
 obtain⟨t1,t2,t3,t4⟩:=Nt
 have hl:(kF.code.length:Int)=4:=rfl
 have two:∀h',Reach kF a h'->h'=h:=by
  intro h' r'
  have q1:=sA r
  have q2:=sA r'
  omega
 rcases hF with hF|⟨_,k,hw⟩|⟨h',r',hne⟩
 ·rcases sA r with⟨e1,e2⟩|⟨e1,e2⟩|⟨e1,e2⟩|⟨e1,e2⟩
  ·subst e1 e2
   have:c=GL:=(abO hc).symm
   subst this
   exact hF ⟨by omega,by omega⟩
  ·subst e1 e2
   have:c=GK:=(abO hc).symm
   subst this
   exact hF ⟨by omega,by omega⟩
  ·subst e1 e2
   have:c=GM:=(abO hc).symm
   subst this
   exact hF ⟨by omega,by omega⟩
  ·subst e1 e2
   have:c=CF:=(abO hc).symm
   subst this
   exact hF ⟨by omega,by omega⟩
 ·rw[hl]at hw
  rcases sA r with⟨e1,e2⟩|⟨e1,e2⟩|⟨e1,e2⟩|⟨e1,e2⟩
  ·subst e1 e2
   have:c=GL:=(abO hc).symm
   subst this
   rcases cU.mp hw with⟨h1,_⟩|⟨_,h2,h3⟩
   ·simp[d5,GL]at h1
   ·omega
  ·subst e1 e2
   have:c=GK:=(abO hc).symm
   subst this
   rcases cU.mp hw with⟨h1,_⟩|⟨_,h2,h3⟩
   ·simp[d5,GK]at h1
   ·omega
  ·subst e1 e2
   have:c=GM:=(abO hc).symm
   subst this
   rcases cU.mp hw with⟨h1,_⟩|⟨_,h2,h3⟩
   ·simp[d5,GM]at h1
   ·omega
  ·subst e1 e2
   have:c=CF:=(abO hc).symm
   subst this
   rcases cU.mp hw with⟨h1,_⟩|⟨h1,_,_⟩
   ·simp[d5,CF]at h1
   ·simp[iz,CF]at h1
 ·exact hne (two h' r')
theorem Nu:dO [kF]=0:=by kernel_rfl
theorem LQ:cx [kF] (aaK #[102])=0:=by kernel_rfl
theorem DY:dt [kF] (aaK #[102]) []=0:=by
 have hc:eL [kF]=0:=jo.mpr ⟨Nu,by
  rintro⟨f,hf,hF⟩
  rw[aby]at hf
  subst hf
  exact D0 hF⟩
 unfold dt
 rw[aep hc,LQ]
 rfl
theorem LR:GS [kF] []:=⟨by simp,by intro f hf;rw[aby]at hf;rw[hf];simp[kF],by simp⟩
theorem LS:(Bw [kF] true (-1) 0 kF []).2.kind=1/\(Bw [kF] true (-1) 0 kF []).2.stop=1:=⟨by kernel_rfl,by kernel_rfl⟩
theorem DZ:(Bw [kF] false (-1) 0 kF []).2.kind=0/\(Bw [kF] false (-1) 0 kF []).1.n=44:=⟨by kernel_rfl,by kernel_rfl⟩
theorem rf:Q6 ()=some (true,()):=by
 have r1:=RD LR (s:=aaK #[102]) true
 have r2:=RD LR (s:=aaK #[102]) false
 have e:∀ck,LV [kF] (aaK #[102]) [] ck=uP (Bw [kF] ck (-1) 0 kF []):=by
  intro ck
  unfold LV qt
  rw[aep DY,LQ]
  rfl
 rw[DY,e]at r1 r2
 have o1:(uP (Bw [kF] true (-1) 0 kF [])).kind=1/\(uP (Bw [kF] true (-1) 0 kF [])).stop=1:=by
  unfold uP
  rw[aeo (by rw[LS.1];decide)]
  exact LS
 have o2:(uP (Bw [kF] false (-1) 0 kF [])).value.n=44:=by
  unfold uP
  rw[aep DZ.1]
  exact DZ.2
 unfold kF GL GK GM CF t8 at r1 r2 o1 o2
 rw[Q6]
 simp only[r1,r2,o1,o2,aaM,aaJ,beq_self_eq_true,ael]
end Go.Proofs.YtcghbgmmgcljkaaGreatDoor
end
section
namespace Go.Proofs.YtcghbgmmgcljkaaGreatDoor
set_option maxRecDepth 20000
set_option maxHeartbeats 4000000
section
variable (l:List aB) (x:nS) (hl:l.length<=4294967296) (hc:∀f∈l,f.code.length<=4294967296) (ha:x.args.length<=4294967296)
include hl hc ha
theorem XW:n_6 (l,x,())=some (true,()):=by
 obtain⟨b,hb,hb2⟩:=Ow l hl hc
 rw[n_6]
 simp only[hb,aaM,aaJ]
 cases b
 ·obtain⟨h1,h2⟩:=hb2 rfl
  have F:GS l x.args:=⟨by omega,h2,ha⟩
  simp only[aaL,aem,UI F,UJ F,OC _ ha,OD _ ha,aaJ,xV (x.args.map (λv=>val (itm v))) (by rw[aaS];exact ha),ael,beq_self_eq_true,rf]
 ·simp only[ael,rf,aaJ]
end
end Go.Proofs.YtcghbgmmgcljkaaGreatDoor
end
section
namespace Go.Proofs.YtcghbgmmgcljkaaGreatDoor
open Go.Tx
theorem Mh{ns:List Nat}:∀{i n:Nat},ns[i]?=some n->n<=ns.sum:=by
 induction ns with
 |nil=>intro i n h;simp at h
 |cons a r ih=>
  intro i n h
  cases i with
  |zero=>simp at h;subst h;simp
  |succ i=>have:=ih (i:=i) (by simpa using h);simp;omega
theorem OR{ns:List Nat}(h:∀n∈ns,1<=n):ns.length<=ns.sum:=by
 induction ns with
 |nil=>simp
 |cons a r ih=>
  have h1:=h a aa2
  have h2:=ih λn hn=>h n (aaX _ hn)
  simp;omega
theorem Px{e:Ty vw.ι}{x:den vw.N e}{m:Nat}(h:Bk vw e x m):1<=m:=by
 cases h<;>omega
theorem MJ{e:Ty SN}{xs:List (den NN e)}{m:Nat}(h:Bk vw (.sl e) xs m):xs.length+1<=m/\∀x∈xs,∃n,n+1<=m/\Bk vw e x n:=by
 cases h with
 |sl ns h1 h2 h3=>
  have h1:ns.length=xs.length:=h1
  have hp:∀n∈ns,1<=n:=λn hn=>by
   obtain⟨i,hi⟩:=ace hn
   obtain⟨x,hx⟩:∃x,xs[i]?=some x:=⟨_,aaO (by have:=(aaP.1 hi).1;omega)⟩
   exact Px (h2 i x n hx hi)
  have:=OR hp
  refine⟨by omega,λx hx=> ?_⟩
  obtain⟨i,hi⟩:=ace hx
  obtain⟨n,hn⟩:∃n,ns[i]?=some n:=⟨_,aaO (by have:=(aaP.1 hi).1;omega)⟩
  exact⟨n,by have:=Mh hn;omega,h2 i x n hi hn⟩
theorem Py{i:SN}{x:NN i}{m:Nat}(h:Bk vw (.st i) x m):∀l∈gG i x,∃n,n+1<=m/\Bk vw l.t l.x n:=by
 cases h with
 |st ns h1 h2 h3=>
  intro l hl
  obtain⟨j,hj⟩:=ace hl
  have h1:ns.length=(gG i x).length:=h1
  obtain⟨n,hn⟩:∃n,ns[j]?=some n:=⟨_,aaO (by have:=(aaP.1 hj).1;omega)⟩
  exact⟨n,by have:=Mh hn;omega,h2 j l n hj hn⟩
theorem yE{l:List aB}{m:Nat}(h:Bk vw (.sl (.st .myFuncT)) l m)(hm:m<=1048576):l.length<=4294967296/\∀f∈l,f.code.length<=4294967296:=by
 obtain⟨h1,h2⟩:=MJ h
 refine⟨by omega,λf hf=> ?_⟩
 obtain⟨n,hn,hb⟩:=h2 f hf
 obtain⟨k,hk,hc⟩:=Py hb ⟨.sl (.st .myCodeT),f.code⟩ (by simp[gG])
 have:f.code.length+1<=k:=(MJ hc).1
 omega
theorem GV{x:nS}{m:Nat}(h:Bk vw (.st .askedT) x m)(hm:m<=1048576):x.args.length<=4294967296:=by
 obtain⟨k,hk,hc⟩:=Py h ⟨.sl (.st .myValueT),x.args⟩ (by simp[gG])
 have:x.args.length+1<=k:=(MJ hc).1
 omega
theorem pU(l:List aB)(x:nS)(h0:Ok vw (.sl (.st .myFuncT)) l)(h1:Ok vw (.st .askedT) x)(m0:Nat)(b0:Bk vw (.sl (.st .myFuncT)) l m0)(m1:Nat)(b1:Bk vw (.st .askedT) x m1)(hm:m0+m1<=1048576):n_6 (l,x,())=some (true,()):=
 XW l x (yE b0 (by omega)).1 (yE b0 (by omega)).2 (GV b1 (by omega))
end Go.Proofs.YtcghbgmmgcljkaaGreatDoor
end
section
namespace Go.Proofs.YtcghbgmmgcljkaaGreatDoor.stackModes
open Go.ChangeShapes Go.WideShapes Go.ChangeAt Go.RowKit Go.Awp Go.Tx
open Go.Proofs.Tryz (prog)
theorem D3:laidOutB prog=true:=by kernel_rfl
theorem own:ownKnob prog.godebug=none:=by kernel_rfl
theorem Hj(x0:(List aB))(x1:nS)(h0:Ok vw (.sl (.st .myFuncT)) x0)(h1:Ok vw (.st .askedT) x1)(m0:Nat)(b0:Bk vw (.sl (.st .myFuncT)) x0 m0)(m1:Nat)(b1:Bk vw (.st .askedT) x1 m1)(hm:m0+m1<=1048576):l_ prog 6 [.d (bC szN Nb (.sl (.st .myFuncT)) x0), .d (bC szN Nb (.st .askedT) x1)] [] (.d (.v (.bool true))) []:=
 fH (by kernel_rfl) (Rn (x0,x1,()) (true,()) (.lf .bool true) (pU x0 x1 h0 h1 m0 b0 m1 b1 hm) rfl)
noncomputable def w0(os:Os):World:=World.laidAll prog os Rows.stackModesUptoRow.laid
theorem HC(os:Os):laidMetH prog Rows.stackModesUptoRow.laid ((w0 os).forCall (λ_ _=>0) ⟨#[], #[.slice none 0 0, .agg #[.string ab4, .slice none 0 0, .bool false]],[]⟩).memory:=by
 rw[MakeChecks.laidMetH_plain _ _ _ (by kernel_rfl)];exact laidMet_laidAll _ (by kernel_rfl) (by kernel_rfl)
set_option maxRecDepth 100000 in
theorem reads(os:Os){H:Type}(enc:TypeId×Value->H):DataW.whole enc prog ((w0 os).forCall (λ_ _=>0) ⟨#[], #[.slice none 0 0, .agg #[.string ab4, .slice none 0 0, .bool false]],[]⟩).memory Tryz.f6.params.toList Rows.stackModesSpec.vars false #[.slice none 0 0, .agg #[.string ab4, .slice none 0 0, .bool false]].toList 8=some ([.nil, .agg [.lit (.string []), .nil, .lit (.bool false)]],[],[]):=by kernel_rfl
set_option maxRecDepth 100000 in
theorem Q3(os:Os)(started:os.Started)(H:Type)(enc:TypeId×Value->H)(F:Stop.Interp):
 ReturnsInHanded {} Tryz.checked os 6 .any ((Rows.OpenSpec.upto Rows.stackModesSpec).preRow enc prog Tryz.f6 Rows.stackModesUptoRow.domain false Rows.stackModesUptoRow.laid) (((Rows.OpenSpec.upto Rows.stackModesSpec).at F).post enc prog Tryz.f6 false true false false):=by
 have hok:Input.okWideB prog ((w0 os).forCall (λ_ _=>0) ⟨#[], #[.slice none 0 0, .agg #[.string ab4, .slice none 0 0, .bool false]],[]⟩) 6 ⟨#[], #[.slice none 0 0, .agg #[.string ab4, .slice none 0 0, .bool false]],[]⟩=true:=by kernel_rfl
 refine returnsInHanded_of_row (C:=Tryz.checked) (s:=(Rows.OpenSpec.upto Rows.stackModesSpec)) own started (by kernel_rfl) Tryz.func6
  ⟨w0 os,λ_ _=>0,⟨#[], #[.slice none 0 0, .agg #[.string ab4, .slice none 0 0, .bool false]],[]⟩,World.laidAll_os _ _ _,World.shaped_of_ZipB (by kernel_rfl) (by kernel_rfl),(Input.okWide_of_okWideB (base:=0) hok).1,(Input.okWide_of_okWideB hok).2,
   OpenSpec.preRow_of_cond 8 (reads os enc) (by kernel_rfl) (λk hk=>by cases hk;kernel_rfl) (by kernel_rfl) (HC os),
   by simp only[Assume.holds];exact⟨by simp,by simp,λ_=>Modest.zero,by simp,by simp⟩⟩ ?_
 intro W base args ds gs before hval0 hW _ hcond _ hL _ _
 have hval:∀(j:Nat) t v,Tryz.f6.params[j]?=some t->args[j]?=some v->Value.okWide prog W .any base t v:=hval0
 have hW':=hW
 obtain⟨p,q,hA0,hV,rfl,hfz,hnd⟩:=hW'
 have hA:DataW.TrodAll enc prog W 0 (λ_=>true) true Tryz.f6.params.toList args.toList ds p:=hA0
 rw[Tryz.params6]at hA hval
 obtain⟨v0,vs0,d0,ds0,p0,q0,ha0,rfl,rfl,h0,r0⟩:=trodAll_cons hA
 obtain⟨v1,vs1,d1,ds1,p1,q1,ha1,rfl,rfl,h1,r1⟩:=trodAll_cons r0
 subst ha1
 obtain⟨rfl,rfl,rfl⟩:=trodAll_nil r1
 obtain rfl:args= #[v0,v1]:=by cases args;simp_all
 obtain⟨rfl,rfl⟩:=trodVars_none hV
 have hk:Rows.uptoBulkAll ([d0,d1]++[])<=1048576:=of_decide_eq_true (hcond _ rfl)
 have hlt0:∀x∈p0,x.block<W.heap.size:=λx hx=>by simpa using hW.lt x (by simp[hx])
 have hd0:=kg d0
 have hlt1:∀x∈p1,x.block<W.heap.size:=λx hx=>by simpa using hW.lt x (by simp[hx])
 have hd1:=kg d1
 obtain⟨x0,ok0,hr0,hb0⟩:=uO facts (τ:=(.sl (.st .myFuncT))) rfl (hval 0 22 v0 rfl rfl) h0
 obtain⟨x1,ok1,hr1,hb1⟩:=uO facts (τ:=(.st .askedT)) rfl (hval 1 25 v1 rfl rfl) h1
 have hm:dQ d0+dQ d1<=1048576:=by
  simp only[acK,Rows.uptoBulkAll]at hk
  omega
 refine((Hj x0 x1 ok0 ok1 _ hb0 _ hb1 hm).closed (W:=W) (vs:= #[v0,v1]) (DK hL) ⟨rfl,λi c x hc hx=> ?_⟩).mono λe W' ⟨he,hb⟩=> ?_
 ·match i with
  |0=>simp at hc hx;subst hc;subst hx;exact .d hr0
  |1=>simp at hc hx;subst hc;subst hx;exact .d hr1
  |i+2=>simp at hc
 subst he
 exact⟨_,rfl,_,_,_,[],_,[],hW,trodAll_cons_mk (shut_bool Tryz.underlying4 _) trodAll_mk0,
  (trodAll_cons_mk (Below.trod D3 (by kernel_rfl) (of_decide_eq_true (by kernel_rfl)) h0 hb hlt0) (trodAll_cons_mk (Below.trod D3 (by kernel_rfl) (of_decide_eq_true (by kernel_rfl)) h1 hb hlt1) trodAll_mk0)),rfl,hb.frame _,(λh=>by cases h)⟩
theorem row:Rows.StackModesUptoSaid:=
 OpenClaim.holds_of_cond 6 Tryz.f6 rfl rfl rfl rfl rfl rfl rfl ⟨rfl,rfl,rfl,rfl,rfl⟩ rfl rfl rfl rfl rfl (by kernel_rfl) Tryz.func6 (by kernel_rfl)
  (of_decide_eq_true (by kernel_rfl)) (by unfold Func.isWrapper;first|(rw[aep (by decide+kernel)];kernel_rfl)|(rw[aeo (by decide+kernel)];exact⟨rfl,rfl⟩))
  (λos started H enc _ F=>by rw[OpenClaim.pre_eq_preRow];exact Q3 os started H enc F)
theorem proved:Rows.StackModesUptoCardSaid:=
 Claim7.holds_tied_plain_at .later [] [.listed, .data] true (true, "9903706971e3bb189f6f1d2425e4062bf0ab55d30c817c4194f043affe1c4612") false row (λ_ h=>by cases h) (by kernel_rfl) (λ_ h=>by cases h) stackModesUpto_row_tie rfl ⟨rfl,rfl⟩ (by kernel_rfl) rfl
  (λf fn hf hfn=>by
    obtain rfl:f=6:=abO ((show prog.funcNamed "mandrel/mandrellaw13.StackModes" =some 6 by kernel_rfl).symm.trans hf)|>.symm
    obtain rfl:fn=Tryz.f6:=(abO (Tryz.func6.symm.trans hfn)).symm
    exact⟨by kernel_rfl,λj t ht=>by
     rw[Tryz.params6]at ht
     have hm:t∈([22,25]:List TypeId):=by simpa using Array.mem_of_getElem? ht
     have hall:(([22,25]:List TypeId).all λu=> !prog.wantsStandIn u)=true:=by kernel_rfl
     exact(show prog.wantsStandIn t=false by simpa using aa1.1 hall t hm)⟩)
  (by kernel_rfl)
end Go.Proofs.YtcghbgmmgcljkaaGreatDoor.stackModes
end
