/-
  Texts of this claim, joined by a program of mine: what the theorem uses.
-/
import Derived.Test.YtcghbgmmgcljkaaGreatDoorPkI
import Derived.Test.YtcghbgmmgcljkaaGreatDoorPkF
import Derived.Test.YtcghbgmmgcljkaaGreatDoorCards
import Derived.Test.YtcghbgmmgcljkaaGreatDoorTie
import Derived.WalkKit
import Derived.ProofKit
import Derived.OpenShut
import Derived.LaidMore
import Derived.Lay
import Derived.SevenTiedAt
import Derived.Stop.Joined
import Derived.Deep.DeepHandedRow
open Bool renaming and_eq_true→Z8,false_eq_true→Z0,false_or→ab1,not_false→aaZ,not_true→aax
open ByteArray renaming empty→abh,mk→ZZ
open Int renaming le_refl→aaz,mul_nonneg→acu,natCast_zero→aao,reduceBEq→aaO,toNat→aaq,toNat_natCast→Z5,toNat_zero→aaB
open List renaming all_eq_true→aaf,any_cons→ab0,append_assoc→abj,append_nil→abY,drop→ack,drop_eq_getElem_cons→abO,drop_replicate→ado,drop_zero→aap,foldl_cons→acI,getD_eq_getElem?_getD→aa0,getElem?_append_left→aan,getElem?_append_right→aaj,getElem?_eq_getElem→Z3,getElem?_eq_some_iff→Z4,getElem?_of_mem→abs,length_append→aas,length_cons→aaa,length_drop→aaE,length_map→Z7,length_replicate→aaP,length_reverse→aaY,length_set→aaR,length_take→aaM,map_cons→aac,map_drop→aa7,map_map→aaF,map_nil→aaT,map_take→aa6,mem_cons→aai,mem_cons_of_mem→aab,mem_cons_self→aag,mem_of_getElem?→Z_,mem_singleton→aaN,nil_append→aad,replicate→aak,reverse_cons→ab3,set_append_right→acA,take→abb,take_append_of_le_length→abC,take_of_length_le→aaI,take_zero→acj
open Nat renaming add_sub_cancel→acM,sub_zero→aaK,zero_add→Z9
open Option renaming bind_eq_bind→Z1,bind_some→ZY,isNone_none→acb,isSome_some→acq
open Option.some renaming inj→aa3
open Sum renaming inl→aaG
noncomputable section
set_option linter.unusedSimpArgs false
set_option linter.unusedVariables false
section
namespace Go.Proofs.YtcghbgmmgcljkaaGreatDoor
set_option maxRecDepth 20000
set_option maxHeartbeats 4000000
theorem Jb{l:List aC}{k b e:Nat}{argv:List aE}{ck:Bool}{place d:Int}{g:Lg}(hd:30<d):
 n_40s78a4 ((k:Int),(b:Int),(e:Int),d,l,ck,g.steps,place,g.high,none,argv,g.counts,g.seen.map val,())=
  some ((b:Int),(e:Int),l,ck,g.steps,place,g.high,some (bX.mk 2 0),argv,g.counts,g.seen.map val,val (cj 0),()):=by
 rw[n_40s78a4]
 have hd':d>30:=hd
 simp only[hd',adE,adz,d9,Z1,ZY,Z5]
 rfl
theorem N_{l:List aC}(R:nL l)(s:ByteArray):LC (l,s,())=some (max (cw l s) 0,decide (cw l s>=0),0,()):=by
 have hv:=pm l (by have:=R.len;omega) (λf hf=>by have:=(R.fns f hf).2.2.2.2.1;omega)
 rw[LC]
 simp only[hv,ny l (by have:=R.len;omega),Z1,ZY,R.valid,bne_self_eq_false,Z0,adA]
theorem LX(st:List Item){b:Nat}(hb:b<=st.length):abb (st.length-b) (st.map val).reverse=((st.drop b).map val).reverse/\abb b (ack (st.length-b) (st.map val).reverse)=((st.take b).reverse).map val:=by
 constructor
 ·rw[List.take_reverse,Z7,show st.length-(st.length-b)=b by omega,aa7]
 ·rw[List.drop_reverse,Z7,show st.length-(st.length-b)=b by omega,aaI (by simp;omega),List.map_reverse,aa6]
theorem p93{l:List aC}(R:nL l){c:aQ}{k b:Nat}(hk:cw l c.name0=(k:Int))(hb:c.b=(b:Int)){st:List Item}(hbl:b<=st.length)(hst:st.length<=65)(f:aC){d at1:Int}(hd1:1<=d)(hd2:d<=30)(ck:Bool)(place:Int)(pl:List Item)(g:Lg)
 {x:Item}{g2:Lg}(hc:g2.counts.length=g.counts.length){en:Option bX}
 (h40:n_40s78a4 ((k:Int),((st.length-b:Nat):Int),(b:Int),d+1,l,ck,g.steps,place,g.high,none,(st.map val).reverse,g.counts,g.seen.map val,())=
   some (((st.length-b:Nat):Int),(b:Int),l,ck,g2.steps,place,g2.high,en,(st.map val).reverse,g2.counts,g2.seen.map val,val x,())):
 n_93sae8a (c,tu f d at1 none l ck g.steps place g.high none pl st g.counts g.seen ())=
  some (if en.isNone=true then tu f d at1 none l ck g2.steps place (aV d g2.high (st.length-b+1)) en pl (x::st.drop b) g2.counts g2.seen ()
   else tu f d at1 none l ck g2.steps place g2.high en pl (st.drop b) g2.counts g2.seen ()):=by
 have hp:=fA f d at1 none l ck g2.steps place g2.high en pl (st.drop b) g2.counts g2.seen x (by rw[aaE];omega)
 rw[aaE]at hp
 unfold tu at hp
 obtain⟨c1,c2⟩:=LX st hbl
 have hL:(((st.map val).reverse).length:Int)=(st.length:Int):=by rw[lO]
 have w:IntKind.i64.wrap ((st.length:Int) -(b:Int))=((st.length-b:Nat):Int):=by rw[w64 (by omega) (by omega)];omega
 have w2:IntKind.i64.wrap (d+1)=d+1:=w64 (by omega) (by omega)
 have i1:(0:Int)<=((st.length-b:Nat):Int):=by omega
 have i2:((st.length-b:Nat):Int)<=(st.length:Int):=by omega
 have i3:(st.length:Int)<=(st.length:Int):=aaz _
 have hmax:max (k:Int) 0=(k:Int):=by omega
 have e1:st.length-(st.length-b)=b:=by omega
 have e2:st.length-b-aaq 0=st.length-b:=rfl
 have e3:st.length-b<=((st.map val).reverse).length:=by rw[lO];omega
 rw[n_93sae8a]
 unfold tu
 simp only[hL,hb,w,i1,i2,i3,and_self,adz,aaz,N_ R,hk,hmax,Z1,ZY,Z5,e1,e2,w2,h40,hc,e3,c1]
 cases hen:en with
 |none=>
  rw[hen]at hp
  simp only[acb,adz,hp,hc,ZY]
 |some y=>simp only[Option.isNone_some,Z0,adA]
theorem MM{l:List aC}{f:aC}{c:aQ}(h:di l f c=true)(e:c.op=0):dZ c.type0=true:=by
 unfold di at h
 rw[adD e]at h
 simp only[Z8]at h
 exact h.1.2.1.1
theorem ya{l:List aC}{f:aC}{c:aQ}(h:di l f c=true)(e:c.op=2\/c.op=3)(h0:0<=f.places)(h1:f.places<=200):0<=c.a/\c.a<f.places:=by
 unfold di at h
 rw[adC (by omega),adD e]at h
 simp only[Z8,rng,adB]at h
 have w:IntKind.i64.wrap (f.places-1)=f.places-1:=w64 (by omega) (by omega)
 have:=h.1.1.1
 rw[w]at this
 omega
theorem Qr{l:List aC}{f:aC}{c:aQ}(h:di l f c=true)(e:c.op=5):(5<=c.a/\c.a<=17)/\cL c.type0=true:=by
 unfold di at h
 rw[adC (by omega),adC (by omega),adD e]at h
 simp only[Z8,rng,adB]at h
 exact⟨h.1.1.1,h.1.2⟩
theorem TA{l:List aC}{f:aC}{c:aQ}(h:di l f c=true)(e:c.op=6):18<=c.a/\c.a<=23:=by
 unfold di at h
 rw[adC (by omega),adC (by omega),adC (by omega),adD e]at h
 simp only[Z8,rng,adB]at h
 exact h.1.1.1
theorem Ak{l:List aC}{f:aC}{c:aQ}(h:di l f c=true)(e:c.op=7\/c.op=9\/c.op=10):cL c.type0=true:=by
 unfold di at h
 rw[adC (by omega),adC (by omega),adC (by omega),adC (by omega),adD e]at h
 simp only[Z8]at h
 exact h.1.2
theorem Gs{ck:Bool}{c:aQ}{at1:Int}{pl:List Item}{x:Item}{s:List Item}(e:c.op=7\/c.op=8\/c.op=9\/c.op=10\/c.op=11):cN ck c at1 pl (x::s)=il (bA ck c.op c.type0 x) at1 pl s:=by
 rw[cN,adC (by omega),adC (by omega),adC (by omega),adC (by omega),adC (by omega),adC (by omega),adC (by omega),adC (by omega),adD e]
 rfl
theorem kX{l:List aC}(R:nL l)(ck:Bool)(place:Int):∀(N:Nat) (f:aC) (d:Int) (a:Nat) (pl st:List Item) (g:Lg),OkA l f d a pl st->OkG l g->(d=1->(st.length:Int)<=g.high)->40000-g.steps<=(N:Int)->
 ∀(b e:Nat) (argv:List aE) (z:aE),vA b e l ck place argv z f d a g pl st (gJ l ck place N f d (a:Int) pl st g)
 |0,f,d,a,pl,st,g,A,G,hh,hN,b,e,argv,z=>by
  have hs:g.steps=40000:=by have:=G.s1;omega
  rw[gJ]
  refine .inr ⟨by simp[zu],?_⟩
  rw[hs,uh]
  simp only[zu,hs,G.stop]
 |N+1,f,d,a,pl,st,g,A,G,hh,hN,b,e,argv,z=>by
  obtain⟨c,hc,hcm,hcode,hal,hl3⟩:=A.code R
  have s0:=G.s0
  have s1:=G.s1
  have hst:=A.st_le R
  have hd1:=A.d1
  have hd2:=A.d2
  rw[gJ]
  by_cases hs:g.steps=40000
  ·rw[adD hs]
   refine .inr ⟨by simp[zu],?_⟩
   rw[hs,uh]
   simp only[zu,hs,G.stop]
  ·rw[adC hs]
   simp only[Z5,hc]
   obtain⟨hk,hw⟩:=jC R A.mem A.reach hc
   have ht:=hk.1
   have hr:=nw hcode
   have go:∀(at1:Int) (pl1 st1:List Item),cN ck c ((a:Int)+1) pl st= .go at1 pl1 st1->
    aX (lt b e l ck g.steps place g.high none argv z f d (a:Int) none g.counts g.seen pl st)=aX (lt b e l ck (g.steps+1) place (aV d g.high st1.length) none argv z f d at1 none g.counts (iA d place c st g.seen) pl1 st1)->
    vA b e l ck place argv z f d a g pl st (gJ l ck place N f d at1 pl1 st1 {g with steps:=g.steps+1,high:=aV d g.high st1.length,seen:=iA d place c st g.seen}):=by
    intro at1 pl1 st1 ha hn
    obtain⟨⟨b',hb',A'⟩,G'⟩:=wV (place:=place) R A G hs hc ha
    subst hb'
    have ih:=kX R ck place N f d b' pl1 st1 _ A' G' (λhd=>nh hd) (by simp only[];omega) b e argv z
    unfold vA at ih⊢
    rw[hn]
    exact ih
   have ret:∀(x:Item) (at2:Int) (pl2 st2:List Item),
    aX (lt b e l ck g.steps place g.high none argv z f d (a:Int) none g.counts g.seen pl st)=aX (lt b e l ck (g.steps+1) place g.high none argv z f d at2 (some (val x)) g.counts g.seen pl2 st2)->
    vA b e l ck place argv z f d a g pl st (x,{g with steps:=g.steps+1}):=by
    intro x at2 pl2 st2 hn
    refine .inl ⟨G.kind,at2,pl2,st2,?_⟩
    rw[hn,D5]
   have stop:∀(w:Int) (hi:Int),aX (lt b e l ck g.steps place g.high none argv z f d (a:Int) none g.counts g.seen pl st)=
    some (aaG ((b:Int),(e:Int),l,ck,g.steps+1,place,g.high,some (bX.mk 1 w),argv,g.counts,g.seen.map val,val (cj 0),()))->
    vA b e l ck place argv z f d a g pl st (cj 0,{g with steps:=g.steps+1,kind:=1,stop:=w}):=by
    intro w hi hn
    exact .inr ⟨by simp,hn⟩
   have hop:c.op=0\/c.op=1\/c.op=2\/c.op=3\/c.op=4\/c.op=5\/c.op=6\/c.op=7\/c.op=8\/c.op=9\/c.op=10\/c.op=11\/c.op=12\/c.op=13\/c.op=14\/c.op=15\/c.op=16\/c.op=17\/c.op=18\/c.op=19:=by omega
   have hse:c.op≠3->iA d place c st g.seen=g.seen:=λh=>by unfold iA;rw[adC (λq=>h q.1)]
   have hpl:=A.pls
   have hplc:=R.places f A.mem
   have hfn:=R.fns f A.mem
   rcases hop with e0|e0|e0|e0|e0|e0|e0|e0|e0|e0|e0|e0|e0|e0|e0|e0|e0|e0|e0|e0
   ·have ha:cN ck c ((a:Int)+1) pl st= .go ((a:Int)+1) pl (cj (lq c.type0 c.a)::st):=by simp[cN,e0]
    rw[ha]
    refine go _ _ _ ha ?_
    rw[Xj b e l ck g.steps place g.high argv z f d a g.counts g.seen pl st e0 hc hs s0 s1 (by omega) (p77 f d ((a:Int)+1) none l ck (g.steps+1) place g.high none pl st g.counts g.seen c (by omega) (MM hcode e0)) rfl rfl (λ_=>rfl) nofun,hse (by omega)]
    rfl
   ·have ha:cN ck c ((a:Int)+1) pl st= .go ((a:Int)+1) pl (Item.mk 0 true (ZZ #[])::st):=by simp[cN,e0]
    rw[ha]
    refine go _ _ _ ha ?_
    rw[Xk b e l ck g.steps place g.high argv z f d a g.counts g.seen pl st e0 hc hs s0 s1 (by omega) (p78 f d ((a:Int)+1) none l ck (g.steps+1) place g.high none pl st g.counts g.seen c (by omega)) rfl rfl (λ_=>rfl) nofun,hse (by omega)]
    rfl
   ·obtain⟨a0,a1⟩:=ya hcode (by omega) (by omega) hplc
    have ha:cN ck c ((a:Int)+1) pl st= .go ((a:Int)+1) pl (pl.getD c.a.toNat (cj 0)::st):=by simp[cN,e0]
    rw[ha]
    refine go _ _ _ ha ?_
    rw[Xl b e l ck g.steps place g.high argv z f d a g.counts g.seen pl st e0 hc hs s0 s1 (by omega) (p79 f d ((a:Int)+1) none l ck (g.steps+1) place g.high none pl st g.counts g.seen c (by omega) a0 (by omega)) rfl rfl (λ_=>rfl) nofun,hse (by omega)]
    rfl
   ·obtain⟨a0,a1⟩:=ya hcode (by omega) (by omega) hplc
    obtain⟨x,s,rfl⟩:=de rfl (by rw[(bH hr.1 hr.2 (by omega)).2 (by omega)]at ht;exact ht)
    rw[aaa]at hst
    have ha:cN ck c ((a:Int)+1) pl (x::s)= .go ((a:Int)+1) (pl.set c.a.toNat x) s:=by simp[cN,e0]
    rw[ha]
    refine go _ _ _ ha ?_
    have hsn:iA d place c (x::s) g.seen=if d=1/\place=c.a/\g.seen.length<100 then g.seen++[x]else g.seen:=by unfold iA;simp[e0]
    rw[Xm b e l ck g.steps place g.high argv z f d a g.counts g.seen pl (x::s) e0 hc hs s0 s1 (by omega) (p80 f d ((a:Int)+1) none l ck (g.steps+1) place g.high none pl s g.counts g.seen c x (by omega) a0 (by omega) G.seen) (by rw[aaR]) rfl nofun nofun,hsn,gl (λq=>by have:=hh q;simp only[aaa]at this;omega)]
    rfl
   ·obtain⟨x,s,rfl⟩:=de rfl (by rw[(bH hr.1 hr.2 (by omega)).2 (by omega)]at ht;exact ht)
    rw[aaa]at hst
    have ha:cN ck c ((a:Int)+1) pl (x::s)= .go ((a:Int)+1) pl s:=by simp[cN,e0]
    rw[ha]
    refine go _ _ _ ha ?_
    rw[Xn b e l ck g.steps place g.high argv z f d a g.counts g.seen pl (x::s) e0 hc hs s0 s1 (by omega) (p81 f d ((a:Int)+1) none l ck (g.steps+1) place g.high none pl s g.counts g.seen c x (by omega)) rfl rfl (λ_=>rfl) nofun,hse (by omega),gl (λq=>by have:=hh q;simp only[aaa]at this;omega)]
    rfl
   ·obtain⟨o1,o2⟩:=Qr hcode e0
    obtain⟨x,y,s,rfl⟩:=rK rfl (by rw[(bH hr.1 hr.2 (by omega)).1 (by omega)]at ht;exact ht)
    rw[aaa,aaa]at hst
    have ha:cN ck c ((a:Int)+1) pl (x::y::s)=il (opS ck c.a c.type0 y x) ((a:Int)+1) pl s:=by simp[cN,e0]
    have hp:=p82 f d ((a:Int)+1) none l ck (g.steps+1) place g.high none pl s g.counts g.seen c y x (by omega) o2 o1
    generalize opS ck c.a c.type0 y x=r at ha hp
    unfold il at ha
    by_cases h0:r.2=0
    ·rw[adD h0]at ha hp
     rw[ha]
     refine go _ _ _ ha ?_
     rw[WS b e l ck g.steps place g.high argv z f d a g.counts g.seen pl (x::y::s) e0 hc hs s0 s1 (by omega) hp rfl rfl (λ_=>rfl) nofun,hse (by omega)]
     rfl
    ·rw[adC h0]at ha hp
     rw[ha]
     refine stop _ 0 ?_
     rw[WS b e l ck g.steps place g.high argv z f d a g.counts g.seen pl (x::y::s) e0 hc hs s0 s1 (by omega) hp rfl rfl (λ_=>rfl) nofun]
     rfl
   ·have o1:=TA hcode e0
    obtain⟨x,y,s,rfl⟩:=rK rfl (by rw[(bH hr.1 hr.2 (by omega)).1 (by omega)]at ht;exact ht)
    rw[aaa,aaa]at hst
    have ha:cN ck c ((a:Int)+1) pl (x::y::s)= .go ((a:Int)+1) pl (gc (jJ c.a y.n x.n)::s):=by simp[cN,e0]
    rw[ha]
    refine go _ _ _ ha ?_
    rw[Xo b e l ck g.steps place g.high argv z f d a g.counts g.seen pl (x::y::s) e0 hc hs s0 s1 (by omega) (p83 f d ((a:Int)+1) none l ck (g.steps+1) place g.high none pl s g.counts g.seen c y x (by omega) o1) rfl rfl (λ_=>rfl) nofun,hse (by omega)]
    rfl
   ·have o2:=Ak hcode (by omega)
    obtain⟨x,s,rfl⟩:=de rfl (by rw[(bH hr.1 hr.2 (by omega)).2 (by omega)]at ht;exact ht)
    rw[aaa]at hst
    have ha:cN ck c ((a:Int)+1) pl (x::s)=il (bA ck c.op c.type0 x) ((a:Int)+1) pl s:=Gs (by omega)
    rw[e0]at ha
    have hp:=p84 f d ((a:Int)+1) none l ck (g.steps+1) place g.high none pl s g.counts g.seen c x (by omega) o2
    generalize bA ck 7 c.type0 x=r at ha hp
    unfold il at ha
    by_cases h0:r.2=0
    ·rw[adD h0]at ha hp
     rw[ha]
     refine go _ _ _ ha ?_
     rw[WT b e l ck g.steps place g.high argv z f d a g.counts g.seen pl (x::s) e0 hc hs s0 s1 (by omega) hp rfl rfl (λ_=>rfl) nofun,hse (by omega)]
     rfl
    ·rw[adC h0]at ha hp
     rw[ha]
     refine stop _ 0 ?_
     rw[WT b e l ck g.steps place g.high argv z f d a g.counts g.seen pl (x::s) e0 hc hs s0 s1 (by omega) hp rfl rfl (λ_=>rfl) nofun]
     rfl
   ·obtain⟨x,s,rfl⟩:=de rfl (by rw[(bH hr.1 hr.2 (by omega)).2 (by omega)]at ht;exact ht)
    rw[aaa]at hst
    have ha:cN ck c ((a:Int)+1) pl (x::s)=il (bA ck c.op c.type0 x) ((a:Int)+1) pl s:=Gs (by omega)
    rw[e0]at ha
    have hal2:bA ck 8 c.type0 x=(gc (x.n==0),0):=rfl
    rw[hal2]at ha
    have ha2:cN ck c ((a:Int)+1) pl (x::s)= .go ((a:Int)+1) pl (gc (x.n==0)::s):=ha
    rw[ha2]
    refine go _ _ _ ha2 ?_
    rw[Xp b e l ck g.steps place g.high argv z f d a g.counts g.seen pl (x::s) e0 hc hs s0 s1 (by omega) (p85 f d ((a:Int)+1) none l ck (g.steps+1) place g.high none pl s g.counts g.seen c x (by omega)) rfl rfl (λ_=>rfl) nofun,hse (by omega)]
    rfl
   ·have o2:=Ak hcode (by omega)
    obtain⟨x,s,rfl⟩:=de rfl (by rw[(bH hr.1 hr.2 (by omega)).2 (by omega)]at ht;exact ht)
    rw[aaa]at hst
    have ha:cN ck c ((a:Int)+1) pl (x::s)=il (bA ck c.op c.type0 x) ((a:Int)+1) pl s:=Gs (by omega)
    rw[e0]at ha
    have hp:=p86 f d ((a:Int)+1) none l ck (g.steps+1) place g.high none pl s g.counts g.seen c x (by omega) o2
    generalize bA ck 9 c.type0 x=r at ha hp
    unfold il at ha
    by_cases h0:r.2=0
    ·rw[adD h0]at ha hp
     rw[ha]
     refine go _ _ _ ha ?_
     rw[WU b e l ck g.steps place g.high argv z f d a g.counts g.seen pl (x::s) e0 hc hs s0 s1 (by omega) hp rfl rfl (λ_=>rfl) nofun,hse (by omega)]
     rfl
    ·rw[adC h0]at ha hp
     rw[ha]
     refine stop _ 0 ?_
     rw[WU b e l ck g.steps place g.high argv z f d a g.counts g.seen pl (x::s) e0 hc hs s0 s1 (by omega) hp rfl rfl (λ_=>rfl) nofun]
     rfl
   ·have o2:=Ak hcode (by omega)
    obtain⟨x,s,rfl⟩:=de rfl (by rw[(bH hr.1 hr.2 (by omega)).2 (by omega)]at ht;exact ht)
    rw[aaa]at hst
    have ha:cN ck c ((a:Int)+1) pl (x::s)=il (bA ck c.op c.type0 x) ((a:Int)+1) pl s:=Gs (by omega)
    rw[e0]at ha
    have hal2:bA ck 10 c.type0 x=(cj (bt c.type0 x.n),0):=rfl
    rw[hal2]at ha
    have ha2:cN ck c ((a:Int)+1) pl (x::s)= .go ((a:Int)+1) pl (cj (bt c.type0 x.n)::s):=ha
    rw[ha2]
    refine go _ _ _ ha2 ?_
    rw[Xq b e l ck g.steps place g.high argv z f d a g.counts g.seen pl (x::s) e0 hc hs s0 s1 (by omega) (p87 f d ((a:Int)+1) none l ck (g.steps+1) place g.high none pl s g.counts g.seen c x (by omega) o2) rfl rfl (λ_=>rfl) nofun,hse (by omega)]
    rfl
   ·obtain⟨x,s,rfl⟩:=de rfl (by rw[(bH hr.1 hr.2 (by omega)).2 (by omega)]at ht;exact ht)
    rw[aaa]at hst
    have ha:cN ck c ((a:Int)+1) pl (x::s)=il (bA ck c.op c.type0 x) ((a:Int)+1) pl s:=Gs (by omega)
    rw[e0]at ha
    have hp:=p88 f d ((a:Int)+1) none l ck (g.steps+1) place g.high none pl s g.counts g.seen c x (by omega)
    generalize bA ck 11 c.type0 x=r at ha hp
    unfold il at ha
    by_cases h0:r.2=0
    ·rw[adD h0]at ha hp
     rw[ha]
     refine go _ _ _ ha ?_
     rw[WV b e l ck g.steps place g.high argv z f d a g.counts g.seen pl (x::s) e0 hc hs s0 s1 (by omega) hp rfl rfl (λ_=>rfl) nofun,hse (by omega)]
     rfl
    ·rw[adC h0]at ha hp
     rw[ha]
     refine stop _ 0 ?_
     rw[WV b e l ck g.steps place g.high argv z f d a g.counts g.seen pl (x::s) e0 hc hs s0 s1 (by omega) hp rfl rfl (λ_=>rfl) nofun]
     rfl
   ·obtain⟨x,s,rfl⟩:=de rfl (by rw[(bH hr.1 hr.2 (by omega)).2 (by omega)]at ht;exact ht)
    rw[aaa]at hst
    have ha:cN ck c ((a:Int)+1) pl (x::s)=if x.null=true then .go c.a pl s else .go ((a:Int)+1) pl (x::s):=by simp[cN,e0]
    have hp:=p89 f d ((a:Int)+1) none l ck (g.steps+1) place g.high none pl s g.counts g.seen c x (by omega)
    by_cases h0:x.null=true
    ·rw[adD h0]at ha hp
     rw[ha]
     refine go _ _ _ ha ?_
     rw[WW b e l ck g.steps place g.high argv z f d a g.counts g.seen pl (x::s) e0 hc hs s0 s1 (by omega) hp rfl rfl (λ_=>rfl) nofun,hse (by omega),gl (λq=>by have:=hh q;simp only[aaa]at this;omega)]
     rfl
    ·rw[adC h0]at ha hp
     rw[ha]
     refine go _ _ _ ha ?_
     rw[WW b e l ck g.steps place g.high argv z f d a g.counts g.seen pl (x::s) e0 hc hs s0 s1 (by omega) hp rfl rfl (λ_=>rfl) nofun,hse (by omega),gl hh]
     rfl
   ·obtain⟨x,s,rfl⟩:=de rfl (by rw[(bH hr.1 hr.2 (by omega)).2 (by omega)]at ht;exact ht)
    rw[aaa]at hst
    have ha:cN ck c ((a:Int)+1) pl (x::s)=if x.err=ZZ #[]then .go ((a:Int)+1) pl (x::s)else .go c.a pl (x::s):=by simp[cN,e0]
    have hp:=p90 f d ((a:Int)+1) none l ck (g.steps+1) place g.high none pl s g.counts g.seen c x (by omega)
    by_cases h0:x.err=ZZ #[]
    ·rw[adD h0]at ha hp
     rw[ha]
     refine go _ _ _ ha ?_
     rw[WX b e l ck g.steps place g.high argv z f d a g.counts g.seen pl (x::s) e0 hc hs s0 s1 (by omega) hp rfl rfl (λ_=>rfl) (λ_=>rfl),hse (by omega),gl hh]
     rfl
    ·rw[adC h0]at ha hp
     rw[ha]
     refine go _ _ _ ha ?_
     rw[WX b e l ck g.steps place g.high argv z f d a g.counts g.seen pl (x::s) e0 hc hs s0 s1 (by omega) hp rfl rfl (λ_=>rfl) (λ_=>rfl),hse (by omega),gl hh]
     rfl
   ·have ha:cN ck c ((a:Int)+1) pl st= .go c.a pl st:=by simp[cN,e0]
    rw[ha]
    refine go _ _ _ ha ?_
    rw[Xr b e l ck g.steps place g.high argv z f d a g.counts g.seen pl st e0 hc hs s0 s1 (by omega) (p91 f d ((a:Int)+1) none l ck (g.steps+1) place g.high none pl st g.counts g.seen c) rfl rfl (λ_=>rfl) (λ_=>rfl),hse (by omega),gl hh]
    rfl
   ·obtain⟨x,s,rfl⟩:=de rfl (by rw[(bH hr.1 hr.2 (by omega)).2 (by omega)]at ht;exact ht)
    rw[aaa]at hst
    have ha:cN ck c ((a:Int)+1) pl (x::s)= .go (if x.n=0 then c.a else(a:Int)+1) pl s:=by
     by_cases h0:x.n=0<;>simp[cN,e0,h0]
    rw[ha]
    refine go _ _ _ ha ?_
    rw[Xs b e l ck g.steps place g.high argv z f d a g.counts g.seen pl (x::s) e0 hc hs s0 s1 (by omega) (p92 f d ((a:Int)+1) none l ck (g.steps+1) place g.high none pl s g.counts g.seen c x (by omega)) rfl rfl (λ_=>rfl) nofun,hse (by omega),gl (λq=>by have:=hh q;simp only[aaa]at this;omega)]
    rfl
   ·have ha:=(rP hcode (ck:=ck) (at1:=(a:Int)+1) (pl:=pl) (st:=st)).mpr e0
    rw[ha]
    obtain⟨k,h,n,h1,h2,h3,h4,h5,h6,h7,h8,h9,h10⟩:=o9 R A hc e0
    simp only[h1,h3,h4,Z5]
    by_cases hd:30<d+1
    ·rw[adD hd]
     have q:=p93 R h1 h4 h5 hst f (at1:=(a:Int)+1) hd1 hd2 ck place pl {g with steps:=g.steps+1} (x:=cj 0) (g2:={g with steps:=g.steps+1}) rfl (Jb (g:={g with steps:=g.steps+1}) hd)
     refine .inr ⟨by simp[zu],?_⟩
     rw[TN b e l ck g.steps place g.high argv z f d a g.counts g.seen pl st e0 hc hs s0 s1 (by omega) q rfl rfl nofun nofun]
     simp only[zu,G.stop]
     rfl
    ·rw[adC hd]
     have G1:OkG l {g with steps:=g.steps+1,counts:=pW g.counts k}:=⟨by simp only[];omega,by simp only[];omega,G.kind,G.stop,by simp only[pW,aaR];exact G.cnt,G.seen⟩
     have A1:=h10 (by omega)
     have L:=gK R ck place N h (d+1) 0 _ [] _ A1 G1
     have I:=kX R ck place N h (d+1) 0 _ [] _ A1 G1 (λq=>by omega) (by simp only[];omega) (st.length-n) n ((st.map val).reverse) (val (cj 0))
     rw[aao]at L I
     generalize hrr:gJ l ck place N h (d+1) 0 (cH h (st.take n).reverse) [] {g with steps:=g.steps+1,counts:=pW g.counts k}=r at L I⊢
     have L0:=L.s0
     have L1:=L.s1
     have Lh:=L.high (by omega)
     simp only[]at L0 Lh
     have h40:=p40 h3 (b:=st.length-n) (e:=n) (argv:=(st.map val).reverse) (args:=(st.take n).reverse) (by rw[lO];omega) (LX st h5).2 (by simp;omega) (ck:=ck) (place:=place) (d:=d+1) (g:={g with steps:=g.steps+1}) (by omega) (by omega) h8 G.kind G.cnt h2 (λq=>by omega) (λq=>by omega) (r:=r) (by
      rw[adC (λq=>by omega)]
      exact I) L.zero
     have q:=p93 R h1 h4 h5 hst f (at1:=(a:Int)+1) hd1 hd2 ck place pl {g with steps:=g.steps+1} (x:=r.1) (g2:=r.2) (by rw[L.cnt];exact G.cnt.symm) h40
     by_cases hk:r.2.kind=0
     ·rw[adD hk]
      have een:Dn r.2=none:=by unfold Dn;rw[adD hk]
      rw[een]at q
      have G2:OkG l {r.2 with high:=aV d r.2.high (st.length-n+1)}:=⟨by simp only[];omega,L1,hk,L.stop hk,L.cnt,L.seen⟩
      have ih:=kX R ck place N f d (a+1) pl _ _ (h9 r.1) G2 (λq=>by
       have:(((r.1::st.drop n).length:Nat):Int)=((st.length-n+1:Nat):Int):=by rw[aaa,aaE]
       rw[this];exact nh q) (by simp only[];omega) b e argv z
      have e1:(((a+1:Nat):Int))=(a:Int)+1:=rfl
      rw[e1]at ih
      unfold vA at ih⊢
      rw[e1]at ih
      rw[TN b e l ck g.steps place g.high argv z f d a g.counts g.seen pl st e0 hc hs s0 s1 (by omega) q rfl (by rw[L.cnt];exact G.cnt.symm) nofun nofun]
      exact ih
     ·rw[adC hk]
      have een:Dn r.2=some (bX.mk r.2.kind r.2.stop):=by unfold Dn;rw[adC hk]
      rw[een]at q
      refine .inr ⟨hk,?_⟩
      rw[TN b e l ck g.steps place g.high argv z f d a g.counts g.seen pl st e0 hc hs s0 s1 (by omega) q rfl (by rw[L.cnt];exact G.cnt.symm) nofun nofun]
      rfl
   ·obtain⟨x,s,rfl⟩:=de rfl (by rw[(bH hr.1 hr.2 (by omega)).2 (by omega)]at ht;exact ht)
    rw[aaa]at hst
    have ha:cN ck c ((a:Int)+1) pl (x::s)= .ret x:=by simp[cN,e0]
    rw[ha]
    refine ret x ((a:Int)+1) pl s ?_
    rw[Xt b e l ck g.steps place g.high argv z f d a g.counts g.seen pl (x::s) e0 hc hs s0 s1 (by omega) (p94 f d ((a:Int)+1) none l ck (g.steps+1) place g.high none pl s g.counts g.seen c x (by omega)) rfl rfl (λ_=>rfl) nofun]
    rfl
   ·have ha:cN ck c ((a:Int)+1) pl st= .go ((a:Int)+1) pl (Item.mk 0 false c.name0::st):=by simp[cN,e0]
    rw[ha]
    refine go _ _ _ ha ?_
    rw[Xu b e l ck g.steps place g.high argv z f d a g.counts g.seen pl st e0 hc hs s0 s1 (by omega) (p95 f d ((a:Int)+1) none l ck (g.steps+1) place g.high none pl st g.counts g.seen c (by omega)) rfl rfl (λ_=>rfl) nofun,hse (by omega)]
    rfl
   ·have ha:cN ck c ((a:Int)+1) pl st=if ck=true then .stop c.a else .ret (cj 0):=by simp[cN,e0]
    have hp:=p96 f d ((a:Int)+1) none l ck (g.steps+1) place g.high none pl st g.counts g.seen c
    by_cases h0:ck=true
    ·rw[adD h0]at ha hp
     rw[ha]
     refine stop _ 0 ?_
     rw[WY b e l ck g.steps place g.high argv z f d a g.counts g.seen pl st e0 hc hs s0 s1 (by omega) hp rfl rfl (λ_=>rfl) (λ_=>rfl)]
     rfl
    ·rw[adC h0]at ha hp
     rw[ha]
     refine ret _ ((a:Int)+1) pl st ?_
     rw[WY b e l ck g.steps place g.high argv z f d a g.counts g.seen pl st e0 hc hs s0 s1 (by omega) hp rfl rfl (λ_=>rfl) (λ_=>rfl)]
     rfl
end Go.Proofs.YtcghbgmmgcljkaaGreatDoor
end
section
namespace Go.Proofs.YtcghbgmmgcljkaaGreatDoor
open IntKind (i64)
set_option maxRecDepth 20000
set_option maxHeartbeats 8000000
def rt(k:Nat)(l:List aC)(d:Int)(ck:Bool)(at1 steps high place:Int)(i0:Item)(lg:Log)(pl st:List Item)(cnt:List Int)(sn:List Item):=
 (l,(k:Int),d,ck,at1,(0:Int),(0:Int),steps,high,place,i0,lg,pl,st.reverse,cnt,sn,())
theorem bV(x:Item)(s:List Item):(((x::s).reverse.length:Nat):Int)=(s.length:Int)+1:=by simp
theorem dL(x:Item)(s:List Item):(x::s).reverse[s.length]?=some x:=by
 rw[ab3,aaj (by simp)];simp
theorem cG(x:Item)(s:List Item):abb s.length (x::s).reverse=s.reverse:=by
 rw[ab3,List.take_left' (by simp)]
theorem zf(x y:Item)(s:List Item):(x::y::s).reverse[s.length]?=some y:=by
 rw[ab3,aan (by simp),dL]
theorem nC(x y:Item)(s:List Item):abb s.length (x::y::s).reverse=s.reverse:=by
 rw[ab3,abC (by simp),cG]
theorem cZ(x:Item)(s:List Item):s.reverse++[x]=(x::s).reverse:=by simp
theorem ze:((([]:List Item).reverse.length:Nat):Int)=0:=rfl
theorem lP{st:List Item}(h:st.length<=65)(v:Item):st.reverse.length+[v].length<=4294967296:=by simp;omega
structure Rh (l:List aC) (f:aC) (c:aQ) (k a:Nat) (d steps high:Int) (st:List Item) (op:Int):Prop where
 hk:l[k]?=some f
 hc:f.code[a]?=some c
 hs:¬steps=40000
 h0:0<=steps
 h1:steps<=40000
 ha:a<=3000
 hh:d=1->(st.length:Int)<=high
 hst:st.length<=65
 e:c.op=op
section
variable {k:Nat} {l:List aC} {d:Int} {ck:Bool} {a:Nat} {steps high place:Int} {i0:Item} {lg:Log} {pl:List Item} {cnt:List Int} {sn:List Item} {f:aC} {c:aQ}
theorem Jt:(∀(_:Rh l f c k a d steps high ([]:List Item) 0) (_:dZ c.type0=true),aA (rt k l d ck (a:Int) steps high place i0 lg pl [] cnt sn)=aA (rt k l d ck ((a:Int)+1) (steps+1) (aV d high (([]:List Item).length+1)) place i0 lg pl (cj (lq c.type0 c.a)::[]) cnt sn))/\
 (∀(_:Rh l f c k a d steps high ([]:List Item) 1) (_:True),aA (rt k l d ck (a:Int) steps high place i0 lg pl [] cnt sn)=aA (rt k l d ck ((a:Int)+1) (steps+1) (aV d high (([]:List Item).length+1)) place i0 lg pl (Item.mk 0 true (ZZ #[])::[]) cnt sn))/\
 (∀(_:Rh l f c k a d steps high ([]:List Item) 18) (_:True),aA (rt k l d ck (a:Int) steps high place i0 lg pl [] cnt sn)=aA (rt k l d ck ((a:Int)+1) (steps+1) (aV d high (([]:List Item).length+1)) place i0 lg pl (Item.mk 0 false c.name0::[]) cnt sn))/\
 (∀(_:Rh l f c k a d steps high ([]:List Item) 2) (_:0<=c.a/\c.a<(pl.length:Int)),aA (rt k l d ck (a:Int) steps high place i0 lg pl [] cnt sn)=aA (rt k l d ck ((a:Int)+1) (steps+1) (aV d high (([]:List Item).length+1)) place i0 lg pl (pl.getD c.a.toNat (cj 0)::[]) cnt sn)):=by
 refine⟨?_,?_,?_,?_⟩<;>(
  intro H E
  obtain⟨hk,hc,hs,h0,h1,ha,hh,hst,e⟩:=H
  have w1:i64.wrap ((a:Int)+1)=(a:Int)+1:=w64 (by omega) (by omega)
  have w2:i64.wrap (steps+1)=steps+1:=w64 (by omega) (by omega)
  have hb:(steps==40000)=false:=by simpa using hs
  have ha0:(0:Int)<=(a:Int):=by omega
  have hk0:(0:Int)<=(k:Int):=by omega
  have hle:=λv=>lP hst v
  have wn:i64.wrap ((0:Int) -1)= -1:=by decide
  have p1:¬(0:Int)<= -1:=by decide
  conv=>lhs;rw[aA]
  unfold rt
  by_cases hd:d=1
  ·have hd1:(d==1)=true:=by simpa using hd
   have hm:max high (0:Int)=high:=by have:=hh hd;simp at this⊢;omega
   simp only[hd1,hm,ze,wn,p1,hb,Z0,adA,adz,hk0,ha0,Z5,hk,hc,Z1,ZY,w1,w2,e,reduceIte,adE,adF,and_self,ge_iff_le,du,aad,aaK,Z9,aaB,bne_self_eq_false,aaz,true_and,and_true,aaO]
   have hg:0<=c.a/\c.a<(pl.length:Int)->pl[c.a.toNat]?=some (pl.getD c.a.toNat (cj 0)):=λq=>by rw[aa0,Z3 (by omega)];rfl
   first
    |simp only[kY _ _ E,ZY,adz,adA,and_self,hle,cZ,hd1,bV,Z0,bne_self_eq_false,reduceIte]
    |simp only[E.1,E.2,hg E,ZY,adz,adA,and_self,hle,cZ,hd1,bV,Z0,bne_self_eq_false,reduceIte]
    |simp only[ZY,adz,adA,and_self,hle,cZ,hd1,bV,Z0,bne_self_eq_false,reduceIte]
   unfold aV
   rw[adD hd]
   try rfl
  ·have hd1:(d==1)=false:=by simpa using hd
   simp only[hd1,ze,wn,p1,hb,Z0,adA,adz,hk0,ha0,Z5,hk,hc,Z1,ZY,w1,w2,e,reduceIte,adE,adF,and_self,ge_iff_le,du,aad,aaK,Z9,aaB,bne_self_eq_false,aaz,true_and,and_true,aaO]
   have hg:0<=c.a/\c.a<(pl.length:Int)->pl[c.a.toNat]?=some (pl.getD c.a.toNat (cj 0)):=λq=>by rw[aa0,Z3 (by omega)];rfl
   first
    |simp only[kY _ _ E,ZY,adz,adA,and_self,hle,cZ,hd1,bV,Z0,bne_self_eq_false,reduceIte]
    |simp only[E.1,E.2,hg E,ZY,adz,adA,and_self,hle,cZ,hd1,bV,Z0,bne_self_eq_false,reduceIte]
    |simp only[ZY,adz,adA,and_self,hle,cZ,hd1,bV,Z0,bne_self_eq_false,reduceIte]
   unfold aV
   rw[adC hd]
   try rfl)
theorem XA(H:Rh l f c k a d steps high ([]:List Item) 0)(E:dZ c.type0=true):aA (rt k l d ck (a:Int) steps high place i0 lg pl [] cnt sn)=aA (rt k l d ck ((a:Int)+1) (steps+1) (aV d high (([]:List Item).length+1)) place i0 lg pl (cj (lq c.type0 c.a)::[]) cnt sn):=Jt.1 H E
theorem XI(H:Rh l f c k a d steps high ([]:List Item) 1)(E:True):aA (rt k l d ck (a:Int) steps high place i0 lg pl [] cnt sn)=aA (rt k l d ck ((a:Int)+1) (steps+1) (aV d high (([]:List Item).length+1)) place i0 lg pl (Item.mk 0 true (ZZ #[])::[]) cnt sn):=Jt.2.1 H E
theorem T9(H:Rh l f c k a d steps high ([]:List Item) 18)(E:True):aA (rt k l d ck (a:Int) steps high place i0 lg pl [] cnt sn)=aA (rt k l d ck ((a:Int)+1) (steps+1) (aV d high (([]:List Item).length+1)) place i0 lg pl (Item.mk 0 false c.name0::[]) cnt sn):=Jt.2.2.1 H E
theorem XK(H:Rh l f c k a d steps high ([]:List Item) 2)(E:0<=c.a/\c.a<(pl.length:Int)):aA (rt k l d ck (a:Int) steps high place i0 lg pl [] cnt sn)=aA (rt k l d ck ((a:Int)+1) (steps+1) (aV d high (([]:List Item).length+1)) place i0 lg pl (pl.getD c.a.toNat (cj 0)::[]) cnt sn):=Jt.2.2.2 H E
theorem Js:(∀{x:Item} {s:List Item} (_:Rh l f c k a d steps high (x::s) 0) (_:dZ c.type0=true),aA (rt k l d ck (a:Int) steps high place i0 lg pl (x::s) cnt sn)=aA (rt k l d ck ((a:Int)+1) (steps+1) (aV d high ((x::s).length+1)) place i0 lg pl (cj (lq c.type0 c.a)::(x::s)) cnt sn))/\
 (∀{x:Item} {s:List Item} (_:Rh l f c k a d steps high (x::s) 1) (_:True),aA (rt k l d ck (a:Int) steps high place i0 lg pl (x::s) cnt sn)=aA (rt k l d ck ((a:Int)+1) (steps+1) (aV d high ((x::s).length+1)) place i0 lg pl (Item.mk 0 true (ZZ #[])::(x::s)) cnt sn))/\
 (∀{x:Item} {s:List Item} (_:Rh l f c k a d steps high (x::s) 18) (_:True),aA (rt k l d ck (a:Int) steps high place i0 lg pl (x::s) cnt sn)=aA (rt k l d ck ((a:Int)+1) (steps+1) (aV d high ((x::s).length+1)) place i0 lg pl (Item.mk 0 false c.name0::(x::s)) cnt sn))/\
 (∀{x:Item} {s:List Item} (_:Rh l f c k a d steps high (x::s) 2) (_:0<=c.a/\c.a<(pl.length:Int)),aA (rt k l d ck (a:Int) steps high place i0 lg pl (x::s) cnt sn)=aA (rt k l d ck ((a:Int)+1) (steps+1) (aV d high ((x::s).length+1)) place i0 lg pl (pl.getD c.a.toNat (cj 0)::(x::s)) cnt sn)):=by
 refine⟨?_,?_,?_,?_⟩<;>(
  intro x s H E
  obtain⟨hk,hc,hs,h0,h1,ha,hh,hst,e⟩:=H
  have w1:i64.wrap ((a:Int)+1)=(a:Int)+1:=w64 (by omega) (by omega)
  have w2:i64.wrap (steps+1)=steps+1:=w64 (by omega) (by omega)
  have hb:(steps==40000)=false:=by simpa using hs
  have ha0:(0:Int)<=(a:Int):=by omega
  have hk0:(0:Int)<=(k:Int):=by omega
  have hst1:s.length<=64:=by rw[aaa]at hst;omega
  have wn:i64.wrap ((s.length:Int)+1-1)=(s.length:Int):=by rw[w64 (by omega) (by omega)];omega
  have p1:(0:Int)<=(s.length:Int):=by omega
  have p2:(s.length:Int)<(s.length:Int)+1:=by omega
  have p3:(s.length:Int)<=(s.length:Int)+1:=by omega
  have p8:s.length<=4294967296:=by omega
  have hst2:s.length<=65:=by omega
  have hle:=λv=>lP hst v
  have p7:s.length<=(x::s).reverse.length:=by simp
  conv=>lhs;rw[aA]
  unfold rt
  by_cases hd:d=1
  ·have hd1:(d==1)=true:=by simpa using hd
   have hm:max high ((s.length:Int)+1)=high:=by have:=hh hd;simp at this⊢;omega
   simp only[hd1,hm,bV,wn,p1,p2,p3,dL,cG,p7,p8,hb,Z0,adA,adz,hk0,ha0,Z5,hk,hc,Z1,ZY,w1,w2,e,reduceIte,adE,adF,and_self,ge_iff_le,du,aad,aaK,Z9,aaB,bne_self_eq_false,aaz,true_and,and_true,aaO]
   have hg:0<=c.a/\c.a<(pl.length:Int)->pl[c.a.toNat]?=some (pl.getD c.a.toNat (cj 0)):=λq=>by rw[aa0,Z3 (by omega)];rfl
   first
    |simp only[kY _ _ E,ZY,adz,adA,and_self,hle,cZ,hd1,bV,Z0,bne_self_eq_false,reduceIte]
    |simp only[E.1,E.2,hg E,ZY,adz,adA,and_self,hle,cZ,hd1,bV,Z0,bne_self_eq_false,reduceIte]
    |simp only[ZY,adz,adA,and_self,hle,cZ,hd1,bV,Z0,bne_self_eq_false,reduceIte]
   unfold aV
   rw[adD hd]
   try rfl
  ·have hd1:(d==1)=false:=by simpa using hd
   simp only[hd1,bV,wn,p1,p2,p3,dL,cG,p7,p8,hb,Z0,adA,adz,hk0,ha0,Z5,hk,hc,Z1,ZY,w1,w2,e,reduceIte,adE,adF,and_self,ge_iff_le,du,aad,aaK,Z9,aaB,bne_self_eq_false,aaz,true_and,and_true,aaO]
   have hg:0<=c.a/\c.a<(pl.length:Int)->pl[c.a.toNat]?=some (pl.getD c.a.toNat (cj 0)):=λq=>by rw[aa0,Z3 (by omega)];rfl
   first
    |simp only[kY _ _ E,ZY,adz,adA,and_self,hle,cZ,hd1,bV,Z0,bne_self_eq_false,reduceIte]
    |simp only[E.1,E.2,hg E,ZY,adz,adA,and_self,hle,cZ,hd1,bV,Z0,bne_self_eq_false,reduceIte]
    |simp only[ZY,adz,adA,and_self,hle,cZ,hd1,bV,Z0,bne_self_eq_false,reduceIte]
   unfold aV
   rw[adC hd]
   try rfl)
theorem Xz{x:Item}{s:List Item}(H:Rh l f c k a d steps high (x::s) 0)(E:dZ c.type0=true):aA (rt k l d ck (a:Int) steps high place i0 lg pl (x::s) cnt sn)=aA (rt k l d ck ((a:Int)+1) (steps+1) (aV d high ((x::s).length+1)) place i0 lg pl (cj (lq c.type0 c.a)::(x::s)) cnt sn):=Js.1 H E
theorem XH{x:Item}{s:List Item}(H:Rh l f c k a d steps high (x::s) 1)(E:True):aA (rt k l d ck (a:Int) steps high place i0 lg pl (x::s) cnt sn)=aA (rt k l d ck ((a:Int)+1) (steps+1) (aV d high ((x::s).length+1)) place i0 lg pl (Item.mk 0 true (ZZ #[])::(x::s)) cnt sn):=Js.2.1 H E
theorem T8{x:Item}{s:List Item}(H:Rh l f c k a d steps high (x::s) 18)(E:True):aA (rt k l d ck (a:Int) steps high place i0 lg pl (x::s) cnt sn)=aA (rt k l d ck ((a:Int)+1) (steps+1) (aV d high ((x::s).length+1)) place i0 lg pl (Item.mk 0 false c.name0::(x::s)) cnt sn):=Js.2.2.1 H E
theorem XJ{x:Item}{s:List Item}(H:Rh l f c k a d steps high (x::s) 2)(E:0<=c.a/\c.a<(pl.length:Int)):aA (rt k l d ck (a:Int) steps high place i0 lg pl (x::s) cnt sn)=aA (rt k l d ck ((a:Int)+1) (steps+1) (aV d high ((x::s).length+1)) place i0 lg pl (pl.getD c.a.toNat (cj 0)::(x::s)) cnt sn):=Js.2.2.2 H E
theorem LI:(∀(_:Rh l f c k a d steps high ([]:List Item) 14) (_:True),aA (rt k l d ck (a:Int) steps high place i0 lg pl [] cnt sn)=aA (rt k l d ck c.a (steps+1) (aV d high 0) place i0 lg pl [] cnt sn))/\
 (∀(_:Rh l f c k a d steps high ([]:List Item) 19) (_:1<=c.a),aA (rt k l d ck (a:Int) steps high place i0 lg pl [] cnt sn)=if ck=true then some (cj 0,1,c.a,steps+1,high,place,cnt,sn,())else some ((cj 0),0,0,steps+1,high,place,cnt,sn,())):=by
 refine⟨?_,?_⟩<;>(
  intro H E
  obtain⟨hk,hc,hs,h0,h1,ha,hh,hst,e⟩:=H
  have w1:i64.wrap ((a:Int)+1)=(a:Int)+1:=w64 (by omega) (by omega)
  have w2:i64.wrap (steps+1)=steps+1:=w64 (by omega) (by omega)
  have hb:(steps==40000)=false:=by simpa using hs
  have ha0:(0:Int)<=(a:Int):=by omega
  have hk0:(0:Int)<=(k:Int):=by omega
  have hle:=λv=>lP hst v
  have wn:i64.wrap ((0:Int) -1)= -1:=by decide
  have p1:¬(0:Int)<= -1:=by decide
  conv=>lhs;rw[aA]
  unfold rt
  by_cases hd:d=1
  ·have hd1:(d==1)=true:=by simpa using hd
   have hm:max high (0:Int)=high:=by have:=hh hd;simp at this⊢;omega
   simp only[hd1,hm,ze,wn,p1,hb,Z0,adA,adz,hk0,ha0,Z5,hk,hc,Z1,ZY,w1,w2,e,reduceIte,adE,adF,and_self,ge_iff_le,du,aad,aaK,Z9,aaB,bne_self_eq_false,aaz,true_and,and_true,aaO]
   have hca:1<=c.a->(c.a !=0)=true:=λq=>by simp;omega
   first
    |(cases ck
      ·simp only[ZY,bne_self_eq_false,aaZ,adz,Z0,adA]
       rfl
      ·simp only[ZY,aax,hca E,adz,Z0,adA]
       rfl)
    |(unfold aV
      rw[adD hd]
      first
       |done
       |rfl
       |rw[show max high ((0:Nat):Int)=high from hm])
  ·have hd1:(d==1)=false:=by simpa using hd
   simp only[hd1,ze,wn,p1,hb,Z0,adA,adz,hk0,ha0,Z5,hk,hc,Z1,ZY,w1,w2,e,reduceIte,adE,adF,and_self,ge_iff_le,du,aad,aaK,Z9,aaB,bne_self_eq_false,aaz,true_and,and_true,aaO]
   have hca:1<=c.a->(c.a !=0)=true:=λq=>by simp;omega
   first
    |(cases ck
      ·simp only[ZY,bne_self_eq_false,aaZ,adz,Z0,adA]
       rfl
      ·simp only[ZY,aax,hca E,adz,Z0,adA]
       rfl)
    |(unfold aV
      rw[adC hd]
      first
       |done
       |rfl
       |skip))
theorem T5(H:Rh l f c k a d steps high ([]:List Item) 14)(E:True):aA (rt k l d ck (a:Int) steps high place i0 lg pl [] cnt sn)=aA (rt k l d ck c.a (steps+1) (aV d high 0) place i0 lg pl [] cnt sn):=LI.1 H E
theorem Q7(H:Rh l f c k a d steps high ([]:List Item) 19)(E:1<=c.a):aA (rt k l d ck (a:Int) steps high place i0 lg pl [] cnt sn)=if ck=true then some (cj 0,1,c.a,steps+1,high,place,cnt,sn,())else some ((cj 0),0,0,steps+1,high,place,cnt,sn,()):=LI.2 H E
theorem LH:(∀{x:Item} {s:List Item} (_:Rh l f c k a d steps high (x::s) 14) (_:True),aA (rt k l d ck (a:Int) steps high place i0 lg pl (x::s) cnt sn)=aA (rt k l d ck c.a (steps+1) (aV d high (s.length+1)) place i0 lg pl (x::s) cnt sn))/\
 (∀{x:Item} {s:List Item} (_:Rh l f c k a d steps high (x::s) 19) (_:1<=c.a),aA (rt k l d ck (a:Int) steps high place i0 lg pl (x::s) cnt sn)=if ck=true then some (cj 0,1,c.a,steps+1,high,place,cnt,sn,())else some ((cj 0),0,0,steps+1,high,place,cnt,sn,())):=by
 refine⟨?_,?_⟩<;>(
  intro x s H E
  obtain⟨hk,hc,hs,h0,h1,ha,hh,hst,e⟩:=H
  have w1:i64.wrap ((a:Int)+1)=(a:Int)+1:=w64 (by omega) (by omega)
  have w2:i64.wrap (steps+1)=steps+1:=w64 (by omega) (by omega)
  have hb:(steps==40000)=false:=by simpa using hs
  have ha0:(0:Int)<=(a:Int):=by omega
  have hk0:(0:Int)<=(k:Int):=by omega
  have hst1:s.length<=64:=by rw[aaa]at hst;omega
  have wn:i64.wrap ((s.length:Int)+1-1)=(s.length:Int):=by rw[w64 (by omega) (by omega)];omega
  have p1:(0:Int)<=(s.length:Int):=by omega
  have p2:(s.length:Int)<(s.length:Int)+1:=by omega
  have p3:(s.length:Int)<=(s.length:Int)+1:=by omega
  have p8:s.length<=4294967296:=by omega
  have hst2:s.length<=65:=by omega
  have hle:=λv=>lP hst v
  have p7:s.length<=(x::s).reverse.length:=by simp
  conv=>lhs;rw[aA]
  unfold rt
  by_cases hd:d=1
  ·have hd1:(d==1)=true:=by simpa using hd
   have hm:max high ((s.length:Int)+1)=high:=by have:=hh hd;simp at this⊢;omega
   simp only[hd1,hm,bV,wn,p1,p2,p3,dL,cG,p7,p8,hb,Z0,adA,adz,hk0,ha0,Z5,hk,hc,Z1,ZY,w1,w2,e,reduceIte,adE,adF,and_self,ge_iff_le,du,aad,aaK,Z9,aaB,bne_self_eq_false,aaz,true_and,and_true,aaO]
   have hca:1<=c.a->(c.a !=0)=true:=λq=>by simp;omega
   first
    |(cases ck
      ·simp only[ZY,bne_self_eq_false,aaZ,adz,Z0,adA]
       rfl
      ·simp only[ZY,aax,hca E,adz,Z0,adA]
       rfl)
    |(unfold aV
      rw[adD hd]
      first
       |done
       |rfl
       |rw[show max high (((s.length+1):Nat):Int)=high from hm])
  ·have hd1:(d==1)=false:=by simpa using hd
   simp only[hd1,bV,wn,p1,p2,p3,dL,cG,p7,p8,hb,Z0,adA,adz,hk0,ha0,Z5,hk,hc,Z1,ZY,w1,w2,e,reduceIte,adE,adF,and_self,ge_iff_le,du,aad,aaK,Z9,aaB,bne_self_eq_false,aaz,true_and,and_true,aaO]
   have hca:1<=c.a->(c.a !=0)=true:=λq=>by simp;omega
   first
    |(cases ck
      ·simp only[ZY,bne_self_eq_false,aaZ,adz,Z0,adA]
       rfl
      ·simp only[ZY,aax,hca E,adz,Z0,adA]
       rfl)
    |(unfold aV
      rw[adC hd]
      first
       |done
       |rfl
       |skip))
theorem T4{x:Item}{s:List Item}(H:Rh l f c k a d steps high (x::s) 14)(E:True):aA (rt k l d ck (a:Int) steps high place i0 lg pl (x::s) cnt sn)=aA (rt k l d ck c.a (steps+1) (aV d high (s.length+1)) place i0 lg pl (x::s) cnt sn):=LH.1 H E
theorem Q6{x:Item}{s:List Item}(H:Rh l f c k a d steps high (x::s) 19)(E:1<=c.a):aA (rt k l d ck (a:Int) steps high place i0 lg pl (x::s) cnt sn)=if ck=true then some (cj 0,1,c.a,steps+1,high,place,cnt,sn,())else some ((cj 0),0,0,steps+1,high,place,cnt,sn,()):=LH.2 H E
theorem XM:(∀{x:Item} {s:List Item} (_:Rh l f c k a d steps high (x::s) 4) (_:True),aA (rt k l d ck (a:Int) steps high place i0 lg pl (x::s) cnt sn)=aA (rt k l d ck ((a:Int)+1) (steps+1) (aV d high s.length) place i0 lg pl s cnt sn)):=by
 (
  intro x s H E
  obtain⟨hk,hc,hs,h0,h1,ha,hh,hst,e⟩:=H
  have w1:i64.wrap ((a:Int)+1)=(a:Int)+1:=w64 (by omega) (by omega)
  have w2:i64.wrap (steps+1)=steps+1:=w64 (by omega) (by omega)
  have hb:(steps==40000)=false:=by simpa using hs
  have ha0:(0:Int)<=(a:Int):=by omega
  have hk0:(0:Int)<=(k:Int):=by omega
  have hst1:s.length<=64:=by rw[aaa]at hst;omega
  have wn:i64.wrap ((s.length:Int)+1-1)=(s.length:Int):=by rw[w64 (by omega) (by omega)];omega
  have p1:(0:Int)<=(s.length:Int):=by omega
  have p2:(s.length:Int)<(s.length:Int)+1:=by omega
  have p3:(s.length:Int)<=(s.length:Int)+1:=by omega
  have p8:s.length<=4294967296:=by omega
  have hst2:s.length<=65:=by omega
  have hle:=λv=>lP hst2 v
  have p7:s.length<=(x::s).reverse.length:=by simp
  conv=>lhs;rw[aA]
  unfold rt
  by_cases hd:d=1
  ·have hd1:(d==1)=true:=by simpa using hd
   have hm:max high ((s.length:Int)+1)=high:=by have:=hh hd;simp at this⊢;omega
   simp only[hd1,hm,bV,wn,p1,p2,p3,dL,cG,p7,p8,hb,Z0,adA,adz,hk0,ha0,Z5,hk,hc,Z1,ZY,w1,w2,e,reduceIte,adE,adF,and_self,ge_iff_le,du,aad,aaK,Z9,aaB,bne_self_eq_false,aaz,true_and,and_true,aaO]
   simp only[aaY]
   unfold aV
   rw[adD hd]
   try rfl
  ·have hd1:(d==1)=false:=by simpa using hd
   simp only[hd1,bV,wn,p1,p2,p3,dL,cG,p7,p8,hb,Z0,adA,adz,hk0,ha0,Z5,hk,hc,Z1,ZY,w1,w2,e,reduceIte,adE,adF,and_self,ge_iff_le,du,aad,aaK,Z9,aaB,bne_self_eq_false,aaz,true_and,and_true,aaO]
   unfold aV
   rw[adC hd]
   try rfl)
theorem rl4{x:Item}{s:List Item}(H:Rh l f c k a d steps high (x::s) 4)(E:True):aA (rt k l d ck (a:Int) steps high place i0 lg pl (x::s) cnt sn)=aA (rt k l d ck ((a:Int)+1) (steps+1) (aV d high s.length) place i0 lg pl s cnt sn):=XM H E
theorem T7:(∀{x:Item} {s:List Item} (_:Rh l f c k a d steps high (x::s) 17) (_:True),aA (rt k l d ck (a:Int) steps high place i0 lg pl (x::s) cnt sn)=some (x,0,0,steps+1,high,place,cnt,sn,())):=by
 (
  intro x s H E
  obtain⟨hk,hc,hs,h0,h1,ha,hh,hst,e⟩:=H
  have w1:i64.wrap ((a:Int)+1)=(a:Int)+1:=w64 (by omega) (by omega)
  have w2:i64.wrap (steps+1)=steps+1:=w64 (by omega) (by omega)
  have hb:(steps==40000)=false:=by simpa using hs
  have ha0:(0:Int)<=(a:Int):=by omega
  have hk0:(0:Int)<=(k:Int):=by omega
  have hst1:s.length<=64:=by rw[aaa]at hst;omega
  have wn:i64.wrap ((s.length:Int)+1-1)=(s.length:Int):=by rw[w64 (by omega) (by omega)];omega
  have p1:(0:Int)<=(s.length:Int):=by omega
  have p2:(s.length:Int)<(s.length:Int)+1:=by omega
  have p3:(s.length:Int)<=(s.length:Int)+1:=by omega
  have p8:s.length<=4294967296:=by omega
  have hst2:s.length<=65:=by omega
  have hle:=λv=>lP hst2 v
  have p7:s.length<=(x::s).reverse.length:=by simp
  conv=>lhs;rw[aA]
  unfold rt
  by_cases hd:d=1
  ·have hd1:(d==1)=true:=by simpa using hd
   have hm:max high ((s.length:Int)+1)=high:=by have:=hh hd;simp at this⊢;omega
   simp only[hd1,hm,bV,wn,p1,p2,p3,dL,cG,p7,p8,hb,Z0,adA,adz,hk0,ha0,Z5,hk,hc,Z1,ZY,w1,w2,e,reduceIte,adE,adF,and_self,ge_iff_le,du,aad,aaK,Z9,aaB,bne_self_eq_false,aaz,true_and,and_true,aaO]
  ·have hd1:(d==1)=false:=by simpa using hd
   simp only[hd1,bV,wn,p1,p2,p3,dL,cG,p7,p8,hb,Z0,adA,adz,hk0,ha0,Z5,hk,hc,Z1,ZY,w1,w2,e,reduceIte,adE,adF,and_self,ge_iff_le,du,aad,aaK,Z9,aaB,bne_self_eq_false,aaz,true_and,and_true,aaO])
theorem XG{x:Item}{s:List Item}(H:Rh l f c k a d steps high (x::s) 17)(E:True):aA (rt k l d ck (a:Int) steps high place i0 lg pl (x::s) cnt sn)=some (x,0,0,steps+1,high,place,cnt,sn,()):=T7 H E
theorem T2:(∀{x:Item} {s:List Item} (_:Rh l f c k a d steps high (x::s) 12) (_:True),aA (rt k l d ck (a:Int) steps high place i0 lg pl (x::s) cnt sn)=if x.null=true then aA (rt k l d ck c.a (steps+1) (aV d high s.length) place i0 lg pl s cnt sn)else aA (rt k l d ck ((a:Int)+1) (steps+1) (aV d high (s.length+1)) place i0 lg pl (x::s) cnt sn)):=by
 (
  intro x s H E
  obtain⟨hk,hc,hs,h0,h1,ha,hh,hst,e⟩:=H
  have w1:i64.wrap ((a:Int)+1)=(a:Int)+1:=w64 (by omega) (by omega)
  have w2:i64.wrap (steps+1)=steps+1:=w64 (by omega) (by omega)
  have hb:(steps==40000)=false:=by simpa using hs
  have ha0:(0:Int)<=(a:Int):=by omega
  have hk0:(0:Int)<=(k:Int):=by omega
  have hst1:s.length<=64:=by rw[aaa]at hst;omega
  have wn:i64.wrap ((s.length:Int)+1-1)=(s.length:Int):=by rw[w64 (by omega) (by omega)];omega
  have p1:(0:Int)<=(s.length:Int):=by omega
  have p2:(s.length:Int)<(s.length:Int)+1:=by omega
  have p3:(s.length:Int)<=(s.length:Int)+1:=by omega
  have p8:s.length<=4294967296:=by omega
  have hst2:s.length<=65:=by omega
  have hle:=λv=>lP hst2 v
  have p7:s.length<=(x::s).reverse.length:=by simp
  conv=>lhs;rw[aA]
  unfold rt
  by_cases hd:d=1
  ·have hd1:(d==1)=true:=by simpa using hd
   have hm:max high ((s.length:Int)+1)=high:=by have:=hh hd;simp at this⊢;omega
   simp only[hd1,hm,bV,wn,p1,p2,p3,dL,cG,p7,p8,hb,Z0,adA,adz,hk0,ha0,Z5,hk,hc,Z1,ZY,w1,w2,e,reduceIte,adE,adF,and_self,ge_iff_le,du,aad,aaK,Z9,aaB,bne_self_eq_false,aaz,true_and,and_true,aaO]
   cases hn:x.null
   ·simp only[ZY,bne_self_eq_false,beq_self_eq_true,Z0,adA,adz,hd1,bV,hm]
    unfold aV
    rw[adD hd]
    rw[show max high ((s.length+1:Nat):Int)=high from hm]
   ·simp only[ZY,bne_self_eq_false,beq_self_eq_true,Z0,adA,adz,hd1,aaY]
    unfold aV
    rw[adD hd]
    try rfl
  ·have hd1:(d==1)=false:=by simpa using hd
   simp only[hd1,bV,wn,p1,p2,p3,dL,cG,p7,p8,hb,Z0,adA,adz,hk0,ha0,Z5,hk,hc,Z1,ZY,w1,w2,e,reduceIte,adE,adF,and_self,ge_iff_le,du,aad,aaK,Z9,aaB,bne_self_eq_false,aaz,true_and,and_true,aaO]
   cases hn:x.null
   ·simp only[ZY,bne_self_eq_false,beq_self_eq_true,Z0,adA,adz,hd1,bV]
    unfold aV
    rw[adC hd]
   ·simp only[ZY,bne_self_eq_false,beq_self_eq_true,Z0,adA,adz,hd1,aaY]
    unfold aV
    rw[adC hd]
    try rfl)
theorem XD{x:Item}{s:List Item}(H:Rh l f c k a d steps high (x::s) 12)(E:True):aA (rt k l d ck (a:Int) steps high place i0 lg pl (x::s) cnt sn)=if x.null=true then aA (rt k l d ck c.a (steps+1) (aV d high s.length) place i0 lg pl s cnt sn)else aA (rt k l d ck ((a:Int)+1) (steps+1) (aV d high (s.length+1)) place i0 lg pl (x::s) cnt sn):=T2 H E
theorem T3:(∀{x:Item} {s:List Item} (_:Rh l f c k a d steps high (x::s) 13) (_:True),aA (rt k l d ck (a:Int) steps high place i0 lg pl (x::s) cnt sn)=if x.err=ZZ #[]then aA (rt k l d ck ((a:Int)+1) (steps+1) (aV d high (s.length+1)) place i0 lg pl (x::s) cnt sn)else aA (rt k l d ck c.a (steps+1) (aV d high (s.length+1)) place i0 lg pl (x::s) cnt sn)):=by
 (
  intro x s H E
  obtain⟨hk,hc,hs,h0,h1,ha,hh,hst,e⟩:=H
  have w1:i64.wrap ((a:Int)+1)=(a:Int)+1:=w64 (by omega) (by omega)
  have w2:i64.wrap (steps+1)=steps+1:=w64 (by omega) (by omega)
  have hb:(steps==40000)=false:=by simpa using hs
  have ha0:(0:Int)<=(a:Int):=by omega
  have hk0:(0:Int)<=(k:Int):=by omega
  have hst1:s.length<=64:=by rw[aaa]at hst;omega
  have wn:i64.wrap ((s.length:Int)+1-1)=(s.length:Int):=by rw[w64 (by omega) (by omega)];omega
  have p1:(0:Int)<=(s.length:Int):=by omega
  have p2:(s.length:Int)<(s.length:Int)+1:=by omega
  have p3:(s.length:Int)<=(s.length:Int)+1:=by omega
  have p8:s.length<=4294967296:=by omega
  have hst2:s.length<=65:=by omega
  have hle:=λv=>lP hst2 v
  have p7:s.length<=(x::s).reverse.length:=by simp
  conv=>lhs;rw[aA]
  unfold rt
  by_cases hd:d=1
  ·have hd1:(d==1)=true:=by simpa using hd
   have hm:max high ((s.length:Int)+1)=high:=by have:=hh hd;simp at this⊢;omega
   simp only[hd1,hm,bV,wn,p1,p2,p3,dL,cG,p7,p8,hb,Z0,adA,adz,hk0,ha0,Z5,hk,hc,Z1,ZY,w1,w2,e,reduceIte,adE,adF,and_self,ge_iff_le,du,aad,aaK,Z9,aaB,bne_self_eq_false,aaz,true_and,and_true,aaO]
   simp only[ek]
   by_cases hn:x.err=ZZ #[]
   ·simp only[ZY,bne_self_eq_false,beq_self_eq_true,Z0,adA,adz,hd1,hn,adE,adF,aax,aaZ,bV,hm]
    unfold aV
    rw[adD hd]
    rw[show max high ((s.length+1:Nat):Int)=high from hm]
   ·simp only[ZY,bne_self_eq_false,beq_self_eq_true,Z0,adA,adz,hd1,hn,adE,adF,aax,aaZ,bV,hm]
    unfold aV
    rw[adD hd]
    rw[show max high ((s.length+1:Nat):Int)=high from hm]
  ·have hd1:(d==1)=false:=by simpa using hd
   simp only[hd1,bV,wn,p1,p2,p3,dL,cG,p7,p8,hb,Z0,adA,adz,hk0,ha0,Z5,hk,hc,Z1,ZY,w1,w2,e,reduceIte,adE,adF,and_self,ge_iff_le,du,aad,aaK,Z9,aaB,bne_self_eq_false,aaz,true_and,and_true,aaO]
   simp only[ek]
   by_cases hn:x.err=ZZ #[]
   ·simp only[ZY,bne_self_eq_false,beq_self_eq_true,Z0,adA,adz,hd1,hn,adE,adF,aax,aaZ,bV]
    unfold aV
    rw[adC hd]
   ·simp only[ZY,bne_self_eq_false,beq_self_eq_true,Z0,adA,adz,hd1,hn,adE,adF,aax,aaZ,bV]
    unfold aV
    rw[adC hd])
theorem XE{x:Item}{s:List Item}(H:Rh l f c k a d steps high (x::s) 13)(E:True):aA (rt k l d ck (a:Int) steps high place i0 lg pl (x::s) cnt sn)=if x.err=ZZ #[]then aA (rt k l d ck ((a:Int)+1) (steps+1) (aV d high (s.length+1)) place i0 lg pl (x::s) cnt sn)else aA (rt k l d ck c.a (steps+1) (aV d high (s.length+1)) place i0 lg pl (x::s) cnt sn):=T3 H E
theorem T6:(∀{x:Item} {s:List Item} (_:Rh l f c k a d steps high (x::s) 15) (_:True),aA (rt k l d ck (a:Int) steps high place i0 lg pl (x::s) cnt sn)=if x.n=0 then aA (rt k l d ck c.a (steps+1) (aV d high s.length) place i0 lg pl s cnt sn)else aA (rt k l d ck ((a:Int)+1) (steps+1) (aV d high s.length) place i0 lg pl s cnt sn)):=by
 (
  intro x s H E
  obtain⟨hk,hc,hs,h0,h1,ha,hh,hst,e⟩:=H
  have w1:i64.wrap ((a:Int)+1)=(a:Int)+1:=w64 (by omega) (by omega)
  have w2:i64.wrap (steps+1)=steps+1:=w64 (by omega) (by omega)
  have hb:(steps==40000)=false:=by simpa using hs
  have ha0:(0:Int)<=(a:Int):=by omega
  have hk0:(0:Int)<=(k:Int):=by omega
  have hst1:s.length<=64:=by rw[aaa]at hst;omega
  have wn:i64.wrap ((s.length:Int)+1-1)=(s.length:Int):=by rw[w64 (by omega) (by omega)];omega
  have p1:(0:Int)<=(s.length:Int):=by omega
  have p2:(s.length:Int)<(s.length:Int)+1:=by omega
  have p3:(s.length:Int)<=(s.length:Int)+1:=by omega
  have p8:s.length<=4294967296:=by omega
  have hst2:s.length<=65:=by omega
  have hle:=λv=>lP hst2 v
  have p7:s.length<=(x::s).reverse.length:=by simp
  conv=>lhs;rw[aA]
  unfold rt
  by_cases hd:d=1
  ·have hd1:(d==1)=true:=by simpa using hd
   have hm:max high ((s.length:Int)+1)=high:=by have:=hh hd;simp at this⊢;omega
   simp only[hd1,hm,bV,wn,p1,p2,p3,dL,cG,p7,p8,hb,Z0,adA,adz,hk0,ha0,Z5,hk,hc,Z1,ZY,w1,w2,e,reduceIte,adE,adF,and_self,ge_iff_le,du,aad,aaK,Z9,aaB,bne_self_eq_false,aaz,true_and,and_true,aaO]
   by_cases hn:x.n=0
   ·have hn1:(x.n==0)=true:=by simpa using hn
    simp only[ZY,bne_self_eq_false,beq_self_eq_true,Z0,adA,adz,hd1,hn,hn1,aaY]
    unfold aV
    rw[adD hd]
    try rfl
   ·have hn1:(x.n==0)=false:=by simpa using hn
    simp only[ZY,bne_self_eq_false,beq_self_eq_true,Z0,adA,adz,hd1,hn,hn1,aaY]
    unfold aV
    rw[adD hd]
    try rfl
  ·have hd1:(d==1)=false:=by simpa using hd
   simp only[hd1,bV,wn,p1,p2,p3,dL,cG,p7,p8,hb,Z0,adA,adz,hk0,ha0,Z5,hk,hc,Z1,ZY,w1,w2,e,reduceIte,adE,adF,and_self,ge_iff_le,du,aad,aaK,Z9,aaB,bne_self_eq_false,aaz,true_and,and_true,aaO]
   by_cases hn:x.n=0
   ·have hn1:(x.n==0)=true:=by simpa using hn
    simp only[ZY,bne_self_eq_false,beq_self_eq_true,Z0,adA,adz,hd1,hn,hn1,aaY]
    unfold aV
    rw[adC hd]
    try rfl
   ·have hn1:(x.n==0)=false:=by simpa using hn
    simp only[ZY,bne_self_eq_false,beq_self_eq_true,Z0,adA,adz,hd1,hn,hn1,aaY]
    unfold aV
    rw[adC hd]
    try rfl)
theorem XF{x:Item}{s:List Item}(H:Rh l f c k a d steps high (x::s) 15)(E:True):aA (rt k l d ck (a:Int) steps high place i0 lg pl (x::s) cnt sn)=if x.n=0 then aA (rt k l d ck c.a (steps+1) (aV d high s.length) place i0 lg pl s cnt sn)else aA (rt k l d ck ((a:Int)+1) (steps+1) (aV d high s.length) place i0 lg pl s cnt sn):=T6 H E
theorem XN:(∀{x y:Item} {s:List Item} (_:Rh l f c k a d steps high (x::y::s) 5) (_:cL c.type0=true),aA (rt k l d ck (a:Int) steps high place i0 lg pl (x::y::s) cnt sn)=if(opS ck c.a c.type0 y x).2=0 then aA (rt k l d ck ((a:Int)+1) (steps+1) (aV d high (s.length+1)) place i0 lg pl ((opS ck c.a c.type0 y x).1::s) cnt sn)else some (cj 0,1,(opS ck c.a c.type0 y x).2,steps+1,high,place,cnt,sn,())):=by
 (
  intro x y s H E
  obtain⟨hk,hc,hs,h0,h1,ha,hh,hst,e⟩:=H
  have w1:i64.wrap ((a:Int)+1)=(a:Int)+1:=w64 (by omega) (by omega)
  have w2:i64.wrap (steps+1)=steps+1:=w64 (by omega) (by omega)
  have hb:(steps==40000)=false:=by simpa using hs
  have ha0:(0:Int)<=(a:Int):=by omega
  have hk0:(0:Int)<=(k:Int):=by omega
  have hst1:(y::s).length<=64:=by rw[aaa]at hst;omega
  have wn:i64.wrap (((y::s).length:Int)+1-1)=((y::s).length:Int):=by rw[w64 (by omega) (by omega)];omega
  have p1:(0:Int)<=((y::s).length:Int):=by omega
  have p2:((y::s).length:Int)<((y::s).length:Int)+1:=by omega
  have p3:((y::s).length:Int)<=((y::s).length:Int)+1:=by omega
  have p8:s.length<=4294967296:=by rw[aaa]at hst1;omega
  have hst2:s.length<=65:=by rw[aaa]at hst1;omega
  have hle:=λv=>lP hst2 v
  have hyl:(((y::s).length:Nat):Int)=(s.length:Int)+1:=rfl
  have wn2:i64.wrap (((y::s).length:Int) -1)=(s.length:Int):=by rw[hyl,w64 (by omega) (by omega)];omega
  have p4:(0:Int)<=(s.length:Int):=by omega
  have p5:(s.length:Int)<(((y::s).length:Nat):Int)+1:=by omega
  have p6:(s.length:Int)<=(((y::s).length:Nat):Int)+1:=by omega
  have p7:s.length<=(x::y::s).reverse.length:=by rw[aaY,aaa,aaa];omega
  conv=>lhs;rw[aA]
  unfold rt
  by_cases hd:d=1
  ·have hd1:(d==1)=true:=by simpa using hd
   have hm:max high (((y::s).length:Int)+1)=high:=by have:=hh hd;simp at this⊢;omega
   simp only[hd1,hm,bV,wn,p1,p2,p3,dL,cG,p7,p8,wn2,p4,p5,p6,zf,nC,hb,Z0,adA,adz,hk0,ha0,Z5,hk,hc,Z1,ZY,w1,w2,e,reduceIte,adE,adF,and_self,ge_iff_le,du,aad,aaK,Z9,aaB,bne_self_eq_false,aaz,true_and,and_true,aaO]
   simp only[qT ck _ _ _ _ E,hle,ZY,adz]
   by_cases hz:(opS ck c.a c.type0 y x).2=0
   ·have hz1:((opS ck c.a c.type0 y x).2 !=0)=false:=by simpa using hz
    simp only[ZY,bne_self_eq_false,beq_self_eq_true,Z0,adA,adz,hd1,hz1,hz,cZ,bV]
    unfold aV
    rw[adD hd]
    try rfl
   ·have hz1:((opS ck c.a c.type0 y x).2 !=0)=true:=by simpa using hz
    simp only[hz1,hz,adz,adA]
    rfl
  ·have hd1:(d==1)=false:=by simpa using hd
   simp only[hd1,bV,wn,p1,p2,p3,dL,cG,p7,p8,wn2,p4,p5,p6,zf,nC,hb,Z0,adA,adz,hk0,ha0,Z5,hk,hc,Z1,ZY,w1,w2,e,reduceIte,adE,adF,and_self,ge_iff_le,du,aad,aaK,Z9,aaB,bne_self_eq_false,aaz,true_and,and_true,aaO]
   simp only[qT ck _ _ _ _ E,hle,ZY,adz]
   by_cases hz:(opS ck c.a c.type0 y x).2=0
   ·have hz1:((opS ck c.a c.type0 y x).2 !=0)=false:=by simpa using hz
    simp only[ZY,bne_self_eq_false,beq_self_eq_true,Z0,adA,adz,hd1,hz1,hz,cZ,bV]
    unfold aV
    rw[adC hd]
    try rfl
   ·have hz1:((opS ck c.a c.type0 y x).2 !=0)=true:=by simpa using hz
    simp only[hz1,hz,adz,adA]
    rfl)
theorem rl5{x y:Item}{s:List Item}(H:Rh l f c k a d steps high (x::y::s) 5)(E:cL c.type0=true):aA (rt k l d ck (a:Int) steps high place i0 lg pl (x::y::s) cnt sn)=if(opS ck c.a c.type0 y x).2=0 then aA (rt k l d ck ((a:Int)+1) (steps+1) (aV d high (s.length+1)) place i0 lg pl ((opS ck c.a c.type0 y x).1::s) cnt sn)else some (cj 0,1,(opS ck c.a c.type0 y x).2,steps+1,high,place,cnt,sn,()):=XN H E
theorem XO:(∀{x y:Item} {s:List Item} (_:Rh l f c k a d steps high (x::y::s) 6) (_:True),aA (rt k l d ck (a:Int) steps high place i0 lg pl (x::y::s) cnt sn)=aA (rt k l d ck ((a:Int)+1) (steps+1) (aV d high (s.length+1)) place i0 lg pl (gc (jJ c.a y.n x.n)::s) cnt sn)):=by
 (
  intro x y s H E
  obtain⟨hk,hc,hs,h0,h1,ha,hh,hst,e⟩:=H
  have w1:i64.wrap ((a:Int)+1)=(a:Int)+1:=w64 (by omega) (by omega)
  have w2:i64.wrap (steps+1)=steps+1:=w64 (by omega) (by omega)
  have hb:(steps==40000)=false:=by simpa using hs
  have ha0:(0:Int)<=(a:Int):=by omega
  have hk0:(0:Int)<=(k:Int):=by omega
  have hst1:(y::s).length<=64:=by rw[aaa]at hst;omega
  have wn:i64.wrap (((y::s).length:Int)+1-1)=((y::s).length:Int):=by rw[w64 (by omega) (by omega)];omega
  have p1:(0:Int)<=((y::s).length:Int):=by omega
  have p2:((y::s).length:Int)<((y::s).length:Int)+1:=by omega
  have p3:((y::s).length:Int)<=((y::s).length:Int)+1:=by omega
  have p8:s.length<=4294967296:=by rw[aaa]at hst1;omega
  have hst2:s.length<=65:=by rw[aaa]at hst1;omega
  have hle:=λv=>lP hst2 v
  have hyl:(((y::s).length:Nat):Int)=(s.length:Int)+1:=rfl
  have wn2:i64.wrap (((y::s).length:Int) -1)=(s.length:Int):=by rw[hyl,w64 (by omega) (by omega)];omega
  have p4:(0:Int)<=(s.length:Int):=by omega
  have p5:(s.length:Int)<(((y::s).length:Nat):Int)+1:=by omega
  have p6:(s.length:Int)<=(((y::s).length:Nat):Int)+1:=by omega
  have p7:s.length<=(x::y::s).reverse.length:=by rw[aaY,aaa,aaa];omega
  conv=>lhs;rw[aA]
  unfold rt
  by_cases hd:d=1
  ·have hd1:(d==1)=true:=by simpa using hd
   have hm:max high (((y::s).length:Int)+1)=high:=by have:=hh hd;simp at this⊢;omega
   simp only[hd1,hm,bV,wn,p1,p2,p3,dL,cG,p7,p8,wn2,p4,p5,p6,zf,nC,hb,Z0,adA,adz,hk0,ha0,Z5,hk,hc,Z1,ZY,w1,w2,e,reduceIte,adE,adF,and_self,ge_iff_le,du,aad,aaK,Z9,aaB,bne_self_eq_false,aaz,true_and,and_true,aaO]
   simp only[om,ZY,adz,adA,and_self,hle,cZ,hd1,bV,Z0,bne_self_eq_false,reduceIte]
   unfold aV
   rw[adD hd]
   try rfl
  ·have hd1:(d==1)=false:=by simpa using hd
   simp only[hd1,bV,wn,p1,p2,p3,dL,cG,p7,p8,wn2,p4,p5,p6,zf,nC,hb,Z0,adA,adz,hk0,ha0,Z5,hk,hc,Z1,ZY,w1,w2,e,reduceIte,adE,adF,and_self,ge_iff_le,du,aad,aaK,Z9,aaB,bne_self_eq_false,aaz,true_and,and_true,aaO]
   simp only[om,ZY,adz,adA,and_self,hle,cZ,hd1,bV,Z0,bne_self_eq_false,reduceIte]
   unfold aV
   rw[adC hd]
   try rfl)
theorem rl6{x y:Item}{s:List Item}(H:Rh l f c k a d steps high (x::y::s) 6)(E:True):aA (rt k l d ck (a:Int) steps high place i0 lg pl (x::y::s) cnt sn)=aA (rt k l d ck ((a:Int)+1) (steps+1) (aV d high (s.length+1)) place i0 lg pl (gc (jJ c.a y.n x.n)::s) cnt sn):=XO H E
theorem Q8:(∀{x:Item} {s:List Item} (_:Rh l f c k a d steps high (x::s) 7) (_:cL c.type0=true),aA (rt k l d ck (a:Int) steps high place i0 lg pl (x::s) cnt sn)=if(bA ck 7 c.type0 x).2=0 then aA (rt k l d ck ((a:Int)+1) (steps+1) (aV d high (s.length+1)) place i0 lg pl ((bA ck 7 c.type0 x).1::s) cnt sn)else some (cj 0,1,(bA ck 7 c.type0 x).2,steps+1,high,place,cnt,sn,()))/\
 (∀{x:Item} {s:List Item} (_:Rh l f c k a d steps high (x::s) 8) (_:True),aA (rt k l d ck (a:Int) steps high place i0 lg pl (x::s) cnt sn)=if(bA ck 8 c.type0 x).2=0 then aA (rt k l d ck ((a:Int)+1) (steps+1) (aV d high (s.length+1)) place i0 lg pl ((bA ck 8 c.type0 x).1::s) cnt sn)else some (cj 0,1,(bA ck 8 c.type0 x).2,steps+1,high,place,cnt,sn,()))/\
 (∀{x:Item} {s:List Item} (_:Rh l f c k a d steps high (x::s) 9) (_:cL c.type0=true),aA (rt k l d ck (a:Int) steps high place i0 lg pl (x::s) cnt sn)=if(bA ck 9 c.type0 x).2=0 then aA (rt k l d ck ((a:Int)+1) (steps+1) (aV d high (s.length+1)) place i0 lg pl ((bA ck 9 c.type0 x).1::s) cnt sn)else some (cj 0,1,(bA ck 9 c.type0 x).2,steps+1,high,place,cnt,sn,()))/\
 (∀{x:Item} {s:List Item} (_:Rh l f c k a d steps high (x::s) 10) (_:cL c.type0=true),aA (rt k l d ck (a:Int) steps high place i0 lg pl (x::s) cnt sn)=if(bA ck 10 c.type0 x).2=0 then aA (rt k l d ck ((a:Int)+1) (steps+1) (aV d high (s.length+1)) place i0 lg pl ((bA ck 10 c.type0 x).1::s) cnt sn)else some (cj 0,1,(bA ck 10 c.type0 x).2,steps+1,high,place,cnt,sn,()))/\
 (∀{x:Item} {s:List Item} (_:Rh l f c k a d steps high (x::s) 11) (_:True),aA (rt k l d ck (a:Int) steps high place i0 lg pl (x::s) cnt sn)=if(bA ck 11 c.type0 x).2=0 then aA (rt k l d ck ((a:Int)+1) (steps+1) (aV d high (s.length+1)) place i0 lg pl ((bA ck 11 c.type0 x).1::s) cnt sn)else some (cj 0,1,(bA ck 11 c.type0 x).2,steps+1,high,place,cnt,sn,())):=by
 refine⟨?_,?_,?_,?_,?_⟩<;>(
  intro x s H E
  obtain⟨hk,hc,hs,h0,h1,ha,hh,hst,e⟩:=H
  have w1:i64.wrap ((a:Int)+1)=(a:Int)+1:=w64 (by omega) (by omega)
  have w2:i64.wrap (steps+1)=steps+1:=w64 (by omega) (by omega)
  have hb:(steps==40000)=false:=by simpa using hs
  have ha0:(0:Int)<=(a:Int):=by omega
  have hk0:(0:Int)<=(k:Int):=by omega
  have hst1:s.length<=64:=by rw[aaa]at hst;omega
  have wn:i64.wrap ((s.length:Int)+1-1)=(s.length:Int):=by rw[w64 (by omega) (by omega)];omega
  have p1:(0:Int)<=(s.length:Int):=by omega
  have p2:(s.length:Int)<(s.length:Int)+1:=by omega
  have p3:(s.length:Int)<=(s.length:Int)+1:=by omega
  have p8:s.length<=4294967296:=by omega
  have hst2:s.length<=65:=by omega
  have hle:=λv=>lP hst2 v
  have p7:s.length<=(x::s).reverse.length:=by simp
  conv=>lhs;rw[aA]
  unfold rt
  by_cases hd:d=1
  ·have hd1:(d==1)=true:=by simpa using hd
   have hm:max high ((s.length:Int)+1)=high:=by have:=hh hd;simp at this⊢;omega
   simp only[hd1,hm,bV,wn,p1,p2,p3,dL,cG,p7,p8,hb,Z0,adA,adz,hk0,ha0,Z5,hk,hc,Z1,ZY,w1,w2,e,reduceIte,adE,adF,and_self,ge_iff_le,du,aad,aaK,Z9,aaB,bne_self_eq_false,aaz,true_and,and_true,aaO]
   have R:=xU ck c.op c.type0 x (by omega) (λq=>by first|exact E|omega)
   rw[e]at R
   simp only[R,hle,ZY,adz]
   rw[<-e]
   generalize bA ck c.op c.type0 x=r
   by_cases hz:r.2=0
   ·have hz1:(r.2 !=0)=false:=by simpa using hz
    simp only[ZY,bne_self_eq_false,beq_self_eq_true,Z0,adA,adz,hd1,hz1,hz,cZ,bV]
    unfold aV
    rw[adD hd]
    try rfl
   ·have hz1:(r.2 !=0)=true:=by simpa using hz
    simp only[hz1,hz,adz,adA]
    rfl
  ·have hd1:(d==1)=false:=by simpa using hd
   simp only[hd1,bV,wn,p1,p2,p3,dL,cG,p7,p8,hb,Z0,adA,adz,hk0,ha0,Z5,hk,hc,Z1,ZY,w1,w2,e,reduceIte,adE,adF,and_self,ge_iff_le,du,aad,aaK,Z9,aaB,bne_self_eq_false,aaz,true_and,and_true,aaO]
   have R:=xU ck c.op c.type0 x (by omega) (λq=>by first|exact E|omega)
   rw[e]at R
   simp only[R,hle,ZY,adz]
   rw[<-e]
   generalize bA ck c.op c.type0 x=r
   by_cases hz:r.2=0
   ·have hz1:(r.2 !=0)=false:=by simpa using hz
    simp only[ZY,bne_self_eq_false,beq_self_eq_true,Z0,adA,adz,hd1,hz1,hz,cZ,bV]
    unfold aV
    rw[adC hd]
    try rfl
   ·have hz1:(r.2 !=0)=true:=by simpa using hz
    simp only[hz1,hz,adz,adA]
    rfl)
theorem rl7{x:Item}{s:List Item}(H:Rh l f c k a d steps high (x::s) 7)(E:cL c.type0=true):aA (rt k l d ck (a:Int) steps high place i0 lg pl (x::s) cnt sn)=if(bA ck 7 c.type0 x).2=0 then aA (rt k l d ck ((a:Int)+1) (steps+1) (aV d high (s.length+1)) place i0 lg pl ((bA ck 7 c.type0 x).1::s) cnt sn)else some (cj 0,1,(bA ck 7 c.type0 x).2,steps+1,high,place,cnt,sn,()):=Q8.1 H E
theorem rl8{x:Item}{s:List Item}(H:Rh l f c k a d steps high (x::s) 8)(E:True):aA (rt k l d ck (a:Int) steps high place i0 lg pl (x::s) cnt sn)=if(bA ck 8 c.type0 x).2=0 then aA (rt k l d ck ((a:Int)+1) (steps+1) (aV d high (s.length+1)) place i0 lg pl ((bA ck 8 c.type0 x).1::s) cnt sn)else some (cj 0,1,(bA ck 8 c.type0 x).2,steps+1,high,place,cnt,sn,()):=Q8.2.1 H E
theorem rl9{x:Item}{s:List Item}(H:Rh l f c k a d steps high (x::s) 9)(E:cL c.type0=true):aA (rt k l d ck (a:Int) steps high place i0 lg pl (x::s) cnt sn)=if(bA ck 9 c.type0 x).2=0 then aA (rt k l d ck ((a:Int)+1) (steps+1) (aV d high (s.length+1)) place i0 lg pl ((bA ck 9 c.type0 x).1::s) cnt sn)else some (cj 0,1,(bA ck 9 c.type0 x).2,steps+1,high,place,cnt,sn,()):=Q8.2.2.1 H E
theorem XB{x:Item}{s:List Item}(H:Rh l f c k a d steps high (x::s) 10)(E:cL c.type0=true):aA (rt k l d ck (a:Int) steps high place i0 lg pl (x::s) cnt sn)=if(bA ck 10 c.type0 x).2=0 then aA (rt k l d ck ((a:Int)+1) (steps+1) (aV d high (s.length+1)) place i0 lg pl ((bA ck 10 c.type0 x).1::s) cnt sn)else some (cj 0,1,(bA ck 10 c.type0 x).2,steps+1,high,place,cnt,sn,()):=Q8.2.2.2.1 H E
theorem XC{x:Item}{s:List Item}(H:Rh l f c k a d steps high (x::s) 11)(E:True):aA (rt k l d ck (a:Int) steps high place i0 lg pl (x::s) cnt sn)=if(bA ck 11 c.type0 x).2=0 then aA (rt k l d ck ((a:Int)+1) (steps+1) (aV d high (s.length+1)) place i0 lg pl ((bA ck 11 c.type0 x).1::s) cnt sn)else some (cj 0,1,(bA ck 11 c.type0 x).2,steps+1,high,place,cnt,sn,()):=Q8.2.2.2.2 H E
theorem XL:(∀{x:Item} {s:List Item} (_:Rh l f c k a d steps high (x::s) 3) (_:0<=c.a/\c.a<(pl.length:Int)/\sn.length<=100),aA (rt k l d ck (a:Int) steps high place i0 lg pl (x::s) cnt sn)=aA (rt k l d ck ((a:Int)+1) (steps+1) (aV d high s.length) place i0 lg (pl.set c.a.toNat x) s cnt (iA d place c (x::s) sn))):=by
 (
  intro x s H E
  obtain⟨hk,hc,hs,h0,h1,ha,hh,hst,e⟩:=H
  have w1:i64.wrap ((a:Int)+1)=(a:Int)+1:=w64 (by omega) (by omega)
  have w2:i64.wrap (steps+1)=steps+1:=w64 (by omega) (by omega)
  have hb:(steps==40000)=false:=by simpa using hs
  have ha0:(0:Int)<=(a:Int):=by omega
  have hk0:(0:Int)<=(k:Int):=by omega
  have hst1:s.length<=64:=by rw[aaa]at hst;omega
  have wn:i64.wrap ((s.length:Int)+1-1)=(s.length:Int):=by rw[w64 (by omega) (by omega)];omega
  have p1:(0:Int)<=(s.length:Int):=by omega
  have p2:(s.length:Int)<(s.length:Int)+1:=by omega
  have p3:(s.length:Int)<=(s.length:Int)+1:=by omega
  have p8:s.length<=4294967296:=by omega
  have hst2:s.length<=65:=by omega
  have hle:=λv=>lP hst2 v
  have p7:s.length<=(x::s).reverse.length:=by simp
  conv=>lhs;rw[aA]
  unfold rt
  by_cases hd:d=1
  ·have hd1:(d==1)=true:=by simpa using hd
   have hm:max high ((s.length:Int)+1)=high:=by have:=hh hd;simp at this⊢;omega
   simp only[hd1,hm,bV,wn,p1,p2,p3,dL,cG,p7,p8,hb,Z0,adA,adz,hk0,ha0,Z5,hk,hc,Z1,ZY,w1,w2,e,reduceIte,adE,adF,and_self,ge_iff_le,du,aad,aaK,Z9,aaB,bne_self_eq_false,aaz,true_and,and_true,aaO]
   obtain⟨b0,b1,hsn⟩:=E
   have hg:pl[c.a.toNat]?=some (pl.getD c.a.toNat (cj 0)):=by rw[aa0,Z3 (by omega)];rfl
   simp only[b0,b1,hg,hd1,and_self,adz,ZY,Z0,adA,p1,p3,cG,bne_self_eq_false]
   have ie:Item.mk x.n x.null x.err=x:=rfl
   by_cases hp:place=c.a
   ·have hp1:(place==c.a)=true:=by simpa using hp
    by_cases hn:sn.length<100
    ·have hn1:(sn.length:Int)<100:=by omega
     have hn2:sn.length+[x].length<=4294967296:=by simp;omega
     simp only[ZY,bne_self_eq_false,beq_self_eq_true,Z0,adA,adz,hd1,hp1,hn1,adE,hn2,ie,aaY]
     unfold iA aV
     rw[adD hd,adD ⟨e,hd,hp,hn⟩]
     rfl
    ·have hn1:¬(sn.length:Int)<100:=by omega
     simp only[ZY,bne_self_eq_false,beq_self_eq_true,Z0,adA,adz,hd1,hp1,hn1,adF,ie,aaY]
     unfold iA aV
     rw[adD hd,adC (λq=>hn q.2.2.2)]
   ·have hp1:(place==c.a)=false:=by simpa using hp
    simp only[ZY,bne_self_eq_false,beq_self_eq_true,Z0,adA,adz,hd1,hp1,ie,aaY]
    unfold iA aV
    rw[adD hd,adC (λq=>hp q.2.2.1)]
  ·have hd1:(d==1)=false:=by simpa using hd
   simp only[hd1,bV,wn,p1,p2,p3,dL,cG,p7,p8,hb,Z0,adA,adz,hk0,ha0,Z5,hk,hc,Z1,ZY,w1,w2,e,reduceIte,adE,adF,and_self,ge_iff_le,du,aad,aaK,Z9,aaB,bne_self_eq_false,aaz,true_and,and_true,aaO]
   obtain⟨b0,b1,hsn⟩:=E
   have hg:pl[c.a.toNat]?=some (pl.getD c.a.toNat (cj 0)):=by rw[aa0,Z3 (by omega)];rfl
   simp only[b0,b1,hg,hd1,and_self,adz,ZY,Z0,adA,p1,p3,cG,bne_self_eq_false]
   unfold iA aV
   rw[adC hd,adC (λq=>hd q.2.1)])
theorem rl3{x:Item}{s:List Item}(H:Rh l f c k a d steps high (x::s) 3)(E:0<=c.a/\c.a<(pl.length:Int)/\sn.length<=100):aA (rt k l d ck (a:Int) steps high place i0 lg pl (x::s) cnt sn)=aA (rt k l d ck ((a:Int)+1) (steps+1) (aV d high s.length) place i0 lg (pl.set c.a.toNat x) s cnt (iA d place c (x::s) sn)):=XL H E
end
end Go.Proofs.YtcghbgmmgcljkaaGreatDoor
end
section
namespace Go.Proofs.YtcghbgmmgcljkaaGreatDoor
open IntKind (i64)
set_option maxRecDepth 20000
set_option maxHeartbeats 4000000
def ro(place:Int)(r:Item×Lg):=(r.1,r.2.kind,r.2.stop,r.2.steps,r.2.high,place,r.2.counts,r.2.seen,())
theorem Fs(k:Nat)(l:List aC)(d:Int)(ck:Bool)(at1 high place:Int)(i0:Item)(lg:Log)(pl st:List Item)(cnt:List Int)(sn:List Item):
 aA (rt k l d ck at1 40000 high place i0 lg pl st cnt sn)=some (cj 0,2,0,40000,high,place,cnt,sn,()):=by
 rw[aA]
 unfold rt
 simp only[beq_self_eq_true,adz]
 rfl
theorem qA(l:List aC)(k:Int)(args:List Item)(d:Int)(ck:Bool)(u1 u2 u3 u4 u5:Int)(i0:Item)(lg:Log)(cnt:List Int)(sn:List Item):∀(j i:Nat) (pl:List Item),i+j=args.length->args.length<=pl.length->args.length<=4294967296->
 bM (l,k,args,d,ck,(i:Int),u1,u2,u3,u4,u5,i0,lg,args.take i++pl.drop i,cnt,sn,())=some (l,k,d,ck,u1,u2,u3,u4,u5,i0,lg,args++pl.drop args.length,cnt,sn,())
 |0,i,pl,h,hp,h4=>by
  have hi:i=args.length:=by omega
  subst hi
  rw[bM]
  have:¬(args.length:Int)<(args.length:Int):=by omega
  simp[this]
 |j+1,i,pl,h,hp,h4=>by
  have hlt:i<args.length:=by omega
  have h1:(i:Int)<(args.length:Int):=by omega
  have h2:(0:Int)<=(i:Int):=by omega
  have hl:(args.take i++pl.drop i).length=pl.length:=by rw[aas,aaM,aaE];omega
  have h3:(i:Int)<((args.take i++pl.drop i).length:Int):=by rw[hl];omega
  have w:i64.wrap ((i:Int)+1)=((i+1:Nat):Int):=by rw[w64 (by omega) (by omega)];omega
  have hx:=Z3 hlt
  obtain⟨y,hy⟩:∃y,(args.take i++pl.drop i)[i]?=some y:=⟨_,Z3 (by omega)⟩
  have e:(args.take i++pl.drop i).set i args[i]=args.take (i+1)++pl.drop (i+1):=by
   rw[acA _ _ (by rw[aaM];omega),aaM,show i-min i args.length=0 by omega,List.take_succ_eq_append_getElem hlt,abj]
   congr 1
   rw[abO (show i<pl.length by omega)]
   rfl
  have ih:=qA l k args d ck u1 u2 u3 u4 u5 i0 lg cnt sn j (i+1) pl (by omega) hp h4
  rw[bM]
  simp only[h1,h2,h3,adE,adz,and_self,Z5,hx,hy,w,Z1,ZY]
  rw[e]
  exact ih
theorem r44{l:List aC}{k:Nat}{h:aC}(hk:l[k]?=some h){args:List Item}{ck:Bool}{place d:Int}{g:Lg}(hd:¬30<d)(hp0:(args.length:Int)<=h.places)(hp1:h.places<=200)(hg:g.kind=0)(hst0:g.stop=0)(hc:g.counts.length=l.length)(hkl:k<l.length)(hll:l.length<=3000)
 (hpl:d=1->place<h.places)(hs:d=1->g.seen.length<=99){r:Item×Lg}
 (hl:∀i0 lg,aA (rt k l d ck 0 g.steps g.high place i0 lg (cH h args) [] (pW g.counts k) (if d=1/\0<=place then g.seen++[(cH h args).getD place.toNat (cj 0)]else g.seen))=some (ro place r)):
 n_44s5ed9 (l,(k:Int),args,d,ck,0,0,g.steps,g.high,place,g.counts,g.seen,())=some (ro place r):=by
 have hk0:(0:Int)<=(k:Int):=by omega
 have hk1:(k:Int)<(g.counts.length:Int):=by omega
 obtain⟨x,hx⟩:∃x,g.counts[k]?=some x:=⟨_,Z3 (by omega)⟩
 have hbump:g.counts.set k (i64.wrap (x+1))=pW g.counts k:=by
  unfold pW;rw[aa0,hx];rfl
 have h0:0<=h.places:=by omega
 have h4:h.places<=4294967296:=by omega
 have hcl:g.counts.length<=4294967296:=by omega
 have lp:=qA l (k:Int) args d ck 0 0 g.steps g.high place (Item.mk 0 false (ZZ #[])) (Log.mk 0 0 0 [] 0 [] 0) (pW g.counts k) g.seen args.length 0 (aak h.places.toNat (cj 0)) (Z9 _) (by rw[aaP];omega) (by omega)
 rw[acj,aap,aad,aao,ado]at lp
 change _=some (l,(k:Int),d,ck,0,0,g.steps,g.high,place,Item.mk 0 false (ZZ #[]),Log.mk 0 0 0 [] 0 [] 0,cH h args,pW g.counts k,g.seen,())at lp
 rw[show(cj 0)=Item.mk 0 false (ZZ #[])from rfl]at lp
 have hd':¬d>30:=by omega
 rw[n_44s5ed9]
 simp only[hd',adF,Z0,adA,Z9,hcl,adz,aad,hk0,hk1,and_self,Z5,hx,hk,h0,h4,Z1,ZY,hbump,lp]
 unfold rt at hl
 rw[List.reverse_nil]at hl
 by_cases h1:d=1
 ·have hb1:(d==1)=true:=by simpa using h1
  simp only[hb1,adz,ZY]
  by_cases hp:0<=place
  ·have hlt:=hpl h1
   have hlen:(cH h args).length=h.places.toNat:=by
    unfold cH
    rw[aas,aaP];omega
   have hlt2:place<((cH h args).length:Int):=by rw[hlen];omega
   have hget:(cH h args)[place.toNat]?=some ((cH h args).getD place.toNat (cj 0)):=by
    rw[aa0,Z3 (by omega)];rfl
   have hs':g.seen.length+[(cH h args).getD place.toNat (cj 0)].length<=4294967296:=by have:=hs h1;simp;omega
   rw[adD ⟨h1,hp⟩]at hl
   simp only[ge_iff_le,hp,adE,adz,hlt2,and_self,hget,ZY,hs',hl]
  ·rw[adC (λh=>hp h.2)]at hl
   simp only[ge_iff_le,hp,adF,Z0,adA,ZY,hl]
 ·have hb1:(d==1)=false:=by simpa using h1
  rw[adC (λh=>h1 h.1)]at hl
  simp only[hb1,Z0,adA,ZY,hl]
theorem Jm{l:List aC}{k:Nat}{args:List Item}{ck:Bool}{place d:Int}{g:Lg}(hd:30<d):
 n_44s5ed9 (l,(k:Int),args,d,ck,0,0,g.steps,g.high,place,g.counts,g.seen,())=some (cj 0,2,0,g.steps,g.high,place,g.counts,g.seen,()):=by
 rw[n_44s5ed9]
 have hd':d>30:=hd
 simp only[hd',adE,adz]
 rfl
theorem Oq(st:List Item){b:Nat}(hb:b<=st.length):abb (st.length-b) st.reverse=(st.drop b).reverse/\abb b (ack (st.length-b) st.reverse)=(st.take b).reverse:=by
 constructor
 ·rw[List.take_reverse,show st.length-(st.length-b)=b by omega]
 ·rw[List.drop_reverse,show st.length-(st.length-b)=b by omega,aaI (by simp;omega)]
theorem W0(k:Nat){l:List aC}{d:Int}(ck:Bool)(a:Nat){steps high:Int}(place:Int)(i0:Item)(lg:Log)(pl:List Item)(cnt:List Int)(sn:List Item){f:aC}{c:aQ}{st:List Item}
 (hk:l[k]?=some f)(hc:f.code[a]?=some c)(hs:¬steps=40000)(h0:0<=steps)(h1:steps<=40000)(ha:a<=3000)(hh:d=1->(st.length:Int)<=high)(hst:st.length<=65)(e:c.op=16)
 {n kk:Nat}(hb:c.b=(n:Int))(hn:n<=st.length)(hf:cw l c.name0=(kk:Int))(hll:l.length<=3000)(hd1:1<=d)(hd2:d<=30){r:Item×Lg}
 (h44:n_44s5ed9 (l,(kk:Int),(st.take n).reverse,d+1,ck,0,0,steps+1,high,place,cnt,sn,())=some (ro place r))(hz:r.2.kind=0->r.2.stop=0):
 aA (rt k l d ck (a:Int) steps high place i0 lg pl st cnt sn)=
  if r.2.kind=0 then aA (rt k l d ck ((a:Int)+1) r.2.steps (aV d r.2.high (st.length-n+1)) place i0 lg pl (r.1::st.drop n) r.2.counts r.2.seen)
  else some (cj 0,r.2.kind,r.2.stop,r.2.steps,r.2.high,place,r.2.counts,r.2.seen,()):=by
 have w1:i64.wrap ((a:Int)+1)=(a:Int)+1:=w64 (by omega) (by omega)
 have w2:i64.wrap (steps+1)=steps+1:=w64 (by omega) (by omega)
 have w3:i64.wrap (d+1)=d+1:=w64 (by omega) (by omega)
 have hb0:(steps==40000)=false:=by simpa using hs
 have ha0:(0:Int)<=(a:Int):=by omega
 have hk0:(0:Int)<=(k:Int):=by omega
 have hL:((st.reverse.length:Nat):Int)=(st.length:Int):=by simp
 have hL0:st.reverse.length=st.length:=by simp
 obtain⟨c1,c2⟩:=Oq st hn
 have w:i64.wrap ((st.length:Int) -(n:Int))=((st.length-n:Nat):Int):=by rw[w64 (by omega) (by omega)];omega
 have i1:(0:Int)<=((st.length-n:Nat):Int):=by omega
 have i2:((st.length-n:Nat):Int)<=(st.length:Int):=by omega
 have e1:st.length-(st.length-n)=n:=by omega
 have e2:st.length-n+n<=st.length:=by omega
 have e3:n<=4294967296:=by omega
 have e4:st.length-n<=st.length:=by omega
 have e5:st.length-n<=4294967296:=by omega
 have e6:∀v:Item,(st.drop n).reverse.length+[v].length<=4294967296:=by intro v;simp;omega
 have hhi:∀v:Item,(((v::st.drop n).reverse.length:Nat):Int)=((st.length-n+1:Nat):Int):=by intro v;simp
 have q0:((16:Int)==0)=false:=rfl
 have q1:((16:Int)==1)=false:=rfl
 have q18:((16:Int)==18)=false:=rfl
 have q2:((16:Int)==2)=false:=rfl
 have q3:((16:Int)==3)=false:=rfl
 have q4:((16:Int)==4)=false:=rfl
 have q5:((16:Int)==5)=false:=rfl
 have q6:((16:Int)==6)=false:=rfl
 have q7:((16:Int)==7)=false:=rfl
 have q8:((16:Int)==8)=false:=rfl
 have q9:((16:Int)==9)=false:=rfl
 have q10:((16:Int)==10)=false:=rfl
 have q11:((16:Int)==11)=false:=rfl
 have q12:((16:Int)==12)=false:=rfl
 have q13:((16:Int)==13)=false:=rfl
 have q14:((16:Int)==14)=false:=rfl
 have q15:((16:Int)==15)=false:=rfl
 have q16:((16:Int)==16)=true:=rfl
 have q17:((16:Int)==17)=false:=rfl
 have fin:∀{α:Type} {x y:α},x=y->x=y:=λh=>h
 have htop:∃t:Item,∃b:Bool,(b=true->(0:Int)<=((st.length-1:Nat):Int)/\((st.length-1:Nat):Int)<(st.length:Int)/\i64.wrap ((st.length:Int) -1)=((st.length-1:Nat):Int)/\st.reverse[st.length-1]?=some t)/\(b=false->i64.wrap ((st.length:Int) -1)= -1/\t=cj 0):=by
  cases st with
  |nil=>exact⟨cj 0,false,λh=>(by cases h),λ_=>⟨by decide,rfl⟩⟩
  |cons x s=>
   rw[aaa]at hst
   refine⟨x,true,λ_=>⟨by omega,by rw[aaa];omega,by rw[aaa,w64 (by omega) (by omega)];omega,?_⟩,λh=>(by cases h)⟩
   rw[aaa,acM];exact dL x s
 obtain⟨t,b,hb1,hb2⟩:=htop
 conv=>lhs;rw[aA]
 unfold rt
 unfold ro at h44
 have p0:¬(0:Int)<= -1:=by decide
 by_cases hd:d=1
 ·have hdd:(d==1)=true:=by simpa using hd
  have hm:max high (st.length:Int)=high:=by have:=hh hd;omega
  cases b
  ·obtain⟨b1,b2⟩:=hb2 rfl
   simp only[hdd,hm,hL,hL0,hb0,Z0,adA,adz,hk0,ha0,Z5,hk,hc,Z1,ZY,w1,w2,w3,e,reduceIte,adE,adF,and_self,ge_iff_le,aad,aaK,Z9,aaB,aaz,true_and,and_true,hb,w,i1,i2,e1,e2,e3,e4,e5,e6,c1,c2,jy l (show l.length<=4294967296 by omega),hf,h44,q0,q1,q18,q2,q3,q4,q5,q6,q7,q8,q9,q10,q11,q12,q13,q14,q15,q16,q17,b1,p0]
   by_cases hz0:r.2.kind=0
   ·have hz1:(r.2.kind !=0)=false:=by simpa using hz0
    simp only[hz1,hz0,hz hz0,Z0,adA,adz,ZY,bne_self_eq_false,hdd,cZ,hhi]
    unfold aV
    rw[adD hd]
   ·have hz1:(r.2.kind !=0)=true:=by simpa using hz0
    simp only[hz1,hz0,adz,adA,ZY]
    rfl
  ·obtain⟨b1,b2,b3,b4⟩:=hb1 rfl
   simp only[hdd,hm,hL,hL0,hb0,Z0,adA,adz,hk0,ha0,Z5,hk,hc,Z1,ZY,w1,w2,w3,e,reduceIte,adE,adF,and_self,ge_iff_le,aad,aaK,Z9,aaB,aaz,true_and,and_true,hb,w,i1,i2,e1,e2,e3,e4,e5,e6,c1,c2,jy l (show l.length<=4294967296 by omega),hf,h44,q0,q1,q18,q2,q3,q4,q5,q6,q7,q8,q9,q10,q11,q12,q13,q14,q15,q16,q17,b1,b2,b3,b4]
   by_cases hz0:r.2.kind=0
   ·have hz1:(r.2.kind !=0)=false:=by simpa using hz0
    simp only[hz1,hz0,hz hz0,Z0,adA,adz,ZY,bne_self_eq_false,hdd,cZ,hhi]
    unfold aV
    rw[adD hd]
   ·have hz1:(r.2.kind !=0)=true:=by simpa using hz0
    simp only[hz1,hz0,adz,adA,ZY]
    rfl
 ·have hdd:(d==1)=false:=by simpa using hd
  cases b
  ·obtain⟨b1,b2⟩:=hb2 rfl
   simp only[hdd,hL,hL0,hb0,Z0,adA,adz,hk0,ha0,Z5,hk,hc,Z1,ZY,w1,w2,w3,e,reduceIte,adE,adF,and_self,ge_iff_le,aad,aaK,Z9,aaB,aaz,true_and,and_true,hb,w,i1,i2,e1,e2,e3,e4,e5,e6,c1,c2,jy l (show l.length<=4294967296 by omega),hf,h44,q0,q1,q18,q2,q3,q4,q5,q6,q7,q8,q9,q10,q11,q12,q13,q14,q15,q16,q17,b1,p0]
   by_cases hz0:r.2.kind=0
   ·have hz1:(r.2.kind !=0)=false:=by simpa using hz0
    simp only[hz1,hz0,hz hz0,Z0,adA,adz,ZY,bne_self_eq_false,hdd,cZ,hhi]
    unfold aV
    rw[adC hd]
   ·have hz1:(r.2.kind !=0)=true:=by simpa using hz0
    simp only[hz1,hz0,adz,adA,ZY]
    rfl
  ·obtain⟨b1,b2,b3,b4⟩:=hb1 rfl
   simp only[hdd,hL,hL0,hb0,Z0,adA,adz,hk0,ha0,Z5,hk,hc,Z1,ZY,w1,w2,w3,e,reduceIte,adE,adF,and_self,ge_iff_le,aad,aaK,Z9,aaB,aaz,true_and,and_true,hb,w,i1,i2,e1,e2,e3,e4,e5,e6,c1,c2,jy l (show l.length<=4294967296 by omega),hf,h44,q0,q1,q18,q2,q3,q4,q5,q6,q7,q8,q9,q10,q11,q12,q13,q14,q15,q16,q17,b1,b2,b3,b4]
   by_cases hz0:r.2.kind=0
   ·have hz1:(r.2.kind !=0)=false:=by simpa using hz0
    simp only[hz1,hz0,hz hz0,Z0,adA,adz,ZY,bne_self_eq_false,hdd,cZ,hhi]
    unfold aV
    rw[adC hd]
   ·have hz1:(r.2.kind !=0)=true:=by simpa using hz0
    simp only[hz1,hz0,adz,adA,ZY]
    rfl
end Go.Proofs.YtcghbgmmgcljkaaGreatDoor
end
section
namespace Go.Proofs.YtcghbgmmgcljkaaGreatDoor
set_option maxRecDepth 20000
set_option maxHeartbeats 4000000
theorem nB{l:List aC}(R:nL l)(ck:Bool)(place:Int):∀(N:Nat) (f:aC) (d:Int) (a:Nat) (pl st:List Item) (g:Lg),OkA l f d a pl st->OkG l g->(d=1->(st.length:Int)<=g.high)->40000-g.steps<=(N:Int)->
 ∀(k:Nat),l[k]?=some f->∀(i0:Item) (lg:Log),aA (rt k l d ck (a:Int) g.steps g.high place i0 lg pl st g.counts g.seen)=some (ro place (gJ l ck place N f d (a:Int) pl st g))
 |0,f,d,a,pl,st,g,A,G,hh,hN,k,hkf,i0,lg=>by
  have hs:g.steps=40000:=by have:=G.s1;omega
  rw[gJ,hs,Fs]
  simp only[zu,ro,hs,G.stop]
 |N+1,f,d,a,pl,st,g,A,G,hh,hN,k,hkf,i0,lg=>by
  obtain⟨c,hc,hcm,hcode,hal,hl3⟩:=A.code R
  have s0:=G.s0
  have s1:=G.s1
  have hst:=A.st_le R
  have hd1:=A.d1
  have hd2:=A.d2
  obtain⟨T,hT⟩:∃T,T=some (ro place (gJ l ck place (N+1) f d (a:Int) pl st g)):=⟨_,rfl⟩
  rw[<-hT]
  rw[gJ]at hT
  by_cases hs:g.steps=40000
  ·rw[hT,adD hs,hs,Fs]
   simp only[zu,ro,hs,G.stop]
  ·rw[adC hs]at hT
   simp only[Z5,hc]at hT
   obtain⟨hk,hw⟩:=jC R A.mem A.reach hc
   have ht:=hk.1
   have hr:=nw hcode
   have go3:∀(at1:Int) (pl1 st1:List Item),cN ck c ((a:Int)+1) pl st= .go at1 pl1 st1->aA (rt k l d ck (a:Int) g.steps g.high place i0 lg pl st g.counts g.seen)=aA (rt k l d ck at1 (g.steps+1) (aV d g.high st1.length) place i0 lg pl1 st1 g.counts (iA d place c st g.seen))->aA (rt k l d ck (a:Int) g.steps g.high place i0 lg pl st g.counts g.seen)=T:=by
    intro at1 pl1 st1 ha hn
    rw[ha]at hT
    obtain⟨⟨b',hb',A'⟩,G'⟩:=wV (place:=place) R A G hs hc ha
    subst hb'
    rw[hn,hT]
    exact nB R ck place N f d b' pl1 st1 _ A' G' (λhd=>nh hd) (by simp only[];omega) k hkf i0 lg
   have go:∀(at1:Int) (pl1 st1:List Item),cN ck c ((a:Int)+1) pl st= .go at1 pl1 st1->c.op≠3->aA (rt k l d ck (a:Int) g.steps g.high place i0 lg pl st g.counts g.seen)=aA (rt k l d ck at1 (g.steps+1) (aV d g.high st1.length) place i0 lg pl1 st1 g.counts g.seen)->aA (rt k l d ck (a:Int) g.steps g.high place i0 lg pl st g.counts g.seen)=T:=
    λat1 pl1 st1 ha h hn=>go3 _ _ _ ha (by rw[hn];unfold iA;rw[adC (λq=>h q.1)])
   have stop:∀(w:Int),cN ck c ((a:Int)+1) pl st= .stop w->aA (rt k l d ck (a:Int) g.steps g.high place i0 lg pl st g.counts g.seen)=some (cj 0,1,w,g.steps+1,g.high,place,g.counts,g.seen,())->aA (rt k l d ck (a:Int) g.steps g.high place i0 lg pl st g.counts g.seen)=T:=λw ha hn=>by rw[ha]at hT;rw[hn,hT];rfl
   have re:∀(x:Item),cN ck c ((a:Int)+1) pl st= .ret x->aA (rt k l d ck (a:Int) g.steps g.high place i0 lg pl st g.counts g.seen)=some (x,0,0,g.steps+1,g.high,place,g.counts,g.seen,())->aA (rt k l d ck (a:Int) g.steps g.high place i0 lg pl st g.counts g.seen)=T:=λx ha hn=>by rw[ha]at hT;rw[hn,hT];simp only[ro,G.kind,G.stop]
   have pu:∀(r:Item×Int) (s:List Item),cN ck c ((a:Int)+1) pl st=il r ((a:Int)+1) pl s->c.op≠3->aA (rt k l d ck (a:Int) g.steps g.high place i0 lg pl st g.counts g.seen)=(if r.2=0 then aA (rt k l d ck ((a:Int)+1) (g.steps+1) (aV d g.high (s.length+1)) place i0 lg pl (r.1::s) g.counts g.seen)else some (cj 0,1,r.2,g.steps+1,g.high,place,g.counts,g.seen,()))->aA (rt k l d ck (a:Int) g.steps g.high place i0 lg pl st g.counts g.seen)=T:=by
    intro r s ha h hp
    unfold il at ha
    by_cases h0:r.2=0
    ·exact go _ _ _ (ha.trans (adD h0)) h (hp.trans (adD h0))
    ·exact stop _ (ha.trans (adC h0)) (hp.trans (adC h0))
   have co:∀{C:Prop} [Decidable C] {p q:Int} {s1 s2:List Item},cN ck c ((a:Int)+1) pl st=(if C then .go p pl s1 else .go q pl s2)->c.op≠3->aA (rt k l d ck (a:Int) g.steps g.high place i0 lg pl st g.counts g.seen)=(if C then aA (rt k l d ck p (g.steps+1) (aV d g.high s1.length) place i0 lg pl s1 g.counts g.seen)else aA (rt k l d ck q (g.steps+1) (aV d g.high s2.length) place i0 lg pl s2 g.counts g.seen))->aA (rt k l d ck (a:Int) g.steps g.high place i0 lg pl st g.counts g.seen)=T:=by
    intro C _ p q s1 s2 ha h hp
    by_cases h0:C
    ·exact go _ _ _ (ha.trans (adD h0)) h (hp.trans (adD h0))
    ·exact go _ _ _ (ha.trans (adC h0)) h (hp.trans (adC h0))
   have H:∀op,c.op=op->Rh l f c k a d g.steps g.high st op:=λ_ e=>⟨hkf,hc,hs,s0,s1,by omega,hh,hst,e⟩
   have hop:c.op=0\/c.op=1\/c.op=2\/c.op=3\/c.op=4\/c.op=5\/c.op=6\/c.op=7\/c.op=8\/c.op=9\/c.op=10\/c.op=11\/c.op=12\/c.op=13\/c.op=14\/c.op=15\/c.op=16\/c.op=17\/c.op=18\/c.op=19:=by omega
   have hpl:=A.pls
   have hplc:=R.places f A.mem
   have hfn:=R.fns f A.mem
   rcases hop with e0|e0|e0|e0|e0|e0|e0|e0|e0|e0|e0|e0|e0|e0|e0|e0|e0|e0|e0|e0
   ·exact go ((a:Int)+1) pl (cj (lq c.type0 c.a)::st) (by simp[cN,e0]) (by omega) (by cases st;exact XA (H _ e0) (MM hcode e0);exact Xz (H _ e0) (MM hcode e0))
   ·exact go ((a:Int)+1) pl (Item.mk 0 true (ZZ #[])::st) (by simp[cN,e0]) (by omega) (by cases st;exact XI (H _ e0) trivial;exact XH (H _ e0) trivial)
   ·obtain⟨a0,a1⟩:=ya hcode (by omega) (by omega) hplc
    exact go ((a:Int)+1) pl (pl.getD c.a.toNat (cj 0)::st) (by simp[cN,e0]) (by omega) (by cases st;exact XK (H _ e0) ⟨a0,by omega⟩;exact XJ (H _ e0) ⟨a0,by omega⟩)
   ·obtain⟨a0,a1⟩:=ya hcode (by omega) (by omega) hplc
    obtain⟨x,s,rfl⟩:=de rfl (by rw[(bH hr.1 hr.2 (by omega)).2 (by omega)]at ht;exact ht)
    exact go3 _ _ _ (by simp[cN,e0]) (rl3 (H _ e0) ⟨a0,by omega,G.seen⟩)
   ·obtain⟨x,s,rfl⟩:=de rfl (by rw[(bH hr.1 hr.2 (by omega)).2 (by omega)]at ht;exact ht)
    exact go _ _ _ (by simp[cN,e0]) (by omega) (rl4 (H _ e0) trivial)
   ·obtain⟨o1,o2⟩:=Qr hcode e0
    obtain⟨x,y,s,rfl⟩:=rK rfl (by rw[(bH hr.1 hr.2 (by omega)).1 (by omega)]at ht;exact ht)
    exact pu (opS ck c.a c.type0 y x) s (by simp[cN,e0]) (by omega) (rl5 (H _ e0) o2)
   ·obtain⟨x,y,s,rfl⟩:=rK rfl (by rw[(bH hr.1 hr.2 (by omega)).1 (by omega)]at ht;exact ht)
    exact go ((a:Int)+1) pl (gc (jJ c.a y.n x.n)::s) (by simp[cN,e0]) (by omega) (rl6 (H _ e0) trivial)
   ·obtain⟨x,s,rfl⟩:=de rfl (by rw[(bH hr.1 hr.2 (by omega)).2 (by omega)]at ht;exact ht)
    exact pu (bA ck 7 c.type0 x) s (e0▸Gs (by omega)) (by omega) (rl7 (H _ e0) (Ak hcode (by omega)))
   ·obtain⟨x,s,rfl⟩:=de rfl (by rw[(bH hr.1 hr.2 (by omega)).2 (by omega)]at ht;exact ht)
    exact pu (bA ck 8 c.type0 x) s (e0▸Gs (by omega)) (by omega) (rl8 (H _ e0) trivial)
   ·obtain⟨x,s,rfl⟩:=de rfl (by rw[(bH hr.1 hr.2 (by omega)).2 (by omega)]at ht;exact ht)
    exact pu (bA ck 9 c.type0 x) s (e0▸Gs (by omega)) (by omega) (rl9 (H _ e0) (Ak hcode (by omega)))
   ·obtain⟨x,s,rfl⟩:=de rfl (by rw[(bH hr.1 hr.2 (by omega)).2 (by omega)]at ht;exact ht)
    exact pu (bA ck 10 c.type0 x) s (e0▸Gs (by omega)) (by omega) (XB (H _ e0) (Ak hcode (by omega)))
   ·obtain⟨x,s,rfl⟩:=de rfl (by rw[(bH hr.1 hr.2 (by omega)).2 (by omega)]at ht;exact ht)
    exact pu (bA ck 11 c.type0 x) s (e0▸Gs (by omega)) (by omega) (XC (H _ e0) trivial)
   ·obtain⟨x,s,rfl⟩:=de rfl (by rw[(bH hr.1 hr.2 (by omega)).2 (by omega)]at ht;exact ht)
    exact co (s2:=x::s) (by simp[cN,e0]) (by omega) (XD (H _ e0) trivial)
   ·obtain⟨x,s,rfl⟩:=de rfl (by rw[(bH hr.1 hr.2 (by omega)).2 (by omega)]at ht;exact ht)
    exact co (s1:=x::s) (s2:=x::s) (by simp[cN,e0]) (by omega) (XE (H _ e0) trivial)
   ·exact go c.a pl st (by simp[cN,e0]) (by omega) (by cases st;exact T5 (H _ e0) trivial;exact T4 (H _ e0) trivial)
   ·obtain⟨x,s,rfl⟩:=de rfl (by rw[(bH hr.1 hr.2 (by omega)).2 (by omega)]at ht;exact ht)
    exact co (by simp[cN,e0]) (by omega) (XF (H _ e0) trivial)
   ·have ha:=(rP hcode (ck:=ck) (at1:=(a:Int)+1) (pl:=pl) (st:=st)).mpr e0
    rw[hT,ha]
    obtain⟨kk,h,n,h1,h2,h3,h4,h5,h6,h7,h8,h9,h10⟩:=o9 R A hc e0
    simp only[h1,h3,h4,Z5]
    by_cases hd:30<d+1
    ·rw[adD hd]
     have q:=W0 k ck a place i0 lg pl g.counts g.seen hkf hc hs s0 s1 (by omega) hh hst e0 h4 h5 h1 R.len hd1 hd2 (r:=(cj 0,{g with steps:=g.steps+1,kind:=2,stop:=0})) (Jm (g:={g with steps:=g.steps+1}) hd) (λq=>rfl)
     rw[q,adC (λw=>S5 w)]
     simp only[zu,ro,G.stop]
    ·rw[adC hd]
     have G1:OkG l {g with steps:=g.steps+1,counts:=pW g.counts kk}:=⟨by simp only[];omega,by simp only[];omega,G.kind,G.stop,by simp only[pW,aaR];exact G.cnt,G.seen⟩
     have A1:=h10 (by omega)
     have L:=gK R ck place N h (d+1) 0 _ [] _ A1 G1
     have I:=nB R ck place N h (d+1) 0 _ [] _ A1 G1 (λq=>by omega) (by simp only[];omega) kk h3
     rw[aao]at L I
     generalize hrr:gJ l ck place N h (d+1) 0 (cH h (st.take n).reverse) [] {g with steps:=g.steps+1,counts:=pW g.counts kk}=r at L I⊢
     have L0:=L.s0
     have L1:=L.s1
     have Lh:=L.high (by omega)
     simp only[]at L0 Lh
     have hal:(st.take n).reverse.length=n:=by simp;omega
     have h44:=r44 h3 (args:=(st.take n).reverse) (ck:=ck) (place:=place) (d:=d+1) (g:={g with steps:=g.steps+1}) (by omega) (by rw[hal];omega) h8 G.kind G.stop G.cnt h2 R.len (λq=>by omega) (λq=>by omega) (r:=r) (by
      rw[adC (λq=>by omega)]
      exact I)
     rw[W0 k ck a place i0 lg pl g.counts g.seen hkf hc hs s0 s1 (by omega) hh hst e0 h4 h5 h1 R.len hd1 hd2 h44 L.stop]
     by_cases hk:r.2.kind=0
     ·rw[adD hk,adD hk]
      have G2:OkG l {r.2 with high:=aV d r.2.high (st.length-n+1)}:=⟨by simp only[];omega,L1,hk,L.stop hk,L.cnt,L.seen⟩
      have ih:=nB R ck place N f d (a+1) pl _ _ (h9 r.1) G2 (λq=>by
       have:(((r.1::st.drop n).length:Nat):Int)=((st.length-n+1:Nat):Int):=by rw[aaa,aaE]
       rw[this];exact nh q) (by simp only[];omega) k hkf i0 lg
      exact ih
     ·rw[adC hk,adC hk]
      rfl
   ·obtain⟨x,s,rfl⟩:=de rfl (by rw[(bH hr.1 hr.2 (by omega)).2 (by omega)]at ht;exact ht)
    exact re x (by simp[cN,e0]) (XG (H _ e0) trivial)
   ·exact go ((a:Int)+1) pl (Item.mk 0 false c.name0::st) (by simp[cN,e0]) (by omega) (by cases st;exact T9 (H _ e0) trivial;exact T8 (H _ e0) trivial)
   ·have hca:1<=c.a:=by
     have hq:=hcode
     unfold di at hq
     simp[e0,rng]at hq
     omega
    have ha:cN ck c ((a:Int)+1) pl st=if ck=true then .stop c.a else .ret (cj 0):=by simp[cN,e0]
    by_cases h0:ck=true
    ·exact stop _ (ha.trans (adD h0)) (by cases st;exact(Q7 (H _ e0) hca).trans (adD h0);exact(Q6 (H _ e0) hca).trans (adD h0))
    ·exact re _ (ha.trans (adC h0)) (by cases st;exact(Q7 (H _ e0) hca).trans (adC h0);exact(Q6 (H _ e0) hca).trans (adC h0))
end Go.Proofs.YtcghbgmmgcljkaaGreatDoor
end
section
namespace Go.Proofs.YtcghbgmmgcljkaaGreatDoor
set_option maxRecDepth 20000
set_option maxHeartbeats 4000000
def itm(v:aE):Item:=Item.mk v.n v.null v.err
theorem qX(args:List aE)(hl:args.length<=4294967296):∀(j k:Nat) (out:List aE),k+j=args.length->out.length=k->
 dS (args,(args.length:Int),(k:Int),out,())=some (out++(args.drop k).map (λv=>val (itm v)),())
 |0,k,out,h,ho=>by
  rw[dS,cu (by omega)]
  have:¬(k:Int)<(args.length:Int):=by omega
  simp[this]
 |j+1,k,out,h,ho=>by
  obtain⟨x,hx,hm,hd⟩:=bK (l:=args) (k:=k) (by omega)
  have h1:(k:Int)<(args.length:Int):=by omega
  have h2:(0:Int)<=(k:Int):=by omega
  have w:IntKind.i64.wrap ((k:Int)+1)=((k+1:Nat):Int):=by rw[w64 (by omega) (by omega)];omega
  have hle:∀v:aE,out.length+[v].length<=4294967296:=by intro v;simp;omega
  have ih:=qX args hl j (k+1) (out++[val (itm x)]) (by omega) (by simp;omega)
  rw[dS,hd]
  simp only[h1,h2,adE,adz,Z5,hx,Z1,ZY,hle,w]
  refine Eq.trans ih ?_
  rw[aac,abj]
  rfl
theorem Jg(args:List aE)(hl:args.length<=4294967296):kM (args,())=some ((args.map itm).map val,()):=by
 have h:=qX args hl _ 0 [] (Z9 _) rfl
 rw[aao,aap,aad]at h
 rw[kM,h,aaF]
 rfl
theorem qO(args:List aE)(hl:args.length<=4294967296):∀(j k:Nat) (out:List Item),k+j=args.length->out.length=k->
 mf (args,(k:Int),out,())=some (out++(args.drop k).map itm,())
 |0,k,out,h,ho=>by
  rw[mf,cu (by omega)]
  have:¬(k:Int)<(args.length:Int):=by omega
  simp[this]
 |j+1,k,out,h,ho=>by
  obtain⟨x,hx,hm,hd⟩:=bK (l:=args) (k:=k) (by omega)
  have h1:(k:Int)<(args.length:Int):=by omega
  have h2:(0:Int)<=(k:Int):=by omega
  have w:IntKind.i64.wrap ((k:Int)+1)=((k+1:Nat):Int):=by rw[w64 (by omega) (by omega)];omega
  have hle:∀v:Item,out.length+[v].length<=4294967296:=by intro v;simp;omega
  have ih:=qO args hl j (k+1) (out++[itm x]) (by omega) (by simp;omega)
  rw[mf,hd]
  simp only[h1,h2,adE,adz,Z5,hx,Z1,ZY,TR,hle,w]
  refine Eq.trans ih ?_
  rw[aac,abj]
  rfl
theorem Hi(args:List aE)(hl:args.length<=4294967296):SP (args,())=some (args.map itm,()):=by
 have h:=qO args hl _ 0 [] (Z9 _) rfl
 rw[aao,aap,aad]at h
 rw[SP,h]
 rfl
def y4(r:Item×Lg):cv:=if r.2.kind=0 then cv.mk 0 (val r.1) 0 []else cv.mk r.2.kind (val (cj 0)) r.2.stop []
structure Gy (l:List aC) (s:ByteArray) (args:List aE) (k:Nat) (f:aC):Prop where
 runs:nL l
 name:cw l s=(k:Int)
 lt:k<l.length
 get:l[k]?=some f
 fit:(args.length:Int)=f.params
theorem vD{l:List aC}(hl:l.length<=3000)(h3:∀f∈l,f.code.length<=3000){s:ByteArray}{args:List aE}(h:eA l s args=0):∃k f,Gy l s args k f:=by
 unfold eA at h
 by_cases hc:eL l=0
 ·rw[adD hc]at h
  rcases nb l s with hf|⟨k,g,hk,hkl,hg⟩
  ·rw[adD hf]at h;cases h
  ·rw[adC (by omega),hk,Z5,hg]at h
   simp only at h
   by_cases hp:(args.length:Int)=g.params
   ·exact⟨k,g,Oj hl h3 (jm.mp hc),hk,hkl,hg,hp⟩
   ·rw[adC hp]at h;cases h
 ·rw[adC hc]at h;exact absurd h hc
theorem rT{l:List aC}{s:ByteArray}{args:List aE}{k:Nat}{f:aC}(A:Gy l s args k f)(place:Int):
 OkA l f 1 0 (cH f (args.map itm)) []/\OkG l (lg1 l place k f (args.map itm)):=by
 have hm:=Z_ A.get
 obtain⟨_,p0,p1,_⟩:=A.runs.fns f hm
 have hfit:=A.fit
 refine⟨⟨hm,Reach.start,?_,by decide,by decide⟩,⟨aaz 0,show(0:Int)<=40000 by decide,rfl,rfl,?_,?_⟩⟩
 ·unfold cH
  rw[aas,aaP,Z7]
  omega
 ·unfold lg1 lg0 pW
  simp only[aaR,aaP]
 ·unfold lg1 lg0
  simp only[]
  split
  ·simp
  ·simp
theorem zi{l:List aC}{s:ByteArray}{args:List aE}{k:Nat}{f:aC}(A:Gy l s args k f)(ck:Bool)(place:Int):
 Left l 1 (lg1 l place k f (args.map itm)) (Bn l ck place k f (args.map itm)):=by
 obtain⟨b1,b2⟩:=rT A place
 exact gK A.runs ck place 40000 f 1 0 _ [] _ b1 b2
theorem Xx{l:List aC}{s:ByteArray}{args:List aE}{k:Nat}{f:aC}(A:Gy l s args k f)(ha:args.length<=4294967296)(ck:Bool)(place:Int)(hp:place<f.places){r:Item×Lg}(hr:r=Bn l ck place k f (args.map itm)):
 QJ (l,(k:Int),args,ck,place,())=some (l,ck,r.2.steps,place,r.2.high,Dn r.2,r.2.counts,r.2.seen.map val,y4 r,()):=by
 have hm:=Z_ A.get
 obtain⟨_,p0,p1,_⟩:=A.runs.fns f hm
 have p2:=A.runs.places f hm
 have hfit:=A.fit
 have hll:=A.runs.len
 obtain⟨b1,b2⟩:=rT A place
 have L:=zi A ck place
 have I:=kX A.runs ck place 40000 f 1 0 _ [] _ b1 b2 (λ_=>by unfold lg1 lg0;simp) (by unfold lg1 lg0;simp) 0 args.length ((args.map itm).map val) (val (cj 0))
 have e:gJ l ck place 40000 f 1 ((0:Nat):Int) (cH f (args.map itm)) [] (lg1 l place k f (args.map itm))=r:=by rw[hr];rfl
 rw[e]at I
 rw[<-hr]at L
 have h40:=p40 A.get (b:=0) (e:=args.length) (argv:=(args.map itm).map val) (args:=args.map itm) (by simp) (by rw[aap,aaI (by simp)]) (by simp) (ck:=ck) (place:=place) (d:=1) (g:=lg0 l) (by decide) (by omega) p2 rfl (by simp[lg0]) A.lt (λ_=>hp) (λ_=>by simp[lg0]) (r:=r) I L.zero
 have hl4:(l.length:Int)<=4294967296:=by omega
 have hal:(((args.map itm).map val).length:Int)=(args.length:Int):=by simp
 have hcl:r.2.counts.length=(aak l.length (0:Int)).length:=by rw[L.cnt,aaP]
 unfold lg0 at h40
 rw[aaT]at h40
 simp only[aao]at h40
 rw[QJ]
 have z:aE.mk (aF.mk 0 0 (ZZ #[]) false false) 0 false (ZZ #[]) (aF.mk 0 0 (ZZ #[]) false false)=val (cj 0):=rfl
 have nz:((0:Nat):Int)=0:=rfl
 simp only[hl4,adz,Z1,ZY,Jg args ha,Z5,hal,nz,h40,hcl]
 unfold Dn y4
 by_cases hk:r.2.kind=0
 ·simp only[hk,adz,Option.isSome_none,Z0,adA]
  try rfl
 ·simp only[hk,adA,acq,adz,ZY]
  try rfl
theorem XP{l:List aC}{s:ByteArray}{args:List aE}{k:Nat}{f:aC}(A:Gy l s args k f)(ha:args.length<=4294967296)(ck:Bool)(place:Int)(hp:place<f.places){r:Item×Lg}(hr:r=Bn l ck place k f (args.map itm)):
 QK (l,s,args,ck,place,())=some (r.1,Log.mk r.2.kind r.2.stop r.2.steps r.2.counts r.2.high r.2.seen place,()):=by
 have hm:=Z_ A.get
 obtain⟨_,p0,p1,_⟩:=A.runs.fns f hm
 have p2:=A.runs.places f hm
 have hfit:=A.fit
 have hll:=A.runs.len
 obtain⟨b1,b2⟩:=rT A place
 have I:=nB A.runs ck place 40000 f 1 0 _ [] _ b1 b2 (λ_=>by unfold lg1 lg0;simp) (by unfold lg1 lg0;simp) k A.get
 have e:gJ l ck place 40000 f 1 ((0:Nat):Int) (cH f (args.map itm)) [] (lg1 l place k f (args.map itm))=r:=by rw[hr];rfl
 rw[e]at I
 have h44:=r44 A.get (args:=args.map itm) (ck:=ck) (place:=place) (d:=1) (g:=lg0 l) (by decide) (by rw[Z7];omega) p2 rfl rfl (by simp[lg0]) A.lt hll (λ_=>hp) (λ_=>by simp[lg0]) (r:=r) I
 have hl4:(l.length:Int)<=4294967296:=by omega
 unfold lg0 ro at h44
 rw[QK]
 simp only[jy l (show l.length<=4294967296 by omega),A.name,Hi args ha,hl4,adz,Z1,ZY,Z5,h44]
theorem OI{l:List aC}{d:Int}{g:Lg}{r:Item×Lg}(L:Left l d g r)(place:Int):SK (r.1,Log.mk r.2.kind r.2.stop r.2.steps r.2.counts r.2.high r.2.seen place,())=some (y4 r,()):=by
 rw[SK]
 unfold y4
 rcases L.kinds with h|h|⟨h,h2⟩
 ·simp[h,TQ];rfl
 ·simp[h];rfl
 ·simp[h,h2];rfl
end Go.Proofs.YtcghbgmmgcljkaaGreatDoor
end
section
namespace Go.Proofs.YtcghbgmmgcljkaaGreatDoor
set_option maxRecDepth 20000
set_option maxHeartbeats 4000000
end Go.Proofs.YtcghbgmmgcljkaaGreatDoor
end
section
namespace Go.Proofs.YtcghbgmmgcljkaaGreatDoor
set_option maxRecDepth 20000
set_option maxHeartbeats 4000000
def V0:aQ:=aQ.mk 19 5 0 (aF.mk 0 0 (ZZ #[]) false false) (ZZ #[])
def ext(e:Int)(f:aC):aC:=aC.mk f.name0 f.params (f.places+e) f.type0 (f.code++[V0])
end Go.Proofs.YtcghbgmmgcljkaaGreatDoor
end
section
namespace Go.Proofs.YtcghbgmmgcljkaaGreatDoor
set_option maxRecDepth 20000
set_option maxHeartbeats 4000000
theorem uE(l:List aC)(hl:l.length<=4294967296):∀(j k:Nat) (a:Int),k+j=l.length->
 uw (l,a,(k:Int),())=if(l.drop k).any (λf=>decide (f.places>2000))=true then some (.inl (true,()))else some (.inr (l,e9 a (l.drop k),()))
 |0,k,a,h=>by
  rw[uw,cu (by omega)]
  have:¬(k:Int)<(l.length:Int):=by omega
  simp[this,e9]
 |j+1,k,a,h=>by
  obtain⟨x,hx,hm,hd⟩:=bK (l:=l) (k:=k) (by omega)
  have h1:(k:Int)<(l.length:Int):=by omega
  have h2:(0:Int)<=(k:Int):=by omega
  have w:IntKind.i64.wrap ((k:Int)+1)=((k+1:Nat):Int):=by rw[w64 (by omega) (by omega)];omega
  have ih:=uE l hl j (k+1) (IntKind.i64.wrap (a+(x.code.length:Int))) (by omega)
  rw[uw,hd]
  simp only[h1,h2,adE,adz,Z5,hx,Z1,ZY,ab0,w]
  by_cases hp:x.places>2000
  ·simp[hp]
  ·simp only[hp,adF,Z0,adA,ab1]
   exact ih
theorem yc:∀(l:List aC) (a:Int),0<=a->a+(l.length:Int) *4294967296<=4611686018427387904->(∀f∈l,f.code.length<=4294967296)->a<=e9 a l/\∀f∈l,(f.code.length:Int)<=e9 a l
 |[],a,h0,h1,h2=>⟨aaz _,λf hf=>by cases hf⟩
 |x::r,a,h0,h1,h2=>by
  have hx:=h2 x (aag ..)
  rw[aaa]at h1
  have e:(((r.length+1:Nat):Int)) *4294967296=(r.length:Int) *4294967296+4294967296:=by rw[Int.natCast_add,Int.add_mul];rfl
  rw[e]at h1
  have hr:(0:Int)<=(r.length:Int) *4294967296:=acu (by omega) (by decide)
  have w:IntKind.i64.wrap (a+(x.code.length:Int))=a+(x.code.length:Int):=w64 (by omega) (by omega)
  have ih:=yc r (a+(x.code.length:Int)) (by omega) (by omega) (λf hf=>h2 f (aab _ hf))
  have ec:e9 a (x::r)=e9 (a+(x.code.length:Int)) r:=by unfold e9;rw[acI,w]
  rw[ec]
  refine⟨by omega,λf hf=> ?_⟩
  rw[aai]at hf
  rcases hf with hf|hf
  ·rw[hf];omega
  ·exact ih.2 f hf
theorem N7(l:List aC)(hl:l.length<=4294967296)(hc:∀f∈l,f.code.length<=4294967296):∃b,n_9 (l,())=some (b,())/\(b=false->l.length<=200/\∀f∈l,f.code.length<=3000):=by
 have h:=uE l hl _ 0 0 (Z9 _)
 rw[aao,aap]at h
 rw[n_9,h]
 by_cases ha:l.any (λf=>decide (f.places>2000))=true
 ·rw[adD ha];exact⟨true,rfl,λh=>by cases h⟩
 ·rw[adC ha]
  simp only[Z1,ZY]
  by_cases h3:e9 0 l>3000
  ·simp only[h3,adE,adz,ZY];exact⟨true,rfl,λh=>by cases h⟩
  ·simp only[h3,adF,Z0,adA,ZY]
   refine⟨_,rfl,λhb=> ?_⟩
   have h2:l.length<=200:=by
    have:(l.length:Int)<=200:=by simpa using hb
    omega
   refine⟨h2,λf hf=> ?_⟩
   have:=(yc l 0 (aaz _) (by omega) hc).2 f hf
   omega
def veq(v w:aE):Bool:=Mp.ieq v.type0.base w.type0.base&&(Mp.ieq v.type0.bits w.type0.bits&&(Mp.seq v.type0.name0 w.type0.name0&&(Mp.beq v.type0.opt w.type0.opt&&(Mp.beq v.type0.err w.type0.err&&(Mp.ieq v.n w.n&&(Mp.beq v.null w.null&&(Mp.seq v.err w.err&&(Mp.ieq v.of0.base w.of0.base&&(Mp.ieq v.of0.bits w.of0.bits&&(Mp.seq v.of0.name0 w.of0.name0&&(Mp.beq v.of0.opt w.of0.opt&&Mp.beq v.of0.err w.of0.err)))))))))))
theorem Om{a b:ByteArray}:Mp.seq a b=true↔a=b:=by
 obtain⟨a⟩:=a
 obtain⟨b⟩:=b
 show(a==b)=true↔_
 simp
theorem Jx(s:ByteArray):Mp.seq s s=true:=Om.mpr rfl
theorem Ka(v:aE):veq v v=true:=by
 unfold veq
 simp[Mp.ieq,Mp.beq,Jx]
def Jw(a b:cv):Bool:=(a.kind==b.kind)&&(veq a.value b.value&&(a.stop==b.stop))
theorem Bt(a:cv):Jw a a=true:=by unfold Jw;rw[Ka];simp
theorem Fv(a b:cv)(ha:a.trace=[])(hb:b.trace=[]):SH (a,b,())=some (Jw a b,()):=by
 have hl:oW (0,a,b,())=some (.inr ()):=by
  rw[oW]
  simp[ha]
 have hv:∀v w:aE,(Mp.ieq v.type0.base w.type0.base&&(Mp.ieq v.type0.bits w.type0.bits&&(Mp.seq v.type0.name0 w.type0.name0&&(Mp.beq v.type0.opt w.type0.opt&&(Mp.beq v.type0.err w.type0.err&&(Mp.ieq v.n w.n&&(Mp.beq v.null w.null&&(Mp.seq v.err w.err&&(Mp.ieq v.of0.base w.of0.base&&(Mp.ieq v.of0.bits w.of0.bits&&(Mp.seq v.of0.name0 w.of0.name0&&(Mp.beq v.of0.opt w.of0.opt&&Mp.beq v.of0.err w.of0.err))))))))))))=veq v w:=λ_ _=>rfl
 rw[SH]
 unfold Jw
 simp only[hv]
 by_cases hk:a.kind=b.kind
 ·have hk1:(a.kind !=b.kind)=false:=by simpa using hk
  have hk2:(a.kind==b.kind)=true:=by simpa using hk
  rw[hk1,hk2]
  cases hq:veq a.value b.value
  ·simp
  ·by_cases hs:a.stop=b.stop
   ·have hs1:(a.stop !=b.stop)=false:=by simpa using hs
    simp[hs,ha,hb,hl]
   ·have hs1:(a.stop !=b.stop)=true:=by simpa using hs
    simp[hs]
 ·have hk1:(a.kind !=b.kind)=true:=by simpa using hk
  have hk2:(a.kind==b.kind)=false:=by simpa using hk
  rw[hk1,hk2]
  simp
theorem Bd(r:Item×Lg):(y4 r).trace=[]:=by unfold y4;split<;>rfl
noncomputable def tc(l:List aC)(s:ByteArray)(args:List aE)(ck:Bool)(place:Int):Item×Lg:=
 match l[(cw l s).toNat]? with
 |some f=>Bn l ck place (cw l s).toNat f (args.map itm)
 |none=>(cj 0,lg0 l)
theorem xc{l:List aC}{s:ByteArray}{args:List aE}{k:Nat}{f:aC}(A:Gy l s args k f)(ck:Bool)(place:Int):tc l s args ck place=Bn l ck place k f (args.map itm):=by
 unfold tc
 rw[A.name,Z5,A.get]
structure GB (l:List aC) (args:List aE):Prop where
 len:l.length<=3000
 code:∀f∈l,f.code.length<=3000
 args:args.length<=4294967296
section
variable {l:List aC} {s:ByteArray} {args:List aE} (F:GB l args)
include F
theorem Q1(h:eA l s args=0)(ck:Bool){place:Int}(hp:∀k f,Gy l s args k f->place<f.places):
 QJ (l,cw l s,args,ck,place,())=some (l,ck,(tc l s args ck place).2.steps,place,(tc l s args ck place).2.high,Dn (tc l s args ck place).2,(tc l s args ck place).2.counts,(tc l s args ck place).2.seen.map val,y4 (tc l s args ck place),()):=by
 obtain⟨k,f,A⟩:=vD F.len F.code h
 rw[A.name]
 exact Xx A F.args ck place (hp k f A) (xc A ck place)
theorem Q9(h:eA l s args=0)(ck:Bool){place:Int}(hp:∀k f,Gy l s args k f->place<f.places):
 QK (l,s,args,ck,place,())=some ((tc l s args ck place).1,Log.mk (tc l s args ck place).2.kind (tc l s args ck place).2.stop (tc l s args ck place).2.steps (tc l s args ck place).2.counts (tc l s args ck place).2.high (tc l s args ck place).2.seen place,()):=by
 obtain⟨k,f,A⟩:=vD F.len F.code h
 exact XP A F.args ck place (hp k f A) (xc A ck place)
theorem QE(h:eA l s args=0)(ck:Bool)(place:Int):∃g,Left l 1 g (tc l s args ck place):=by
 obtain⟨k,f,A⟩:=vD F.len F.code h
 rw[xc A]
 exact⟨_,zi A ck place⟩
omit F in
theorem yF:∀(k:Nat) (f:aC),Gy l s args k f->(-1:Int)<f.places:=λk f A=>by
 obtain⟨_,p0,p1,_⟩:=A.runs.fns f (Z_ A.get)
 omega
noncomputable def LD(l:List aC)(s:ByteArray)(args:List aE)(ck:Bool):cv:=if eA l s args=0 then y4 (tc l s args ck (-1))else cv.mk 0 (val (cj 0)) 0 []
omit F in
theorem qU(ck:Bool):(LD l s args ck).trace=[]:=by
 unfold LD
 split
 ·exact Bd _
 ·rfl
theorem Oi(ck:Bool):OX (l,s,args,ck,())=some (eA l s args,LD l s args ck,()):=by
 rw[OX]
 unfold LD
 simp only[w6 l F.len F.code s args F.args,Z1,ZY]
 by_cases h:eA l s args=0
 ·have e:=Q1 F h ck (place:= -1) yF
  simp only[h,adz,bne_self_eq_false,Z0,adA,e,ZY]
 ·have hb:(eA l s args !=0)=true:=by simpa using h
  simp only[hb,h,adz,adA]
  rfl
theorem T_(ck:Bool):SG (l,s,args,ck,())=some (eA l s args,LD l s args ck,()):=by
 rw[SG]
 unfold LD
 simp only[zS l F.len F.code s args F.args,Z1,ZY]
 by_cases h:eA l s args=0
 ·have e:=Q9 F h ck (place:= -1) yF
  obtain⟨g,L⟩:=QE F h ck (-1)
  simp only[h,adz,bne_self_eq_false,Z0,adA,e,OI L,ZY]
 ·have hb:(eA l s args !=0)=true:=by simpa using h
  simp only[hb,h,adz,adA]
  rfl
end
end Go.Proofs.YtcghbgmmgcljkaaGreatDoor
end
section
namespace Go.Proofs.YtcghbgmmgcljkaaGreatDoor
set_option maxRecDepth 20000
set_option maxHeartbeats 4000000
section
variable {l:List aC} {s:ByteArray} {args:List aE} (F:GB l args)
include F
end
def t8:aF:=aF.mk 2 8 (ZZ #[]) false false
def Gu:aQ:=aQ.mk 0 200 0 t8 (ZZ #[])
def Gt:aQ:=aQ.mk 0 100 0 t8 (ZZ #[])
def Gv:aQ:=aQ.mk 5 5 0 t8 (ZZ #[])
def Cx:aQ:=aQ.mk 17 0 0 (aF.mk 0 0 (ZZ #[]) false false) (ZZ #[])
def kF:aC:=aC.mk (ZZ #[102]) 0 0 t8 [Gu,Gt,Gv,Cx]
theorem M_:bD Gu=0/\bD Gt=0/\bD Gv=2/\bD Cx=1:=by
 unfold bD Gu Gt Gv Cx
 simp
theorem sf{a:Nat}{h:Int}(r:Reach kF a h):(a=0/\h=0)\/(a=1/\h=1)\/(a=2/\h=2)\/(a=3/\h=1):=by
 induction r with
 |start=>exact .inl ⟨rfl,rfl⟩
 | @step a h c b k r hc hk hw hb ih=>
  rcases ih with⟨e1,e2⟩|⟨e1,e2⟩|⟨e1,e2⟩|⟨e1,e2⟩
  ·subst e1 e2
   have:c=Gu:=(aa3 hc).symm
   subst this
   rcases cU.mp hw with⟨h1,_⟩|⟨_,h2,h3⟩
   ·simp[d4,Gu]at h1
   ·right;left
    refine⟨by omega,?_⟩
    rw[h3];simp[cF,bD,bZ,Gu]
  ·subst e1 e2
   have:c=Gt:=(aa3 hc).symm
   subst this
   rcases cU.mp hw with⟨h1,_⟩|⟨_,h2,h3⟩
   ·simp[d4,Gt]at h1
   ·right;right;left
    refine⟨by omega,?_⟩
    rw[h3];simp[cF,bD,bZ,Gt]
  ·subst e1 e2
   have:c=Gv:=(aa3 hc).symm
   subst this
   rcases cU.mp hw with⟨h1,_⟩|⟨_,h2,h3⟩
   ·simp[d4,Gv]at h1
   ·right;right;right
    refine⟨by omega,?_⟩
    rw[h3];simp[cF,bD,bZ,Gv]
  ·subst e1 e2
   have:c=Cx:=(aa3 hc).symm
   subst this
   rcases cU.mp hw with⟨h1,_⟩|⟨h1,_,_⟩
   ·simp[d4,Cx]at h1
   ·simp[iy,Cx]at h1
theorem DS:¬gY kF:=by
 rintro⟨a,h,c,r,hc,hF⟩
 obtain⟨t1,t2,t3,t4⟩:=M_
 have hl:(kF.code.length:Int)=4:=rfl
 have two:∀h',Reach kF a h'->h'=h:=by
  intro h' r'
  have q1:=sf r
  have q2:=sf r'
  omega
 rcases hF with hF|⟨_,k,hw⟩|⟨h',r',hne⟩
 ·rcases sf r with⟨e1,e2⟩|⟨e1,e2⟩|⟨e1,e2⟩|⟨e1,e2⟩
  ·subst e1 e2
   have:c=Gu:=(aa3 hc).symm
   subst this
   exact hF ⟨by omega,by omega⟩
  ·subst e1 e2
   have:c=Gt:=(aa3 hc).symm
   subst this
   exact hF ⟨by omega,by omega⟩
  ·subst e1 e2
   have:c=Gv:=(aa3 hc).symm
   subst this
   exact hF ⟨by omega,by omega⟩
  ·subst e1 e2
   have:c=Cx:=(aa3 hc).symm
   subst this
   exact hF ⟨by omega,by omega⟩
 ·rw[hl]at hw
  rcases sf r with⟨e1,e2⟩|⟨e1,e2⟩|⟨e1,e2⟩|⟨e1,e2⟩
  ·subst e1 e2
   have:c=Gu:=(aa3 hc).symm
   subst this
   rcases cU.mp hw with⟨h1,_⟩|⟨_,h2,h3⟩
   ·simp[d4,Gu]at h1
   ·omega
  ·subst e1 e2
   have:c=Gt:=(aa3 hc).symm
   subst this
   rcases cU.mp hw with⟨h1,_⟩|⟨_,h2,h3⟩
   ·simp[d4,Gt]at h1
   ·omega
  ·subst e1 e2
   have:c=Gv:=(aa3 hc).symm
   subst this
   rcases cU.mp hw with⟨h1,_⟩|⟨_,h2,h3⟩
   ·simp[d4,Gv]at h1
   ·omega
  ·subst e1 e2
   have:c=Cx:=(aa3 hc).symm
   subst this
   rcases cU.mp hw with⟨h1,_⟩|⟨h1,_,_⟩
   ·simp[d4,Cx]at h1
   ·simp[iy,Cx]at h1
 ·exact hne (two h' r')
theorem Na:dM [kF]=0:=by kernel_rfl
theorem Ly:cw [kF] (ZZ #[102])=0:=by kernel_rfl
theorem DQ:eA [kF] (ZZ #[102]) []=0:=by
 have hc:eL [kF]=0:=jm.mpr ⟨Na,by
  rintro⟨f,hf,hF⟩
  rw[aaN]at hf
  subst hf
  exact DS hF⟩
 unfold eA
 rw[adD hc,Ly]
 rfl
theorem Lz:GB [kF] []:=⟨by simp,by intro f hf;rw[aaN]at hf;rw[hf];simp[kF],by simp⟩
theorem LA:(Bn [kF] true (-1) 0 kF []).2.kind=1/\(Bn [kF] true (-1) 0 kF []).2.stop=1:=⟨by kernel_rfl,by kernel_rfl⟩
theorem DR:(Bn [kF] false (-1) 0 kF []).2.kind=0/\(Bn [kF] false (-1) 0 kF []).1.n=44:=⟨by kernel_rfl,by kernel_rfl⟩
theorem qQ:QI ()=some (true,()):=by
 have r1:=Oi Lz (s:=ZZ #[102]) true
 have r2:=Oi Lz (s:=ZZ #[102]) false
 have e:∀ck,LD [kF] (ZZ #[102]) [] ck=y4 (Bn [kF] ck (-1) 0 kF []):=by
  intro ck
  unfold LD tc
  rw[adD DQ,Ly]
  rfl
 rw[DQ,e]at r1 r2
 have o1:(y4 (Bn [kF] true (-1) 0 kF [])).kind=1/\(y4 (Bn [kF] true (-1) 0 kF [])).stop=1:=by
  unfold y4
  rw[adC (by rw[LA.1];decide)]
  exact LA
 have o2:(y4 (Bn [kF] false (-1) 0 kF [])).value.n=44:=by
  unfold y4
  rw[adD DR.1]
  exact DR.2
 unfold kF Gu Gt Gv Cx t8 at r1 r2 o1 o2
 rw[QI]
 simp only[r1,r2,o1,o2,Z1,ZY,beq_self_eq_true,adz]
end Go.Proofs.YtcghbgmmgcljkaaGreatDoor
end
section
namespace Go.Proofs.YtcghbgmmgcljkaaGreatDoor
set_option maxRecDepth 20000
set_option maxHeartbeats 4000000
section
variable (l:List aC) (x:nI) (hl:l.length<=4294967296) (hc:∀f∈l,f.code.length<=4294967296) (ha:x.args.length<=4294967296)
include hl hc ha
theorem Xg:n_3 (l,x,())=some (true,()):=by
 obtain⟨b,hb,hb2⟩:=N7 l hl hc
 rw[n_3]
 simp only[hb,Z1,ZY]
 cases b
 ·obtain⟨h1,h2⟩:=hb2 rfl
  have F:GB l x.args:=⟨by omega,h2,ha⟩
  simp only[Z0,adA,Oi F,T_ F,ZY,Fv _ _ (qU _) (qU _),Bt,adz,beq_self_eq_true,qQ]
 ·simp only[adz,qQ,ZY]
end
end Go.Proofs.YtcghbgmmgcljkaaGreatDoor
end
section
namespace Go.Proofs.YtcghbgmmgcljkaaGreatDoor
open Go.Tx
theorem LY{ns:List Nat}:∀{i n:Nat},ns[i]?=some n->n<=ns.sum:=by
 induction ns with
 |nil=>intro i n h;simp at h
 |cons a r ih=>
  intro i n h
  cases i with
  |zero=>simp at h;subst h;simp
  |succ i=>have:=ih (i:=i) (by simpa using h);simp;omega
theorem Ot{ns:List Nat}(h:∀n∈ns,1<=n):ns.length<=ns.sum:=by
 induction ns with
 |nil=>simp
 |cons a r ih=>
  have h1:=h a aag
  have h2:=ih λn hn=>h n (aab _ hn)
  simp;omega
theorem Pa{e:Ty vw.ι}{x:den vw.N e}{m:Nat}(h:Bk vw e x m):1<=m:=by
 cases h<;>omega
theorem Mr{e:Ty SN}{xs:List (den NN e)}{m:Nat}(h:Bk vw (.sl e) xs m):xs.length+1<=m/\∀x∈xs,∃n,n+1<=m/\Bk vw e x n:=by
 cases h with
 |sl ns h1 h2 h3=>
  have h1:ns.length=xs.length:=h1
  have hp:∀n∈ns,1<=n:=λn hn=>by
   obtain⟨i,hi⟩:=abs hn
   obtain⟨x,hx⟩:∃x,xs[i]?=some x:=⟨_,Z3 (by have:=(Z4.1 hi).1;omega)⟩
   exact Pa (h2 i x n hx hi)
  have:=Ot hp
  refine⟨by omega,λx hx=> ?_⟩
  obtain⟨i,hi⟩:=abs hx
  obtain⟨n,hn⟩:∃n,ns[i]?=some n:=⟨_,Z3 (by have:=(Z4.1 hi).1;omega)⟩
  exact⟨n,by have:=LY hn;omega,h2 i x n hi hn⟩
theorem Pb{i:SN}{x:NN i}{m:Nat}(h:Bk vw (.st i) x m):∀l∈gF i x,∃n,n+1<=m/\Bk vw l.t l.x n:=by
 cases h with
 |st ns h1 h2 h3=>
  intro l hl
  obtain⟨j,hj⟩:=abs hl
  have h1:ns.length=(gF i x).length:=h1
  obtain⟨n,hn⟩:∃n,ns[j]?=some n:=⟨_,Z3 (by have:=(Z4.1 hj).1;omega)⟩
  exact⟨n,by have:=LY hn;omega,h2 j l n hj hn⟩
theorem yq{l:List aC}{m:Nat}(h:Bk vw (.sl (.st .myFuncT)) l m)(hm:m<=1048576):l.length<=4294967296/\∀f∈l,f.code.length<=4294967296:=by
 obtain⟨h1,h2⟩:=Mr h
 refine⟨by omega,λf hf=> ?_⟩
 obtain⟨n,hn,hb⟩:=h2 f hf
 obtain⟨k,hk,hc⟩:=Pb hb ⟨.sl (.st .myCodeT),f.code⟩ (by simp[gF])
 have:f.code.length+1<=k:=(Mr hc).1
 omega
theorem GE{x:nI}{m:Nat}(h:Bk vw (.st .askedT) x m)(hm:m<=1048576):x.args.length<=4294967296:=by
 obtain⟨k,hk,hc⟩:=Pb h ⟨.sl (.st .myValueT),x.args⟩ (by simp[gF])
 have:x.args.length+1<=k:=(Mr hc).1
 omega
theorem qi(l:List aC)(x:nI)(h0:Ok vw (.sl (.st .myFuncT)) l)(h1:Ok vw (.st .askedT) x)(m0:Nat)(b0:Bk vw (.sl (.st .myFuncT)) l m0)(m1:Nat)(b1:Bk vw (.st .askedT) x m1)(hm:m0+m1<=1048576):n_3 (l,x,())=some (true,()):=
 Xg l x (yq b0 (by omega)).1 (yq b0 (by omega)).2 (GE b1 (by omega))
end Go.Proofs.YtcghbgmmgcljkaaGreatDoor
end
section
namespace Go.Proofs.YtcghbgmmgcljkaaGreatDoor.stackRuns
open Go.ChangeShapes Go.WideShapes Go.ChangeAt Go.RowKit Go.Awp Go.Tx
open Go.Proofs.Tryz (prog)
theorem DV:laidOutB prog=true:=by kernel_rfl
theorem own:ownKnob prog.godebug=none:=by kernel_rfl
theorem GU(x0:(List aC))(x1:nI)(h0:Ok vw (.sl (.st .myFuncT)) x0)(h1:Ok vw (.st .askedT) x1)(m0:Nat)(b0:Bk vw (.sl (.st .myFuncT)) x0 m0)(m1:Nat)(b1:Bk vw (.st .askedT) x1 m1)(hm:m0+m1<=1048576):lW prog 3 [.d (bC szN MP (.sl (.st .myFuncT)) x0), .d (bC szN MP (.st .askedT) x1)] [] (.d (.v (.bool true))) []:=
 fG (by kernel_rfl) (QL (x0,x1,()) (true,()) (.lf .bool true) (qi x0 x1 h0 h1 m0 b0 m1 b1 hm) rfl)
noncomputable def w0(os:Os):World:=World.laidAll prog os Rows.stackRunsUptoRow.laid
theorem Hl(os:Os):laidMetH prog Rows.stackRunsUptoRow.laid ((w0 os).forCall (λ_ _=>0) ⟨#[], #[.slice none 0 0, .agg #[.string abh, .slice none 0 0, .bool false]],[]⟩).memory:=by
 rw[MakeChecks.laidMetH_plain _ _ _ (by kernel_rfl)];exact laidMet_laidAll _ (by kernel_rfl) (by kernel_rfl)
set_option maxRecDepth 100000 in
theorem reads(os:Os){H:Type}(enc:TypeId×Value->H):DataW.whole enc prog ((w0 os).forCall (λ_ _=>0) ⟨#[], #[.slice none 0 0, .agg #[.string abh, .slice none 0 0, .bool false]],[]⟩).memory Tryz.f3.params.toList Rows.stackRunsSpec.vars false #[.slice none 0 0, .agg #[.string abh, .slice none 0 0, .bool false]].toList 8=some ([.nil, .agg [.lit (.string []), .nil, .lit (.bool false)]],[],[]):=by kernel_rfl
set_option maxRecDepth 100000 in
theorem QF(os:Os)(started:os.Started)(H:Type)(enc:TypeId×Value->H)(F:Stop.Interp):
 ReturnsInHanded {} Tryz.checked os 3 .any ((Rows.OpenSpec.upto Rows.stackRunsSpec).preRow enc prog Tryz.f3 Rows.stackRunsUptoRow.domain false Rows.stackRunsUptoRow.laid) (((Rows.OpenSpec.upto Rows.stackRunsSpec).at F).post enc prog Tryz.f3 false true false false):=by
 have hok:Input.okWideB prog ((w0 os).forCall (λ_ _=>0) ⟨#[], #[.slice none 0 0, .agg #[.string abh, .slice none 0 0, .bool false]],[]⟩) 3 ⟨#[], #[.slice none 0 0, .agg #[.string abh, .slice none 0 0, .bool false]],[]⟩=true:=by kernel_rfl
 refine returnsInHanded_of_row (C:=Tryz.checked) (s:=(Rows.OpenSpec.upto Rows.stackRunsSpec)) own started (by kernel_rfl) Tryz.func3
  ⟨w0 os,λ_ _=>0,⟨#[], #[.slice none 0 0, .agg #[.string abh, .slice none 0 0, .bool false]],[]⟩,World.laidAll_os _ _ _,World.shaped_of_ZipB (by kernel_rfl) (by kernel_rfl),(Input.okWide_of_okWideB (base:=0) hok).1,(Input.okWide_of_okWideB hok).2,
   OpenSpec.preRow_of_cond 8 (reads os enc) (by kernel_rfl) (λk hk=>by cases hk;kernel_rfl) (by kernel_rfl) (Hl os),
   by simp only[Assume.holds];exact⟨by simp,by simp,λ_=>Modest.zero,by simp,by simp⟩⟩ ?_
 intro W base args ds gs before hval0 hW _ hcond _ hL _ _
 have hval:∀(j:Nat) t v,Tryz.f3.params[j]?=some t->args[j]?=some v->Value.okWide prog W .any base t v:=hval0
 have hW':=hW
 obtain⟨p,q,hA0,hV,rfl,hfz,hnd⟩:=hW'
 have hA:DataW.TrodAll enc prog W 0 (λ_=>true) true Tryz.f3.params.toList args.toList ds p:=hA0
 rw[Tryz.params3]at hA hval
 obtain⟨v0,vs0,d0,ds0,p0,q0,ha0,rfl,rfl,h0,r0⟩:=trodAll_cons hA
 obtain⟨v1,vs1,d1,ds1,p1,q1,ha1,rfl,rfl,h1,r1⟩:=trodAll_cons r0
 subst ha1
 obtain⟨rfl,rfl,rfl⟩:=trodAll_nil r1
 obtain rfl:args= #[v0,v1]:=by cases args;simp_all
 obtain⟨rfl,rfl⟩:=trodVars_none hV
 have hk:Rows.uptoBulkAll ([d0,d1]++[])<=1048576:=of_decide_eq_true (hcond _ rfl)
 have hlt0:∀x∈p0,x.block<W.heap.size:=λx hx=>by simpa using hW.lt x (by simp[hx])
 have hd0:=kd d0
 have hlt1:∀x∈p1,x.block<W.heap.size:=λx hx=>by simpa using hW.lt x (by simp[hx])
 have hd1:=kd d1
 obtain⟨x0,ok0,hr0,hb0⟩:=uD facts (τ:=(.sl (.st .myFuncT))) rfl (hval 0 22 v0 rfl rfl) h0
 obtain⟨x1,ok1,hr1,hb1⟩:=uD facts (τ:=(.st .askedT)) rfl (hval 1 25 v1 rfl rfl) h1
 have hm:dO d0+dO d1<=1048576:=by
  simp only[abY,Rows.uptoBulkAll]at hk
  omega
 refine((GU x0 x1 ok0 ok1 _ hb0 _ hb1 hm).closed (W:=W) (vs:= #[v0,v1]) (DC hL) ⟨rfl,λi c x hc hx=> ?_⟩).mono λe W' ⟨he,hb⟩=> ?_
 ·match i with
  |0=>simp at hc hx;subst hc;subst hx;exact .d hr0
  |1=>simp at hc hx;subst hc;subst hx;exact .d hr1
  |i+2=>simp at hc
 subst he
 exact⟨_,rfl,_,_,_,[],_,[],hW,trodAll_cons_mk (shut_bool Tryz.underlying4 _) trodAll_mk0,
  (trodAll_cons_mk (Below.trod DV (by kernel_rfl) (of_decide_eq_true (by kernel_rfl)) h0 hb hlt0) (trodAll_cons_mk (Below.trod DV (by kernel_rfl) (of_decide_eq_true (by kernel_rfl)) h1 hb hlt1) trodAll_mk0)),rfl,hb.frame _,(λh=>by cases h)⟩
theorem row:Rows.StackRunsUptoSaid:=
 OpenClaim.holds_of_cond 3 Tryz.f3 rfl rfl rfl rfl rfl rfl rfl ⟨rfl,rfl,rfl,rfl,rfl⟩ rfl rfl rfl rfl rfl (by kernel_rfl) Tryz.func3 (by kernel_rfl)
  (of_decide_eq_true (by kernel_rfl)) (by unfold Func.isWrapper;first|(rw[adD (by decide+kernel)];kernel_rfl)|(rw[adC (by decide+kernel)];exact⟨rfl,rfl⟩))
  (λos started H enc _ F=>by rw[OpenClaim.pre_eq_preRow];exact QF os started H enc F)
theorem proved:Rows.StackRunsUptoCardSaid:=
 Claim7.holds_tied_plain_at .later [] [.listed, .data] true (true, "9903706971e3bb189f6f1d2425e4062bf0ab55d30c817c4194f043affe1c4612") false row (λ_ h=>by cases h) (by kernel_rfl) (λ_ h=>by cases h) stackRunsUpto_row_tie rfl ⟨rfl,rfl⟩ (by kernel_rfl) rfl
  (λf fn hf hfn=>by
    obtain rfl:f=3:=aa3 ((show prog.funcNamed "mandrel/mandrellaw13.StackRuns" =some 3 by kernel_rfl).symm.trans hf)|>.symm
    obtain rfl:fn=Tryz.f3:=(aa3 (Tryz.func3.symm.trans hfn)).symm
    exact⟨by kernel_rfl,λj t ht=>by
     rw[Tryz.params3]at ht
     have hm:t∈([22,25]:List TypeId):=by simpa using Array.mem_of_getElem? ht
     have hall:(([22,25]:List TypeId).all λu=> !prog.wantsStandIn u)=true:=by kernel_rfl
     exact(show prog.wantsStandIn t=false by simpa using aaf.1 hall t hm)⟩)
  (by kernel_rfl)
end Go.Proofs.YtcghbgmmgcljkaaGreatDoor.stackRuns
end
