/-
  Texts of this claim, joined by a program of mine: what the theorem uses.
-/
import Derived.Test.YtcghbgmmgcljkaaGreatDoorPkI
import Derived.Test.YtcghbgmmgcljkaaGreatDoorPkF
import Derived.Test.YtcghbgmmgcljkaaGreatDoorCards
import Derived.Test.YtcghbgmmgcljkaaGreatDoorTie
import Derived.WalkKit
import Derived.ProofKit
import Derived.OpenShut
import Derived.LaidMore
import Derived.Lay
import Derived.SevenTiedAt
import Derived.Stop.Joined
import Derived.Deep.DeepHandedRow
open Bool renaming and_eq_true→aan,false_eq_true→aaf,false_or→ach,not_false→abe,not_true→aaM
open ByteArray renaming empty→aby,mk→aae
open Int renaming le_refl→aaP,mul_nonneg→acK,natCast_zero→aaB,reduceBEq→aa4,reduceLE→adK,reduceLT→adJ,reduceToNat→adm,toNat→aaG,toNat_natCast→aak,toNat_zero→aaR
open List renaming all_eq_true→aav,any_cons→acg,append_assoc→abu,append_nil→ace,drop→acA,drop_eq_getElem_cons→ab4,drop_replicate→adE,drop_zero→aaD,foldl_cons→acY,getD_eq_getElem?_getD→abf,getElem?_append_left→aaF,getElem?_append_right→aaz,getElem?_cons_succ→acp,getElem?_cons_zero→abj,getElem?_eq_getElem→aai,getElem?_eq_some_iff→aaj,getElem?_map→aal,getElem?_of_mem→abI,length_append→aaI,length_cons→aaq,length_drop→aaU,length_map→aam,length_replicate→aa5,length_reverse→abd,length_set→aa7,length_take→aa2,map_append→aba,map_cons→aas,map_drop→abm,map_map→aaV,map_nil→aa9,map_replicate→ab3,map_take→abl,mem_cons→aay,mem_cons_of_mem→aar,mem_cons_self→aaw,mem_of_getElem?→aap,mem_singleton→aa3,nil_append→aat,replicate→aaA,reverse_cons→acj,set_append_right→acQ,take→abr,take_append_of_le_length→abS,take_of_length_le→aaY,take_zero→acz
open Nat renaming add_sub_cancel→ac2,reduceEqDiff→adc,reduceLT→adH,sub_zero→aa0,zero_add→aao
open Option renaming bind_eq_bind→aag,bind_some→aad,isNone_none→acs,isSome_some→acG
open Option.some renaming inj→abi
open Sum renaming inl→aaW,inr→abn
noncomputable section
set_option linter.unusedSimpArgs false
set_option linter.unusedVariables false
section
namespace Go.Proofs.YtcghbgmmgcljkaaGreatDoor
set_option maxRecDepth 20000
set_option maxHeartbeats 8000000
def Wh:List (Option Nat):=[some 77,some 78,some 79,some 80,some 81,some 82,some 83,some 84,some 85,some 86,some 87,some 88,some 89,some 90,some 91,some 92,some 93,some 94,some 95,some 96]
theorem SB:QV ()=some (Wh,()):=by rw[QV];rfl
def lt(b e:Nat)(l:List aB)(ck:Bool)(steps place high:Int)(en:Option bX)(argv:List aE)(z:aE)(f:aB)(d at1:Int)(res:Option aE)(cnt:List Int)(sn pl st:List Item):=
 ((b:Int),(e:Int),l,ck,steps,place,high,en,argv,z,f.name0,f.params,f.places,f.type0.base,f.type0.bits,f.type0.name0,f.type0.opt,f.type0.err,f.code,d,at1,res,Wh,cnt,sn.map val,pl.map val,(st.map val).reverse,())
abbrev TuT:=ByteArray×Int×Int×Int×Int×ByteArray×Bool×Bool×List aQ×Int×Int×Option aE×List aB×Bool×Int×Int×Int×Option bX×List aE×List aE×List Int×List aE×Unit
def LpS(n:aQ×TuT->Option TuT)(op:Int)(seen stk:Bool):Prop:=
 ∀(b e:Nat) (l:List aB) (ck:Bool) (steps place high:Int) (argv:List aE) (z:aE) (f:aB) (d:Int) (a:Nat) (cnt:List Int) (sn pl st:List Item) {c:aQ},
  c.op=op->f.code[a]?=some c->¬steps=40000->0<=steps->steps<=40000->a<=3000->∀{at2 steps2 high2:Int} {res2:Option aE} {en2:Option bX} {pl2 st2:List Item} {cnt2:List Int} {sn2:List Item},
  n (c,tu f d ((a:Int)+1) none l ck (steps+1) place high none pl st cnt sn ())=some (tu f d at2 res2 l ck steps2 place high2 en2 pl2 st2 cnt2 sn2 ())->
  pl2.length=pl.length->cnt2.length=cnt.length->(seen=true->sn2.length=sn.length)->(stk=true->st2.length=st.length)->
  aX (lt b e l ck steps place high none argv z f d (a:Int) none cnt sn pl st)=if en2.isSome=true then some (aaW ((b:Int),(e:Int),l,ck,steps2,place,high2,en2,argv,cnt2,sn2.map val,val (cn 0),()))
   else aX (lt b e l ck steps2 place high2 en2 argv z f d at2 res2 cnt2 sn2 pl2 st2)
theorem lps:LpS fL 0 true false/\LpS fM 1 true false/\LpS fN 2 true false/\LpS fO 3 false false/\LpS fP 4 true false/\LpS fQ 5 true false/\LpS fR 6 true false/\LpS fS 7 true false/\LpS fT 8 true false/\LpS fU 9 true false/\LpS fV 10 true false/\LpS fW 11 true false/\LpS fX 12 true false/\LpS fY 13 true true/\LpS fZ 14 true true/\LpS f5 15 true false/\LpS n_93sae8a 16 false false/\LpS f6 17 true false/\LpS f7 18 true false/\LpS f_ 19 true true:=by
 refine⟨?_,?_,?_,?_,?_,?_,?_,?_,?_,?_,?_,?_,?_,?_,?_,?_,?_,?_,?_,?_⟩<;>(
  intro b e l ck steps place high argv z f d a cnt sn pl st c h hc hs h0 h1 ha at2 steps2 high2 res2 en2 pl2 st2 cnt2 sn2 hr e1 e2 e3 e4
  have w1:IntKind.i64.wrap ((a:Int)+1)=(a:Int)+1:=w64 (by omega) (by omega)
  have w2:IntKind.i64.wrap (steps+1)=steps+1:=w64 (by omega) (by omega)
  have hb:(steps==40000)=false:=by simpa using hs
  have ha0:(0:Int)<=(a:Int):=by omega
  have hq:((20:Nat):Int)=20:=rfl
  unfold tu at hr
  conv=>lhs;rw[aX]
  unfold lt Wh
  first
   |simp only[acs,adP,hb,aaf,adQ,ha0,aak,hc,aag,aad,h,adK,adJ,adm,acp,abj,w1,w2,hr,aam,abd,e1,e2,e3 rfl,e4 rfl,and_self,adc,adH,hq]
   |simp only[acs,adP,hb,aaf,adQ,ha0,aak,hc,aag,aad,h,adK,adJ,adm,acp,abj,w1,w2,hr,aam,abd,e1,e2,e3 rfl,and_self,adc,adH,hq]
   |simp only[acs,adP,hb,aaf,adQ,ha0,aak,hc,aag,aad,h,adK,adJ,adm,acp,abj,w1,w2,hr,aam,abd,e1,e2,and_self,adc,adH,hq]
  rfl)
theorem Xz:LpS fL 0 true false:=lps.1
theorem XA:LpS fM 1 true false:=lps.2.1
theorem XB:LpS fN 2 true false:=lps.2.2.1
theorem XC:LpS fO 3 false false:=lps.2.2.2.1
theorem XD:LpS fP 4 true false:=lps.2.2.2.2.1
theorem W9:LpS fQ 5 true false:=lps.2.2.2.2.2.1
theorem XE:LpS fR 6 true false:=lps.2.2.2.2.2.2.1
theorem W_:LpS fS 7 true false:=lps.2.2.2.2.2.2.2.1
theorem XF:LpS fT 8 true false:=lps.2.2.2.2.2.2.2.2.1
theorem Xa:LpS fU 9 true false:=lps.2.2.2.2.2.2.2.2.2.1
theorem XG:LpS fV 10 true false:=lps.2.2.2.2.2.2.2.2.2.2.1
theorem Xb:LpS fW 11 true false:=lps.2.2.2.2.2.2.2.2.2.2.2.1
theorem Xd:LpS fX 12 true false:=lps.2.2.2.2.2.2.2.2.2.2.2.2.1
theorem Xe:LpS fY 13 true true:=lps.2.2.2.2.2.2.2.2.2.2.2.2.2.1
theorem XH:LpS fZ 14 true true:=lps.2.2.2.2.2.2.2.2.2.2.2.2.2.2.1
theorem XI:LpS f5 15 true false:=lps.2.2.2.2.2.2.2.2.2.2.2.2.2.2.2.1
theorem T3:LpS n_93sae8a 16 false false:=lps.2.2.2.2.2.2.2.2.2.2.2.2.2.2.2.2.1
theorem XJ:LpS f6 17 true false:=lps.2.2.2.2.2.2.2.2.2.2.2.2.2.2.2.2.2.1
theorem XK:LpS f7 18 true false:=lps.2.2.2.2.2.2.2.2.2.2.2.2.2.2.2.2.2.2.1
theorem Xf:LpS f_ 19 true true:=lps.2.2.2.2.2.2.2.2.2.2.2.2.2.2.2.2.2.2.2
end Go.Proofs.YtcghbgmmgcljkaaGreatDoor
end
section
namespace Go.Proofs.YtcghbgmmgcljkaaGreatDoor
set_option maxRecDepth 20000
set_option maxHeartbeats 4000000
def Dr(g:Lg):Option bX:=if g.kind=0 then none else some (bX.mk g.kind g.stop)
def lr(b e:Nat)(l:List aB)(ck:Bool)(steps place high:Int)(en:Option bX)(argv:List aE)(z:aE)(f:aB)(d at1:Int)(res:Option aE)(cnt:List Int)(sn pl st:List Item):=
 ((b:Int),(e:Int),l,ck,steps,place,high,en,argv,z,f.name0,f.params,f.places,f.type0.base,f.type0.bits,f.type0.name0,f.type0.opt,f.type0.err,f.code,d,at1,res,cnt,sn.map val,pl.map val,(st.map val).reverse,())
theorem D8(b e:Nat)(l:List aB)(ck:Bool)(steps place high:Int)(en:Option bX)(argv:List aE)(z:aE)(f:aB)(d at1:Int)(v:aE)(cnt:List Int)(sn pl st:List Item):
 aX (lt b e l ck steps place high en argv z f d at1 (some v) cnt sn pl st)=some (abn (lr b e l ck steps place high en argv z f d at1 (some v) cnt sn pl st)):=by
 rw[aX]
 unfold lt lr
 simp only[Option.isNone_some,aaf,adQ,aak]
theorem uq(b e:Nat)(l:List aB)(ck:Bool)(place high:Int)(argv:List aE)(z:aE)(f:aB)(d at1:Int)(cnt:List Int)(sn pl st:List Item):
 aX (lt b e l ck 40000 place high none argv z f d at1 none cnt sn pl st)=some (aaW ((b:Int),(e:Int),l,ck,40000,place,high,some (bX.mk 2 0),argv,cnt,sn.map val,val (cn 0),())):=by
 rw[aX]
 unfold lt
 simp only[acs,adP,beq_self_eq_true,d_,aag,aad,aak]
 rfl
def vH(b e:Nat)(l:List aB)(ck:Bool)(place:Int)(argv:List aE)(z:aE)(f:aB)(d:Int)(a:Nat)(g:Lg)(pl st:List Item)(r:Item×Lg):Prop:=
 (r.2.kind=0/\∃at2 pl2 st2,aX (lt b e l ck g.steps place g.high none argv z f d (a:Int) none g.counts g.seen pl st)=some (abn (lr b e l ck r.2.steps place r.2.high none argv z f d at2 (some (val r.1)) r.2.counts r.2.seen pl2 st2)))\/
 (r.2.kind≠0/\aX (lt b e l ck g.steps place g.high none argv z f d (a:Int) none g.counts g.seen pl st)=some (aaW ((b:Int),(e:Int),l,ck,r.2.steps,place,r.2.high,some (bX.mk r.2.kind r.2.stop),argv,r.2.counts,r.2.seen.map val,val (cn 0),())))
theorem Dt(h:aB)(args:List Item)(hp:(args.length:Int)<=h.places):
 abr (aaA h.places.toNat (val (cn 0))).length (args.map val)++acA args.length (aaA h.places.toNat (val (cn 0)))=(cF h args).map val:=by
 unfold cF
 rw[aa5,aaY (by simp;omega),adE,aba,ab3]
theorem p40{l:List aB}{k:Nat}{h:aB}(hk:l[k]?=some h){b e:Nat}{argv:List aE}{args:List Item}(hb:b+e<=argv.length)(ha:abr e (acA b argv)=args.map val)(he:args.length=e)
 {ck:Bool}{place d:Int}{g:Lg}(hd:¬30<d)(hp0:(e:Int)<=h.places)(hp1:h.places<=200)(hg:g.kind=0)(hc:g.counts.length=l.length)(hkl:k<l.length)
 (hpl:d=1->place<h.places)(hs:d=1->g.seen.length<=99){r:Item×Lg}
 (hl:vH b e l ck place argv (val (cn 0)) h d 0 {g with counts:=qd g.counts k,seen:=if d=1/\0<=place then g.seen++[(cF h args).getD place.toNat (cn 0)]else g.seen} (cF h args) [] r)(hz:r.2.kind≠0->r.1=cn 0):
 n_40s78a4 ((k:Int),(b:Int),(e:Int),d,l,ck,g.steps,place,g.high,none,argv,g.counts,g.seen.map val,())=
  some ((b:Int),(e:Int),l,ck,r.2.steps,place,r.2.high,Dr r.2,argv,r.2.counts,r.2.seen.map val,val r.1,()):=by
 have hk0:(0:Int)<=(k:Int):=by omega
 have hk1:(k:Int)<(g.counts.length:Int):=by omega
 obtain⟨x,hx⟩:∃x,g.counts[k]?=some x:=⟨_,aai (by omega)⟩
 have hbump:g.counts.set k (IntKind.i64.wrap (x+1))=qd g.counts k:=by
  unfold qd;rw[abf,hx];rfl
 have h0:0<=h.places:=by omega
 have h4:h.places<=4294967296:=by omega
 have em:=Dt h args (by omega)
 rw[he]at em
 rw[n_40s78a4]
 have hz0:aE.mk (aF.mk 0 0 (aae #[]) false false) 0 false (aae #[]) (aF.mk 0 0 (aae #[]) false false)=val (cn 0):=rfl
 have hd':¬d>30:=by omega
 simp only[hd',adV,aaf,adQ,hk0,hk1,and_self,adP,aak,hx,hk,h0,h4,aag,aad,hb,hz0,ha,em,hbump,SB]
 have fin:∀{α:Type} (X:Option α) (y:α),X=some y->X=some y:=λ_ _ h=>h
 have key:∀sn:List Item,sn=(if d=1/\0<=place then g.seen++[(cF h args).getD place.toNat (cn 0)]else g.seen)->
  (aX (lt b e l ck g.steps place g.high none argv (val (cn 0)) h d 0 none (qd g.counts k) sn (cF h args) [])>>=λx6=>match x6 with
    | .inl y6=>some y6
    | .inr y6=>(y6.2.2.2.2.2.2.2.2.2.2.2.2.2.2.2.2.2.2.2.2.2.1:Option (aE))>>=λx7=>
     some (((↑y6.1.toNat:Int),(↑y6.2.1.toNat:Int),y6.2.2.1,y6.2.2.2.1,y6.2.2.2.2.1,y6.2.2.2.2.2.1,y6.2.2.2.2.2.2.1,y6.2.2.2.2.2.2.2.1,y6.2.2.2.2.2.2.2.2.1,y6.2.2.2.2.2.2.2.2.2.2.2.2.2.2.2.2.2.2.2.2.2.2.1,y6.2.2.2.2.2.2.2.2.2.2.2.2.2.2.2.2.2.2.2.2.2.2.2.1,x7,())))=
  some ((b:Int),(e:Int),l,ck,r.2.steps,place,r.2.high,Dr r.2,argv,r.2.counts,r.2.seen.map val,val r.1,()):=by
  intro sn hsn
  subst hsn
  rcases hl with⟨hk0,at2,pl2,st2,hl⟩|⟨hk0,hl⟩
  ·simp only[aaB]at hl
   rw[hl]
   unfold lr Dr
   simp only[aag,aad,aak,hk0,adP]
  ·simp only[aaB]at hl
   rw[hl]
   unfold Dr
   simp only[aag,aad,hk0,adQ,hz hk0]
 unfold lt at key
 by_cases h1:d=1
 ·have hb1:(d==1)=true:=by simpa using h1
  simp only[hb1,adP,aad,aak]
  by_cases hp:0<=place
  ·have hlt:=hpl h1
   have hlen:(cF h args).length=h.places.toNat:=by
    unfold cF
    rw[aaI,aa5];omega
   have hlt2:place<(((cF h args).map val).length:Int):=by rw[aam,hlen];omega
   have hget:((cF h args).map val)[place.toNat]?=some (val ((cF h args).getD place.toNat (cn 0))):=by
    rw[aal,abf,aai (by omega)];rfl
   have hs':(g.seen.map val).length+[val ((cF h args).getD place.toNat (cn 0))].length<=4294967296:=by have:=hs h1;simp;omega
   simp only[ge_iff_le,hp,adU,adP,hlt2,and_self,hget,aad,hs',aak]
   refine Eq.trans ?_ (key _ (by rw[adT ⟨h1,hp⟩]))
   rw[aba]
   rfl
  ·simp only[ge_iff_le,hp,adV,aaf,adQ,aad,aak]
   exact key _ (by rw[adS (λh=>hp h.2)])
 ·have hb1:(d==1)=false:=by simpa using h1
  simp only[hb1,aaf,adQ,aad,aak]
  exact key _ (by rw[adS (λh=>h1 h.1)])
end Go.Proofs.YtcghbgmmgcljkaaGreatDoor
end
section
namespace Go.Proofs.YtcghbgmmgcljkaaGreatDoor
set_option maxRecDepth 20000
set_option maxHeartbeats 4000000
theorem Ji{l:List aB}{k b e:Nat}{argv:List aE}{ck:Bool}{place d:Int}{g:Lg}(hd:30<d):
 n_40s78a4 ((k:Int),(b:Int),(e:Int),d,l,ck,g.steps,place,g.high,none,argv,g.counts,g.seen.map val,())=
  some ((b:Int),(e:Int),l,ck,g.steps,place,g.high,some (bX.mk 2 0),argv,g.counts,g.seen.map val,val (cn 0),()):=by
 rw[n_40s78a4]
 have hd':d>30:=hd
 simp only[hd',adU,adP,d_,aag,aad,aak]
 rfl
theorem Og{l:List aB}(R:nS l)(s:ByteArray):LM (l,s,())=some (max (cv l s) 0,decide (cv l s>=0),0,()):=by
 have hv:=pz l (by have:=R.len;omega) (λf hf=>by have:=(R.fns f hf).2.2.2.2.1;omega)
 rw[LM]
 simp only[hv,nG l (by have:=R.len;omega),aag,aad,R.valid,bne_self_eq_false,aaf,adQ]
theorem L9(st:List Item){b:Nat}(hb:b<=st.length):abr (st.length-b) (st.map val).reverse=((st.drop b).map val).reverse/\abr b (acA (st.length-b) (st.map val).reverse)=((st.take b).reverse).map val:=by
 constructor
 ·rw[List.take_reverse,aam,show st.length-(st.length-b)=b by omega,abm]
 ·rw[List.drop_reverse,aam,show st.length-(st.length-b)=b by omega,aaY (by simp;omega),List.map_reverse,abl]
theorem p93{l:List aB}(R:nS l){c:aQ}{k b:Nat}(hk:cv l c.name0=(k:Int))(hb:c.b=(b:Int)){st:List Item}(hbl:b<=st.length)(hst:st.length<=65)(f:aB){d at1:Int}(hd1:1<=d)(hd2:d<=30)(ck:Bool)(place:Int)(pl:List Item)(g:Lg)
 {x:Item}{g2:Lg}(hc:g2.counts.length=g.counts.length){en:Option bX}
 (h40:n_40s78a4 ((k:Int),((st.length-b:Nat):Int),(b:Int),d+1,l,ck,g.steps,place,g.high,none,(st.map val).reverse,g.counts,g.seen.map val,())=
   some (((st.length-b:Nat):Int),(b:Int),l,ck,g2.steps,place,g2.high,en,(st.map val).reverse,g2.counts,g2.seen.map val,val x,())):
 n_93sae8a (c,tu f d at1 none l ck g.steps place g.high none pl st g.counts g.seen ())=
  some (if en.isNone=true then tu f d at1 none l ck g2.steps place (aV d g2.high (st.length-b+1)) en pl (x::st.drop b) g2.counts g2.seen ()
   else tu f d at1 none l ck g2.steps place g2.high en pl (st.drop b) g2.counts g2.seen ()):=by
 have hp:=fA f d at1 none l ck g2.steps place g2.high en pl (st.drop b) g2.counts g2.seen x (by rw[aaU];omega)
 rw[aaU]at hp
 unfold tu at hp
 obtain⟨c1,c2⟩:=L9 st hbl
 have hL:(((st.map val).reverse).length:Int)=(st.length:Int):=by rw[lS]
 have w:IntKind.i64.wrap ((st.length:Int) -(b:Int))=((st.length-b:Nat):Int):=by rw[w64 (by omega) (by omega)];omega
 have w2:IntKind.i64.wrap (d+1)=d+1:=w64 (by omega) (by omega)
 have i1:(0:Int)<=((st.length-b:Nat):Int):=by omega
 have i2:((st.length-b:Nat):Int)<=(st.length:Int):=by omega
 have i3:(st.length:Int)<=(st.length:Int):=aaP _
 have hmax:max (k:Int) 0=(k:Int):=by omega
 have e1:st.length-(st.length-b)=b:=by omega
 have e2:st.length-b-aaG 0=st.length-b:=rfl
 have e3:st.length-b<=((st.map val).reverse).length:=by rw[lS];omega
 rw[n_93sae8a]
 unfold tu
 simp only[hL,hb,w,i1,i2,i3,and_self,adP,aaP,Og R,hk,hmax,aag,aad,aak,e1,e2,w2,h40,hc,e3,c1]
 cases hen:en with
 |none=>
  rw[hen]at hp
  simp only[acs,adP,hp,hc,aad]
 |some y=>simp only[Option.isNone_some,aaf,adQ]
theorem MV{l:List aB}{f:aB}{c:aQ}(h:dh l f c=true)(e:c.op=0):d4 c.type0=true:=by
 unfold dh at h
 rw[adT e]at h
 simp only[aan]at h
 exact h.1.2.1.1
theorem yj{l:List aB}{f:aB}{c:aQ}(h:dh l f c=true)(e:c.op=2\/c.op=3)(h0:0<=f.places)(h1:f.places<=200):0<=c.a/\c.a<f.places:=by
 unfold dh at h
 rw[adS (by omega),adT e]at h
 simp only[aan,rng,adR]at h
 have w:IntKind.i64.wrap (f.places-1)=f.places-1:=w64 (by omega) (by omega)
 have:=h.1.1.1
 rw[w]at this
 omega
theorem QB{l:List aB}{f:aB}{c:aQ}(h:dh l f c=true)(e:c.op=5):(5<=c.a/\c.a<=17)/\cJ c.type0=true:=by
 unfold dh at h
 rw[adS (by omega),adS (by omega),adT e]at h
 simp only[aan,rng,adR]at h
 exact⟨h.1.1.1,h.1.2⟩
theorem TP{l:List aB}{f:aB}{c:aQ}(h:dh l f c=true)(e:c.op=6):18<=c.a/\c.a<=23:=by
 unfold dh at h
 rw[adS (by omega),adS (by omega),adS (by omega),adT e]at h
 simp only[aan,rng,adR]at h
 exact h.1.1.1
theorem Aq{l:List aB}{f:aB}{c:aQ}(h:dh l f c=true)(e:c.op=7\/c.op=9\/c.op=10):cJ c.type0=true:=by
 unfold dh at h
 rw[adS (by omega),adS (by omega),adS (by omega),adS (by omega),adT e]at h
 simp only[aan]at h
 exact h.1.2
theorem Gx{ck:Bool}{c:aQ}{at1:Int}{pl:List Item}{x:Item}{s:List Item}(e:c.op=7\/c.op=8\/c.op=9\/c.op=10\/c.op=11):cL ck c at1 pl (x::s)=ip (bA ck c.op c.type0 x) at1 pl s:=by
 rw[cL,adS (by omega),adS (by omega),adS (by omega),adS (by omega),adS (by omega),adS (by omega),adS (by omega),adS (by omega),adT e]
 rfl
theorem k_{l:List aB}(R:nS l)(ck:Bool)(place:Int):∀(N:Nat) (f:aB) (d:Int) (a:Nat) (pl st:List Item) (g:Lg),OkA l f d a pl st->OkG l g->(d=1->(st.length:Int)<=g.high)->40000-g.steps<=(N:Int)->
 ∀(b e:Nat) (argv:List aE) (z:aE),vH b e l ck place argv z f d a g pl st (gL l ck place N f d (a:Int) pl st g)
 |0,f,d,a,pl,st,g,A,G,hh,hN,b,e,argv,z=>by
  have hs:g.steps=40000:=by have:=G.s1;omega
  rw[gL]
  refine .inr ⟨by simp[zE],?_⟩
  rw[hs,uq]
  simp only[zE,hs,G.stop]
 |N+1,f,d,a,pl,st,g,A,G,hh,hN,b,e,argv,z=>by
  obtain⟨c,hc,hcm,hcode,hal,hl3⟩:=A.code R
  have s0:=G.s0
  have s1:=G.s1
  have hst:=A.st_le R
  have hd1:=A.d1
  have hd2:=A.d2
  rw[gL]
  by_cases hs:g.steps=40000
  ·rw[adT hs]
   refine .inr ⟨by simp[zE],?_⟩
   rw[hs,uq]
   simp only[zE,hs,G.stop]
  ·rw[adS hs]
   simp only[aak,hc]
   obtain⟨hk,hw⟩:=jE R A.mem A.reach hc
   have ht:=hk.1
   have hr:=nE hcode
   have go:∀(at1:Int) (pl1 st1:List Item),cL ck c ((a:Int)+1) pl st= .go at1 pl1 st1->
    aX (lt b e l ck g.steps place g.high none argv z f d (a:Int) none g.counts g.seen pl st)=aX (lt b e l ck (g.steps+1) place (aV d g.high st1.length) none argv z f d at1 none g.counts (iD d place c st g.seen) pl1 st1)->
    vH b e l ck place argv z f d a g pl st (gL l ck place N f d at1 pl1 st1 {g with steps:=g.steps+1,high:=aV d g.high st1.length,seen:=iD d place c st g.seen}):=by
    intro at1 pl1 st1 ha hn
    obtain⟨⟨b',hb',A'⟩,G'⟩:=w_ (place:=place) R A G hs hc ha
    subst hb'
    have ih:=k_ R ck place N f d b' pl1 st1 _ A' G' (λhd=>nu hd) (by simp only[];omega) b e argv z
    unfold vH at ih⊢
    rw[hn]
    exact ih
   have ret:∀(x:Item) (at2:Int) (pl2 st2:List Item),
    aX (lt b e l ck g.steps place g.high none argv z f d (a:Int) none g.counts g.seen pl st)=aX (lt b e l ck (g.steps+1) place g.high none argv z f d at2 (some (val x)) g.counts g.seen pl2 st2)->
    vH b e l ck place argv z f d a g pl st (x,{g with steps:=g.steps+1}):=by
    intro x at2 pl2 st2 hn
    refine .inl ⟨G.kind,at2,pl2,st2,?_⟩
    rw[hn,D8]
   have stop:∀(w:Int) (hi:Int),aX (lt b e l ck g.steps place g.high none argv z f d (a:Int) none g.counts g.seen pl st)=
    some (aaW ((b:Int),(e:Int),l,ck,g.steps+1,place,g.high,some (bX.mk 1 w),argv,g.counts,g.seen.map val,val (cn 0),()))->
    vH b e l ck place argv z f d a g pl st (cn 0,{g with steps:=g.steps+1,kind:=1,stop:=w}):=by
    intro w hi hn
    exact .inr ⟨by simp,hn⟩
   have hop:c.op=0\/c.op=1\/c.op=2\/c.op=3\/c.op=4\/c.op=5\/c.op=6\/c.op=7\/c.op=8\/c.op=9\/c.op=10\/c.op=11\/c.op=12\/c.op=13\/c.op=14\/c.op=15\/c.op=16\/c.op=17\/c.op=18\/c.op=19:=by omega
   have hse:c.op≠3->iD d place c st g.seen=g.seen:=λh=>by unfold iD;rw[adS (λq=>h q.1)]
   have hpl:=A.pls
   have hplc:=R.places f A.mem
   have hfn:=R.fns f A.mem
   rcases hop with e0|e0|e0|e0|e0|e0|e0|e0|e0|e0|e0|e0|e0|e0|e0|e0|e0|e0|e0|e0
   ·have ha:cL ck c ((a:Int)+1) pl st= .go ((a:Int)+1) pl (cn (lA c.type0 c.a)::st):=by simp[cL,e0]
    rw[ha]
    refine go _ _ _ ha ?_
    rw[Xz b e l ck g.steps place g.high argv z f d a g.counts g.seen pl st e0 hc hs s0 s1 (by omega) (p77 f d ((a:Int)+1) none l ck (g.steps+1) place g.high none pl st g.counts g.seen c (by omega) (MV hcode e0)) rfl rfl (λ_=>rfl) nofun,hse (by omega)]
    rfl
   ·have ha:cL ck c ((a:Int)+1) pl st= .go ((a:Int)+1) pl (Item.mk 0 true (aae #[])::st):=by simp[cL,e0]
    rw[ha]
    refine go _ _ _ ha ?_
    rw[XA b e l ck g.steps place g.high argv z f d a g.counts g.seen pl st e0 hc hs s0 s1 (by omega) (p78 f d ((a:Int)+1) none l ck (g.steps+1) place g.high none pl st g.counts g.seen c (by omega)) rfl rfl (λ_=>rfl) nofun,hse (by omega)]
    rfl
   ·obtain⟨a0,a1⟩:=yj hcode (by omega) (by omega) hplc
    have ha:cL ck c ((a:Int)+1) pl st= .go ((a:Int)+1) pl (pl.getD c.a.toNat (cn 0)::st):=by simp[cL,e0]
    rw[ha]
    refine go _ _ _ ha ?_
    rw[XB b e l ck g.steps place g.high argv z f d a g.counts g.seen pl st e0 hc hs s0 s1 (by omega) (p79 f d ((a:Int)+1) none l ck (g.steps+1) place g.high none pl st g.counts g.seen c (by omega) a0 (by omega)) rfl rfl (λ_=>rfl) nofun,hse (by omega)]
    rfl
   ·obtain⟨a0,a1⟩:=yj hcode (by omega) (by omega) hplc
    obtain⟨x,s,rfl⟩:=dc rfl (by rw[(bI hr.1 hr.2 (by omega)).2 (by omega)]at ht;exact ht)
    rw[aaq]at hst
    have ha:cL ck c ((a:Int)+1) pl (x::s)= .go ((a:Int)+1) (pl.set c.a.toNat x) s:=by simp[cL,e0]
    rw[ha]
    refine go _ _ _ ha ?_
    have hsn:iD d place c (x::s) g.seen=if d=1/\place=c.a/\g.seen.length<100 then g.seen++[x]else g.seen:=by unfold iD;simp[e0]
    rw[XC b e l ck g.steps place g.high argv z f d a g.counts g.seen pl (x::s) e0 hc hs s0 s1 (by omega) (p80 f d ((a:Int)+1) none l ck (g.steps+1) place g.high none pl s g.counts g.seen c x (by omega) a0 (by omega) G.seen) (by rw[aa7]) rfl nofun nofun,hsn,gn (λq=>by have:=hh q;simp only[aaq]at this;omega)]
    rfl
   ·obtain⟨x,s,rfl⟩:=dc rfl (by rw[(bI hr.1 hr.2 (by omega)).2 (by omega)]at ht;exact ht)
    rw[aaq]at hst
    have ha:cL ck c ((a:Int)+1) pl (x::s)= .go ((a:Int)+1) pl s:=by simp[cL,e0]
    rw[ha]
    refine go _ _ _ ha ?_
    rw[XD b e l ck g.steps place g.high argv z f d a g.counts g.seen pl (x::s) e0 hc hs s0 s1 (by omega) (p81 f d ((a:Int)+1) none l ck (g.steps+1) place g.high none pl s g.counts g.seen c x (by omega)) rfl rfl (λ_=>rfl) nofun,hse (by omega),gn (λq=>by have:=hh q;simp only[aaq]at this;omega)]
    rfl
   ·obtain⟨o1,o2⟩:=QB hcode e0
    obtain⟨x,y,s,rfl⟩:=rR rfl (by rw[(bI hr.1 hr.2 (by omega)).1 (by omega)]at ht;exact ht)
    rw[aaq,aaq]at hst
    have ha:cL ck c ((a:Int)+1) pl (x::y::s)=ip (opS ck c.a c.type0 y x) ((a:Int)+1) pl s:=by simp[cL,e0]
    have hp:=p82 f d ((a:Int)+1) none l ck (g.steps+1) place g.high none pl s g.counts g.seen c y x (by omega) o2 o1
    generalize opS ck c.a c.type0 y x=r at ha hp
    unfold ip at ha
    by_cases h0:r.2=0
    ·rw[adT h0]at ha hp
     rw[ha]
     refine go _ _ _ ha ?_
     rw[W9 b e l ck g.steps place g.high argv z f d a g.counts g.seen pl (x::y::s) e0 hc hs s0 s1 (by omega) hp rfl rfl (λ_=>rfl) nofun,hse (by omega)]
     rfl
    ·rw[adS h0]at ha hp
     rw[ha]
     refine stop _ 0 ?_
     rw[W9 b e l ck g.steps place g.high argv z f d a g.counts g.seen pl (x::y::s) e0 hc hs s0 s1 (by omega) hp rfl rfl (λ_=>rfl) nofun]
     rfl
   ·have o1:=TP hcode e0
    obtain⟨x,y,s,rfl⟩:=rR rfl (by rw[(bI hr.1 hr.2 (by omega)).1 (by omega)]at ht;exact ht)
    rw[aaq,aaq]at hst
    have ha:cL ck c ((a:Int)+1) pl (x::y::s)= .go ((a:Int)+1) pl (gd (jL c.a y.n x.n)::s):=by simp[cL,e0]
    rw[ha]
    refine go _ _ _ ha ?_
    rw[XE b e l ck g.steps place g.high argv z f d a g.counts g.seen pl (x::y::s) e0 hc hs s0 s1 (by omega) (p83 f d ((a:Int)+1) none l ck (g.steps+1) place g.high none pl s g.counts g.seen c y x (by omega) o1) rfl rfl (λ_=>rfl) nofun,hse (by omega)]
    rfl
   ·have o2:=Aq hcode (by omega)
    obtain⟨x,s,rfl⟩:=dc rfl (by rw[(bI hr.1 hr.2 (by omega)).2 (by omega)]at ht;exact ht)
    rw[aaq]at hst
    have ha:cL ck c ((a:Int)+1) pl (x::s)=ip (bA ck c.op c.type0 x) ((a:Int)+1) pl s:=Gx (by omega)
    rw[e0]at ha
    have hp:=p84 f d ((a:Int)+1) none l ck (g.steps+1) place g.high none pl s g.counts g.seen c x (by omega) o2
    generalize bA ck 7 c.type0 x=r at ha hp
    unfold ip at ha
    by_cases h0:r.2=0
    ·rw[adT h0]at ha hp
     rw[ha]
     refine go _ _ _ ha ?_
     rw[W_ b e l ck g.steps place g.high argv z f d a g.counts g.seen pl (x::s) e0 hc hs s0 s1 (by omega) hp rfl rfl (λ_=>rfl) nofun,hse (by omega)]
     rfl
    ·rw[adS h0]at ha hp
     rw[ha]
     refine stop _ 0 ?_
     rw[W_ b e l ck g.steps place g.high argv z f d a g.counts g.seen pl (x::s) e0 hc hs s0 s1 (by omega) hp rfl rfl (λ_=>rfl) nofun]
     rfl
   ·obtain⟨x,s,rfl⟩:=dc rfl (by rw[(bI hr.1 hr.2 (by omega)).2 (by omega)]at ht;exact ht)
    rw[aaq]at hst
    have ha:cL ck c ((a:Int)+1) pl (x::s)=ip (bA ck c.op c.type0 x) ((a:Int)+1) pl s:=Gx (by omega)
    rw[e0]at ha
    have hal2:bA ck 8 c.type0 x=(gd (x.n==0),0):=rfl
    rw[hal2]at ha
    have ha2:cL ck c ((a:Int)+1) pl (x::s)= .go ((a:Int)+1) pl (gd (x.n==0)::s):=ha
    rw[ha2]
    refine go _ _ _ ha2 ?_
    rw[XF b e l ck g.steps place g.high argv z f d a g.counts g.seen pl (x::s) e0 hc hs s0 s1 (by omega) (p85 f d ((a:Int)+1) none l ck (g.steps+1) place g.high none pl s g.counts g.seen c x (by omega)) rfl rfl (λ_=>rfl) nofun,hse (by omega)]
    rfl
   ·have o2:=Aq hcode (by omega)
    obtain⟨x,s,rfl⟩:=dc rfl (by rw[(bI hr.1 hr.2 (by omega)).2 (by omega)]at ht;exact ht)
    rw[aaq]at hst
    have ha:cL ck c ((a:Int)+1) pl (x::s)=ip (bA ck c.op c.type0 x) ((a:Int)+1) pl s:=Gx (by omega)
    rw[e0]at ha
    have hp:=p86 f d ((a:Int)+1) none l ck (g.steps+1) place g.high none pl s g.counts g.seen c x (by omega) o2
    generalize bA ck 9 c.type0 x=r at ha hp
    unfold ip at ha
    by_cases h0:r.2=0
    ·rw[adT h0]at ha hp
     rw[ha]
     refine go _ _ _ ha ?_
     rw[Xa b e l ck g.steps place g.high argv z f d a g.counts g.seen pl (x::s) e0 hc hs s0 s1 (by omega) hp rfl rfl (λ_=>rfl) nofun,hse (by omega)]
     rfl
    ·rw[adS h0]at ha hp
     rw[ha]
     refine stop _ 0 ?_
     rw[Xa b e l ck g.steps place g.high argv z f d a g.counts g.seen pl (x::s) e0 hc hs s0 s1 (by omega) hp rfl rfl (λ_=>rfl) nofun]
     rfl
   ·have o2:=Aq hcode (by omega)
    obtain⟨x,s,rfl⟩:=dc rfl (by rw[(bI hr.1 hr.2 (by omega)).2 (by omega)]at ht;exact ht)
    rw[aaq]at hst
    have ha:cL ck c ((a:Int)+1) pl (x::s)=ip (bA ck c.op c.type0 x) ((a:Int)+1) pl s:=Gx (by omega)
    rw[e0]at ha
    have hal2:bA ck 10 c.type0 x=(cn (bt c.type0 x.n),0):=rfl
    rw[hal2]at ha
    have ha2:cL ck c ((a:Int)+1) pl (x::s)= .go ((a:Int)+1) pl (cn (bt c.type0 x.n)::s):=ha
    rw[ha2]
    refine go _ _ _ ha2 ?_
    rw[XG b e l ck g.steps place g.high argv z f d a g.counts g.seen pl (x::s) e0 hc hs s0 s1 (by omega) (p87 f d ((a:Int)+1) none l ck (g.steps+1) place g.high none pl s g.counts g.seen c x (by omega) o2) rfl rfl (λ_=>rfl) nofun,hse (by omega)]
    rfl
   ·obtain⟨x,s,rfl⟩:=dc rfl (by rw[(bI hr.1 hr.2 (by omega)).2 (by omega)]at ht;exact ht)
    rw[aaq]at hst
    have ha:cL ck c ((a:Int)+1) pl (x::s)=ip (bA ck c.op c.type0 x) ((a:Int)+1) pl s:=Gx (by omega)
    rw[e0]at ha
    have hp:=p88 f d ((a:Int)+1) none l ck (g.steps+1) place g.high none pl s g.counts g.seen c x (by omega)
    generalize bA ck 11 c.type0 x=r at ha hp
    unfold ip at ha
    by_cases h0:r.2=0
    ·rw[adT h0]at ha hp
     rw[ha]
     refine go _ _ _ ha ?_
     rw[Xb b e l ck g.steps place g.high argv z f d a g.counts g.seen pl (x::s) e0 hc hs s0 s1 (by omega) hp rfl rfl (λ_=>rfl) nofun,hse (by omega)]
     rfl
    ·rw[adS h0]at ha hp
     rw[ha]
     refine stop _ 0 ?_
     rw[Xb b e l ck g.steps place g.high argv z f d a g.counts g.seen pl (x::s) e0 hc hs s0 s1 (by omega) hp rfl rfl (λ_=>rfl) nofun]
     rfl
   ·obtain⟨x,s,rfl⟩:=dc rfl (by rw[(bI hr.1 hr.2 (by omega)).2 (by omega)]at ht;exact ht)
    rw[aaq]at hst
    have ha:cL ck c ((a:Int)+1) pl (x::s)=if x.null=true then .go c.a pl s else .go ((a:Int)+1) pl (x::s):=by simp[cL,e0]
    have hp:=p89 f d ((a:Int)+1) none l ck (g.steps+1) place g.high none pl s g.counts g.seen c x (by omega)
    by_cases h0:x.null=true
    ·rw[adT h0]at ha hp
     rw[ha]
     refine go _ _ _ ha ?_
     rw[Xd b e l ck g.steps place g.high argv z f d a g.counts g.seen pl (x::s) e0 hc hs s0 s1 (by omega) hp rfl rfl (λ_=>rfl) nofun,hse (by omega),gn (λq=>by have:=hh q;simp only[aaq]at this;omega)]
     rfl
    ·rw[adS h0]at ha hp
     rw[ha]
     refine go _ _ _ ha ?_
     rw[Xd b e l ck g.steps place g.high argv z f d a g.counts g.seen pl (x::s) e0 hc hs s0 s1 (by omega) hp rfl rfl (λ_=>rfl) nofun,hse (by omega),gn hh]
     rfl
   ·obtain⟨x,s,rfl⟩:=dc rfl (by rw[(bI hr.1 hr.2 (by omega)).2 (by omega)]at ht;exact ht)
    rw[aaq]at hst
    have ha:cL ck c ((a:Int)+1) pl (x::s)=if x.err=aae #[]then .go ((a:Int)+1) pl (x::s)else .go c.a pl (x::s):=by simp[cL,e0]
    have hp:=p90 f d ((a:Int)+1) none l ck (g.steps+1) place g.high none pl s g.counts g.seen c x (by omega)
    by_cases h0:x.err=aae #[]
    ·rw[adT h0]at ha hp
     rw[ha]
     refine go _ _ _ ha ?_
     rw[Xe b e l ck g.steps place g.high argv z f d a g.counts g.seen pl (x::s) e0 hc hs s0 s1 (by omega) hp rfl rfl (λ_=>rfl) (λ_=>rfl),hse (by omega),gn hh]
     rfl
    ·rw[adS h0]at ha hp
     rw[ha]
     refine go _ _ _ ha ?_
     rw[Xe b e l ck g.steps place g.high argv z f d a g.counts g.seen pl (x::s) e0 hc hs s0 s1 (by omega) hp rfl rfl (λ_=>rfl) (λ_=>rfl),hse (by omega),gn hh]
     rfl
   ·have ha:cL ck c ((a:Int)+1) pl st= .go c.a pl st:=by simp[cL,e0]
    rw[ha]
    refine go _ _ _ ha ?_
    rw[XH b e l ck g.steps place g.high argv z f d a g.counts g.seen pl st e0 hc hs s0 s1 (by omega) (p91 f d ((a:Int)+1) none l ck (g.steps+1) place g.high none pl st g.counts g.seen c) rfl rfl (λ_=>rfl) (λ_=>rfl),hse (by omega),gn hh]
    rfl
   ·obtain⟨x,s,rfl⟩:=dc rfl (by rw[(bI hr.1 hr.2 (by omega)).2 (by omega)]at ht;exact ht)
    rw[aaq]at hst
    have ha:cL ck c ((a:Int)+1) pl (x::s)= .go (if x.n=0 then c.a else(a:Int)+1) pl s:=by
     by_cases h0:x.n=0<;>simp[cL,e0,h0]
    rw[ha]
    refine go _ _ _ ha ?_
    rw[XI b e l ck g.steps place g.high argv z f d a g.counts g.seen pl (x::s) e0 hc hs s0 s1 (by omega) (p92 f d ((a:Int)+1) none l ck (g.steps+1) place g.high none pl s g.counts g.seen c x (by omega)) rfl rfl (λ_=>rfl) nofun,hse (by omega),gn (λq=>by have:=hh q;simp only[aaq]at this;omega)]
    rfl
   ·have ha:=(rW hcode (ck:=ck) (at1:=(a:Int)+1) (pl:=pl) (st:=st)).mpr e0
    rw[ha]
    obtain⟨k,h,n,h1,h2,h3,h4,h5,h6,h7,h8,h9,h10⟩:=pe R A hc e0
    simp only[h1,h3,h4,aak]
    by_cases hd:30<d+1
    ·rw[adT hd]
     have q:=p93 R h1 h4 h5 hst f (at1:=(a:Int)+1) hd1 hd2 ck place pl {g with steps:=g.steps+1} (x:=cn 0) (g2:={g with steps:=g.steps+1}) rfl (Ji (g:={g with steps:=g.steps+1}) hd)
     refine .inr ⟨by simp[zE],?_⟩
     rw[T3 b e l ck g.steps place g.high argv z f d a g.counts g.seen pl st e0 hc hs s0 s1 (by omega) q rfl rfl nofun nofun]
     simp only[zE,G.stop]
     rfl
    ·rw[adS hd]
     have G1:OkG l {g with steps:=g.steps+1,counts:=qd g.counts k}:=⟨by simp only[];omega,by simp only[];omega,G.kind,G.stop,by simp only[qd,aa7];exact G.cnt,G.seen⟩
     have A1:=h10 (by omega)
     have L:=gM R ck place N h (d+1) 0 _ [] _ A1 G1
     have I:=k_ R ck place N h (d+1) 0 _ [] _ A1 G1 (λq=>by omega) (by simp only[];omega) (st.length-n) n ((st.map val).reverse) (val (cn 0))
     rw[aaB]at L I
     generalize hrr:gL l ck place N h (d+1) 0 (cF h (st.take n).reverse) [] {g with steps:=g.steps+1,counts:=qd g.counts k}=r at L I⊢
     have L0:=L.s0
     have L1:=L.s1
     have Lh:=L.high (by omega)
     simp only[]at L0 Lh
     have h40:=p40 h3 (b:=st.length-n) (e:=n) (argv:=(st.map val).reverse) (args:=(st.take n).reverse) (by rw[lS];omega) (L9 st h5).2 (by simp;omega) (ck:=ck) (place:=place) (d:=d+1) (g:={g with steps:=g.steps+1}) (by omega) (by omega) h8 G.kind G.cnt h2 (λq=>by omega) (λq=>by omega) (r:=r) (by
      rw[adS (λq=>by omega)]
      exact I) L.zero
     have q:=p93 R h1 h4 h5 hst f (at1:=(a:Int)+1) hd1 hd2 ck place pl {g with steps:=g.steps+1} (x:=r.1) (g2:=r.2) (by rw[L.cnt];exact G.cnt.symm) h40
     by_cases hk:r.2.kind=0
     ·rw[adT hk]
      have een:Dr r.2=none:=by unfold Dr;rw[adT hk]
      rw[een]at q
      have G2:OkG l {r.2 with high:=aV d r.2.high (st.length-n+1)}:=⟨by simp only[];omega,L1,hk,L.stop hk,L.cnt,L.seen⟩
      have ih:=k_ R ck place N f d (a+1) pl _ _ (h9 r.1) G2 (λq=>by
       have:(((r.1::st.drop n).length:Nat):Int)=((st.length-n+1:Nat):Int):=by rw[aaq,aaU]
       rw[this];exact nu q) (by simp only[];omega) b e argv z
      have e1:(((a+1:Nat):Int))=(a:Int)+1:=rfl
      rw[e1]at ih
      unfold vH at ih⊢
      rw[e1]at ih
      rw[T3 b e l ck g.steps place g.high argv z f d a g.counts g.seen pl st e0 hc hs s0 s1 (by omega) q rfl (by rw[L.cnt];exact G.cnt.symm) nofun nofun]
      exact ih
     ·rw[adS hk]
      have een:Dr r.2=some (bX.mk r.2.kind r.2.stop):=by unfold Dr;rw[adS hk]
      rw[een]at q
      refine .inr ⟨hk,?_⟩
      rw[T3 b e l ck g.steps place g.high argv z f d a g.counts g.seen pl st e0 hc hs s0 s1 (by omega) q rfl (by rw[L.cnt];exact G.cnt.symm) nofun nofun]
      rfl
   ·obtain⟨x,s,rfl⟩:=dc rfl (by rw[(bI hr.1 hr.2 (by omega)).2 (by omega)]at ht;exact ht)
    rw[aaq]at hst
    have ha:cL ck c ((a:Int)+1) pl (x::s)= .ret x:=by simp[cL,e0]
    rw[ha]
    refine ret x ((a:Int)+1) pl s ?_
    rw[XJ b e l ck g.steps place g.high argv z f d a g.counts g.seen pl (x::s) e0 hc hs s0 s1 (by omega) (p94 f d ((a:Int)+1) none l ck (g.steps+1) place g.high none pl s g.counts g.seen c x (by omega)) rfl rfl (λ_=>rfl) nofun]
    rfl
   ·have ha:cL ck c ((a:Int)+1) pl st= .go ((a:Int)+1) pl (Item.mk 0 false c.name0::st):=by simp[cL,e0]
    rw[ha]
    refine go _ _ _ ha ?_
    rw[XK b e l ck g.steps place g.high argv z f d a g.counts g.seen pl st e0 hc hs s0 s1 (by omega) (p95 f d ((a:Int)+1) none l ck (g.steps+1) place g.high none pl st g.counts g.seen c (by omega)) rfl rfl (λ_=>rfl) nofun,hse (by omega)]
    rfl
   ·have ha:cL ck c ((a:Int)+1) pl st=if ck=true then .stop c.a else .ret (cn 0):=by simp[cL,e0]
    have hp:=p96 f d ((a:Int)+1) none l ck (g.steps+1) place g.high none pl st g.counts g.seen c
    by_cases h0:ck=true
    ·rw[adT h0]at ha hp
     rw[ha]
     refine stop _ 0 ?_
     rw[Xf b e l ck g.steps place g.high argv z f d a g.counts g.seen pl st e0 hc hs s0 s1 (by omega) hp rfl rfl (λ_=>rfl) (λ_=>rfl)]
     rfl
    ·rw[adS h0]at ha hp
     rw[ha]
     refine ret _ ((a:Int)+1) pl st ?_
     rw[Xf b e l ck g.steps place g.high argv z f d a g.counts g.seen pl st e0 hc hs s0 s1 (by omega) hp rfl rfl (λ_=>rfl) (λ_=>rfl)]
     rfl
end Go.Proofs.YtcghbgmmgcljkaaGreatDoor
end
section
namespace Go.Proofs.YtcghbgmmgcljkaaGreatDoor
open IntKind (i64)
set_option maxRecDepth 20000
set_option maxHeartbeats 8000000
def rt(k:Nat)(l:List aB)(d:Int)(ck:Bool)(at1 steps high place:Int)(i0:Item)(lg:Log)(pl st:List Item)(cnt:List Int)(sn:List Item):=
 (l,(k:Int),d,ck,at1,(0:Int),(0:Int),steps,high,place,i0,lg,pl,st.reverse,cnt,sn,())
theorem bV(x:Item)(s:List Item):(((x::s).reverse.length:Nat):Int)=(s.length:Int)+1:=by simp
theorem dM(x:Item)(s:List Item):(x::s).reverse[s.length]?=some x:=by
 rw[acj,aaz (by simp)];simp
theorem cE(x:Item)(s:List Item):abr s.length (x::s).reverse=s.reverse:=by
 rw[acj,List.take_left' (by simp)]
theorem zn(x y:Item)(s:List Item):(x::y::s).reverse[s.length]?=some y:=by
 rw[acj,aaF (by simp),dM]
theorem nJ(x y:Item)(s:List Item):abr s.length (x::y::s).reverse=s.reverse:=by
 rw[acj,abS (by simp),cE]
theorem cY(x:Item)(s:List Item):s.reverse++[x]=(x::s).reverse:=by simp
theorem zm:((([]:List Item).reverse.length:Nat):Int)=0:=rfl
theorem lT{st:List Item}(h:st.length<=65)(v:Item):st.reverse.length+[v].length<=4294967296:=by simp;omega
structure Rh (l:List aB) (f:aB) (c:aQ) (k a:Nat) (d steps high:Int) (st:List Item) (op:Int):Prop where
 hk:l[k]?=some f
 hc:f.code[a]?=some c
 hs:¬steps=40000
 h0:0<=steps
 h1:steps<=40000
 ha:a<=3000
 hh:d=1->(st.length:Int)<=high
 hst:st.length<=65
 e:c.op=op
section
variable {k:Nat} {l:List aB} {d:Int} {ck:Bool} {a:Nat} {steps high place:Int} {i0:Item} {lg:Log} {pl:List Item} {cnt:List Int} {sn:List Item} {f:aB} {c:aQ}
theorem JA:(∀(_:Rh l f c k a d steps high ([]:List Item) 0) (_:d4 c.type0=true),aA (rt k l d ck (a:Int) steps high place i0 lg pl [] cnt sn)=aA (rt k l d ck ((a:Int)+1) (steps+1) (aV d high (([]:List Item).length+1)) place i0 lg pl (cn (lA c.type0 c.a)::[]) cnt sn))/\
 (∀(_:Rh l f c k a d steps high ([]:List Item) 1) (_:True),aA (rt k l d ck (a:Int) steps high place i0 lg pl [] cnt sn)=aA (rt k l d ck ((a:Int)+1) (steps+1) (aV d high (([]:List Item).length+1)) place i0 lg pl (Item.mk 0 true (aae #[])::[]) cnt sn))/\
 (∀(_:Rh l f c k a d steps high ([]:List Item) 18) (_:True),aA (rt k l d ck (a:Int) steps high place i0 lg pl [] cnt sn)=aA (rt k l d ck ((a:Int)+1) (steps+1) (aV d high (([]:List Item).length+1)) place i0 lg pl (Item.mk 0 false c.name0::[]) cnt sn))/\
 (∀(_:Rh l f c k a d steps high ([]:List Item) 2) (_:0<=c.a/\c.a<(pl.length:Int)),aA (rt k l d ck (a:Int) steps high place i0 lg pl [] cnt sn)=aA (rt k l d ck ((a:Int)+1) (steps+1) (aV d high (([]:List Item).length+1)) place i0 lg pl (pl.getD c.a.toNat (cn 0)::[]) cnt sn)):=by
 refine⟨?_,?_,?_,?_⟩<;>(
  intro H E
  obtain⟨hk,hc,hs,h0,h1,ha,hh,hst,e⟩:=H
  have w1:i64.wrap ((a:Int)+1)=(a:Int)+1:=w64 (by omega) (by omega)
  have w2:i64.wrap (steps+1)=steps+1:=w64 (by omega) (by omega)
  have hb:(steps==40000)=false:=by simpa using hs
  have ha0:(0:Int)<=(a:Int):=by omega
  have hk0:(0:Int)<=(k:Int):=by omega
  have hle:=λv=>lT hst v
  have wn:i64.wrap ((0:Int) -1)= -1:=by decide
  have p1:¬(0:Int)<= -1:=by decide
  conv=>lhs;rw[aA]
  unfold rt
  by_cases hd:d=1
  ·have hd1:(d==1)=true:=by simpa using hd
   have hm:max high (0:Int)=high:=by have:=hh hd;simp at this⊢;omega
   simp only[hd1,hm,zm,wn,p1,hb,aaf,adQ,adP,hk0,ha0,aak,hk,hc,aag,aad,w1,w2,e,reduceIte,adU,adV,and_self,ge_iff_le,dt,aat,aa0,aao,aaR,bne_self_eq_false,aaP,true_and,and_true,aa4]
   have hg:0<=c.a/\c.a<(pl.length:Int)->pl[c.a.toNat]?=some (pl.getD c.a.toNat (cn 0)):=λq=>by rw[abf,aai (by omega)];rfl
   first
    |simp only[ld _ _ E,aad,adP,adQ,and_self,hle,cY,hd1,bV,aaf,bne_self_eq_false,reduceIte]
    |simp only[E.1,E.2,hg E,aad,adP,adQ,and_self,hle,cY,hd1,bV,aaf,bne_self_eq_false,reduceIte]
    |simp only[aad,adP,adQ,and_self,hle,cY,hd1,bV,aaf,bne_self_eq_false,reduceIte]
   unfold aV
   rw[adT hd]
   try rfl
  ·have hd1:(d==1)=false:=by simpa using hd
   simp only[hd1,zm,wn,p1,hb,aaf,adQ,adP,hk0,ha0,aak,hk,hc,aag,aad,w1,w2,e,reduceIte,adU,adV,and_self,ge_iff_le,dt,aat,aa0,aao,aaR,bne_self_eq_false,aaP,true_and,and_true,aa4]
   have hg:0<=c.a/\c.a<(pl.length:Int)->pl[c.a.toNat]?=some (pl.getD c.a.toNat (cn 0)):=λq=>by rw[abf,aai (by omega)];rfl
   first
    |simp only[ld _ _ E,aad,adP,adQ,and_self,hle,cY,hd1,bV,aaf,bne_self_eq_false,reduceIte]
    |simp only[E.1,E.2,hg E,aad,adP,adQ,and_self,hle,cY,hd1,bV,aaf,bne_self_eq_false,reduceIte]
    |simp only[aad,adP,adQ,and_self,hle,cY,hd1,bV,aaf,bne_self_eq_false,reduceIte]
   unfold aV
   rw[adS hd]
   try rfl)
theorem XP(H:Rh l f c k a d steps high ([]:List Item) 0)(E:d4 c.type0=true):aA (rt k l d ck (a:Int) steps high place i0 lg pl [] cnt sn)=aA (rt k l d ck ((a:Int)+1) (steps+1) (aV d high (([]:List Item).length+1)) place i0 lg pl (cn (lA c.type0 c.a)::[]) cnt sn):=JA.1 H E
theorem XX(H:Rh l f c k a d steps high ([]:List Item) 1)(E:True):aA (rt k l d ck (a:Int) steps high place i0 lg pl [] cnt sn)=aA (rt k l d ck ((a:Int)+1) (steps+1) (aV d high (([]:List Item).length+1)) place i0 lg pl (Item.mk 0 true (aae #[])::[]) cnt sn):=JA.2.1 H E
theorem Ul(H:Rh l f c k a d steps high ([]:List Item) 18)(E:True):aA (rt k l d ck (a:Int) steps high place i0 lg pl [] cnt sn)=aA (rt k l d ck ((a:Int)+1) (steps+1) (aV d high (([]:List Item).length+1)) place i0 lg pl (Item.mk 0 false c.name0::[]) cnt sn):=JA.2.2.1 H E
theorem XZ(H:Rh l f c k a d steps high ([]:List Item) 2)(E:0<=c.a/\c.a<(pl.length:Int)):aA (rt k l d ck (a:Int) steps high place i0 lg pl [] cnt sn)=aA (rt k l d ck ((a:Int)+1) (steps+1) (aV d high (([]:List Item).length+1)) place i0 lg pl (pl.getD c.a.toNat (cn 0)::[]) cnt sn):=JA.2.2.2 H E
theorem Jz:(∀{x:Item} {s:List Item} (_:Rh l f c k a d steps high (x::s) 0) (_:d4 c.type0=true),aA (rt k l d ck (a:Int) steps high place i0 lg pl (x::s) cnt sn)=aA (rt k l d ck ((a:Int)+1) (steps+1) (aV d high ((x::s).length+1)) place i0 lg pl (cn (lA c.type0 c.a)::(x::s)) cnt sn))/\
 (∀{x:Item} {s:List Item} (_:Rh l f c k a d steps high (x::s) 1) (_:True),aA (rt k l d ck (a:Int) steps high place i0 lg pl (x::s) cnt sn)=aA (rt k l d ck ((a:Int)+1) (steps+1) (aV d high ((x::s).length+1)) place i0 lg pl (Item.mk 0 true (aae #[])::(x::s)) cnt sn))/\
 (∀{x:Item} {s:List Item} (_:Rh l f c k a d steps high (x::s) 18) (_:True),aA (rt k l d ck (a:Int) steps high place i0 lg pl (x::s) cnt sn)=aA (rt k l d ck ((a:Int)+1) (steps+1) (aV d high ((x::s).length+1)) place i0 lg pl (Item.mk 0 false c.name0::(x::s)) cnt sn))/\
 (∀{x:Item} {s:List Item} (_:Rh l f c k a d steps high (x::s) 2) (_:0<=c.a/\c.a<(pl.length:Int)),aA (rt k l d ck (a:Int) steps high place i0 lg pl (x::s) cnt sn)=aA (rt k l d ck ((a:Int)+1) (steps+1) (aV d high ((x::s).length+1)) place i0 lg pl (pl.getD c.a.toNat (cn 0)::(x::s)) cnt sn)):=by
 refine⟨?_,?_,?_,?_⟩<;>(
  intro x s H E
  obtain⟨hk,hc,hs,h0,h1,ha,hh,hst,e⟩:=H
  have w1:i64.wrap ((a:Int)+1)=(a:Int)+1:=w64 (by omega) (by omega)
  have w2:i64.wrap (steps+1)=steps+1:=w64 (by omega) (by omega)
  have hb:(steps==40000)=false:=by simpa using hs
  have ha0:(0:Int)<=(a:Int):=by omega
  have hk0:(0:Int)<=(k:Int):=by omega
  have hst1:s.length<=64:=by rw[aaq]at hst;omega
  have wn:i64.wrap ((s.length:Int)+1-1)=(s.length:Int):=by rw[w64 (by omega) (by omega)];omega
  have p1:(0:Int)<=(s.length:Int):=by omega
  have p2:(s.length:Int)<(s.length:Int)+1:=by omega
  have p3:(s.length:Int)<=(s.length:Int)+1:=by omega
  have p8:s.length<=4294967296:=by omega
  have hst2:s.length<=65:=by omega
  have hle:=λv=>lT hst v
  have p7:s.length<=(x::s).reverse.length:=by simp
  conv=>lhs;rw[aA]
  unfold rt
  by_cases hd:d=1
  ·have hd1:(d==1)=true:=by simpa using hd
   have hm:max high ((s.length:Int)+1)=high:=by have:=hh hd;simp at this⊢;omega
   simp only[hd1,hm,bV,wn,p1,p2,p3,dM,cE,p7,p8,hb,aaf,adQ,adP,hk0,ha0,aak,hk,hc,aag,aad,w1,w2,e,reduceIte,adU,adV,and_self,ge_iff_le,dt,aat,aa0,aao,aaR,bne_self_eq_false,aaP,true_and,and_true,aa4]
   have hg:0<=c.a/\c.a<(pl.length:Int)->pl[c.a.toNat]?=some (pl.getD c.a.toNat (cn 0)):=λq=>by rw[abf,aai (by omega)];rfl
   first
    |simp only[ld _ _ E,aad,adP,adQ,and_self,hle,cY,hd1,bV,aaf,bne_self_eq_false,reduceIte]
    |simp only[E.1,E.2,hg E,aad,adP,adQ,and_self,hle,cY,hd1,bV,aaf,bne_self_eq_false,reduceIte]
    |simp only[aad,adP,adQ,and_self,hle,cY,hd1,bV,aaf,bne_self_eq_false,reduceIte]
   unfold aV
   rw[adT hd]
   try rfl
  ·have hd1:(d==1)=false:=by simpa using hd
   simp only[hd1,bV,wn,p1,p2,p3,dM,cE,p7,p8,hb,aaf,adQ,adP,hk0,ha0,aak,hk,hc,aag,aad,w1,w2,e,reduceIte,adU,adV,and_self,ge_iff_le,dt,aat,aa0,aao,aaR,bne_self_eq_false,aaP,true_and,and_true,aa4]
   have hg:0<=c.a/\c.a<(pl.length:Int)->pl[c.a.toNat]?=some (pl.getD c.a.toNat (cn 0)):=λq=>by rw[abf,aai (by omega)];rfl
   first
    |simp only[ld _ _ E,aad,adP,adQ,and_self,hle,cY,hd1,bV,aaf,bne_self_eq_false,reduceIte]
    |simp only[E.1,E.2,hg E,aad,adP,adQ,and_self,hle,cY,hd1,bV,aaf,bne_self_eq_false,reduceIte]
    |simp only[aad,adP,adQ,and_self,hle,cY,hd1,bV,aaf,bne_self_eq_false,reduceIte]
   unfold aV
   rw[adS hd]
   try rfl)
theorem XO{x:Item}{s:List Item}(H:Rh l f c k a d steps high (x::s) 0)(E:d4 c.type0=true):aA (rt k l d ck (a:Int) steps high place i0 lg pl (x::s) cnt sn)=aA (rt k l d ck ((a:Int)+1) (steps+1) (aV d high ((x::s).length+1)) place i0 lg pl (cn (lA c.type0 c.a)::(x::s)) cnt sn):=Jz.1 H E
theorem XW{x:Item}{s:List Item}(H:Rh l f c k a d steps high (x::s) 1)(E:True):aA (rt k l d ck (a:Int) steps high place i0 lg pl (x::s) cnt sn)=aA (rt k l d ck ((a:Int)+1) (steps+1) (aV d high ((x::s).length+1)) place i0 lg pl (Item.mk 0 true (aae #[])::(x::s)) cnt sn):=Jz.2.1 H E
theorem Uk{x:Item}{s:List Item}(H:Rh l f c k a d steps high (x::s) 18)(E:True):aA (rt k l d ck (a:Int) steps high place i0 lg pl (x::s) cnt sn)=aA (rt k l d ck ((a:Int)+1) (steps+1) (aV d high ((x::s).length+1)) place i0 lg pl (Item.mk 0 false c.name0::(x::s)) cnt sn):=Jz.2.2.1 H E
theorem XY{x:Item}{s:List Item}(H:Rh l f c k a d steps high (x::s) 2)(E:0<=c.a/\c.a<(pl.length:Int)):aA (rt k l d ck (a:Int) steps high place i0 lg pl (x::s) cnt sn)=aA (rt k l d ck ((a:Int)+1) (steps+1) (aV d high ((x::s).length+1)) place i0 lg pl (pl.getD c.a.toNat (cn 0)::(x::s)) cnt sn):=Jz.2.2.2 H E
theorem LS:(∀(_:Rh l f c k a d steps high ([]:List Item) 14) (_:True),aA (rt k l d ck (a:Int) steps high place i0 lg pl [] cnt sn)=aA (rt k l d ck c.a (steps+1) (aV d high 0) place i0 lg pl [] cnt sn))/\
 (∀(_:Rh l f c k a d steps high ([]:List Item) 19) (_:1<=c.a),aA (rt k l d ck (a:Int) steps high place i0 lg pl [] cnt sn)=if ck=true then some (cn 0,1,c.a,steps+1,high,place,cnt,sn,())else some ((cn 0),0,0,steps+1,high,place,cnt,sn,())):=by
 refine⟨?_,?_⟩<;>(
  intro H E
  obtain⟨hk,hc,hs,h0,h1,ha,hh,hst,e⟩:=H
  have w1:i64.wrap ((a:Int)+1)=(a:Int)+1:=w64 (by omega) (by omega)
  have w2:i64.wrap (steps+1)=steps+1:=w64 (by omega) (by omega)
  have hb:(steps==40000)=false:=by simpa using hs
  have ha0:(0:Int)<=(a:Int):=by omega
  have hk0:(0:Int)<=(k:Int):=by omega
  have hle:=λv=>lT hst v
  have wn:i64.wrap ((0:Int) -1)= -1:=by decide
  have p1:¬(0:Int)<= -1:=by decide
  conv=>lhs;rw[aA]
  unfold rt
  by_cases hd:d=1
  ·have hd1:(d==1)=true:=by simpa using hd
   have hm:max high (0:Int)=high:=by have:=hh hd;simp at this⊢;omega
   simp only[hd1,hm,zm,wn,p1,hb,aaf,adQ,adP,hk0,ha0,aak,hk,hc,aag,aad,w1,w2,e,reduceIte,adU,adV,and_self,ge_iff_le,dt,aat,aa0,aao,aaR,bne_self_eq_false,aaP,true_and,and_true,aa4]
   have hca:1<=c.a->(c.a !=0)=true:=λq=>by simp;omega
   first
    |(cases ck
      ·simp only[aad,bne_self_eq_false,abe,adP,aaf,adQ]
       rfl
      ·simp only[aad,aaM,hca E,adP,aaf,adQ]
       rfl)
    |(unfold aV
      rw[adT hd]
      first
       |done
       |rfl
       |rw[show max high ((0:Nat):Int)=high from hm])
  ·have hd1:(d==1)=false:=by simpa using hd
   simp only[hd1,zm,wn,p1,hb,aaf,adQ,adP,hk0,ha0,aak,hk,hc,aag,aad,w1,w2,e,reduceIte,adU,adV,and_self,ge_iff_le,dt,aat,aa0,aao,aaR,bne_self_eq_false,aaP,true_and,and_true,aa4]
   have hca:1<=c.a->(c.a !=0)=true:=λq=>by simp;omega
   first
    |(cases ck
      ·simp only[aad,bne_self_eq_false,abe,adP,aaf,adQ]
       rfl
      ·simp only[aad,aaM,hca E,adP,aaf,adQ]
       rfl)
    |(unfold aV
      rw[adS hd]
      first
       |done
       |rfl
       |skip))
theorem Uh(H:Rh l f c k a d steps high ([]:List Item) 14)(E:True):aA (rt k l d ck (a:Int) steps high place i0 lg pl [] cnt sn)=aA (rt k l d ck c.a (steps+1) (aV d high 0) place i0 lg pl [] cnt sn):=LS.1 H E
theorem Rf(H:Rh l f c k a d steps high ([]:List Item) 19)(E:1<=c.a):aA (rt k l d ck (a:Int) steps high place i0 lg pl [] cnt sn)=if ck=true then some (cn 0,1,c.a,steps+1,high,place,cnt,sn,())else some ((cn 0),0,0,steps+1,high,place,cnt,sn,()):=LS.2 H E
theorem LR:(∀{x:Item} {s:List Item} (_:Rh l f c k a d steps high (x::s) 14) (_:True),aA (rt k l d ck (a:Int) steps high place i0 lg pl (x::s) cnt sn)=aA (rt k l d ck c.a (steps+1) (aV d high (s.length+1)) place i0 lg pl (x::s) cnt sn))/\
 (∀{x:Item} {s:List Item} (_:Rh l f c k a d steps high (x::s) 19) (_:1<=c.a),aA (rt k l d ck (a:Int) steps high place i0 lg pl (x::s) cnt sn)=if ck=true then some (cn 0,1,c.a,steps+1,high,place,cnt,sn,())else some ((cn 0),0,0,steps+1,high,place,cnt,sn,())):=by
 refine⟨?_,?_⟩<;>(
  intro x s H E
  obtain⟨hk,hc,hs,h0,h1,ha,hh,hst,e⟩:=H
  have w1:i64.wrap ((a:Int)+1)=(a:Int)+1:=w64 (by omega) (by omega)
  have w2:i64.wrap (steps+1)=steps+1:=w64 (by omega) (by omega)
  have hb:(steps==40000)=false:=by simpa using hs
  have ha0:(0:Int)<=(a:Int):=by omega
  have hk0:(0:Int)<=(k:Int):=by omega
  have hst1:s.length<=64:=by rw[aaq]at hst;omega
  have wn:i64.wrap ((s.length:Int)+1-1)=(s.length:Int):=by rw[w64 (by omega) (by omega)];omega
  have p1:(0:Int)<=(s.length:Int):=by omega
  have p2:(s.length:Int)<(s.length:Int)+1:=by omega
  have p3:(s.length:Int)<=(s.length:Int)+1:=by omega
  have p8:s.length<=4294967296:=by omega
  have hst2:s.length<=65:=by omega
  have hle:=λv=>lT hst v
  have p7:s.length<=(x::s).reverse.length:=by simp
  conv=>lhs;rw[aA]
  unfold rt
  by_cases hd:d=1
  ·have hd1:(d==1)=true:=by simpa using hd
   have hm:max high ((s.length:Int)+1)=high:=by have:=hh hd;simp at this⊢;omega
   simp only[hd1,hm,bV,wn,p1,p2,p3,dM,cE,p7,p8,hb,aaf,adQ,adP,hk0,ha0,aak,hk,hc,aag,aad,w1,w2,e,reduceIte,adU,adV,and_self,ge_iff_le,dt,aat,aa0,aao,aaR,bne_self_eq_false,aaP,true_and,and_true,aa4]
   have hca:1<=c.a->(c.a !=0)=true:=λq=>by simp;omega
   first
    |(cases ck
      ·simp only[aad,bne_self_eq_false,abe,adP,aaf,adQ]
       rfl
      ·simp only[aad,aaM,hca E,adP,aaf,adQ]
       rfl)
    |(unfold aV
      rw[adT hd]
      first
       |done
       |rfl
       |rw[show max high (((s.length+1):Nat):Int)=high from hm])
  ·have hd1:(d==1)=false:=by simpa using hd
   simp only[hd1,bV,wn,p1,p2,p3,dM,cE,p7,p8,hb,aaf,adQ,adP,hk0,ha0,aak,hk,hc,aag,aad,w1,w2,e,reduceIte,adU,adV,and_self,ge_iff_le,dt,aat,aa0,aao,aaR,bne_self_eq_false,aaP,true_and,and_true,aa4]
   have hca:1<=c.a->(c.a !=0)=true:=λq=>by simp;omega
   first
    |(cases ck
      ·simp only[aad,bne_self_eq_false,abe,adP,aaf,adQ]
       rfl
      ·simp only[aad,aaM,hca E,adP,aaf,adQ]
       rfl)
    |(unfold aV
      rw[adS hd]
      first
       |done
       |rfl
       |skip))
theorem Ug{x:Item}{s:List Item}(H:Rh l f c k a d steps high (x::s) 14)(E:True):aA (rt k l d ck (a:Int) steps high place i0 lg pl (x::s) cnt sn)=aA (rt k l d ck c.a (steps+1) (aV d high (s.length+1)) place i0 lg pl (x::s) cnt sn):=LR.1 H E
theorem Re{x:Item}{s:List Item}(H:Rh l f c k a d steps high (x::s) 19)(E:1<=c.a):aA (rt k l d ck (a:Int) steps high place i0 lg pl (x::s) cnt sn)=if ck=true then some (cn 0,1,c.a,steps+1,high,place,cnt,sn,())else some ((cn 0),0,0,steps+1,high,place,cnt,sn,()):=LR.2 H E
theorem X1:(∀{x:Item} {s:List Item} (_:Rh l f c k a d steps high (x::s) 4) (_:True),aA (rt k l d ck (a:Int) steps high place i0 lg pl (x::s) cnt sn)=aA (rt k l d ck ((a:Int)+1) (steps+1) (aV d high s.length) place i0 lg pl s cnt sn)):=by
 (
  intro x s H E
  obtain⟨hk,hc,hs,h0,h1,ha,hh,hst,e⟩:=H
  have w1:i64.wrap ((a:Int)+1)=(a:Int)+1:=w64 (by omega) (by omega)
  have w2:i64.wrap (steps+1)=steps+1:=w64 (by omega) (by omega)
  have hb:(steps==40000)=false:=by simpa using hs
  have ha0:(0:Int)<=(a:Int):=by omega
  have hk0:(0:Int)<=(k:Int):=by omega
  have hst1:s.length<=64:=by rw[aaq]at hst;omega
  have wn:i64.wrap ((s.length:Int)+1-1)=(s.length:Int):=by rw[w64 (by omega) (by omega)];omega
  have p1:(0:Int)<=(s.length:Int):=by omega
  have p2:(s.length:Int)<(s.length:Int)+1:=by omega
  have p3:(s.length:Int)<=(s.length:Int)+1:=by omega
  have p8:s.length<=4294967296:=by omega
  have hst2:s.length<=65:=by omega
  have hle:=λv=>lT hst2 v
  have p7:s.length<=(x::s).reverse.length:=by simp
  conv=>lhs;rw[aA]
  unfold rt
  by_cases hd:d=1
  ·have hd1:(d==1)=true:=by simpa using hd
   have hm:max high ((s.length:Int)+1)=high:=by have:=hh hd;simp at this⊢;omega
   simp only[hd1,hm,bV,wn,p1,p2,p3,dM,cE,p7,p8,hb,aaf,adQ,adP,hk0,ha0,aak,hk,hc,aag,aad,w1,w2,e,reduceIte,adU,adV,and_self,ge_iff_le,dt,aat,aa0,aao,aaR,bne_self_eq_false,aaP,true_and,and_true,aa4]
   simp only[abd]
   unfold aV
   rw[adT hd]
   try rfl
  ·have hd1:(d==1)=false:=by simpa using hd
   simp only[hd1,bV,wn,p1,p2,p3,dM,cE,p7,p8,hb,aaf,adQ,adP,hk0,ha0,aak,hk,hc,aag,aad,w1,w2,e,reduceIte,adU,adV,and_self,ge_iff_le,dt,aat,aa0,aao,aaR,bne_self_eq_false,aaP,true_and,and_true,aa4]
   unfold aV
   rw[adS hd]
   try rfl)
theorem rl4{x:Item}{s:List Item}(H:Rh l f c k a d steps high (x::s) 4)(E:True):aA (rt k l d ck (a:Int) steps high place i0 lg pl (x::s) cnt sn)=aA (rt k l d ck ((a:Int)+1) (steps+1) (aV d high s.length) place i0 lg pl s cnt sn):=X1 H E
theorem Uj:(∀{x:Item} {s:List Item} (_:Rh l f c k a d steps high (x::s) 17) (_:True),aA (rt k l d ck (a:Int) steps high place i0 lg pl (x::s) cnt sn)=some (x,0,0,steps+1,high,place,cnt,sn,())):=by
 (
  intro x s H E
  obtain⟨hk,hc,hs,h0,h1,ha,hh,hst,e⟩:=H
  have w1:i64.wrap ((a:Int)+1)=(a:Int)+1:=w64 (by omega) (by omega)
  have w2:i64.wrap (steps+1)=steps+1:=w64 (by omega) (by omega)
  have hb:(steps==40000)=false:=by simpa using hs
  have ha0:(0:Int)<=(a:Int):=by omega
  have hk0:(0:Int)<=(k:Int):=by omega
  have hst1:s.length<=64:=by rw[aaq]at hst;omega
  have wn:i64.wrap ((s.length:Int)+1-1)=(s.length:Int):=by rw[w64 (by omega) (by omega)];omega
  have p1:(0:Int)<=(s.length:Int):=by omega
  have p2:(s.length:Int)<(s.length:Int)+1:=by omega
  have p3:(s.length:Int)<=(s.length:Int)+1:=by omega
  have p8:s.length<=4294967296:=by omega
  have hst2:s.length<=65:=by omega
  have hle:=λv=>lT hst2 v
  have p7:s.length<=(x::s).reverse.length:=by simp
  conv=>lhs;rw[aA]
  unfold rt
  by_cases hd:d=1
  ·have hd1:(d==1)=true:=by simpa using hd
   have hm:max high ((s.length:Int)+1)=high:=by have:=hh hd;simp at this⊢;omega
   simp only[hd1,hm,bV,wn,p1,p2,p3,dM,cE,p7,p8,hb,aaf,adQ,adP,hk0,ha0,aak,hk,hc,aag,aad,w1,w2,e,reduceIte,adU,adV,and_self,ge_iff_le,dt,aat,aa0,aao,aaR,bne_self_eq_false,aaP,true_and,and_true,aa4]
  ·have hd1:(d==1)=false:=by simpa using hd
   simp only[hd1,bV,wn,p1,p2,p3,dM,cE,p7,p8,hb,aaf,adQ,adP,hk0,ha0,aak,hk,hc,aag,aad,w1,w2,e,reduceIte,adU,adV,and_self,ge_iff_le,dt,aat,aa0,aao,aaR,bne_self_eq_false,aaP,true_and,and_true,aa4])
theorem XV{x:Item}{s:List Item}(H:Rh l f c k a d steps high (x::s) 17)(E:True):aA (rt k l d ck (a:Int) steps high place i0 lg pl (x::s) cnt sn)=some (x,0,0,steps+1,high,place,cnt,sn,()):=Uj H E
theorem Ue:(∀{x:Item} {s:List Item} (_:Rh l f c k a d steps high (x::s) 12) (_:True),aA (rt k l d ck (a:Int) steps high place i0 lg pl (x::s) cnt sn)=if x.null=true then aA (rt k l d ck c.a (steps+1) (aV d high s.length) place i0 lg pl s cnt sn)else aA (rt k l d ck ((a:Int)+1) (steps+1) (aV d high (s.length+1)) place i0 lg pl (x::s) cnt sn)):=by
 (
  intro x s H E
  obtain⟨hk,hc,hs,h0,h1,ha,hh,hst,e⟩:=H
  have w1:i64.wrap ((a:Int)+1)=(a:Int)+1:=w64 (by omega) (by omega)
  have w2:i64.wrap (steps+1)=steps+1:=w64 (by omega) (by omega)
  have hb:(steps==40000)=false:=by simpa using hs
  have ha0:(0:Int)<=(a:Int):=by omega
  have hk0:(0:Int)<=(k:Int):=by omega
  have hst1:s.length<=64:=by rw[aaq]at hst;omega
  have wn:i64.wrap ((s.length:Int)+1-1)=(s.length:Int):=by rw[w64 (by omega) (by omega)];omega
  have p1:(0:Int)<=(s.length:Int):=by omega
  have p2:(s.length:Int)<(s.length:Int)+1:=by omega
  have p3:(s.length:Int)<=(s.length:Int)+1:=by omega
  have p8:s.length<=4294967296:=by omega
  have hst2:s.length<=65:=by omega
  have hle:=λv=>lT hst2 v
  have p7:s.length<=(x::s).reverse.length:=by simp
  conv=>lhs;rw[aA]
  unfold rt
  by_cases hd:d=1
  ·have hd1:(d==1)=true:=by simpa using hd
   have hm:max high ((s.length:Int)+1)=high:=by have:=hh hd;simp at this⊢;omega
   simp only[hd1,hm,bV,wn,p1,p2,p3,dM,cE,p7,p8,hb,aaf,adQ,adP,hk0,ha0,aak,hk,hc,aag,aad,w1,w2,e,reduceIte,adU,adV,and_self,ge_iff_le,dt,aat,aa0,aao,aaR,bne_self_eq_false,aaP,true_and,and_true,aa4]
   cases hn:x.null
   ·simp only[aad,bne_self_eq_false,beq_self_eq_true,aaf,adQ,adP,hd1,bV,hm]
    unfold aV
    rw[adT hd]
    rw[show max high ((s.length+1:Nat):Int)=high from hm]
   ·simp only[aad,bne_self_eq_false,beq_self_eq_true,aaf,adQ,adP,hd1,abd]
    unfold aV
    rw[adT hd]
    try rfl
  ·have hd1:(d==1)=false:=by simpa using hd
   simp only[hd1,bV,wn,p1,p2,p3,dM,cE,p7,p8,hb,aaf,adQ,adP,hk0,ha0,aak,hk,hc,aag,aad,w1,w2,e,reduceIte,adU,adV,and_self,ge_iff_le,dt,aat,aa0,aao,aaR,bne_self_eq_false,aaP,true_and,and_true,aa4]
   cases hn:x.null
   ·simp only[aad,bne_self_eq_false,beq_self_eq_true,aaf,adQ,adP,hd1,bV]
    unfold aV
    rw[adS hd]
   ·simp only[aad,bne_self_eq_false,beq_self_eq_true,aaf,adQ,adP,hd1,abd]
    unfold aV
    rw[adS hd]
    try rfl)
theorem XS{x:Item}{s:List Item}(H:Rh l f c k a d steps high (x::s) 12)(E:True):aA (rt k l d ck (a:Int) steps high place i0 lg pl (x::s) cnt sn)=if x.null=true then aA (rt k l d ck c.a (steps+1) (aV d high s.length) place i0 lg pl s cnt sn)else aA (rt k l d ck ((a:Int)+1) (steps+1) (aV d high (s.length+1)) place i0 lg pl (x::s) cnt sn):=Ue H E
theorem Uf:(∀{x:Item} {s:List Item} (_:Rh l f c k a d steps high (x::s) 13) (_:True),aA (rt k l d ck (a:Int) steps high place i0 lg pl (x::s) cnt sn)=if x.err=aae #[]then aA (rt k l d ck ((a:Int)+1) (steps+1) (aV d high (s.length+1)) place i0 lg pl (x::s) cnt sn)else aA (rt k l d ck c.a (steps+1) (aV d high (s.length+1)) place i0 lg pl (x::s) cnt sn)):=by
 (
  intro x s H E
  obtain⟨hk,hc,hs,h0,h1,ha,hh,hst,e⟩:=H
  have w1:i64.wrap ((a:Int)+1)=(a:Int)+1:=w64 (by omega) (by omega)
  have w2:i64.wrap (steps+1)=steps+1:=w64 (by omega) (by omega)
  have hb:(steps==40000)=false:=by simpa using hs
  have ha0:(0:Int)<=(a:Int):=by omega
  have hk0:(0:Int)<=(k:Int):=by omega
  have hst1:s.length<=64:=by rw[aaq]at hst;omega
  have wn:i64.wrap ((s.length:Int)+1-1)=(s.length:Int):=by rw[w64 (by omega) (by omega)];omega
  have p1:(0:Int)<=(s.length:Int):=by omega
  have p2:(s.length:Int)<(s.length:Int)+1:=by omega
  have p3:(s.length:Int)<=(s.length:Int)+1:=by omega
  have p8:s.length<=4294967296:=by omega
  have hst2:s.length<=65:=by omega
  have hle:=λv=>lT hst2 v
  have p7:s.length<=(x::s).reverse.length:=by simp
  conv=>lhs;rw[aA]
  unfold rt
  by_cases hd:d=1
  ·have hd1:(d==1)=true:=by simpa using hd
   have hm:max high ((s.length:Int)+1)=high:=by have:=hh hd;simp at this⊢;omega
   simp only[hd1,hm,bV,wn,p1,p2,p3,dM,cE,p7,p8,hb,aaf,adQ,adP,hk0,ha0,aak,hk,hc,aag,aad,w1,w2,e,reduceIte,adU,adV,and_self,ge_iff_le,dt,aat,aa0,aao,aaR,bne_self_eq_false,aaP,true_and,and_true,aa4]
   simp only[eo]
   by_cases hn:x.err=aae #[]
   ·simp only[aad,bne_self_eq_false,beq_self_eq_true,aaf,adQ,adP,hd1,hn,adU,adV,aaM,abe,bV,hm]
    unfold aV
    rw[adT hd]
    rw[show max high ((s.length+1:Nat):Int)=high from hm]
   ·simp only[aad,bne_self_eq_false,beq_self_eq_true,aaf,adQ,adP,hd1,hn,adU,adV,aaM,abe,bV,hm]
    unfold aV
    rw[adT hd]
    rw[show max high ((s.length+1:Nat):Int)=high from hm]
  ·have hd1:(d==1)=false:=by simpa using hd
   simp only[hd1,bV,wn,p1,p2,p3,dM,cE,p7,p8,hb,aaf,adQ,adP,hk0,ha0,aak,hk,hc,aag,aad,w1,w2,e,reduceIte,adU,adV,and_self,ge_iff_le,dt,aat,aa0,aao,aaR,bne_self_eq_false,aaP,true_and,and_true,aa4]
   simp only[eo]
   by_cases hn:x.err=aae #[]
   ·simp only[aad,bne_self_eq_false,beq_self_eq_true,aaf,adQ,adP,hd1,hn,adU,adV,aaM,abe,bV]
    unfold aV
    rw[adS hd]
   ·simp only[aad,bne_self_eq_false,beq_self_eq_true,aaf,adQ,adP,hd1,hn,adU,adV,aaM,abe,bV]
    unfold aV
    rw[adS hd])
theorem XT{x:Item}{s:List Item}(H:Rh l f c k a d steps high (x::s) 13)(E:True):aA (rt k l d ck (a:Int) steps high place i0 lg pl (x::s) cnt sn)=if x.err=aae #[]then aA (rt k l d ck ((a:Int)+1) (steps+1) (aV d high (s.length+1)) place i0 lg pl (x::s) cnt sn)else aA (rt k l d ck c.a (steps+1) (aV d high (s.length+1)) place i0 lg pl (x::s) cnt sn):=Uf H E
theorem Ui:(∀{x:Item} {s:List Item} (_:Rh l f c k a d steps high (x::s) 15) (_:True),aA (rt k l d ck (a:Int) steps high place i0 lg pl (x::s) cnt sn)=if x.n=0 then aA (rt k l d ck c.a (steps+1) (aV d high s.length) place i0 lg pl s cnt sn)else aA (rt k l d ck ((a:Int)+1) (steps+1) (aV d high s.length) place i0 lg pl s cnt sn)):=by
 (
  intro x s H E
  obtain⟨hk,hc,hs,h0,h1,ha,hh,hst,e⟩:=H
  have w1:i64.wrap ((a:Int)+1)=(a:Int)+1:=w64 (by omega) (by omega)
  have w2:i64.wrap (steps+1)=steps+1:=w64 (by omega) (by omega)
  have hb:(steps==40000)=false:=by simpa using hs
  have ha0:(0:Int)<=(a:Int):=by omega
  have hk0:(0:Int)<=(k:Int):=by omega
  have hst1:s.length<=64:=by rw[aaq]at hst;omega
  have wn:i64.wrap ((s.length:Int)+1-1)=(s.length:Int):=by rw[w64 (by omega) (by omega)];omega
  have p1:(0:Int)<=(s.length:Int):=by omega
  have p2:(s.length:Int)<(s.length:Int)+1:=by omega
  have p3:(s.length:Int)<=(s.length:Int)+1:=by omega
  have p8:s.length<=4294967296:=by omega
  have hst2:s.length<=65:=by omega
  have hle:=λv=>lT hst2 v
  have p7:s.length<=(x::s).reverse.length:=by simp
  conv=>lhs;rw[aA]
  unfold rt
  by_cases hd:d=1
  ·have hd1:(d==1)=true:=by simpa using hd
   have hm:max high ((s.length:Int)+1)=high:=by have:=hh hd;simp at this⊢;omega
   simp only[hd1,hm,bV,wn,p1,p2,p3,dM,cE,p7,p8,hb,aaf,adQ,adP,hk0,ha0,aak,hk,hc,aag,aad,w1,w2,e,reduceIte,adU,adV,and_self,ge_iff_le,dt,aat,aa0,aao,aaR,bne_self_eq_false,aaP,true_and,and_true,aa4]
   by_cases hn:x.n=0
   ·have hn1:(x.n==0)=true:=by simpa using hn
    simp only[aad,bne_self_eq_false,beq_self_eq_true,aaf,adQ,adP,hd1,hn,hn1,abd]
    unfold aV
    rw[adT hd]
    try rfl
   ·have hn1:(x.n==0)=false:=by simpa using hn
    simp only[aad,bne_self_eq_false,beq_self_eq_true,aaf,adQ,adP,hd1,hn,hn1,abd]
    unfold aV
    rw[adT hd]
    try rfl
  ·have hd1:(d==1)=false:=by simpa using hd
   simp only[hd1,bV,wn,p1,p2,p3,dM,cE,p7,p8,hb,aaf,adQ,adP,hk0,ha0,aak,hk,hc,aag,aad,w1,w2,e,reduceIte,adU,adV,and_self,ge_iff_le,dt,aat,aa0,aao,aaR,bne_self_eq_false,aaP,true_and,and_true,aa4]
   by_cases hn:x.n=0
   ·have hn1:(x.n==0)=true:=by simpa using hn
    simp only[aad,bne_self_eq_false,beq_self_eq_true,aaf,adQ,adP,hd1,hn,hn1,abd]
    unfold aV
    rw[adS hd]
    try rfl
   ·have hn1:(x.n==0)=false:=by simpa using hn
    simp only[aad,bne_self_eq_false,beq_self_eq_true,aaf,adQ,adP,hd1,hn,hn1,abd]
    unfold aV
    rw[adS hd]
    try rfl)
theorem XU{x:Item}{s:List Item}(H:Rh l f c k a d steps high (x::s) 15)(E:True):aA (rt k l d ck (a:Int) steps high place i0 lg pl (x::s) cnt sn)=if x.n=0 then aA (rt k l d ck c.a (steps+1) (aV d high s.length) place i0 lg pl s cnt sn)else aA (rt k l d ck ((a:Int)+1) (steps+1) (aV d high s.length) place i0 lg pl s cnt sn):=Ui H E
theorem X2:(∀{x y:Item} {s:List Item} (_:Rh l f c k a d steps high (x::y::s) 5) (_:cJ c.type0=true),aA (rt k l d ck (a:Int) steps high place i0 lg pl (x::y::s) cnt sn)=if(opS ck c.a c.type0 y x).2=0 then aA (rt k l d ck ((a:Int)+1) (steps+1) (aV d high (s.length+1)) place i0 lg pl ((opS ck c.a c.type0 y x).1::s) cnt sn)else some (cn 0,1,(opS ck c.a c.type0 y x).2,steps+1,high,place,cnt,sn,())):=by
 (
  intro x y s H E
  obtain⟨hk,hc,hs,h0,h1,ha,hh,hst,e⟩:=H
  have w1:i64.wrap ((a:Int)+1)=(a:Int)+1:=w64 (by omega) (by omega)
  have w2:i64.wrap (steps+1)=steps+1:=w64 (by omega) (by omega)
  have hb:(steps==40000)=false:=by simpa using hs
  have ha0:(0:Int)<=(a:Int):=by omega
  have hk0:(0:Int)<=(k:Int):=by omega
  have hst1:(y::s).length<=64:=by rw[aaq]at hst;omega
  have wn:i64.wrap (((y::s).length:Int)+1-1)=((y::s).length:Int):=by rw[w64 (by omega) (by omega)];omega
  have p1:(0:Int)<=((y::s).length:Int):=by omega
  have p2:((y::s).length:Int)<((y::s).length:Int)+1:=by omega
  have p3:((y::s).length:Int)<=((y::s).length:Int)+1:=by omega
  have p8:s.length<=4294967296:=by rw[aaq]at hst1;omega
  have hst2:s.length<=65:=by rw[aaq]at hst1;omega
  have hle:=λv=>lT hst2 v
  have hyl:(((y::s).length:Nat):Int)=(s.length:Int)+1:=rfl
  have wn2:i64.wrap (((y::s).length:Int) -1)=(s.length:Int):=by rw[hyl,w64 (by omega) (by omega)];omega
  have p4:(0:Int)<=(s.length:Int):=by omega
  have p5:(s.length:Int)<(((y::s).length:Nat):Int)+1:=by omega
  have p6:(s.length:Int)<=(((y::s).length:Nat):Int)+1:=by omega
  have p7:s.length<=(x::y::s).reverse.length:=by rw[abd,aaq,aaq];omega
  conv=>lhs;rw[aA]
  unfold rt
  by_cases hd:d=1
  ·have hd1:(d==1)=true:=by simpa using hd
   have hm:max high (((y::s).length:Int)+1)=high:=by have:=hh hd;simp at this⊢;omega
   simp only[hd1,hm,bV,wn,p1,p2,p3,dM,cE,p7,p8,wn2,p4,p5,p6,zn,nJ,hb,aaf,adQ,adP,hk0,ha0,aak,hk,hc,aag,aad,w1,w2,e,reduceIte,adU,adV,and_self,ge_iff_le,dt,aat,aa0,aao,aaR,bne_self_eq_false,aaP,true_and,and_true,aa4]
   simp only[rc ck _ _ _ _ E,hle,aad,adP]
   by_cases hz:(opS ck c.a c.type0 y x).2=0
   ·have hz1:((opS ck c.a c.type0 y x).2 !=0)=false:=by simpa using hz
    simp only[aad,bne_self_eq_false,beq_self_eq_true,aaf,adQ,adP,hd1,hz1,hz,cY,bV]
    unfold aV
    rw[adT hd]
    try rfl
   ·have hz1:((opS ck c.a c.type0 y x).2 !=0)=true:=by simpa using hz
    simp only[hz1,hz,adP,adQ]
    rfl
  ·have hd1:(d==1)=false:=by simpa using hd
   simp only[hd1,bV,wn,p1,p2,p3,dM,cE,p7,p8,wn2,p4,p5,p6,zn,nJ,hb,aaf,adQ,adP,hk0,ha0,aak,hk,hc,aag,aad,w1,w2,e,reduceIte,adU,adV,and_self,ge_iff_le,dt,aat,aa0,aao,aaR,bne_self_eq_false,aaP,true_and,and_true,aa4]
   simp only[rc ck _ _ _ _ E,hle,aad,adP]
   by_cases hz:(opS ck c.a c.type0 y x).2=0
   ·have hz1:((opS ck c.a c.type0 y x).2 !=0)=false:=by simpa using hz
    simp only[aad,bne_self_eq_false,beq_self_eq_true,aaf,adQ,adP,hd1,hz1,hz,cY,bV]
    unfold aV
    rw[adS hd]
    try rfl
   ·have hz1:((opS ck c.a c.type0 y x).2 !=0)=true:=by simpa using hz
    simp only[hz1,hz,adP,adQ]
    rfl)
theorem rl5{x y:Item}{s:List Item}(H:Rh l f c k a d steps high (x::y::s) 5)(E:cJ c.type0=true):aA (rt k l d ck (a:Int) steps high place i0 lg pl (x::y::s) cnt sn)=if(opS ck c.a c.type0 y x).2=0 then aA (rt k l d ck ((a:Int)+1) (steps+1) (aV d high (s.length+1)) place i0 lg pl ((opS ck c.a c.type0 y x).1::s) cnt sn)else some (cn 0,1,(opS ck c.a c.type0 y x).2,steps+1,high,place,cnt,sn,()):=X2 H E
theorem X3:(∀{x y:Item} {s:List Item} (_:Rh l f c k a d steps high (x::y::s) 6) (_:True),aA (rt k l d ck (a:Int) steps high place i0 lg pl (x::y::s) cnt sn)=aA (rt k l d ck ((a:Int)+1) (steps+1) (aV d high (s.length+1)) place i0 lg pl (gd (jL c.a y.n x.n)::s) cnt sn)):=by
 (
  intro x y s H E
  obtain⟨hk,hc,hs,h0,h1,ha,hh,hst,e⟩:=H
  have w1:i64.wrap ((a:Int)+1)=(a:Int)+1:=w64 (by omega) (by omega)
  have w2:i64.wrap (steps+1)=steps+1:=w64 (by omega) (by omega)
  have hb:(steps==40000)=false:=by simpa using hs
  have ha0:(0:Int)<=(a:Int):=by omega
  have hk0:(0:Int)<=(k:Int):=by omega
  have hst1:(y::s).length<=64:=by rw[aaq]at hst;omega
  have wn:i64.wrap (((y::s).length:Int)+1-1)=((y::s).length:Int):=by rw[w64 (by omega) (by omega)];omega
  have p1:(0:Int)<=((y::s).length:Int):=by omega
  have p2:((y::s).length:Int)<((y::s).length:Int)+1:=by omega
  have p3:((y::s).length:Int)<=((y::s).length:Int)+1:=by omega
  have p8:s.length<=4294967296:=by rw[aaq]at hst1;omega
  have hst2:s.length<=65:=by rw[aaq]at hst1;omega
  have hle:=λv=>lT hst2 v
  have hyl:(((y::s).length:Nat):Int)=(s.length:Int)+1:=rfl
  have wn2:i64.wrap (((y::s).length:Int) -1)=(s.length:Int):=by rw[hyl,w64 (by omega) (by omega)];omega
  have p4:(0:Int)<=(s.length:Int):=by omega
  have p5:(s.length:Int)<(((y::s).length:Nat):Int)+1:=by omega
  have p6:(s.length:Int)<=(((y::s).length:Nat):Int)+1:=by omega
  have p7:s.length<=(x::y::s).reverse.length:=by rw[abd,aaq,aaq];omega
  conv=>lhs;rw[aA]
  unfold rt
  by_cases hd:d=1
  ·have hd1:(d==1)=true:=by simpa using hd
   have hm:max high (((y::s).length:Int)+1)=high:=by have:=hh hd;simp at this⊢;omega
   simp only[hd1,hm,bV,wn,p1,p2,p3,dM,cE,p7,p8,wn2,p4,p5,p6,zn,nJ,hb,aaf,adQ,adP,hk0,ha0,aak,hk,hc,aag,aad,w1,w2,e,reduceIte,adU,adV,and_self,ge_iff_le,dt,aat,aa0,aao,aaR,bne_self_eq_false,aaP,true_and,and_true,aa4]
   simp only[oz,aad,adP,adQ,and_self,hle,cY,hd1,bV,aaf,bne_self_eq_false,reduceIte]
   unfold aV
   rw[adT hd]
   try rfl
  ·have hd1:(d==1)=false:=by simpa using hd
   simp only[hd1,bV,wn,p1,p2,p3,dM,cE,p7,p8,wn2,p4,p5,p6,zn,nJ,hb,aaf,adQ,adP,hk0,ha0,aak,hk,hc,aag,aad,w1,w2,e,reduceIte,adU,adV,and_self,ge_iff_le,dt,aat,aa0,aao,aaR,bne_self_eq_false,aaP,true_and,and_true,aa4]
   simp only[oz,aad,adP,adQ,and_self,hle,cY,hd1,bV,aaf,bne_self_eq_false,reduceIte]
   unfold aV
   rw[adS hd]
   try rfl)
theorem rl6{x y:Item}{s:List Item}(H:Rh l f c k a d steps high (x::y::s) 6)(E:True):aA (rt k l d ck (a:Int) steps high place i0 lg pl (x::y::s) cnt sn)=aA (rt k l d ck ((a:Int)+1) (steps+1) (aV d high (s.length+1)) place i0 lg pl (gd (jL c.a y.n x.n)::s) cnt sn):=X3 H E
theorem Rg:(∀{x:Item} {s:List Item} (_:Rh l f c k a d steps high (x::s) 7) (_:cJ c.type0=true),aA (rt k l d ck (a:Int) steps high place i0 lg pl (x::s) cnt sn)=if(bA ck 7 c.type0 x).2=0 then aA (rt k l d ck ((a:Int)+1) (steps+1) (aV d high (s.length+1)) place i0 lg pl ((bA ck 7 c.type0 x).1::s) cnt sn)else some (cn 0,1,(bA ck 7 c.type0 x).2,steps+1,high,place,cnt,sn,()))/\
 (∀{x:Item} {s:List Item} (_:Rh l f c k a d steps high (x::s) 8) (_:True),aA (rt k l d ck (a:Int) steps high place i0 lg pl (x::s) cnt sn)=if(bA ck 8 c.type0 x).2=0 then aA (rt k l d ck ((a:Int)+1) (steps+1) (aV d high (s.length+1)) place i0 lg pl ((bA ck 8 c.type0 x).1::s) cnt sn)else some (cn 0,1,(bA ck 8 c.type0 x).2,steps+1,high,place,cnt,sn,()))/\
 (∀{x:Item} {s:List Item} (_:Rh l f c k a d steps high (x::s) 9) (_:cJ c.type0=true),aA (rt k l d ck (a:Int) steps high place i0 lg pl (x::s) cnt sn)=if(bA ck 9 c.type0 x).2=0 then aA (rt k l d ck ((a:Int)+1) (steps+1) (aV d high (s.length+1)) place i0 lg pl ((bA ck 9 c.type0 x).1::s) cnt sn)else some (cn 0,1,(bA ck 9 c.type0 x).2,steps+1,high,place,cnt,sn,()))/\
 (∀{x:Item} {s:List Item} (_:Rh l f c k a d steps high (x::s) 10) (_:cJ c.type0=true),aA (rt k l d ck (a:Int) steps high place i0 lg pl (x::s) cnt sn)=if(bA ck 10 c.type0 x).2=0 then aA (rt k l d ck ((a:Int)+1) (steps+1) (aV d high (s.length+1)) place i0 lg pl ((bA ck 10 c.type0 x).1::s) cnt sn)else some (cn 0,1,(bA ck 10 c.type0 x).2,steps+1,high,place,cnt,sn,()))/\
 (∀{x:Item} {s:List Item} (_:Rh l f c k a d steps high (x::s) 11) (_:True),aA (rt k l d ck (a:Int) steps high place i0 lg pl (x::s) cnt sn)=if(bA ck 11 c.type0 x).2=0 then aA (rt k l d ck ((a:Int)+1) (steps+1) (aV d high (s.length+1)) place i0 lg pl ((bA ck 11 c.type0 x).1::s) cnt sn)else some (cn 0,1,(bA ck 11 c.type0 x).2,steps+1,high,place,cnt,sn,())):=by
 refine⟨?_,?_,?_,?_,?_⟩<;>(
  intro x s H E
  obtain⟨hk,hc,hs,h0,h1,ha,hh,hst,e⟩:=H
  have w1:i64.wrap ((a:Int)+1)=(a:Int)+1:=w64 (by omega) (by omega)
  have w2:i64.wrap (steps+1)=steps+1:=w64 (by omega) (by omega)
  have hb:(steps==40000)=false:=by simpa using hs
  have ha0:(0:Int)<=(a:Int):=by omega
  have hk0:(0:Int)<=(k:Int):=by omega
  have hst1:s.length<=64:=by rw[aaq]at hst;omega
  have wn:i64.wrap ((s.length:Int)+1-1)=(s.length:Int):=by rw[w64 (by omega) (by omega)];omega
  have p1:(0:Int)<=(s.length:Int):=by omega
  have p2:(s.length:Int)<(s.length:Int)+1:=by omega
  have p3:(s.length:Int)<=(s.length:Int)+1:=by omega
  have p8:s.length<=4294967296:=by omega
  have hst2:s.length<=65:=by omega
  have hle:=λv=>lT hst2 v
  have p7:s.length<=(x::s).reverse.length:=by simp
  conv=>lhs;rw[aA]
  unfold rt
  by_cases hd:d=1
  ·have hd1:(d==1)=true:=by simpa using hd
   have hm:max high ((s.length:Int)+1)=high:=by have:=hh hd;simp at this⊢;omega
   simp only[hd1,hm,bV,wn,p1,p2,p3,dM,cE,p7,p8,hb,aaf,adQ,adP,hk0,ha0,aak,hk,hc,aag,aad,w1,w2,e,reduceIte,adU,adV,and_self,ge_iff_le,dt,aat,aa0,aao,aaR,bne_self_eq_false,aaP,true_and,and_true,aa4]
   have R:=yc ck c.op c.type0 x (by omega) (λq=>by first|exact E|omega)
   rw[e]at R
   simp only[R,hle,aad,adP]
   rw[<-e]
   generalize bA ck c.op c.type0 x=r
   by_cases hz:r.2=0
   ·have hz1:(r.2 !=0)=false:=by simpa using hz
    simp only[aad,bne_self_eq_false,beq_self_eq_true,aaf,adQ,adP,hd1,hz1,hz,cY,bV]
    unfold aV
    rw[adT hd]
    try rfl
   ·have hz1:(r.2 !=0)=true:=by simpa using hz
    simp only[hz1,hz,adP,adQ]
    rfl
  ·have hd1:(d==1)=false:=by simpa using hd
   simp only[hd1,bV,wn,p1,p2,p3,dM,cE,p7,p8,hb,aaf,adQ,adP,hk0,ha0,aak,hk,hc,aag,aad,w1,w2,e,reduceIte,adU,adV,and_self,ge_iff_le,dt,aat,aa0,aao,aaR,bne_self_eq_false,aaP,true_and,and_true,aa4]
   have R:=yc ck c.op c.type0 x (by omega) (λq=>by first|exact E|omega)
   rw[e]at R
   simp only[R,hle,aad,adP]
   rw[<-e]
   generalize bA ck c.op c.type0 x=r
   by_cases hz:r.2=0
   ·have hz1:(r.2 !=0)=false:=by simpa using hz
    simp only[aad,bne_self_eq_false,beq_self_eq_true,aaf,adQ,adP,hd1,hz1,hz,cY,bV]
    unfold aV
    rw[adS hd]
    try rfl
   ·have hz1:(r.2 !=0)=true:=by simpa using hz
    simp only[hz1,hz,adP,adQ]
    rfl)
theorem rl7{x:Item}{s:List Item}(H:Rh l f c k a d steps high (x::s) 7)(E:cJ c.type0=true):aA (rt k l d ck (a:Int) steps high place i0 lg pl (x::s) cnt sn)=if(bA ck 7 c.type0 x).2=0 then aA (rt k l d ck ((a:Int)+1) (steps+1) (aV d high (s.length+1)) place i0 lg pl ((bA ck 7 c.type0 x).1::s) cnt sn)else some (cn 0,1,(bA ck 7 c.type0 x).2,steps+1,high,place,cnt,sn,()):=Rg.1 H E
theorem rl8{x:Item}{s:List Item}(H:Rh l f c k a d steps high (x::s) 8)(E:True):aA (rt k l d ck (a:Int) steps high place i0 lg pl (x::s) cnt sn)=if(bA ck 8 c.type0 x).2=0 then aA (rt k l d ck ((a:Int)+1) (steps+1) (aV d high (s.length+1)) place i0 lg pl ((bA ck 8 c.type0 x).1::s) cnt sn)else some (cn 0,1,(bA ck 8 c.type0 x).2,steps+1,high,place,cnt,sn,()):=Rg.2.1 H E
theorem rl9{x:Item}{s:List Item}(H:Rh l f c k a d steps high (x::s) 9)(E:cJ c.type0=true):aA (rt k l d ck (a:Int) steps high place i0 lg pl (x::s) cnt sn)=if(bA ck 9 c.type0 x).2=0 then aA (rt k l d ck ((a:Int)+1) (steps+1) (aV d high (s.length+1)) place i0 lg pl ((bA ck 9 c.type0 x).1::s) cnt sn)else some (cn 0,1,(bA ck 9 c.type0 x).2,steps+1,high,place,cnt,sn,()):=Rg.2.2.1 H E
theorem XQ{x:Item}{s:List Item}(H:Rh l f c k a d steps high (x::s) 10)(E:cJ c.type0=true):aA (rt k l d ck (a:Int) steps high place i0 lg pl (x::s) cnt sn)=if(bA ck 10 c.type0 x).2=0 then aA (rt k l d ck ((a:Int)+1) (steps+1) (aV d high (s.length+1)) place i0 lg pl ((bA ck 10 c.type0 x).1::s) cnt sn)else some (cn 0,1,(bA ck 10 c.type0 x).2,steps+1,high,place,cnt,sn,()):=Rg.2.2.2.1 H E
theorem XR{x:Item}{s:List Item}(H:Rh l f c k a d steps high (x::s) 11)(E:True):aA (rt k l d ck (a:Int) steps high place i0 lg pl (x::s) cnt sn)=if(bA ck 11 c.type0 x).2=0 then aA (rt k l d ck ((a:Int)+1) (steps+1) (aV d high (s.length+1)) place i0 lg pl ((bA ck 11 c.type0 x).1::s) cnt sn)else some (cn 0,1,(bA ck 11 c.type0 x).2,steps+1,high,place,cnt,sn,()):=Rg.2.2.2.2 H E
theorem X0:(∀{x:Item} {s:List Item} (_:Rh l f c k a d steps high (x::s) 3) (_:0<=c.a/\c.a<(pl.length:Int)/\sn.length<=100),aA (rt k l d ck (a:Int) steps high place i0 lg pl (x::s) cnt sn)=aA (rt k l d ck ((a:Int)+1) (steps+1) (aV d high s.length) place i0 lg (pl.set c.a.toNat x) s cnt (iD d place c (x::s) sn))):=by
 (
  intro x s H E
  obtain⟨hk,hc,hs,h0,h1,ha,hh,hst,e⟩:=H
  have w1:i64.wrap ((a:Int)+1)=(a:Int)+1:=w64 (by omega) (by omega)
  have w2:i64.wrap (steps+1)=steps+1:=w64 (by omega) (by omega)
  have hb:(steps==40000)=false:=by simpa using hs
  have ha0:(0:Int)<=(a:Int):=by omega
  have hk0:(0:Int)<=(k:Int):=by omega
  have hst1:s.length<=64:=by rw[aaq]at hst;omega
  have wn:i64.wrap ((s.length:Int)+1-1)=(s.length:Int):=by rw[w64 (by omega) (by omega)];omega
  have p1:(0:Int)<=(s.length:Int):=by omega
  have p2:(s.length:Int)<(s.length:Int)+1:=by omega
  have p3:(s.length:Int)<=(s.length:Int)+1:=by omega
  have p8:s.length<=4294967296:=by omega
  have hst2:s.length<=65:=by omega
  have hle:=λv=>lT hst2 v
  have p7:s.length<=(x::s).reverse.length:=by simp
  conv=>lhs;rw[aA]
  unfold rt
  by_cases hd:d=1
  ·have hd1:(d==1)=true:=by simpa using hd
   have hm:max high ((s.length:Int)+1)=high:=by have:=hh hd;simp at this⊢;omega
   simp only[hd1,hm,bV,wn,p1,p2,p3,dM,cE,p7,p8,hb,aaf,adQ,adP,hk0,ha0,aak,hk,hc,aag,aad,w1,w2,e,reduceIte,adU,adV,and_self,ge_iff_le,dt,aat,aa0,aao,aaR,bne_self_eq_false,aaP,true_and,and_true,aa4]
   obtain⟨b0,b1,hsn⟩:=E
   have hg:pl[c.a.toNat]?=some (pl.getD c.a.toNat (cn 0)):=by rw[abf,aai (by omega)];rfl
   simp only[b0,b1,hg,hd1,and_self,adP,aad,aaf,adQ,p1,p3,cE,bne_self_eq_false]
   have ie:Item.mk x.n x.null x.err=x:=rfl
   by_cases hp:place=c.a
   ·have hp1:(place==c.a)=true:=by simpa using hp
    by_cases hn:sn.length<100
    ·have hn1:(sn.length:Int)<100:=by omega
     have hn2:sn.length+[x].length<=4294967296:=by simp;omega
     simp only[aad,bne_self_eq_false,beq_self_eq_true,aaf,adQ,adP,hd1,hp1,hn1,adU,hn2,ie,abd]
     unfold iD aV
     rw[adT hd,adT ⟨e,hd,hp,hn⟩]
     rfl
    ·have hn1:¬(sn.length:Int)<100:=by omega
     simp only[aad,bne_self_eq_false,beq_self_eq_true,aaf,adQ,adP,hd1,hp1,hn1,adV,ie,abd]
     unfold iD aV
     rw[adT hd,adS (λq=>hn q.2.2.2)]
   ·have hp1:(place==c.a)=false:=by simpa using hp
    simp only[aad,bne_self_eq_false,beq_self_eq_true,aaf,adQ,adP,hd1,hp1,ie,abd]
    unfold iD aV
    rw[adT hd,adS (λq=>hp q.2.2.1)]
  ·have hd1:(d==1)=false:=by simpa using hd
   simp only[hd1,bV,wn,p1,p2,p3,dM,cE,p7,p8,hb,aaf,adQ,adP,hk0,ha0,aak,hk,hc,aag,aad,w1,w2,e,reduceIte,adU,adV,and_self,ge_iff_le,dt,aat,aa0,aao,aaR,bne_self_eq_false,aaP,true_and,and_true,aa4]
   obtain⟨b0,b1,hsn⟩:=E
   have hg:pl[c.a.toNat]?=some (pl.getD c.a.toNat (cn 0)):=by rw[abf,aai (by omega)];rfl
   simp only[b0,b1,hg,hd1,and_self,adP,aad,aaf,adQ,p1,p3,cE,bne_self_eq_false]
   unfold iD aV
   rw[adS hd,adS (λq=>hd q.2.1)])
theorem rl3{x:Item}{s:List Item}(H:Rh l f c k a d steps high (x::s) 3)(E:0<=c.a/\c.a<(pl.length:Int)/\sn.length<=100):aA (rt k l d ck (a:Int) steps high place i0 lg pl (x::s) cnt sn)=aA (rt k l d ck ((a:Int)+1) (steps+1) (aV d high s.length) place i0 lg (pl.set c.a.toNat x) s cnt (iD d place c (x::s) sn)):=X0 H E
end
end Go.Proofs.YtcghbgmmgcljkaaGreatDoor
end
section
namespace Go.Proofs.YtcghbgmmgcljkaaGreatDoor
open IntKind (i64)
set_option maxRecDepth 20000
set_option maxHeartbeats 4000000
def ro(place:Int)(r:Item×Lg):=(r.1,r.2.kind,r.2.stop,r.2.steps,r.2.high,place,r.2.counts,r.2.seen,())
theorem Fy(k:Nat)(l:List aB)(d:Int)(ck:Bool)(at1 high place:Int)(i0:Item)(lg:Log)(pl st:List Item)(cnt:List Int)(sn:List Item):
 aA (rt k l d ck at1 40000 high place i0 lg pl st cnt sn)=some (cn 0,2,0,40000,high,place,cnt,sn,()):=by
 rw[aA]
 unfold rt
 simp only[beq_self_eq_true,adP]
 rfl
theorem qI(l:List aB)(k:Int)(args:List Item)(d:Int)(ck:Bool)(u1 u2 u3 u4 u5:Int)(i0:Item)(lg:Log)(cnt:List Int)(sn:List Item):∀(j i:Nat) (pl:List Item),i+j=args.length->args.length<=pl.length->args.length<=4294967296->
 bM (l,k,args,d,ck,(i:Int),u1,u2,u3,u4,u5,i0,lg,args.take i++pl.drop i,cnt,sn,())=some (l,k,d,ck,u1,u2,u3,u4,u5,i0,lg,args++pl.drop args.length,cnt,sn,())
 |0,i,pl,h,hp,h4=>by
  have hi:i=args.length:=by omega
  subst hi
  rw[bM]
  have:¬(args.length:Int)<(args.length:Int):=by omega
  simp[this]
 |j+1,i,pl,h,hp,h4=>by
  have hlt:i<args.length:=by omega
  have h1:(i:Int)<(args.length:Int):=by omega
  have h2:(0:Int)<=(i:Int):=by omega
  have hl:(args.take i++pl.drop i).length=pl.length:=by rw[aaI,aa2,aaU];omega
  have h3:(i:Int)<((args.take i++pl.drop i).length:Int):=by rw[hl];omega
  have w:i64.wrap ((i:Int)+1)=((i+1:Nat):Int):=by rw[w64 (by omega) (by omega)];omega
  have hx:=aai hlt
  obtain⟨y,hy⟩:∃y,(args.take i++pl.drop i)[i]?=some y:=⟨_,aai (by omega)⟩
  have e:(args.take i++pl.drop i).set i args[i]=args.take (i+1)++pl.drop (i+1):=by
   rw[acQ _ _ (by rw[aa2];omega),aa2,show i-min i args.length=0 by omega,List.take_succ_eq_append_getElem hlt,abu]
   congr 1
   rw[ab4 (show i<pl.length by omega)]
   rfl
  have ih:=qI l k args d ck u1 u2 u3 u4 u5 i0 lg cnt sn j (i+1) pl (by omega) hp h4
  rw[bM]
  simp only[h1,h2,h3,adU,adP,and_self,aak,hx,hy,w,aag,aad]
  rw[e]
  exact ih
theorem r44{l:List aB}{k:Nat}{h:aB}(hk:l[k]?=some h){args:List Item}{ck:Bool}{place d:Int}{g:Lg}(hd:¬30<d)(hp0:(args.length:Int)<=h.places)(hp1:h.places<=200)(hg:g.kind=0)(hst0:g.stop=0)(hc:g.counts.length=l.length)(hkl:k<l.length)(hll:l.length<=3000)
 (hpl:d=1->place<h.places)(hs:d=1->g.seen.length<=99){r:Item×Lg}
 (hl:∀i0 lg,aA (rt k l d ck 0 g.steps g.high place i0 lg (cF h args) [] (qd g.counts k) (if d=1/\0<=place then g.seen++[(cF h args).getD place.toNat (cn 0)]else g.seen))=some (ro place r)):
 n_44s5ed9 (l,(k:Int),args,d,ck,0,0,g.steps,g.high,place,g.counts,g.seen,())=some (ro place r):=by
 have hk0:(0:Int)<=(k:Int):=by omega
 have hk1:(k:Int)<(g.counts.length:Int):=by omega
 obtain⟨x,hx⟩:∃x,g.counts[k]?=some x:=⟨_,aai (by omega)⟩
 have hbump:g.counts.set k (i64.wrap (x+1))=qd g.counts k:=by
  unfold qd;rw[abf,hx];rfl
 have h0:0<=h.places:=by omega
 have h4:h.places<=4294967296:=by omega
 have hcl:g.counts.length<=4294967296:=by omega
 have lp:=qI l (k:Int) args d ck 0 0 g.steps g.high place (Item.mk 0 false (aae #[])) (Log.mk 0 0 0 [] 0 [] 0) (qd g.counts k) g.seen args.length 0 (aaA h.places.toNat (cn 0)) (aao _) (by rw[aa5];omega) (by omega)
 rw[acz,aaD,aat,aaB,adE]at lp
 change _=some (l,(k:Int),d,ck,0,0,g.steps,g.high,place,Item.mk 0 false (aae #[]),Log.mk 0 0 0 [] 0 [] 0,cF h args,qd g.counts k,g.seen,())at lp
 rw[show(cn 0)=Item.mk 0 false (aae #[])from rfl]at lp
 have hd':¬d>30:=by omega
 rw[n_44s5ed9]
 simp only[hd',adV,aaf,adQ,aao,hcl,adP,aat,hk0,hk1,and_self,aak,hx,hk,h0,h4,aag,aad,hbump,lp]
 unfold rt at hl
 rw[List.reverse_nil]at hl
 by_cases h1:d=1
 ·have hb1:(d==1)=true:=by simpa using h1
  simp only[hb1,adP,aad]
  by_cases hp:0<=place
  ·have hlt:=hpl h1
   have hlen:(cF h args).length=h.places.toNat:=by
    unfold cF
    rw[aaI,aa5];omega
   have hlt2:place<((cF h args).length:Int):=by rw[hlen];omega
   have hget:(cF h args)[place.toNat]?=some ((cF h args).getD place.toNat (cn 0)):=by
    rw[abf,aai (by omega)];rfl
   have hs':g.seen.length+[(cF h args).getD place.toNat (cn 0)].length<=4294967296:=by have:=hs h1;simp;omega
   rw[adT ⟨h1,hp⟩]at hl
   simp only[ge_iff_le,hp,adU,adP,hlt2,and_self,hget,aad,hs',hl]
  ·rw[adS (λh=>hp h.2)]at hl
   simp only[ge_iff_le,hp,adV,aaf,adQ,aad,hl]
 ·have hb1:(d==1)=false:=by simpa using h1
  rw[adS (λh=>h1 h.1)]at hl
  simp only[hb1,aaf,adQ,aad,hl]
theorem Jt{l:List aB}{k:Nat}{args:List Item}{ck:Bool}{place d:Int}{g:Lg}(hd:30<d):
 n_44s5ed9 (l,(k:Int),args,d,ck,0,0,g.steps,g.high,place,g.counts,g.seen,())=some (cn 0,2,0,g.steps,g.high,place,g.counts,g.seen,()):=by
 rw[n_44s5ed9]
 have hd':d>30:=hd
 simp only[hd',adU,adP]
 rfl
theorem Oz(st:List Item){b:Nat}(hb:b<=st.length):abr (st.length-b) st.reverse=(st.drop b).reverse/\abr b (acA (st.length-b) st.reverse)=(st.take b).reverse:=by
 constructor
 ·rw[List.take_reverse,show st.length-(st.length-b)=b by omega]
 ·rw[List.drop_reverse,show st.length-(st.length-b)=b by omega,aaY (by simp;omega)]
theorem Xi(k:Nat){l:List aB}{d:Int}(ck:Bool)(a:Nat){steps high:Int}(place:Int)(i0:Item)(lg:Log)(pl:List Item)(cnt:List Int)(sn:List Item){f:aB}{c:aQ}{st:List Item}
 (hk:l[k]?=some f)(hc:f.code[a]?=some c)(hs:¬steps=40000)(h0:0<=steps)(h1:steps<=40000)(ha:a<=3000)(hh:d=1->(st.length:Int)<=high)(hst:st.length<=65)(e:c.op=16)
 {n kk:Nat}(hb:c.b=(n:Int))(hn:n<=st.length)(hf:cv l c.name0=(kk:Int))(hll:l.length<=3000)(hd1:1<=d)(hd2:d<=30){r:Item×Lg}
 (h44:n_44s5ed9 (l,(kk:Int),(st.take n).reverse,d+1,ck,0,0,steps+1,high,place,cnt,sn,())=some (ro place r))(hz:r.2.kind=0->r.2.stop=0):
 aA (rt k l d ck (a:Int) steps high place i0 lg pl st cnt sn)=
  if r.2.kind=0 then aA (rt k l d ck ((a:Int)+1) r.2.steps (aV d r.2.high (st.length-n+1)) place i0 lg pl (r.1::st.drop n) r.2.counts r.2.seen)
  else some (cn 0,r.2.kind,r.2.stop,r.2.steps,r.2.high,place,r.2.counts,r.2.seen,()):=by
 have w1:i64.wrap ((a:Int)+1)=(a:Int)+1:=w64 (by omega) (by omega)
 have w2:i64.wrap (steps+1)=steps+1:=w64 (by omega) (by omega)
 have w3:i64.wrap (d+1)=d+1:=w64 (by omega) (by omega)
 have hb0:(steps==40000)=false:=by simpa using hs
 have ha0:(0:Int)<=(a:Int):=by omega
 have hk0:(0:Int)<=(k:Int):=by omega
 have hL:((st.reverse.length:Nat):Int)=(st.length:Int):=by simp
 have hL0:st.reverse.length=st.length:=by simp
 obtain⟨c1,c2⟩:=Oz st hn
 have w:i64.wrap ((st.length:Int) -(n:Int))=((st.length-n:Nat):Int):=by rw[w64 (by omega) (by omega)];omega
 have i1:(0:Int)<=((st.length-n:Nat):Int):=by omega
 have i2:((st.length-n:Nat):Int)<=(st.length:Int):=by omega
 have e1:st.length-(st.length-n)=n:=by omega
 have e2:st.length-n+n<=st.length:=by omega
 have e3:n<=4294967296:=by omega
 have e4:st.length-n<=st.length:=by omega
 have e5:st.length-n<=4294967296:=by omega
 have e6:∀v:Item,(st.drop n).reverse.length+[v].length<=4294967296:=by intro v;simp;omega
 have hhi:∀v:Item,(((v::st.drop n).reverse.length:Nat):Int)=((st.length-n+1:Nat):Int):=by intro v;simp
 have q0:((16:Int)==0)=false:=rfl
 have q1:((16:Int)==1)=false:=rfl
 have q18:((16:Int)==18)=false:=rfl
 have q2:((16:Int)==2)=false:=rfl
 have q3:((16:Int)==3)=false:=rfl
 have q4:((16:Int)==4)=false:=rfl
 have q5:((16:Int)==5)=false:=rfl
 have q6:((16:Int)==6)=false:=rfl
 have q7:((16:Int)==7)=false:=rfl
 have q8:((16:Int)==8)=false:=rfl
 have q9:((16:Int)==9)=false:=rfl
 have q10:((16:Int)==10)=false:=rfl
 have q11:((16:Int)==11)=false:=rfl
 have q12:((16:Int)==12)=false:=rfl
 have q13:((16:Int)==13)=false:=rfl
 have q14:((16:Int)==14)=false:=rfl
 have q15:((16:Int)==15)=false:=rfl
 have q16:((16:Int)==16)=true:=rfl
 have q17:((16:Int)==17)=false:=rfl
 have fin:∀{α:Type} {x y:α},x=y->x=y:=λh=>h
 have htop:∃t:Item,∃b:Bool,(b=true->(0:Int)<=((st.length-1:Nat):Int)/\((st.length-1:Nat):Int)<(st.length:Int)/\i64.wrap ((st.length:Int) -1)=((st.length-1:Nat):Int)/\st.reverse[st.length-1]?=some t)/\(b=false->i64.wrap ((st.length:Int) -1)= -1/\t=cn 0):=by
  cases st with
  |nil=>exact⟨cn 0,false,λh=>(by cases h),λ_=>⟨by decide,rfl⟩⟩
  |cons x s=>
   rw[aaq]at hst
   refine⟨x,true,λ_=>⟨by omega,by rw[aaq];omega,by rw[aaq,w64 (by omega) (by omega)];omega,?_⟩,λh=>(by cases h)⟩
   rw[aaq,ac2];exact dM x s
 obtain⟨t,b,hb1,hb2⟩:=htop
 conv=>lhs;rw[aA]
 unfold rt
 unfold ro at h44
 have p0:¬(0:Int)<= -1:=by decide
 by_cases hd:d=1
 ·have hdd:(d==1)=true:=by simpa using hd
  have hm:max high (st.length:Int)=high:=by have:=hh hd;omega
  cases b
  ·obtain⟨b1,b2⟩:=hb2 rfl
   simp only[hdd,hm,hL,hL0,hb0,aaf,adQ,adP,hk0,ha0,aak,hk,hc,aag,aad,w1,w2,w3,e,reduceIte,adU,adV,and_self,ge_iff_le,aat,aa0,aao,aaR,aaP,true_and,and_true,hb,w,i1,i2,e1,e2,e3,e4,e5,e6,c1,c2,ij l (show l.length<=4294967296 by omega),hf,h44,q0,q1,q18,q2,q3,q4,q5,q6,q7,q8,q9,q10,q11,q12,q13,q14,q15,q16,q17,b1,p0]
   by_cases hz0:r.2.kind=0
   ·have hz1:(r.2.kind !=0)=false:=by simpa using hz0
    simp only[hz1,hz0,hz hz0,aaf,adQ,adP,aad,bne_self_eq_false,hdd,cY,hhi]
    unfold aV
    rw[adT hd]
   ·have hz1:(r.2.kind !=0)=true:=by simpa using hz0
    simp only[hz1,hz0,adP,adQ,aad]
    rfl
  ·obtain⟨b1,b2,b3,b4⟩:=hb1 rfl
   simp only[hdd,hm,hL,hL0,hb0,aaf,adQ,adP,hk0,ha0,aak,hk,hc,aag,aad,w1,w2,w3,e,reduceIte,adU,adV,and_self,ge_iff_le,aat,aa0,aao,aaR,aaP,true_and,and_true,hb,w,i1,i2,e1,e2,e3,e4,e5,e6,c1,c2,ij l (show l.length<=4294967296 by omega),hf,h44,q0,q1,q18,q2,q3,q4,q5,q6,q7,q8,q9,q10,q11,q12,q13,q14,q15,q16,q17,b1,b2,b3,b4]
   by_cases hz0:r.2.kind=0
   ·have hz1:(r.2.kind !=0)=false:=by simpa using hz0
    simp only[hz1,hz0,hz hz0,aaf,adQ,adP,aad,bne_self_eq_false,hdd,cY,hhi]
    unfold aV
    rw[adT hd]
   ·have hz1:(r.2.kind !=0)=true:=by simpa using hz0
    simp only[hz1,hz0,adP,adQ,aad]
    rfl
 ·have hdd:(d==1)=false:=by simpa using hd
  cases b
  ·obtain⟨b1,b2⟩:=hb2 rfl
   simp only[hdd,hL,hL0,hb0,aaf,adQ,adP,hk0,ha0,aak,hk,hc,aag,aad,w1,w2,w3,e,reduceIte,adU,adV,and_self,ge_iff_le,aat,aa0,aao,aaR,aaP,true_and,and_true,hb,w,i1,i2,e1,e2,e3,e4,e5,e6,c1,c2,ij l (show l.length<=4294967296 by omega),hf,h44,q0,q1,q18,q2,q3,q4,q5,q6,q7,q8,q9,q10,q11,q12,q13,q14,q15,q16,q17,b1,p0]
   by_cases hz0:r.2.kind=0
   ·have hz1:(r.2.kind !=0)=false:=by simpa using hz0
    simp only[hz1,hz0,hz hz0,aaf,adQ,adP,aad,bne_self_eq_false,hdd,cY,hhi]
    unfold aV
    rw[adS hd]
   ·have hz1:(r.2.kind !=0)=true:=by simpa using hz0
    simp only[hz1,hz0,adP,adQ,aad]
    rfl
  ·obtain⟨b1,b2,b3,b4⟩:=hb1 rfl
   simp only[hdd,hL,hL0,hb0,aaf,adQ,adP,hk0,ha0,aak,hk,hc,aag,aad,w1,w2,w3,e,reduceIte,adU,adV,and_self,ge_iff_le,aat,aa0,aao,aaR,aaP,true_and,and_true,hb,w,i1,i2,e1,e2,e3,e4,e5,e6,c1,c2,ij l (show l.length<=4294967296 by omega),hf,h44,q0,q1,q18,q2,q3,q4,q5,q6,q7,q8,q9,q10,q11,q12,q13,q14,q15,q16,q17,b1,b2,b3,b4]
   by_cases hz0:r.2.kind=0
   ·have hz1:(r.2.kind !=0)=false:=by simpa using hz0
    simp only[hz1,hz0,hz hz0,aaf,adQ,adP,aad,bne_self_eq_false,hdd,cY,hhi]
    unfold aV
    rw[adS hd]
   ·have hz1:(r.2.kind !=0)=true:=by simpa using hz0
    simp only[hz1,hz0,adP,adQ,aad]
    rfl
end Go.Proofs.YtcghbgmmgcljkaaGreatDoor
end
section
namespace Go.Proofs.YtcghbgmmgcljkaaGreatDoor
set_option maxRecDepth 20000
set_option maxHeartbeats 4000000
theorem nI{l:List aB}(R:nS l)(ck:Bool)(place:Int):∀(N:Nat) (f:aB) (d:Int) (a:Nat) (pl st:List Item) (g:Lg),OkA l f d a pl st->OkG l g->(d=1->(st.length:Int)<=g.high)->40000-g.steps<=(N:Int)->
 ∀(k:Nat),l[k]?=some f->∀(i0:Item) (lg:Log),aA (rt k l d ck (a:Int) g.steps g.high place i0 lg pl st g.counts g.seen)=some (ro place (gL l ck place N f d (a:Int) pl st g))
 |0,f,d,a,pl,st,g,A,G,hh,hN,k,hkf,i0,lg=>by
  have hs:g.steps=40000:=by have:=G.s1;omega
  rw[gL,hs,Fy]
  simp only[zE,ro,hs,G.stop]
 |N+1,f,d,a,pl,st,g,A,G,hh,hN,k,hkf,i0,lg=>by
  obtain⟨c,hc,hcm,hcode,hal,hl3⟩:=A.code R
  have s0:=G.s0
  have s1:=G.s1
  have hst:=A.st_le R
  have hd1:=A.d1
  have hd2:=A.d2
  obtain⟨T,hT⟩:∃T,T=some (ro place (gL l ck place (N+1) f d (a:Int) pl st g)):=⟨_,rfl⟩
  rw[<-hT]
  rw[gL]at hT
  by_cases hs:g.steps=40000
  ·rw[hT,adT hs,hs,Fy]
   simp only[zE,ro,hs,G.stop]
  ·rw[adS hs]at hT
   simp only[aak,hc]at hT
   obtain⟨hk,hw⟩:=jE R A.mem A.reach hc
   have ht:=hk.1
   have hr:=nE hcode
   have go3:∀(at1:Int) (pl1 st1:List Item),cL ck c ((a:Int)+1) pl st= .go at1 pl1 st1->aA (rt k l d ck (a:Int) g.steps g.high place i0 lg pl st g.counts g.seen)=aA (rt k l d ck at1 (g.steps+1) (aV d g.high st1.length) place i0 lg pl1 st1 g.counts (iD d place c st g.seen))->aA (rt k l d ck (a:Int) g.steps g.high place i0 lg pl st g.counts g.seen)=T:=by
    intro at1 pl1 st1 ha hn
    rw[ha]at hT
    obtain⟨⟨b',hb',A'⟩,G'⟩:=w_ (place:=place) R A G hs hc ha
    subst hb'
    rw[hn,hT]
    exact nI R ck place N f d b' pl1 st1 _ A' G' (λhd=>nu hd) (by simp only[];omega) k hkf i0 lg
   have go:∀(at1:Int) (pl1 st1:List Item),cL ck c ((a:Int)+1) pl st= .go at1 pl1 st1->c.op≠3->aA (rt k l d ck (a:Int) g.steps g.high place i0 lg pl st g.counts g.seen)=aA (rt k l d ck at1 (g.steps+1) (aV d g.high st1.length) place i0 lg pl1 st1 g.counts g.seen)->aA (rt k l d ck (a:Int) g.steps g.high place i0 lg pl st g.counts g.seen)=T:=
    λat1 pl1 st1 ha h hn=>go3 _ _ _ ha (by rw[hn];unfold iD;rw[adS (λq=>h q.1)])
   have stop:∀(w:Int),cL ck c ((a:Int)+1) pl st= .stop w->aA (rt k l d ck (a:Int) g.steps g.high place i0 lg pl st g.counts g.seen)=some (cn 0,1,w,g.steps+1,g.high,place,g.counts,g.seen,())->aA (rt k l d ck (a:Int) g.steps g.high place i0 lg pl st g.counts g.seen)=T:=λw ha hn=>by rw[ha]at hT;rw[hn,hT];rfl
   have re:∀(x:Item),cL ck c ((a:Int)+1) pl st= .ret x->aA (rt k l d ck (a:Int) g.steps g.high place i0 lg pl st g.counts g.seen)=some (x,0,0,g.steps+1,g.high,place,g.counts,g.seen,())->aA (rt k l d ck (a:Int) g.steps g.high place i0 lg pl st g.counts g.seen)=T:=λx ha hn=>by rw[ha]at hT;rw[hn,hT];simp only[ro,G.kind,G.stop]
   have pu:∀(r:Item×Int) (s:List Item),cL ck c ((a:Int)+1) pl st=ip r ((a:Int)+1) pl s->c.op≠3->aA (rt k l d ck (a:Int) g.steps g.high place i0 lg pl st g.counts g.seen)=(if r.2=0 then aA (rt k l d ck ((a:Int)+1) (g.steps+1) (aV d g.high (s.length+1)) place i0 lg pl (r.1::s) g.counts g.seen)else some (cn 0,1,r.2,g.steps+1,g.high,place,g.counts,g.seen,()))->aA (rt k l d ck (a:Int) g.steps g.high place i0 lg pl st g.counts g.seen)=T:=by
    intro r s ha h hp
    unfold ip at ha
    by_cases h0:r.2=0
    ·exact go _ _ _ (ha.trans (adT h0)) h (hp.trans (adT h0))
    ·exact stop _ (ha.trans (adS h0)) (hp.trans (adS h0))
   have co:∀{C:Prop} [Decidable C] {p q:Int} {s1 s2:List Item},cL ck c ((a:Int)+1) pl st=(if C then .go p pl s1 else .go q pl s2)->c.op≠3->aA (rt k l d ck (a:Int) g.steps g.high place i0 lg pl st g.counts g.seen)=(if C then aA (rt k l d ck p (g.steps+1) (aV d g.high s1.length) place i0 lg pl s1 g.counts g.seen)else aA (rt k l d ck q (g.steps+1) (aV d g.high s2.length) place i0 lg pl s2 g.counts g.seen))->aA (rt k l d ck (a:Int) g.steps g.high place i0 lg pl st g.counts g.seen)=T:=by
    intro C _ p q s1 s2 ha h hp
    by_cases h0:C
    ·exact go _ _ _ (ha.trans (adT h0)) h (hp.trans (adT h0))
    ·exact go _ _ _ (ha.trans (adS h0)) h (hp.trans (adS h0))
   have H:∀op,c.op=op->Rh l f c k a d g.steps g.high st op:=λ_ e=>⟨hkf,hc,hs,s0,s1,by omega,hh,hst,e⟩
   have hop:c.op=0\/c.op=1\/c.op=2\/c.op=3\/c.op=4\/c.op=5\/c.op=6\/c.op=7\/c.op=8\/c.op=9\/c.op=10\/c.op=11\/c.op=12\/c.op=13\/c.op=14\/c.op=15\/c.op=16\/c.op=17\/c.op=18\/c.op=19:=by omega
   have hpl:=A.pls
   have hplc:=R.places f A.mem
   have hfn:=R.fns f A.mem
   rcases hop with e0|e0|e0|e0|e0|e0|e0|e0|e0|e0|e0|e0|e0|e0|e0|e0|e0|e0|e0|e0
   ·exact go ((a:Int)+1) pl (cn (lA c.type0 c.a)::st) (by simp[cL,e0]) (by omega) (by cases st;exact XP (H _ e0) (MV hcode e0);exact XO (H _ e0) (MV hcode e0))
   ·exact go ((a:Int)+1) pl (Item.mk 0 true (aae #[])::st) (by simp[cL,e0]) (by omega) (by cases st;exact XX (H _ e0) trivial;exact XW (H _ e0) trivial)
   ·obtain⟨a0,a1⟩:=yj hcode (by omega) (by omega) hplc
    exact go ((a:Int)+1) pl (pl.getD c.a.toNat (cn 0)::st) (by simp[cL,e0]) (by omega) (by cases st;exact XZ (H _ e0) ⟨a0,by omega⟩;exact XY (H _ e0) ⟨a0,by omega⟩)
   ·obtain⟨a0,a1⟩:=yj hcode (by omega) (by omega) hplc
    obtain⟨x,s,rfl⟩:=dc rfl (by rw[(bI hr.1 hr.2 (by omega)).2 (by omega)]at ht;exact ht)
    exact go3 _ _ _ (by simp[cL,e0]) (rl3 (H _ e0) ⟨a0,by omega,G.seen⟩)
   ·obtain⟨x,s,rfl⟩:=dc rfl (by rw[(bI hr.1 hr.2 (by omega)).2 (by omega)]at ht;exact ht)
    exact go _ _ _ (by simp[cL,e0]) (by omega) (rl4 (H _ e0) trivial)
   ·obtain⟨o1,o2⟩:=QB hcode e0
    obtain⟨x,y,s,rfl⟩:=rR rfl (by rw[(bI hr.1 hr.2 (by omega)).1 (by omega)]at ht;exact ht)
    exact pu (opS ck c.a c.type0 y x) s (by simp[cL,e0]) (by omega) (rl5 (H _ e0) o2)
   ·obtain⟨x,y,s,rfl⟩:=rR rfl (by rw[(bI hr.1 hr.2 (by omega)).1 (by omega)]at ht;exact ht)
    exact go ((a:Int)+1) pl (gd (jL c.a y.n x.n)::s) (by simp[cL,e0]) (by omega) (rl6 (H _ e0) trivial)
   ·obtain⟨x,s,rfl⟩:=dc rfl (by rw[(bI hr.1 hr.2 (by omega)).2 (by omega)]at ht;exact ht)
    exact pu (bA ck 7 c.type0 x) s (e0▸Gx (by omega)) (by omega) (rl7 (H _ e0) (Aq hcode (by omega)))
   ·obtain⟨x,s,rfl⟩:=dc rfl (by rw[(bI hr.1 hr.2 (by omega)).2 (by omega)]at ht;exact ht)
    exact pu (bA ck 8 c.type0 x) s (e0▸Gx (by omega)) (by omega) (rl8 (H _ e0) trivial)
   ·obtain⟨x,s,rfl⟩:=dc rfl (by rw[(bI hr.1 hr.2 (by omega)).2 (by omega)]at ht;exact ht)
    exact pu (bA ck 9 c.type0 x) s (e0▸Gx (by omega)) (by omega) (rl9 (H _ e0) (Aq hcode (by omega)))
   ·obtain⟨x,s,rfl⟩:=dc rfl (by rw[(bI hr.1 hr.2 (by omega)).2 (by omega)]at ht;exact ht)
    exact pu (bA ck 10 c.type0 x) s (e0▸Gx (by omega)) (by omega) (XQ (H _ e0) (Aq hcode (by omega)))
   ·obtain⟨x,s,rfl⟩:=dc rfl (by rw[(bI hr.1 hr.2 (by omega)).2 (by omega)]at ht;exact ht)
    exact pu (bA ck 11 c.type0 x) s (e0▸Gx (by omega)) (by omega) (XR (H _ e0) trivial)
   ·obtain⟨x,s,rfl⟩:=dc rfl (by rw[(bI hr.1 hr.2 (by omega)).2 (by omega)]at ht;exact ht)
    exact co (s2:=x::s) (by simp[cL,e0]) (by omega) (XS (H _ e0) trivial)
   ·obtain⟨x,s,rfl⟩:=dc rfl (by rw[(bI hr.1 hr.2 (by omega)).2 (by omega)]at ht;exact ht)
    exact co (s1:=x::s) (s2:=x::s) (by simp[cL,e0]) (by omega) (XT (H _ e0) trivial)
   ·exact go c.a pl st (by simp[cL,e0]) (by omega) (by cases st;exact Uh (H _ e0) trivial;exact Ug (H _ e0) trivial)
   ·obtain⟨x,s,rfl⟩:=dc rfl (by rw[(bI hr.1 hr.2 (by omega)).2 (by omega)]at ht;exact ht)
    exact co (by simp[cL,e0]) (by omega) (XU (H _ e0) trivial)
   ·have ha:=(rW hcode (ck:=ck) (at1:=(a:Int)+1) (pl:=pl) (st:=st)).mpr e0
    rw[hT,ha]
    obtain⟨kk,h,n,h1,h2,h3,h4,h5,h6,h7,h8,h9,h10⟩:=pe R A hc e0
    simp only[h1,h3,h4,aak]
    by_cases hd:30<d+1
    ·rw[adT hd]
     have q:=Xi k ck a place i0 lg pl g.counts g.seen hkf hc hs s0 s1 (by omega) hh hst e0 h4 h5 h1 R.len hd1 hd2 (r:=(cn 0,{g with steps:=g.steps+1,kind:=2,stop:=0})) (Jt (g:={g with steps:=g.steps+1}) hd) (λq=>rfl)
     rw[q,adS (λw=>Te w)]
     simp only[zE,ro,G.stop]
    ·rw[adS hd]
     have G1:OkG l {g with steps:=g.steps+1,counts:=qd g.counts kk}:=⟨by simp only[];omega,by simp only[];omega,G.kind,G.stop,by simp only[qd,aa7];exact G.cnt,G.seen⟩
     have A1:=h10 (by omega)
     have L:=gM R ck place N h (d+1) 0 _ [] _ A1 G1
     have I:=nI R ck place N h (d+1) 0 _ [] _ A1 G1 (λq=>by omega) (by simp only[];omega) kk h3
     rw[aaB]at L I
     generalize hrr:gL l ck place N h (d+1) 0 (cF h (st.take n).reverse) [] {g with steps:=g.steps+1,counts:=qd g.counts kk}=r at L I⊢
     have L0:=L.s0
     have L1:=L.s1
     have Lh:=L.high (by omega)
     simp only[]at L0 Lh
     have hal:(st.take n).reverse.length=n:=by simp;omega
     have h44:=r44 h3 (args:=(st.take n).reverse) (ck:=ck) (place:=place) (d:=d+1) (g:={g with steps:=g.steps+1}) (by omega) (by rw[hal];omega) h8 G.kind G.stop G.cnt h2 R.len (λq=>by omega) (λq=>by omega) (r:=r) (by
      rw[adS (λq=>by omega)]
      exact I)
     rw[Xi k ck a place i0 lg pl g.counts g.seen hkf hc hs s0 s1 (by omega) hh hst e0 h4 h5 h1 R.len hd1 hd2 h44 L.stop]
     by_cases hk:r.2.kind=0
     ·rw[adT hk,adT hk]
      have G2:OkG l {r.2 with high:=aV d r.2.high (st.length-n+1)}:=⟨by simp only[];omega,L1,hk,L.stop hk,L.cnt,L.seen⟩
      have ih:=nI R ck place N f d (a+1) pl _ _ (h9 r.1) G2 (λq=>by
       have:(((r.1::st.drop n).length:Nat):Int)=((st.length-n+1:Nat):Int):=by rw[aaq,aaU]
       rw[this];exact nu q) (by simp only[];omega) k hkf i0 lg
      exact ih
     ·rw[adS hk,adS hk]
      rfl
   ·obtain⟨x,s,rfl⟩:=dc rfl (by rw[(bI hr.1 hr.2 (by omega)).2 (by omega)]at ht;exact ht)
    exact re x (by simp[cL,e0]) (XV (H _ e0) trivial)
   ·exact go ((a:Int)+1) pl (Item.mk 0 false c.name0::st) (by simp[cL,e0]) (by omega) (by cases st;exact Ul (H _ e0) trivial;exact Uk (H _ e0) trivial)
   ·have hca:1<=c.a:=by
     have hq:=hcode
     unfold dh at hq
     simp[e0,rng]at hq
     omega
    have ha:cL ck c ((a:Int)+1) pl st=if ck=true then .stop c.a else .ret (cn 0):=by simp[cL,e0]
    by_cases h0:ck=true
    ·exact stop _ (ha.trans (adT h0)) (by cases st;exact(Rf (H _ e0) hca).trans (adT h0);exact(Re (H _ e0) hca).trans (adT h0))
    ·exact re _ (ha.trans (adS h0)) (by cases st;exact(Rf (H _ e0) hca).trans (adS h0);exact(Re (H _ e0) hca).trans (adS h0))
end Go.Proofs.YtcghbgmmgcljkaaGreatDoor
end
section
namespace Go.Proofs.YtcghbgmmgcljkaaGreatDoor
set_option maxRecDepth 20000
set_option maxHeartbeats 4000000
def itm(v:aE):Item:=Item.mk v.n v.null v.err
theorem rh(args:List aE)(hl:args.length<=4294967296):∀(j k:Nat) (out:List aE),k+j=args.length->out.length=k->
 dT (args,(args.length:Int),(k:Int),out,())=some (out++(args.drop k).map (λv=>val (itm v)),())
 |0,k,out,h,ho=>by
  rw[dT,b_ (by omega)]
  have:¬(k:Int)<(args.length:Int):=by omega
  simp[this]
 |j+1,k,out,h,ho=>by
  obtain⟨x,hx,hm,hd⟩:=bE (l:=args) (k:=k) (by omega)
  have h1:(k:Int)<(args.length:Int):=by omega
  have h2:(0:Int)<=(k:Int):=by omega
  have w:IntKind.i64.wrap ((k:Int)+1)=((k+1:Nat):Int):=by rw[w64 (by omega) (by omega)];omega
  have hle:∀v:aE,out.length+[v].length<=4294967296:=by intro v;simp;omega
  have ih:=rh args hl j (k+1) (out++[val (itm x)]) (by omega) (by simp;omega)
  rw[dT,hd]
  simp only[h1,h2,adU,adP,aak,hx,aag,aad,hle,w]
  refine Eq.trans ih ?_
  rw[aas,abu]
  rfl
theorem Jn(args:List aE)(hl:args.length<=4294967296):kQ (args,())=some ((args.map itm).map val,()):=by
 have h:=rh args hl _ 0 [] (aao _) rfl
 rw[aaB,aaD,aat]at h
 rw[kQ,h,aaV]
 rfl
theorem qW(args:List aE)(hl:args.length<=4294967296):∀(j k:Nat) (out:List Item),k+j=args.length->out.length=k->
 mn (args,(k:Int),out,())=some (out++(args.drop k).map itm,())
 |0,k,out,h,ho=>by
  rw[mn,b_ (by omega)]
  have:¬(k:Int)<(args.length:Int):=by omega
  simp[this]
 |j+1,k,out,h,ho=>by
  obtain⟨x,hx,hm,hd⟩:=bE (l:=args) (k:=k) (by omega)
  have h1:(k:Int)<(args.length:Int):=by omega
  have h2:(0:Int)<=(k:Int):=by omega
  have w:IntKind.i64.wrap ((k:Int)+1)=((k+1:Nat):Int):=by rw[w64 (by omega) (by omega)];omega
  have hle:∀v:Item,out.length+[v].length<=4294967296:=by intro v;simp;omega
  have ih:=qW args hl j (k+1) (out++[itm x]) (by omega) (by simp;omega)
  rw[mn,hd]
  simp only[h1,h2,adU,adP,aak,hx,aag,aad,T6,hle,w]
  refine Eq.trans ih ?_
  rw[aas,abu]
  rfl
theorem Hp(args:List aE)(hl:args.length<=4294967296):S2 (args,())=some (args.map itm,()):=by
 have h:=qW args hl _ 0 [] (aao _) rfl
 rw[aaB,aaD,aat]at h
 rw[S2,h]
 rfl
def GC(r:Item×Lg):dQ:=if r.2.kind=0 then dQ.mk 0 (val r.1) 0 []else dQ.mk r.2.kind (val (cn 0)) r.2.stop []
structure GE (l:List aB) (s:ByteArray) (args:List aE) (k:Nat) (f:aB):Prop where
 runs:nS l
 name:cv l s=(k:Int)
 lt:k<l.length
 get:l[k]?=some f
 fit:(args.length:Int)=f.params
theorem vK{l:List aB}(hl:l.length<=3000)(h3:∀f∈l,f.code.length<=3000){s:ByteArray}{args:List aE}(h:dK l s args=0):∃k f,GE l s args k f:=by
 unfold dK at h
 by_cases hc:eL l=0
 ·rw[adT hc]at h
  rcases nk l s with hf|⟨k,g,hk,hkl,hg⟩
  ·rw[adT hf]at h;cases h
  ·rw[adS (by omega),hk,aak,hg]at h
   simp only at h
   by_cases hp:(args.length:Int)=g.params
   ·exact⟨k,g,Ot hl h3 (jo.mp hc),hk,hkl,hg,hp⟩
   ·rw[adS hp]at h;cases h
 ·rw[adS hc]at h;exact absurd h hc
theorem r5{l:List aB}{s:ByteArray}{args:List aE}{k:Nat}{f:aB}(A:GE l s args k f)(place:Int):
 OkA l f 1 0 (cF f (args.map itm)) []/\OkG l (lg1 l place k f (args.map itm)):=by
 have hm:=aap A.get
 obtain⟨_,p0,p1,_⟩:=A.runs.fns f hm
 have hfit:=A.fit
 refine⟨⟨hm,Reach.start,?_,by decide,by decide⟩,⟨aaP 0,show(0:Int)<=40000 by decide,rfl,rfl,?_,?_⟩⟩
 ·unfold cF
  rw[aaI,aa5,aam]
  omega
 ·unfold lg1 lg0 qd
  simp only[aa7,aa5]
 ·unfold lg1 lg0
  simp only[]
  split
  ·simp
  ·simp
theorem zq{l:List aB}{s:ByteArray}{args:List aE}{k:Nat}{f:aB}(A:GE l s args k f)(ck:Bool)(place:Int):
 Left l 1 (lg1 l place k f (args.map itm)) (qn l ck place k f (args.map itm)):=by
 obtain⟨b1,b2⟩:=r5 A place
 exact gM A.runs ck place 40000 f 1 0 _ [] _ b1 b2
theorem Xg{l:List aB}{s:ByteArray}{args:List aE}{k:Nat}{f:aB}(A:GE l s args k f)(ha:args.length<=4294967296)(ck:Bool)(place:Int)(hp:place<f.places){r:Item×Lg}(hr:r=qn l ck place k f (args.map itm)):
 NL (l,(k:Int),args,ck,place,())=some (l,ck,r.2.steps,place,r.2.high,Dr r.2,r.2.counts,r.2.seen.map val,GC r,()):=by
 have hm:=aap A.get
 obtain⟨_,p0,p1,_⟩:=A.runs.fns f hm
 have p2:=A.runs.places f hm
 have hfit:=A.fit
 have hll:=A.runs.len
 obtain⟨b1,b2⟩:=r5 A place
 have L:=zq A ck place
 have I:=k_ A.runs ck place 40000 f 1 0 _ [] _ b1 b2 (λ_=>by unfold lg1 lg0;simp) (by unfold lg1 lg0;simp) 0 args.length ((args.map itm).map val) (val (cn 0))
 have e:gL l ck place 40000 f 1 ((0:Nat):Int) (cF f (args.map itm)) [] (lg1 l place k f (args.map itm))=r:=by rw[hr];rfl
 rw[e]at I
 rw[<-hr]at L
 have h40:=p40 A.get (b:=0) (e:=args.length) (argv:=(args.map itm).map val) (args:=args.map itm) (by simp) (by rw[aaD,aaY (by simp)]) (by simp) (ck:=ck) (place:=place) (d:=1) (g:=lg0 l) (by decide) (by omega) p2 rfl (by simp[lg0]) A.lt (λ_=>hp) (λ_=>by simp[lg0]) (r:=r) I L.zero
 have hl4:(l.length:Int)<=4294967296:=by omega
 have hal:(((args.map itm).map val).length:Int)=(args.length:Int):=by simp
 have hcl:r.2.counts.length=(aaA l.length (0:Int)).length:=by rw[L.cnt,aa5]
 unfold lg0 at h40
 rw[aa9]at h40
 simp only[aaB]at h40
 rw[NL]
 have z:aE.mk (aF.mk 0 0 (aae #[]) false false) 0 false (aae #[]) (aF.mk 0 0 (aae #[]) false false)=val (cn 0):=rfl
 have nz:((0:Nat):Int)=0:=rfl
 simp only[hl4,adP,aag,aad,Jn args ha,aak,hal,nz,h40,hcl]
 unfold Dr GC
 by_cases hk:r.2.kind=0
 ·simp only[hk,adP,Option.isSome_none,aaf,adQ]
  try rfl
 ·simp only[hk,adQ,acG,adP,aad]
  try rfl
theorem Xj{l:List aB}{s:ByteArray}{args:List aE}{k:Nat}{f:aB}(A:GE l s args k f)(ha:args.length<=4294967296)(ck:Bool)(place:Int)(hp:place<f.places){r:Item×Lg}(hr:r=qn l ck place k f (args.map itm)):
 O6 (l,s,args,ck,place,())=some (r.1,Log.mk r.2.kind r.2.stop r.2.steps r.2.counts r.2.high r.2.seen place,()):=by
 have hm:=aap A.get
 obtain⟨_,p0,p1,_⟩:=A.runs.fns f hm
 have p2:=A.runs.places f hm
 have hfit:=A.fit
 have hll:=A.runs.len
 obtain⟨b1,b2⟩:=r5 A place
 have I:=nI A.runs ck place 40000 f 1 0 _ [] _ b1 b2 (λ_=>by unfold lg1 lg0;simp) (by unfold lg1 lg0;simp) k A.get
 have e:gL l ck place 40000 f 1 ((0:Nat):Int) (cF f (args.map itm)) [] (lg1 l place k f (args.map itm))=r:=by rw[hr];rfl
 rw[e]at I
 have h44:=r44 A.get (args:=args.map itm) (ck:=ck) (place:=place) (d:=1) (g:=lg0 l) (by decide) (by rw[aam];omega) p2 rfl rfl (by simp[lg0]) A.lt hll (λ_=>hp) (λ_=>by simp[lg0]) (r:=r) I
 have hl4:(l.length:Int)<=4294967296:=by omega
 unfold lg0 ro at h44
 rw[O6]
 simp only[ij l (show l.length<=4294967296 by omega),A.name,Hp args ha,hl4,adP,aag,aad,aak,h44]
end Go.Proofs.YtcghbgmmgcljkaaGreatDoor
end
section
namespace Go.Proofs.YtcghbgmmgcljkaaGreatDoor
set_option maxRecDepth 20000
set_option maxHeartbeats 4000000
end Go.Proofs.YtcghbgmmgcljkaaGreatDoor
end
section
namespace Go.Proofs.YtcghbgmmgcljkaaGreatDoor
set_option maxRecDepth 20000
set_option maxHeartbeats 4000000
def Wf:aQ:=aQ.mk 19 5 0 (aF.mk 0 0 (aae #[]) false false) (aae #[])
def ext(e:Int)(f:aB):aB:=aB.mk f.name0 f.params (f.places+e) f.type0 (f.code++[Wf])
end Go.Proofs.YtcghbgmmgcljkaaGreatDoor
end
section
namespace Go.Proofs.YtcghbgmmgcljkaaGreatDoor
open IntKind (i64)
set_option maxRecDepth 20000
set_option maxHeartbeats 4000000
theorem uL(l:List aB)(hl:l.length<=4294967296):∀(j k:Nat) (a:Int),k+j=l.length->
 uE (l,a,(k:Int),())=if(l.drop k).any (λf=>decide (f.places>2000))=true then some (.inl (true,()))else some (.inr (l,e9 a (l.drop k),()))
 |0,k,a,h=>by
  rw[uE,b_ (by omega)]
  have:¬(k:Int)<(l.length:Int):=by omega
  simp[this,e9]
 |j+1,k,a,h=>by
  obtain⟨x,hx,hm,hd⟩:=bE (l:=l) (k:=k) (by omega)
  have h1:(k:Int)<(l.length:Int):=by omega
  have h2:(0:Int)<=(k:Int):=by omega
  have w:i64.wrap ((k:Int)+1)=((k+1:Nat):Int):=by rw[w64 (by omega) (by omega)];omega
  have ih:=uL l hl j (k+1) (i64.wrap (a+(x.code.length:Int))) (by omega)
  rw[uE,hd]
  simp only[h1,h2,adU,adP,aak,hx,aag,aad,acg,w]
  by_cases hp:x.places>2000
  ·simp[hp]
  ·simp only[hp,adV,aaf,adQ,ach]
   exact ih
theorem yl:∀(l:List aB) (a:Int),0<=a->a+(l.length:Int) *4294967296<=4611686018427387904->(∀f∈l,f.code.length<=4294967296)->a<=e9 a l/\∀f∈l,(f.code.length:Int)<=e9 a l
 |[],a,h0,h1,h2=>⟨aaP _,λf hf=>by cases hf⟩
 |x::r,a,h0,h1,h2=>by
  have hx:=h2 x (aaw ..)
  rw[aaq]at h1
  have e:(((r.length+1:Nat):Int)) *4294967296=(r.length:Int) *4294967296+4294967296:=by rw[Int.natCast_add,Int.add_mul];rfl
  rw[e]at h1
  have hr:(0:Int)<=(r.length:Int) *4294967296:=acK (by omega) (by decide)
  have w:i64.wrap (a+(x.code.length:Int))=a+(x.code.length:Int):=w64 (by omega) (by omega)
  have ih:=yl r (a+(x.code.length:Int)) (by omega) (by omega) (λf hf=>h2 f (aar _ hf))
  have ec:e9 a (x::r)=e9 (a+(x.code.length:Int)) r:=by unfold e9;rw[acY,w]
  rw[ec]
  refine⟨by omega,λf hf=> ?_⟩
  rw[aay]at hf
  rcases hf with hf|hf
  ·rw[hf];omega
  ·exact ih.2 f hf
theorem Od(l:List aB)(hl:l.length<=4294967296)(hc:∀f∈l,f.code.length<=4294967296):∃b,n_9 (l,())=some (b,())/\(b=false->l.length<=200/\∀f∈l,f.code.length<=3000):=by
 have h:=uL l hl _ 0 0 (aao _)
 rw[aaB,aaD]at h
 rw[n_9,h]
 by_cases ha:l.any (λf=>decide (f.places>2000))=true
 ·rw[adT ha];exact⟨true,rfl,λh=>by cases h⟩
 ·rw[adS ha]
  simp only[aag,aad]
  by_cases h3:e9 0 l>3000
  ·simp only[h3,adU,adP,aad];exact⟨true,rfl,λh=>by cases h⟩
  ·simp only[h3,adV,aaf,adQ,aad]
   refine⟨_,rfl,λhb=> ?_⟩
   have h2:l.length<=200:=by
    have:(l.length:Int)<=200:=by simpa using hb
    omega
   refine⟨h2,λf hf=> ?_⟩
   have:=(yl l 0 (aaP _) (by omega) hc).2 f hf
   omega
def veq(v w:aE):Bool:=Mp.ieq v.type0.base w.type0.base&&(Mp.ieq v.type0.bits w.type0.bits&&(Mp.seq v.type0.name0 w.type0.name0&&(Mp.beq v.type0.opt w.type0.opt&&(Mp.beq v.type0.err w.type0.err&&(Mp.ieq v.n w.n&&(Mp.beq v.null w.null&&(Mp.seq v.err w.err&&(Mp.ieq v.of0.base w.of0.base&&(Mp.ieq v.of0.bits w.of0.bits&&(Mp.seq v.of0.name0 w.of0.name0&&(Mp.beq v.of0.opt w.of0.opt&&Mp.beq v.of0.err w.of0.err)))))))))))
theorem Ow{a b:ByteArray}:Mp.seq a b=true↔a=b:=by
 obtain⟨a⟩:=a
 obtain⟨b⟩:=b
 show(a==b)=true↔_
 simp
theorem JD(s:ByteArray):Mp.seq s s=true:=Ow.mpr rfl
theorem Kg(v:aE):veq v v=true:=by
 unfold veq
 simp[Mp.ieq,Mp.beq,JD]
theorem pW(x:List aE)(hl:x.length<=4294967296):∀(j k:Nat),k+j=x.length->mg (x,x,(k:Int),())=some (.inr ())
 |0,k,h=>by
  rw[mg]
  have:¬(k:Int)<(x.length:Int):=by omega
  simp[this]
 |j+1,k,h=>by
  obtain⟨y,hy,hm,hd⟩:=bE (l:=x) (k:=k) (by omega)
  have h1:(k:Int)<(x.length:Int):=by omega
  have h2:(0:Int)<=(k:Int):=by omega
  have w:i64.wrap ((k:Int)+1)=((k+1:Nat):Int):=by rw[w64 (by omega) (by omega)];omega
  have ih:=pW x hl j (k+1) (by omega)
  have hv:(Mp.ieq y.type0.base y.type0.base&&(Mp.ieq y.type0.bits y.type0.bits&&(Mp.seq y.type0.name0 y.type0.name0&&(Mp.beq y.type0.opt y.type0.opt&&(Mp.beq y.type0.err y.type0.err&&(Mp.ieq y.n y.n&&(Mp.beq y.null y.null&&(Mp.seq y.err y.err&&(Mp.ieq y.of0.base y.of0.base&&(Mp.ieq y.of0.bits y.of0.bits&&(Mp.seq y.of0.name0 y.of0.name0&&(Mp.beq y.of0.opt y.of0.opt&&Mp.beq y.of0.err y.of0.err))))))))))))=true:=Kg y
  rw[mg]
  simp only[h1,h2,adU,adP,aak,hy,aag,aad,hv,aaM,aaf,adQ,w]
  exact ih
theorem xT(x:List aE)(hl:x.length<=4294967296):SR (x,x,())=some (true,()):=by
 have h:=pW x hl _ 0 (aao _)
 rw[aaB]at h
 rw[SR,h]
 simp
noncomputable def tq(l:List aB)(s:ByteArray)(args:List aE)(ck:Bool)(place:Int):Item×Lg:=
 match l[(cv l s).toNat]? with
 |some f=>qn l ck place (cv l s).toNat f (args.map itm)
 |none=>(cn 0,lg0 l)
theorem Fz{l:List aB}{s:ByteArray}{args:List aE}{k:Nat}{f:aB}(A:GE l s args k f)(ck:Bool)(place:Int):tq l s args ck place=qn l ck place k f (args.map itm):=by
 unfold tq
 rw[A.name,aak,A.get]
structure GH (l:List aB) (args:List aE):Prop where
 len:l.length<=3000
 code:∀f∈l,f.code.length<=3000
 args:args.length<=4294967296
section
variable {l:List aB} {s:ByteArray} {args:List aE} (F:GH l args)
include F
theorem LQ(h:dK l s args=0)(ck:Bool){place:Int}(hp:∀k f,GE l s args k f->place<f.places):
 NL (l,cv l s,args,ck,place,())=some (l,ck,(tq l s args ck place).2.steps,place,(tq l s args ck place).2.high,Dr (tq l s args ck place).2,(tq l s args ck place).2.counts,(tq l s args ck place).2.seen.map val,GC (tq l s args ck place),()):=by
 obtain⟨k,f,A⟩:=vK F.len F.code h
 rw[A.name]
 exact Xg A F.args ck place (hp k f A) (Fz A ck place)
theorem Ri(h:dK l s args=0)(ck:Bool){place:Int}(hp:∀k f,GE l s args k f->place<f.places):
 O6 (l,s,args,ck,place,())=some ((tq l s args ck place).1,Log.mk (tq l s args ck place).2.kind (tq l s args ck place).2.stop (tq l s args ck place).2.steps (tq l s args ck place).2.counts (tq l s args ck place).2.high (tq l s args ck place).2.seen place,()):=by
 obtain⟨k,f,A⟩:=vK F.len F.code h
 exact Xj A F.args ck place (hp k f A) (Fz A ck place)
omit F in
theorem sE:∀(k:Nat) (f:aB),GE l s args k f->(-1:Int)<f.places:=λk f A=>by
 obtain⟨_,p0,p1,_⟩:=A.runs.fns f (aap A.get)
 omega
noncomputable def Tf(l:List aB)(s:ByteArray)(args:List aE)(ck:Bool):dQ:=if dK l s args=0 then GC (tq l s args ck (-1))else dQ.mk 0 (val (cn 0)) 0 []
theorem Rj(ck:Bool):QS (l,s,args,ck,())=some (dK l s args,Tf l s args ck,()):=by
 rw[QS]
 unfold Tf
 simp only[j6 l F.len F.code s args F.args,aag,aad]
 by_cases h:dK l s args=0
 ·have e:=LQ F h ck (place:= -1) sE
  simp only[h,adP,bne_self_eq_false,aaf,adQ,e,aad]
 ·have hb:(dK l s args !=0)=true:=by simpa using h
  simp only[hb,h,adP,adQ]
  rfl
noncomputable def Hl(l:List aB)(s:ByteArray)(args:List aE):Int:=if dK l s args=0 then(tq l s args true (-1)).2.high else 0
theorem Um:SS (l,s,args,())=some (Hl l s args,dK l s args,()):=by
 rw[SS]
 unfold Hl
 simp only[j6 l F.len F.code s args F.args,aag,aad]
 by_cases h:dK l s args=0
 ·have e:=LQ F h true (place:= -1) sE
  simp only[h,adP,bne_self_eq_false,aaf,adQ,e,aad]
 ·have hb:(dK l s args !=0)=true:=by simpa using h
  simp only[hb,h,adP,adQ]
theorem Un:SU (l,s,args,())=some (Hl l s args,dK l s args,()):=by
 rw[SU]
 unfold Hl
 simp only[qr l F.len F.code s args F.args,aag,aad]
 by_cases h:dK l s args=0
 ·have e:=Ri F h true (place:= -1) sE
  simp only[h,adP,bne_self_eq_false,aaf,adQ,e,aad]
 ·have hb:(dK l s args !=0)=true:=by simpa using h
  simp only[hb,h,adP,adQ]
end
end Go.Proofs.YtcghbgmmgcljkaaGreatDoor
end
section
namespace Go.Proofs.YtcghbgmmgcljkaaGreatDoor
set_option maxRecDepth 20000
set_option maxHeartbeats 4000000
theorem ve(g:Log)(hl:g.seen.length<=100):∀(j k:Nat) (out:List aE),k+j=g.seen.length->out.length=k->
 kR ((k:Int),g,out,())=some (out++(g.seen.drop k).map val,())
 |0,k,out,h,ho=>by
  rw[kR,b_ (by omega)]
  have:¬(k:Int)<(g.seen.length:Int):=by omega
  simp[this]
 |j+1,k,out,h,ho=>by
  obtain⟨x,hx,hm,hd⟩:=bE (l:=g.seen) (k:=k) (by omega)
  have h1:(k:Int)<(g.seen.length:Int):=by omega
  have h2:(0:Int)<=(k:Int):=by omega
  have w:IntKind.i64.wrap ((k:Int)+1)=((k+1:Nat):Int):=by rw[w64 (by omega) (by omega)];omega
  have hle:∀v:aE,out.length+[v].length<=4294967296:=by intro v;simp;omega
  have ih:=ve g hl j (k+1) (out++[val x]) (by omega) (by simp;omega)
  rw[kR,hd]
  simp only[h1,h2,adU,adP,aak,hx,aag,aad,T5,hle,w]
  refine Eq.trans ih ?_
  rw[aas,abu]
  rfl
theorem Ov(g:Log)(hl:g.seen.length<=100):kR (0,g,[],())=some (g.seen.map val,()):=by
 have h:=ve g hl _ 0 [] (aao _) rfl
 rw[aaB,aaD,aat]at h
 exact h
section
variable {l:List aB} {s:ByteArray} {args:List aE} (F:GH l args)
include F
theorem Kh(place:Int):∃vs e,SV (l,s,args,place,())=some (vs,e,())/\SW (l,s,args,place,())=some (vs,e,())/\vs.length<=4294967296:=by
 rw[SV,SW]
 simp only[j6 l F.len F.code s args F.args,qr l F.len F.code s args F.args,aag,aad]
 by_cases h:dK l s args=0
 ·obtain⟨k,f,A⟩:=vK F.len F.code h
  have hk0:(0:Int)<=(k:Int):=by omega
  simp only[h,adP,bne_self_eq_false,aaf,adQ,A.name,ij l (show l.length<=4294967296 by have:=F.len;omega),hk0,aak,A.get,aad]
  by_cases h1:place<0
  ·simp only[h1,adU,adP,aad]
   exact⟨[],1,rfl,rfl,by simp⟩
  ·simp only[h1,adV,aaf,adQ,aad,ge_iff_le]
   by_cases h2:f.places<=place
   ·simp only[h2,adU,adP]
    exact⟨[],1,rfl,rfl,by simp⟩
   ·have hp:place<f.places:=by omega
    have e1:=Xg A F.args true place hp (r:=qn l true place k f (args.map itm)) rfl
    have e2:=Xj A F.args true place hp (r:=qn l true place k f (args.map itm)) rfl
    have L:=zq A true place
    simp only[h2,adV,aaf,adQ,e1,e2,aad,Ov _ (show(Log.mk (qn l true place k f (args.map itm)).2.kind (qn l true place k f (args.map itm)).2.stop (qn l true place k f (args.map itm)).2.steps (qn l true place k f (args.map itm)).2.counts (qn l true place k f (args.map itm)).2.high (qn l true place k f (args.map itm)).2.seen place).seen.length<=100 from L.seen)]
    exact⟨_,0,rfl,rfl,by rw[aam];have:=L.seen;omega⟩
 ·have hb:(dK l s args !=0)=true:=by simpa using h
  simp only[hb,h,adP,adQ]
  exact⟨[],_,rfl,rfl,by simp⟩
end
def t8:aF:=aF.mk 2 8 (aae #[]) false false
def Gz:aQ:=aQ.mk 0 200 0 t8 (aae #[])
def Gy:aQ:=aQ.mk 0 100 0 t8 (aae #[])
def GA:aQ:=aQ.mk 5 5 0 t8 (aae #[])
def CA:aQ:=aQ.mk 17 0 0 (aF.mk 0 0 (aae #[]) false false) (aae #[])
def kF:aB:=aB.mk (aae #[102]) 0 0 t8 [Gz,Gy,GA,CA]
theorem Ni:bD Gz=0/\bD Gy=0/\bD GA=2/\bD CA=1:=by
 unfold bD Gz Gy GA CA
 simp
theorem ss{a:Nat}{h:Int}(r:Reach kF a h):(a=0/\h=0)\/(a=1/\h=1)\/(a=2/\h=2)\/(a=3/\h=1):=by
 induction r with
 |start=>exact .inl ⟨rfl,rfl⟩
 | @step a h c b k r hc hk hw hb ih=>
  rcases ih with⟨e1,e2⟩|⟨e1,e2⟩|⟨e1,e2⟩|⟨e1,e2⟩
  ·subst e1 e2
   have:c=Gz:=(abi hc).symm
   subst this
   rcases cS.mp hw with⟨h1,_⟩|⟨_,h2,h3⟩
   ·simp[d5,Gz]at h1
   ·right;left
    refine⟨by omega,?_⟩
    rw[h3];simp[cD,bD,bZ,Gz]
  ·subst e1 e2
   have:c=Gy:=(abi hc).symm
   subst this
   rcases cS.mp hw with⟨h1,_⟩|⟨_,h2,h3⟩
   ·simp[d5,Gy]at h1
   ·right;right;left
    refine⟨by omega,?_⟩
    rw[h3];simp[cD,bD,bZ,Gy]
  ·subst e1 e2
   have:c=GA:=(abi hc).symm
   subst this
   rcases cS.mp hw with⟨h1,_⟩|⟨_,h2,h3⟩
   ·simp[d5,GA]at h1
   ·right;right;right
    refine⟨by omega,?_⟩
    rw[h3];simp[cD,bD,bZ,GA]
  ·subst e1 e2
   have:c=CA:=(abi hc).symm
   subst this
   rcases cS.mp hw with⟨h1,_⟩|⟨h1,_,_⟩
   ·simp[d5,CA]at h1
   ·simp[iB,CA]at h1
theorem DW:¬g5 kF:=by
 rintro⟨a,h,c,r,hc,hF⟩
 obtain⟨t1,t2,t3,t4⟩:=Ni
 have hl:(kF.code.length:Int)=4:=rfl
 have two:∀h',Reach kF a h'->h'=h:=by
  intro h' r'
  have q1:=ss r
  have q2:=ss r'
  omega
 rcases hF with hF|⟨_,k,hw⟩|⟨h',r',hne⟩
 ·rcases ss r with⟨e1,e2⟩|⟨e1,e2⟩|⟨e1,e2⟩|⟨e1,e2⟩
  ·subst e1 e2
   have:c=Gz:=(abi hc).symm
   subst this
   exact hF ⟨by omega,by omega⟩
  ·subst e1 e2
   have:c=Gy:=(abi hc).symm
   subst this
   exact hF ⟨by omega,by omega⟩
  ·subst e1 e2
   have:c=GA:=(abi hc).symm
   subst this
   exact hF ⟨by omega,by omega⟩
  ·subst e1 e2
   have:c=CA:=(abi hc).symm
   subst this
   exact hF ⟨by omega,by omega⟩
 ·rw[hl]at hw
  rcases ss r with⟨e1,e2⟩|⟨e1,e2⟩|⟨e1,e2⟩|⟨e1,e2⟩
  ·subst e1 e2
   have:c=Gz:=(abi hc).symm
   subst this
   rcases cS.mp hw with⟨h1,_⟩|⟨_,h2,h3⟩
   ·simp[d5,Gz]at h1
   ·omega
  ·subst e1 e2
   have:c=Gy:=(abi hc).symm
   subst this
   rcases cS.mp hw with⟨h1,_⟩|⟨_,h2,h3⟩
   ·simp[d5,Gy]at h1
   ·omega
  ·subst e1 e2
   have:c=GA:=(abi hc).symm
   subst this
   rcases cS.mp hw with⟨h1,_⟩|⟨_,h2,h3⟩
   ·simp[d5,GA]at h1
   ·omega
  ·subst e1 e2
   have:c=CA:=(abi hc).symm
   subst this
   rcases cS.mp hw with⟨h1,_⟩|⟨h1,_,_⟩
   ·simp[d5,CA]at h1
   ·simp[iB,CA]at h1
 ·exact hne (two h' r')
theorem Nj:dN [kF]=0:=by kernel_rfl
theorem LH:cv [kF] (aae #[102])=0:=by kernel_rfl
theorem DU:dK [kF] (aae #[102]) []=0:=by
 have hc:eL [kF]=0:=jo.mpr ⟨Nj,by
  rintro⟨f,hf,hF⟩
  rw[aa3]at hf
  subst hf
  exact DW hF⟩
 unfold dK
 rw[adT hc,LH]
 rfl
theorem LI:GH [kF] []:=⟨by simp,by intro f hf;rw[aa3]at hf;rw[hf];simp[kF],by simp⟩
theorem LJ:(qn [kF] true (-1) 0 kF []).2.kind=1/\(qn [kF] true (-1) 0 kF []).2.stop=1:=⟨by kernel_rfl,by kernel_rfl⟩
theorem DV:(qn [kF] false (-1) 0 kF []).2.kind=0/\(qn [kF] false (-1) 0 kF []).1.n=44:=⟨by kernel_rfl,by kernel_rfl⟩
theorem qY:QR ()=some (true,()):=by
 have r1:=Rj LI (s:=aae #[102]) true
 have r2:=Rj LI (s:=aae #[102]) false
 have e:∀ck,Tf [kF] (aae #[102]) [] ck=GC (qn [kF] ck (-1) 0 kF []):=by
  intro ck
  unfold Tf tq
  rw[adT DU,LH]
  rfl
 rw[DU,e]at r1 r2
 have o1:(GC (qn [kF] true (-1) 0 kF [])).kind=1/\(GC (qn [kF] true (-1) 0 kF [])).stop=1:=by
  unfold GC
  rw[adS (by rw[LJ.1];decide)]
  exact LJ
 have o2:(GC (qn [kF] false (-1) 0 kF [])).value.n=44:=by
  unfold GC
  rw[adT DV.1]
  exact DV.2
 unfold kF Gz Gy GA CA t8 at r1 r2 o1 o2
 rw[QR]
 simp only[r1,r2,o1,o2,aag,aad,beq_self_eq_true,adP]
end Go.Proofs.YtcghbgmmgcljkaaGreatDoor
end
section
namespace Go.Proofs.YtcghbgmmgcljkaaGreatDoor
set_option maxRecDepth 20000
set_option maxHeartbeats 4000000
section
variable (l:List aB) (x:nP) (hl:l.length<=4294967296) (hc:∀f∈l,f.code.length<=4294967296) (ha:x.args.length<=4294967296)
include hl hc ha
theorem Xw(place:Int):n_8 (l,x,place,())=some (true,()):=by
 obtain⟨b,hb,hb2⟩:=Od l hl hc
 rw[n_8]
 simp only[hb,aag,aad]
 cases b
 ·obtain⟨h1,h2⟩:=hb2 rfl
  have F:GH l x.args:=⟨by omega,h2,ha⟩
  obtain⟨vs,e,w1,w2,w3⟩:=Kh F (s:=x.name0) place
  simp only[aaf,adQ,Um F,Un F,w1,w2,aad,xT _ w3,adP,beq_self_eq_true,qY]
 ·simp only[adP,qY,aad]
end
end Go.Proofs.YtcghbgmmgcljkaaGreatDoor
end
section
namespace Go.Proofs.YtcghbgmmgcljkaaGreatDoor
open Go.Tx
theorem L_{ns:List Nat}:∀{i n:Nat},ns[i]?=some n->n<=ns.sum:=by
 induction ns with
 |nil=>intro i n h;simp at h
 |cons a r ih=>
  intro i n h
  cases i with
  |zero=>simp at h;subst h;simp
  |succ i=>have:=ih (i:=i) (by simpa using h);simp;omega
theorem OA{ns:List Nat}(h:∀n∈ns,1<=n):ns.length<=ns.sum:=by
 induction ns with
 |nil=>simp
 |cons a r ih=>
  have h1:=h a aaw
  have h2:=ih λn hn=>h n (aar _ hn)
  simp;omega
theorem Pj{e:Ty vw.ι}{x:den vw.N e}{m:Nat}(h:Bk vw e x m):1<=m:=by
 cases h<;>omega
theorem MA{e:Ty SN}{xs:List (den NN e)}{m:Nat}(h:Bk vw (.sl e) xs m):xs.length+1<=m/\∀x∈xs,∃n,n+1<=m/\Bk vw e x n:=by
 cases h with
 |sl ns h1 h2 h3=>
  have h1:ns.length=xs.length:=h1
  have hp:∀n∈ns,1<=n:=λn hn=>by
   obtain⟨i,hi⟩:=abI hn
   obtain⟨x,hx⟩:∃x,xs[i]?=some x:=⟨_,aai (by have:=(aaj.1 hi).1;omega)⟩
   exact Pj (h2 i x n hx hi)
  have:=OA hp
  refine⟨by omega,λx hx=> ?_⟩
  obtain⟨i,hi⟩:=abI hx
  obtain⟨n,hn⟩:∃n,ns[i]?=some n:=⟨_,aai (by have:=(aaj.1 hi).1;omega)⟩
  exact⟨n,by have:=L_ hn;omega,h2 i x n hi hn⟩
theorem Pk{i:SN}{x:NN i}{m:Nat}(h:Bk vw (.st i) x m):∀l∈gH i x,∃n,n+1<=m/\Bk vw l.t l.x n:=by
 cases h with
 |st ns h1 h2 h3=>
  intro l hl
  obtain⟨j,hj⟩:=abI hl
  have h1:ns.length=(gH i x).length:=h1
  obtain⟨n,hn⟩:∃n,ns[j]?=some n:=⟨_,aai (by have:=(aaj.1 hj).1;omega)⟩
  exact⟨n,by have:=L_ hn;omega,h2 j l n hj hn⟩
theorem yC{l:List aB}{m:Nat}(h:Bk vw (.sl (.st .myFuncT)) l m)(hm:m<=1048576):l.length<=4294967296/\∀f∈l,f.code.length<=4294967296:=by
 obtain⟨h1,h2⟩:=MA h
 refine⟨by omega,λf hf=> ?_⟩
 obtain⟨n,hn,hb⟩:=h2 f hf
 obtain⟨k,hk,hc⟩:=Pk hb ⟨.sl (.st .myCodeT),f.code⟩ (by simp[gH])
 have:f.code.length+1<=k:=(MA hc).1
 omega
theorem GK{x:nP}{m:Nat}(h:Bk vw (.st .askedT) x m)(hm:m<=1048576):x.args.length<=4294967296:=by
 obtain⟨k,hk,hc⟩:=Pk h ⟨.sl (.st .myValueT),x.args⟩ (by simp[gH])
 have:x.args.length+1<=k:=(MA hc).1
 omega
theorem lU(l:List aB)(x:nP)(place:Int)(h0:Ok vw (.sl (.st .myFuncT)) l)(h1:Ok vw (.st .askedT) x)(h2:Ok vw (.int .i64) place)(m0:Nat)(b0:Bk vw (.sl (.st .myFuncT)) l m0)(m1:Nat)(b1:Bk vw (.st .askedT) x m1)(m2:Nat)(b2:Bk vw (.int .i64) place m2)(hm:m0+m1+m2<=1048576):n_8 (l,x,place,())=some (true,()):=
 Xw l x (yC b0 (by omega)).1 (yC b0 (by omega)).2 (GK b1 (by omega)) place
end Go.Proofs.YtcghbgmmgcljkaaGreatDoor
end
section
namespace Go.Proofs.YtcghbgmmgcljkaaGreatDoor.stackWatches
open Go.ChangeShapes Go.WideShapes Go.ChangeAt Go.RowKit Go.Awp Go.Tx
open Go.Proofs.Tryz (prog)
theorem wH:laidOutB prog=true:=by kernel_rfl
theorem own:ownKnob prog.godebug=none:=by kernel_rfl
theorem G0(x0:(List aB))(x1:nP)(x2:Int)(h0:Ok vw (.sl (.st .myFuncT)) x0)(h1:Ok vw (.st .askedT) x1)(h2:Ok vw (.int .i64) x2)(m0:Nat)(b0:Bk vw (.sl (.st .myFuncT)) x0 m0)(m1:Nat)(b1:Bk vw (.st .askedT) x1 m1)(m2:Nat)(b2:Bk vw (.int .i64) x2 m2)(hm:m0+m1+m2<=1048576):mb prog 8 [.d (bC szN LC (.sl (.st .myFuncT)) x0), .d (bC szN LC (.st .askedT) x1), .d (bC szN LC (.int .i64) x2)] [] (.d (.v (.bool true))) []:=
 fG (by kernel_rfl) (Q2 (x0,x1,x2,()) (true,()) (.lf .bool true) (lU x0 x1 x2 h0 h1 h2 m0 b0 m1 b1 m2 b2 hm) rfl)
noncomputable def w0(os:Os):World:=World.laidAll prog os Rows.stackWatchesUptoRow.laid
theorem Hs(os:Os):laidMetH prog Rows.stackWatchesUptoRow.laid ((w0 os).forCall (λ_ _=>0) ⟨#[], #[.slice none 0 0, .agg #[.string aby, .slice none 0 0, .bool false], .int .i64 0],[]⟩).memory:=by
 rw[MakeChecks.laidMetH_plain _ _ _ (by kernel_rfl)];exact laidMet_laidAll _ (by kernel_rfl) (by kernel_rfl)
set_option maxRecDepth 100000 in
theorem reads(os:Os){H:Type}(enc:TypeId×Value->H):DataW.whole enc prog ((w0 os).forCall (λ_ _=>0) ⟨#[], #[.slice none 0 0, .agg #[.string aby, .slice none 0 0, .bool false], .int .i64 0],[]⟩).memory Tryz.f8.params.toList Rows.stackWatchesSpec.vars false #[.slice none 0 0, .agg #[.string aby, .slice none 0 0, .bool false], .int .i64 0].toList 8=some ([.nil, .agg [.lit (.string []), .nil, .lit (.bool false)], .lit (.int .i64 0)],[],[]):=by kernel_rfl
set_option maxRecDepth 100000 in
theorem QO(os:Os)(started:os.Started)(H:Type)(enc:TypeId×Value->H)(F:Stop.Interp):
 ReturnsInHanded {} Tryz.checked os 8 .any ((Rows.OpenSpec.upto Rows.stackWatchesSpec).preRow enc prog Tryz.f8 Rows.stackWatchesUptoRow.domain false Rows.stackWatchesUptoRow.laid) (((Rows.OpenSpec.upto Rows.stackWatchesSpec).at F).post enc prog Tryz.f8 false true false false):=by
 have hok:Input.okWideB prog ((w0 os).forCall (λ_ _=>0) ⟨#[], #[.slice none 0 0, .agg #[.string aby, .slice none 0 0, .bool false], .int .i64 0],[]⟩) 8 ⟨#[], #[.slice none 0 0, .agg #[.string aby, .slice none 0 0, .bool false], .int .i64 0],[]⟩=true:=by kernel_rfl
 refine returnsInHanded_of_row (C:=Tryz.checked) (s:=(Rows.OpenSpec.upto Rows.stackWatchesSpec)) own started (by kernel_rfl) Tryz.func8
  ⟨w0 os,λ_ _=>0,⟨#[], #[.slice none 0 0, .agg #[.string aby, .slice none 0 0, .bool false], .int .i64 0],[]⟩,World.laidAll_os _ _ _,World.shaped_of_ZipB (by kernel_rfl) (by kernel_rfl),(Input.okWide_of_okWideB (base:=0) hok).1,(Input.okWide_of_okWideB hok).2,
   OpenSpec.preRow_of_cond 8 (reads os enc) (by kernel_rfl) (λk hk=>by cases hk;kernel_rfl) (by kernel_rfl) (Hs os),
   by simp only[Assume.holds];exact⟨by simp,by simp,λ_=>Modest.zero,by simp,by simp⟩⟩ ?_
 intro W base args ds gs before hval0 hW _ hcond _ hL _ _
 have hval:∀(j:Nat) t v,Tryz.f8.params[j]?=some t->args[j]?=some v->Value.okWide prog W .any base t v:=hval0
 have hW':=hW
 obtain⟨p,q,hA0,hV,rfl,hfz,hnd⟩:=hW'
 have hA:DataW.TrodAll enc prog W 0 (λ_=>true) true Tryz.f8.params.toList args.toList ds p:=hA0
 rw[Tryz.params8]at hA hval
 obtain⟨v0,vs0,d0,ds0,p0,q0,ha0,rfl,rfl,h0,r0⟩:=trodAll_cons hA
 obtain⟨v1,vs1,d1,ds1,p1,q1,ha1,rfl,rfl,h1,r1⟩:=trodAll_cons r0
 subst ha1
 obtain⟨v2,vs2,d2,ds2,p2,q2,ha2,rfl,rfl,h2,r2⟩:=trodAll_cons r1
 subst ha2
 obtain⟨rfl,rfl,rfl⟩:=trodAll_nil r2
 obtain rfl:args= #[v0,v1,v2]:=by cases args;simp_all
 obtain⟨rfl,rfl⟩:=trodVars_none hV
 have hk:Rows.uptoBulkAll ([d0,d1,d2]++[])<=1048576:=of_decide_eq_true (hcond _ rfl)
 have hlt0:∀x∈p0,x.block<W.heap.size:=λx hx=>by simpa using hW.lt x (by simp[hx])
 have hd0:=jp d0
 have hlt1:∀x∈p1,x.block<W.heap.size:=λx hx=>by simpa using hW.lt x (by simp[hx])
 have hd1:=jp d1
 have hlt2:∀x∈p2,x.block<W.heap.size:=λx hx=>by simpa using hW.lt x (by simp[hx])
 have hd2:=jp d2
 obtain⟨x0,ok0,hr0,hb0⟩:=ph facts (τ:=(.sl (.st .myFuncT))) rfl (hval 0 22 v0 rfl rfl) h0
 obtain⟨x1,ok1,hr1,hb1⟩:=ph facts (τ:=(.st .askedT)) rfl (hval 1 25 v1 rfl rfl) h1
 obtain⟨x2,ok2,hr2,hb2⟩:=ph facts (τ:=(.int .i64)) rfl (hval 2 3 v2 rfl rfl) h2
 have hm:dJ d0+dJ d1+dJ d2<=1048576:=by
  simp only[ace,Rows.uptoBulkAll]at hk
  omega
 refine((G0 x0 x1 x2 ok0 ok1 ok2 _ hb0 _ hb1 _ hb2 hm).closed (W:=W) (vs:= #[v0,v1,v2]) (DG hL) ⟨rfl,λi c x hc hx=> ?_⟩).mono λe W' ⟨he,hb⟩=> ?_
 ·match i with
  |0=>simp at hc hx;subst hc;subst hx;exact .d hr0
  |1=>simp at hc hx;subst hc;subst hx;exact .d hr1
  |2=>simp at hc hx;subst hc;subst hx;exact .d hr2
  |i+3=>simp at hc
 subst he
 exact⟨_,rfl,_,_,_,[],_,[],hW,trodAll_cons_mk (shut_bool Tryz.underlying4 _) trodAll_mk0,
  (trodAll_cons_mk (Below.trod wH (by kernel_rfl) (of_decide_eq_true (by kernel_rfl)) h0 hb hlt0) (trodAll_cons_mk (Below.trod wH (by kernel_rfl) (of_decide_eq_true (by kernel_rfl)) h1 hb hlt1) (trodAll_cons_mk (Below.trod wH (by kernel_rfl) (of_decide_eq_true (by kernel_rfl)) h2 hb hlt2) trodAll_mk0))),rfl,hb.frame _,(λh=>by cases h)⟩
theorem row:Rows.StackWatchesUptoSaid:=
 OpenClaim.holds_of_cond 8 Tryz.f8 rfl rfl rfl rfl rfl rfl rfl ⟨rfl,rfl,rfl,rfl,rfl⟩ rfl rfl rfl rfl rfl (by kernel_rfl) Tryz.func8 (by kernel_rfl)
  (of_decide_eq_true (by kernel_rfl)) (by unfold Func.isWrapper;first|(rw[adT (by decide+kernel)];kernel_rfl)|(rw[adS (by decide+kernel)];exact⟨rfl,rfl⟩))
  (λos started H enc _ F=>by rw[OpenClaim.pre_eq_preRow];exact QO os started H enc F)
theorem proved:Rows.StackWatchesUptoCardSaid:=
 Claim7.holds_tied_plain_at .later [] [.listed, .data] true (true, "9903706971e3bb189f6f1d2425e4062bf0ab55d30c817c4194f043affe1c4612") false row (λ_ h=>by cases h) (by kernel_rfl) (λ_ h=>by cases h) stackWatchesUpto_row_tie rfl ⟨rfl,rfl⟩ (by kernel_rfl) rfl
  (λf fn hf hfn=>by
    obtain rfl:f=8:=abi ((show prog.funcNamed "mandrel/mandrellaw13.StackWatches" =some 8 by kernel_rfl).symm.trans hf)|>.symm
    obtain rfl:fn=Tryz.f8:=(abi (Tryz.func8.symm.trans hfn)).symm
    exact⟨by kernel_rfl,λj t ht=>by
     rw[Tryz.params8]at ht
     have hm:t∈([22,25,3]:List TypeId):=by simpa using Array.mem_of_getElem? ht
     have hall:(([22,25,3]:List TypeId).all λu=> !prog.wantsStandIn u)=true:=by kernel_rfl
     exact(show prog.wantsStandIn t=false by simpa using aav.1 hall t hm)⟩)
  (by kernel_rfl)
end Go.Proofs.YtcghbgmmgcljkaaGreatDoor.stackWatches
end
