/-
  Texts of this claim, joined by a program of mine: what the theorem uses.
-/
import Derived.Test.YtcghbgmmgcljkaaGreatDoorPkJ
import Derived.Test.YtcghbgmmgcljkaaGreatDoorPkF
import Derived.Test.YtcghbgmmgcljkaaGreatDoorCards
import Derived.Test.YtcghbgmmgcljkaaGreatDoorTie
import Derived.WalkKit
import Derived.ProofKit
import Derived.OpenShut
import Derived.LaidMore
import Derived.Lay
import Derived.SevenTiedAt
import Derived.Stop.Joined
import Derived.Deep.DeepHandedRow
open Bool renaming and_eq_true→Qg,false_eq_true→Qf,false_or→SW
open ByteArray renaming empty→Ro,mk→Qa
open Int renaming le_refl→R0,mul_nonneg→Sy,natCast_zero→Q_,reduceLE→TD,reduceLT→TC,reduceToNat→Td,toNat→QY,toNat_natCast→Qp
open List renaming all_eq_true→Qm,any_cons→SU,append_assoc→Q2,append_nil→Rj,drop→Sm,drop_zero→QW,foldl_cons→SJ,getD_eq_getElem?_getD→So,getElem?_cons_succ→SA,getElem?_cons_zero→Ri,getElem?_eq_getElem→Qe,getElem?_eq_some_iff→P9,getElem?_map→Qc,getElem?_of_mem→Rr,length_append→Qx,length_cons→Qz,length_drop→QN,length_map→Qb,length_replicate→Rf,length_reverse→Sq,length_set→QU,map_append→QT,map_cons→Qj,map_drop→Q7,map_map→QA,map_nil→QO,map_replicate→RV,map_take→Q6,mem_cons→Ql,mem_cons_of_mem→Qd,mem_cons_self→Qi,mem_of_getElem?→Qk,mem_singleton→Q4,nil_append→QJ,replicate→QL,take→R_,take_of_length_le→QP
open Nat renaming reduceEqDiff→S5,reduceLT→Tz,zero_add→Qt
open Option renaming bind_eq_bind→Qh,bind_some→P_,isNone_none→Si,isSome_some→St
open Option.some renaming inj→Re
open Sum renaming inl→Rv,inr→Sf
noncomputable section
set_option linter.unusedSimpArgs false
set_option linter.unusedVariables false
section
namespace Go.Proofs.YtcghbgmmgcljkaaGreatDoor
set_option maxRecDepth 20000
set_option maxHeartbeats 8000000
def Np:List (Option Nat):=[some 77,some 78,some 79,some 80,some 81,some 82,some 83,some 84,some 85,some 86,some 87,some 88,some 89,some 90,some 91,some 92,some 93,some 94,some 95,some 96]
theorem K7:Ki ()=some (Np,()):=by rw[Ki];rfl
def lt(b e:Nat)(l:List af)(ck:Bool)(steps place high:Int)(en:Option aT)(argv:List ah)(z:ah)(f:af)(d at1:Int)(res:Option ah)(cnt:List Int)(sn pl st:List Item):=
 ((b:Int),(e:Int),l,ck,steps,place,high,en,argv,z,f.name0,f.params,f.places,f.type0.base,f.type0.bits,f.type0.name0,f.type0.opt,f.type0.err,f.code,d,at1,res,Np,cnt,sn.map val,pl.map val,(st.map val).reverse,())
abbrev TuT:=ByteArray×Int×Int×Int×Int×ByteArray×Bool×Bool×List au×Int×Int×Option ah×List af×Bool×Int×Int×Int×Option aT×List ah×List ah×List Int×List ah×Unit
def LpS(n:au×TuT->Option TuT)(op:Int)(seen stk:Bool):Prop:=
 ∀(b e:Nat) (l:List af) (ck:Bool) (steps place high:Int) (argv:List ah) (z:ah) (f:af) (d:Int) (a:Nat) (cnt:List Int) (sn pl st:List Item) {c:au},
  c.op=op->f.code[a]?=some c->¬steps=40000->0<=steps->steps<=40000->a<=3000->∀{at2 steps2 high2:Int} {res2:Option ah} {en2:Option aT} {pl2 st2:List Item} {cnt2:List Int} {sn2:List Item},
  n (c,tu f d ((a:Int)+1) none l ck (steps+1) place high none pl st cnt sn ())=some (tu f d at2 res2 l ck steps2 place high2 en2 pl2 st2 cnt2 sn2 ())->
  pl2.length=pl.length->cnt2.length=cnt.length->(seen=true->sn2.length=sn.length)->(stk=true->st2.length=st.length)->
  aA (lt b e l ck steps place high none argv z f d (a:Int) none cnt sn pl st)=if en2.isSome=true then some (Rv ((b:Int),(e:Int),l,ck,steps2,place,high2,en2,argv,cnt2,sn2.map val,val (cI 0),()))
   else aA (lt b e l ck steps2 place high2 en2 argv z f d at2 res2 cnt2 sn2 pl2 st2)
theorem lps:LpS eK 0 true false/\LpS eL 1 true false/\LpS eM 2 true false/\LpS eN 3 false false/\LpS eO 4 true false/\LpS eP 5 true false/\LpS eQ 6 true false/\LpS eR 7 true false/\LpS eS 8 true false/\LpS eT 9 true false/\LpS eU 10 true false/\LpS eV 11 true false/\LpS eW 12 true false/\LpS eX 13 true true/\LpS eY 14 true true/\LpS eZ 15 true false/\LpS n_93sae8a 16 false false/\LpS e_ 17 true false/\LpS fa 18 true false/\LpS fb 19 true true:=by
 refine⟨?_,?_,?_,?_,?_,?_,?_,?_,?_,?_,?_,?_,?_,?_,?_,?_,?_,?_,?_,?_⟩<;>(
  intro b e l ck steps place high argv z f d a cnt sn pl st c h hc hs h0 h1 ha at2 steps2 high2 res2 en2 pl2 st2 cnt2 sn2 hr e1 e2 e3 e4
  have w1:IntKind.i64.wrap ((a:Int)+1)=(a:Int)+1:=w64 (by omega) (by omega)
  have w2:IntKind.i64.wrap (steps+1)=steps+1:=w64 (by omega) (by omega)
  have hb:(steps==40000)=false:=by simpa using hs
  have ha0:(0:Int)<=(a:Int):=by omega
  have hq:((20:Nat):Int)=20:=rfl
  unfold tu at hr
  conv=>lhs;rw[aA]
  unfold lt Np
  first
   |simp only[Si,TH,hb,Qf,TI,ha0,Qp,hc,Qh,P_,h,TD,TC,Td,SA,Ri,w1,w2,hr,Qb,Sq,e1,e2,e3 rfl,e4 rfl,and_self,reduceIte,S5,Tz,hq]
   |simp only[Si,TH,hb,Qf,TI,ha0,Qp,hc,Qh,P_,h,TD,TC,Td,SA,Ri,w1,w2,hr,Qb,Sq,e1,e2,e3 rfl,and_self,reduceIte,S5,Tz,hq]
   |simp only[Si,TH,hb,Qf,TI,ha0,Qp,hc,Qh,P_,h,TD,TC,Td,SA,Ri,w1,w2,hr,Qb,Sq,e1,e2,and_self,reduceIte,S5,Tz,hq]
  rfl)
theorem Ou:LpS eK 0 true false:=lps.1
theorem Ov:LpS eL 1 true false:=lps.2.1
theorem Ow:LpS eM 2 true false:=lps.2.2.1
theorem Ox:LpS eN 3 false false:=lps.2.2.2.1
theorem Oy:LpS eO 4 true false:=lps.2.2.2.2.1
theorem N9:LpS eP 5 true false:=lps.2.2.2.2.2.1
theorem Oz:LpS eQ 6 true false:=lps.2.2.2.2.2.2.1
theorem N_:LpS eR 7 true false:=lps.2.2.2.2.2.2.2.1
theorem OA:LpS eS 8 true false:=lps.2.2.2.2.2.2.2.2.1
theorem Oa:LpS eT 9 true false:=lps.2.2.2.2.2.2.2.2.2.1
theorem OB:LpS eU 10 true false:=lps.2.2.2.2.2.2.2.2.2.2.1
theorem Ob:LpS eV 11 true false:=lps.2.2.2.2.2.2.2.2.2.2.2.1
theorem Oc:LpS eW 12 true false:=lps.2.2.2.2.2.2.2.2.2.2.2.2.1
theorem Od:LpS eX 13 true true:=lps.2.2.2.2.2.2.2.2.2.2.2.2.2.1
theorem OC:LpS eY 14 true true:=lps.2.2.2.2.2.2.2.2.2.2.2.2.2.2.1
theorem OD:LpS eZ 15 true false:=lps.2.2.2.2.2.2.2.2.2.2.2.2.2.2.2.1
theorem L6:LpS n_93sae8a 16 false false:=lps.2.2.2.2.2.2.2.2.2.2.2.2.2.2.2.2.1
theorem OE:LpS e_ 17 true false:=lps.2.2.2.2.2.2.2.2.2.2.2.2.2.2.2.2.2.1
theorem OG:LpS fa 18 true false:=lps.2.2.2.2.2.2.2.2.2.2.2.2.2.2.2.2.2.2.1
theorem Oe:LpS fb 19 true true:=lps.2.2.2.2.2.2.2.2.2.2.2.2.2.2.2.2.2.2.2
end Go.Proofs.YtcghbgmmgcljkaaGreatDoor
end
section
namespace Go.Proofs.YtcghbgmmgcljkaaGreatDoor
set_option maxRecDepth 20000
set_option maxHeartbeats 4000000
def zA(g:Lg):Option aT:=if g.kind=0 then none else some (aT.mk g.kind g.stop)
def lr(b e:Nat)(l:List af)(ck:Bool)(steps place high:Int)(en:Option aT)(argv:List ah)(z:ah)(f:af)(d at1:Int)(res:Option ah)(cnt:List Int)(sn pl st:List Item):=
 ((b:Int),(e:Int),l,ck,steps,place,high,en,argv,z,f.name0,f.params,f.places,f.type0.base,f.type0.bits,f.type0.name0,f.type0.opt,f.type0.err,f.code,d,at1,res,cnt,sn.map val,pl.map val,(st.map val).reverse,())
theorem Am(b e:Nat)(l:List af)(ck:Bool)(steps place high:Int)(en:Option aT)(argv:List ah)(z:ah)(f:af)(d at1:Int)(v:ah)(cnt:List Int)(sn pl st:List Item):
 aA (lt b e l ck steps place high en argv z f d at1 (some v) cnt sn pl st)=some (Sf (lr b e l ck steps place high en argv z f d at1 (some v) cnt sn pl st)):=by
 rw[aA]
 unfold lt lr
 simp only[Option.isNone_some,Qf,TI,Qp]
theorem rX(b e:Nat)(l:List af)(ck:Bool)(place high:Int)(argv:List ah)(z:ah)(f:af)(d at1:Int)(cnt:List Int)(sn pl st:List Item):
 aA (lt b e l ck 40000 place high none argv z f d at1 none cnt sn pl st)=some (Rv ((b:Int),(e:Int),l,ck,40000,place,high,some (aT.mk 2 0),argv,cnt,sn.map val,val (cI 0),())):=by
 rw[aA]
 unfold lt
 simp only[Si,TH,beq_self_eq_true,cW,Qh,P_,Qp]
 rfl
def th(b e:Nat)(l:List af)(ck:Bool)(place:Int)(argv:List ah)(z:ah)(f:af)(d:Int)(a:Nat)(g:Lg)(pl st:List Item)(r:Item×Lg):Prop:=
 (r.2.kind=0/\∃at2 pl2 st2,aA (lt b e l ck g.steps place g.high none argv z f d (a:Int) none g.counts g.seen pl st)=some (Sf (lr b e l ck r.2.steps place r.2.high none argv z f d at2 (some (val r.1)) r.2.counts r.2.seen pl2 st2)))\/
 (r.2.kind≠0/\aA (lt b e l ck g.steps place g.high none argv z f d (a:Int) none g.counts g.seen pl st)=some (Rv ((b:Int),(e:Int),l,ck,r.2.steps,place,r.2.high,some (aT.mk r.2.kind r.2.stop),argv,r.2.counts,r.2.seen.map val,val (cI 0),())))
theorem zE(h:af)(args:List Item)(hp:(args.length:Int)<=h.places):
 R_ (QL h.places.toNat (val (cI 0))).length (args.map val)++Sm args.length (QL h.places.toNat (val (cI 0)))=(cF h args).map val:=by
 unfold cF
 rw[Rf,QP (by simp;omega),List.drop_replicate,QT,RV]
theorem p40{l:List af}{k:Nat}{h:af}(hk:l[k]?=some h){b e:Nat}{argv:List ah}{args:List Item}(hb:b+e<=argv.length)(ha:R_ e (Sm b argv)=args.map val)(he:args.length=e)
 {ck:Bool}{place d:Int}{g:Lg}(hd:¬30<d)(hp0:(e:Int)<=h.places)(hp1:h.places<=200)(hg:g.kind=0)(hc:g.counts.length=l.length)(hkl:k<l.length)
 (hpl:d=1->place<h.places)(hs:d=1->g.seen.length<=99){r:Item×Lg}
 (hl:th b e l ck place argv (val (cI 0)) h d 0 {g with counts:=tB g.counts k,seen:=if d=1/\0<=place then g.seen++[(cF h args).getD place.toNat (cI 0)]else g.seen} (cF h args) [] r)(hz:r.2.kind≠0->r.1=cI 0):
 n_40s78a4 ((k:Int),(b:Int),(e:Int),d,l,ck,g.steps,place,g.high,none,argv,g.counts,g.seen.map val,())=
  some ((b:Int),(e:Int),l,ck,r.2.steps,place,r.2.high,zA r.2,argv,r.2.counts,r.2.seen.map val,val r.1,()):=by
 have hk0:(0:Int)<=(k:Int):=by omega
 have hk1:(k:Int)<(g.counts.length:Int):=by omega
 obtain⟨x,hx⟩:∃x,g.counts[k]?=some x:=⟨_,Qe (by omega)⟩
 have hbump:g.counts.set k (IntKind.i64.wrap (x+1))=tB g.counts k:=by
  unfold tB;rw[So,hx];rfl
 have h0:0<=h.places:=by omega
 have h4:h.places<=4294967296:=by omega
 have em:=zE h args (by omega)
 rw[he]at em
 rw[n_40s78a4]
 have hz0:ah.mk (ak.mk 0 0 (Qa #[]) false false) 0 false (Qa #[]) (ak.mk 0 0 (Qa #[]) false false)=val (cI 0):=rfl
 have hd':¬d>30:=by omega
 simp only[hd',TN,Qf,TI,hk0,hk1,and_self,TH,Qp,hx,hk,h0,h4,Qh,P_,hb,hz0,ha,em,hbump,K7]
 have fin:∀{α:Type} (X:Option α) (y:α),X=some y->X=some y:=λ_ _ h=>h
 have key:∀sn:List Item,sn=(if d=1/\0<=place then g.seen++[(cF h args).getD place.toNat (cI 0)]else g.seen)->
  (aA (lt b e l ck g.steps place g.high none argv (val (cI 0)) h d 0 none (tB g.counts k) sn (cF h args) [])>>=λx6=>match x6 with
    | .inl y6=>some y6
    | .inr y6=>(y6.2.2.2.2.2.2.2.2.2.2.2.2.2.2.2.2.2.2.2.2.2.1:Option (ah))>>=λx7=>
     some (((↑y6.1.toNat:Int),(↑y6.2.1.toNat:Int),y6.2.2.1,y6.2.2.2.1,y6.2.2.2.2.1,y6.2.2.2.2.2.1,y6.2.2.2.2.2.2.1,y6.2.2.2.2.2.2.2.1,y6.2.2.2.2.2.2.2.2.1,y6.2.2.2.2.2.2.2.2.2.2.2.2.2.2.2.2.2.2.2.2.2.2.1,y6.2.2.2.2.2.2.2.2.2.2.2.2.2.2.2.2.2.2.2.2.2.2.2.1,x7,())))=
  some ((b:Int),(e:Int),l,ck,r.2.steps,place,r.2.high,zA r.2,argv,r.2.counts,r.2.seen.map val,val r.1,()):=by
  intro sn hsn
  subst hsn
  rcases hl with⟨hk0,at2,pl2,st2,hl⟩|⟨hk0,hl⟩
  ·simp only[Q_]at hl
   rw[hl]
   unfold lr zA
   simp only[Qh,P_,Qp,hk0,TH]
  ·simp only[Q_]at hl
   rw[hl]
   unfold zA
   simp only[Qh,P_,hk0,TI,hz hk0]
 unfold lt at key
 by_cases h1:d=1
 ·have hb1:(d==1)=true:=by simpa using h1
  simp only[hb1,TH,P_,Qp]
  by_cases hp:0<=place
  ·have hlt:=hpl h1
   have hlen:(cF h args).length=h.places.toNat:=by
    unfold cF
    rw[Qx,Rf];omega
   have hlt2:place<(((cF h args).map val).length:Int):=by rw[Qb,hlen];omega
   have hget:((cF h args).map val)[place.toNat]?=some (val ((cF h args).getD place.toNat (cI 0))):=by
    rw[Qc,So,Qe (by omega)];rfl
   have hs':(g.seen.map val).length+[val ((cF h args).getD place.toNat (cI 0))].length<=4294967296:=by have:=hs h1;simp;omega
   simp only[ge_iff_le,hp,TM,TH,hlt2,and_self,hget,P_,hs',Qp]
   refine Eq.trans ?_ (key _ (by rw[TL ⟨h1,hp⟩]))
   rw[QT]
   rfl
  ·simp only[ge_iff_le,hp,TN,Qf,TI,P_,Qp]
   exact key _ (by rw[TK (λh=>hp h.2)])
 ·have hb1:(d==1)=false:=by simpa using h1
  simp only[hb1,Qf,TI,P_,Qp]
  exact key _ (by rw[TK (λh=>h1 h.1)])
end Go.Proofs.YtcghbgmmgcljkaaGreatDoor
end
section
namespace Go.Proofs.YtcghbgmmgcljkaaGreatDoor
set_option maxRecDepth 20000
set_option maxHeartbeats 4000000
theorem Eo{l:List af}{k b e:Nat}{argv:List ah}{ck:Bool}{place d:Int}{g:Lg}(hd:30<d):
 n_40s78a4 ((k:Int),(b:Int),(e:Int),d,l,ck,g.steps,place,g.high,none,argv,g.counts,g.seen.map val,())=
  some ((b:Int),(e:Int),l,ck,g.steps,place,g.high,some (aT.mk 2 0),argv,g.counts,g.seen.map val,val (cI 0),()):=by
 rw[n_40s78a4]
 have hd':d>30:=hd
 simp only[hd',TM,TH,cW,Qh,P_,Qp]
 rfl
theorem Ie{l:List af}(R:og l)(s:ByteArray):Gq (l,s,())=some (max (bP l s) 0,decide (bP l s>=0),0,()):=by
 have hv:=nK l (by have:=R.len;omega) (λf hf=>by have:=(R.fns f hf).2.2.2.2.1;omega)
 rw[Gq]
 simp only[hv,jx l (by have:=R.len;omega),Qh,P_,R.valid,bne_self_eq_false,Qf,TI]
theorem GJ(st:List Item){b:Nat}(hb:b<=st.length):R_ (st.length-b) (st.map val).reverse=((st.drop b).map val).reverse/\R_ b (Sm (st.length-b) (st.map val).reverse)=((st.take b).reverse).map val:=by
 constructor
 ·rw[List.take_reverse,Qb,show st.length-(st.length-b)=b by omega,Q7]
 ·rw[List.drop_reverse,Qb,show st.length-(st.length-b)=b by omega,QP (by simp;omega),List.map_reverse,Q6]
theorem p93{l:List af}(R:og l){c:au}{k b:Nat}(hk:bP l c.name0=(k:Int))(hb:c.b=(b:Int)){st:List Item}(hbl:b<=st.length)(hst:st.length<=65)(f:af){d at1:Int}(hd1:1<=d)(hd2:d<=30)(ck:Bool)(place:Int)(pl:List Item)(g:Lg)
 {x:Item}{g2:Lg}(hc:g2.counts.length=g.counts.length){en:Option aT}
 (h40:n_40s78a4 ((k:Int),((st.length-b:Nat):Int),(b:Int),d+1,l,ck,g.steps,place,g.high,none,(st.map val).reverse,g.counts,g.seen.map val,())=
   some (((st.length-b:Nat):Int),(b:Int),l,ck,g2.steps,place,g2.high,en,(st.map val).reverse,g2.counts,g2.seen.map val,val x,())):
 n_93sae8a (c,tu f d at1 none l ck g.steps place g.high none pl st g.counts g.seen ())=
  some (if en.isNone=true then tu f d at1 none l ck g2.steps place (du d g2.high (st.length-b+1)) en pl (x::st.drop b) g2.counts g2.seen ()
   else tu f d at1 none l ck g2.steps place g2.high en pl (st.drop b) g2.counts g2.seen ()):=by
 have hp:=eh f d at1 none l ck g2.steps place g2.high en pl (st.drop b) g2.counts g2.seen x (by rw[QN];omega)
 rw[QN]at hp
 unfold tu at hp
 obtain⟨c1,c2⟩:=GJ st hbl
 have hL:(((st.map val).reverse).length:Int)=(st.length:Int):=by rw[j6]
 have w:IntKind.i64.wrap ((st.length:Int) -(b:Int))=((st.length-b:Nat):Int):=by rw[w64 (by omega) (by omega)];omega
 have w2:IntKind.i64.wrap (d+1)=d+1:=w64 (by omega) (by omega)
 have i1:(0:Int)<=((st.length-b:Nat):Int):=by omega
 have i2:((st.length-b:Nat):Int)<=(st.length:Int):=by omega
 have i3:(st.length:Int)<=(st.length:Int):=R0 _
 have hmax:max (k:Int) 0=(k:Int):=by omega
 have e1:st.length-(st.length-b)=b:=by omega
 have e2:st.length-b-QY 0=st.length-b:=rfl
 have e3:st.length-b<=((st.map val).reverse).length:=by rw[j6];omega
 rw[n_93sae8a]
 unfold tu
 simp only[hL,hb,w,i1,i2,i3,and_self,TH,R0,true_and,Ie R,hk,hmax,Qh,P_,Qp,e1,e2,w2,h40,hc,e3,c1]
 cases hen:en with
 |none=>
  rw[hen]at hp
  simp only[Si,TH,hp,hc,P_]
 |some y=>simp only[Option.isNone_some,Qf,TI]
theorem LS{l:List af}{f:af}{c:au}(h:cT l f c=true)(e:c.op=0):gn c.type0=true:=by
 unfold cT at h
 rw[TL e]at h
 simp only[Qg]at h
 exact h.1.2.1.1
theorem Gh{l:List af}{f:af}{c:au}(h:cT l f c=true)(e:c.op=2\/c.op=3)(h0:0<=f.places)(h1:f.places<=200):0<=c.a/\c.a<f.places:=by
 unfold cT at h
 rw[TK (by omega),TL e]at h
 simp only[Qg,rng,TJ]at h
 have w:IntKind.i64.wrap (f.places-1)=f.places-1:=w64 (by omega) (by omega)
 have:=h.1.1.1
 rw[w]at this
 omega
theorem LT{l:List af}{f:af}{c:au}(h:cT l f c=true)(e:c.op=5):(5<=c.a/\c.a<=17)/\de c.type0=true:=by
 unfold cT at h
 rw[TK (by omega),TK (by omega),TL e]at h
 simp only[Qg,rng,TJ]at h
 exact⟨h.1.1.1,h.1.2⟩
theorem LU{l:List af}{f:af}{c:au}(h:cT l f c=true)(e:c.op=6):18<=c.a/\c.a<=23:=by
 unfold cT at h
 rw[TK (by omega),TK (by omega),TK (by omega),TL e]at h
 simp only[Qg,rng,TJ]at h
 exact h.1.1.1
theorem Hh{l:List af}{f:af}{c:au}(h:cT l f c=true)(e:c.op=7\/c.op=9\/c.op=10):de c.type0=true:=by
 unfold cT at h
 rw[TK (by omega),TK (by omega),TK (by omega),TK (by omega),TL e]at h
 simp only[Qg]at h
 exact h.1.2
theorem Jb{ck:Bool}{c:au}{at1:Int}{pl:List Item}{x:Item}{s:List Item}(e:c.op=7\/c.op=8\/c.op=9\/c.op=10\/c.op=11):cf ck c at1 pl (x::s)=fe (bY ck c.op c.type0 x) at1 pl s:=by
 rw[cf,TK (by omega),TK (by omega),TK (by omega),TK (by omega),TK (by omega),TK (by omega),TK (by omega),TK (by omega),TL e]
 rfl
theorem jA{l:List af}(R:og l)(ck:Bool)(place:Int):∀(N:Nat) (f:af) (d:Int) (a:Nat) (pl st:List Item) (g:Lg),OkA l f d a pl st->OkG l g->(d=1->(st.length:Int)<=g.high)->40000-g.steps<=(N:Int)->
 ∀(b e:Nat) (argv:List ah) (z:ah),th b e l ck place argv z f d a g pl st (fg l ck place N f d (a:Int) pl st g)
 |0,f,d,a,pl,st,g,A,G,hh,hN,b,e,argv,z=>by
  have hs:g.steps=40000:=by have:=G.s1;omega
  rw[fg]
  refine .inr ⟨by simp[Ci],?_⟩
  rw[hs,rX]
  simp only[Ci,hs,G.stop]
 |N+1,f,d,a,pl,st,g,A,G,hh,hN,b,e,argv,z=>by
  obtain⟨c,hc,hcm,hcode,hal,hl3⟩:=A.code R
  have s0:=G.s0
  have s1:=G.s1
  have hst:=A.st_le R
  have hd1:=A.d1
  have hd2:=A.d2
  rw[fg]
  by_cases hs:g.steps=40000
  ·rw[TL hs]
   refine .inr ⟨by simp[Ci],?_⟩
   rw[hs,rX]
   simp only[Ci,hs,G.stop]
  ·rw[TK hs]
   simp only[Qp,hc]
   obtain⟨hk,hw⟩:=j7 R A.mem A.reach hc
   have ht:=hk.1
   have hr:=qE hcode
   have go:∀(at1:Int) (pl1 st1:List Item),cf ck c ((a:Int)+1) pl st= .go at1 pl1 st1->
    aA (lt b e l ck g.steps place g.high none argv z f d (a:Int) none g.counts g.seen pl st)=aA (lt b e l ck (g.steps+1) place (du d g.high st1.length) none argv z f d at1 none g.counts (oC d place c st g.seen) pl1 st1)->
    th b e l ck place argv z f d a g pl st (fg l ck place N f d at1 pl1 st1 {g with steps:=g.steps+1,high:=du d g.high st1.length,seen:=oC d place c st g.seen}):=by
    intro at1 pl1 st1 ha hn
    obtain⟨⟨b',hb',A'⟩,G'⟩:=AO (place:=place) R A G hs hc ha
    subst hb'
    have ih:=jA R ck place N f d b' pl1 st1 _ A' G' (λhd=>vD hd) (by simp only[];omega) b e argv z
    unfold th at ih⊢
    rw[hn]
    exact ih
   have ret:∀(x:Item) (at2:Int) (pl2 st2:List Item),
    aA (lt b e l ck g.steps place g.high none argv z f d (a:Int) none g.counts g.seen pl st)=aA (lt b e l ck (g.steps+1) place g.high none argv z f d at2 (some (val x)) g.counts g.seen pl2 st2)->
    th b e l ck place argv z f d a g pl st (x,{g with steps:=g.steps+1}):=by
    intro x at2 pl2 st2 hn
    refine .inl ⟨G.kind,at2,pl2,st2,?_⟩
    rw[hn,Am]
   have stop:∀(w:Int) (hi:Int),aA (lt b e l ck g.steps place g.high none argv z f d (a:Int) none g.counts g.seen pl st)=
    some (Rv ((b:Int),(e:Int),l,ck,g.steps+1,place,g.high,some (aT.mk 1 w),argv,g.counts,g.seen.map val,val (cI 0),()))->
    th b e l ck place argv z f d a g pl st (cI 0,{g with steps:=g.steps+1,kind:=1,stop:=w}):=by
    intro w hi hn
    exact .inr ⟨by simp,hn⟩
   have hop:c.op=0\/c.op=1\/c.op=2\/c.op=3\/c.op=4\/c.op=5\/c.op=6\/c.op=7\/c.op=8\/c.op=9\/c.op=10\/c.op=11\/c.op=12\/c.op=13\/c.op=14\/c.op=15\/c.op=16\/c.op=17\/c.op=18\/c.op=19:=by omega
   have hse:c.op≠3->oC d place c st g.seen=g.seen:=λh=>by unfold oC;rw[TK (λq=>h q.1)]
   have hpl:=A.pls
   have hplc:=R.places f A.mem
   have hfn:=R.fns f A.mem
   rcases hop with e0|e0|e0|e0|e0|e0|e0|e0|e0|e0|e0|e0|e0|e0|e0|e0|e0|e0|e0|e0
   ·have ha:cf ck c ((a:Int)+1) pl st= .go ((a:Int)+1) pl (cI (u3 c.type0 c.a)::st):=by simp[cf,e0]
    rw[ha]
    refine go _ _ _ ha ?_
    rw[Ou b e l ck g.steps place g.high argv z f d a g.counts g.seen pl st e0 hc hs s0 s1 (by omega) (p77 f d ((a:Int)+1) none l ck (g.steps+1) place g.high none pl st g.counts g.seen c (by omega) (LS hcode e0)) rfl rfl (λ_=>rfl) nofun,hse (by omega)]
    rfl
   ·have ha:cf ck c ((a:Int)+1) pl st= .go ((a:Int)+1) pl (Item.mk 0 true (Qa #[])::st):=by simp[cf,e0]
    rw[ha]
    refine go _ _ _ ha ?_
    rw[Ov b e l ck g.steps place g.high argv z f d a g.counts g.seen pl st e0 hc hs s0 s1 (by omega) (p78 f d ((a:Int)+1) none l ck (g.steps+1) place g.high none pl st g.counts g.seen c (by omega)) rfl rfl (λ_=>rfl) nofun,hse (by omega)]
    rfl
   ·obtain⟨a0,a1⟩:=Gh hcode (by omega) (by omega) hplc
    have ha:cf ck c ((a:Int)+1) pl st= .go ((a:Int)+1) pl (pl.getD c.a.toNat (cI 0)::st):=by simp[cf,e0]
    rw[ha]
    refine go _ _ _ ha ?_
    rw[Ow b e l ck g.steps place g.high argv z f d a g.counts g.seen pl st e0 hc hs s0 s1 (by omega) (p79 f d ((a:Int)+1) none l ck (g.steps+1) place g.high none pl st g.counts g.seen c (by omega) a0 (by omega)) rfl rfl (λ_=>rfl) nofun,hse (by omega)]
    rfl
   ·obtain⟨a0,a1⟩:=Gh hcode (by omega) (by omega) hplc
    obtain⟨x,s,rfl⟩:=dR rfl (by rw[(bv hr.1 hr.2 (by omega)).2 (by omega)]at ht;exact ht)
    rw[Qz]at hst
    have ha:cf ck c ((a:Int)+1) pl (x::s)= .go ((a:Int)+1) (pl.set c.a.toNat x) s:=by simp[cf,e0]
    rw[ha]
    refine go _ _ _ ha ?_
    have hsn:oC d place c (x::s) g.seen=if d=1/\place=c.a/\g.seen.length<100 then g.seen++[x]else g.seen:=by unfold oC;simp[e0]
    rw[Ox b e l ck g.steps place g.high argv z f d a g.counts g.seen pl (x::s) e0 hc hs s0 s1 (by omega) (p80 f d ((a:Int)+1) none l ck (g.steps+1) place g.high none pl s g.counts g.seen c x (by omega) a0 (by omega) G.seen) (by rw[QU]) rfl nofun nofun,hsn,fm (λq=>by have:=hh q;simp only[Qz]at this;omega)]
    rfl
   ·obtain⟨x,s,rfl⟩:=dR rfl (by rw[(bv hr.1 hr.2 (by omega)).2 (by omega)]at ht;exact ht)
    rw[Qz]at hst
    have ha:cf ck c ((a:Int)+1) pl (x::s)= .go ((a:Int)+1) pl s:=by simp[cf,e0]
    rw[ha]
    refine go _ _ _ ha ?_
    rw[Oy b e l ck g.steps place g.high argv z f d a g.counts g.seen pl (x::s) e0 hc hs s0 s1 (by omega) (p81 f d ((a:Int)+1) none l ck (g.steps+1) place g.high none pl s g.counts g.seen c x (by omega)) rfl rfl (λ_=>rfl) nofun,hse (by omega),fm (λq=>by have:=hh q;simp only[Qz]at this;omega)]
    rfl
   ·obtain⟨o1,o2⟩:=LT hcode e0
    obtain⟨x,y,s,rfl⟩:=wk rfl (by rw[(bv hr.1 hr.2 (by omega)).1 (by omega)]at ht;exact ht)
    rw[Qz,Qz]at hst
    have ha:cf ck c ((a:Int)+1) pl (x::y::s)=fe (opS ck c.a c.type0 y x) ((a:Int)+1) pl s:=by simp[cf,e0]
    have hp:=p82 f d ((a:Int)+1) none l ck (g.steps+1) place g.high none pl s g.counts g.seen c y x (by omega) o2 o1
    generalize opS ck c.a c.type0 y x=r at ha hp
    unfold fe at ha
    by_cases h0:r.2=0
    ·rw[TL h0]at ha hp
     rw[ha]
     refine go _ _ _ ha ?_
     rw[N9 b e l ck g.steps place g.high argv z f d a g.counts g.seen pl (x::y::s) e0 hc hs s0 s1 (by omega) hp rfl rfl (λ_=>rfl) nofun,hse (by omega)]
     rfl
    ·rw[TK h0]at ha hp
     rw[ha]
     refine stop _ 0 ?_
     rw[N9 b e l ck g.steps place g.high argv z f d a g.counts g.seen pl (x::y::s) e0 hc hs s0 s1 (by omega) hp rfl rfl (λ_=>rfl) nofun]
     rfl
   ·have o1:=LU hcode e0
    obtain⟨x,y,s,rfl⟩:=wk rfl (by rw[(bv hr.1 hr.2 (by omega)).1 (by omega)]at ht;exact ht)
    rw[Qz,Qz]at hst
    have ha:cf ck c ((a:Int)+1) pl (x::y::s)= .go ((a:Int)+1) pl (jH (vF c.a y.n x.n)::s):=by simp[cf,e0]
    rw[ha]
    refine go _ _ _ ha ?_
    rw[Oz b e l ck g.steps place g.high argv z f d a g.counts g.seen pl (x::y::s) e0 hc hs s0 s1 (by omega) (p83 f d ((a:Int)+1) none l ck (g.steps+1) place g.high none pl s g.counts g.seen c y x (by omega) o1) rfl rfl (λ_=>rfl) nofun,hse (by omega)]
    rfl
   ·have o2:=Hh hcode (by omega)
    obtain⟨x,s,rfl⟩:=dR rfl (by rw[(bv hr.1 hr.2 (by omega)).2 (by omega)]at ht;exact ht)
    rw[Qz]at hst
    have ha:cf ck c ((a:Int)+1) pl (x::s)=fe (bY ck c.op c.type0 x) ((a:Int)+1) pl s:=Jb (by omega)
    rw[e0]at ha
    have hp:=p84 f d ((a:Int)+1) none l ck (g.steps+1) place g.high none pl s g.counts g.seen c x (by omega) o2
    generalize bY ck 7 c.type0 x=r at ha hp
    unfold fe at ha
    by_cases h0:r.2=0
    ·rw[TL h0]at ha hp
     rw[ha]
     refine go _ _ _ ha ?_
     rw[N_ b e l ck g.steps place g.high argv z f d a g.counts g.seen pl (x::s) e0 hc hs s0 s1 (by omega) hp rfl rfl (λ_=>rfl) nofun,hse (by omega)]
     rfl
    ·rw[TK h0]at ha hp
     rw[ha]
     refine stop _ 0 ?_
     rw[N_ b e l ck g.steps place g.high argv z f d a g.counts g.seen pl (x::s) e0 hc hs s0 s1 (by omega) hp rfl rfl (λ_=>rfl) nofun]
     rfl
   ·obtain⟨x,s,rfl⟩:=dR rfl (by rw[(bv hr.1 hr.2 (by omega)).2 (by omega)]at ht;exact ht)
    rw[Qz]at hst
    have ha:cf ck c ((a:Int)+1) pl (x::s)=fe (bY ck c.op c.type0 x) ((a:Int)+1) pl s:=Jb (by omega)
    rw[e0]at ha
    have hal2:bY ck 8 c.type0 x=(jH (x.n==0),0):=rfl
    rw[hal2]at ha
    have ha2:cf ck c ((a:Int)+1) pl (x::s)= .go ((a:Int)+1) pl (jH (x.n==0)::s):=ha
    rw[ha2]
    refine go _ _ _ ha2 ?_
    rw[OA b e l ck g.steps place g.high argv z f d a g.counts g.seen pl (x::s) e0 hc hs s0 s1 (by omega) (p85 f d ((a:Int)+1) none l ck (g.steps+1) place g.high none pl s g.counts g.seen c x (by omega)) rfl rfl (λ_=>rfl) nofun,hse (by omega)]
    rfl
   ·have o2:=Hh hcode (by omega)
    obtain⟨x,s,rfl⟩:=dR rfl (by rw[(bv hr.1 hr.2 (by omega)).2 (by omega)]at ht;exact ht)
    rw[Qz]at hst
    have ha:cf ck c ((a:Int)+1) pl (x::s)=fe (bY ck c.op c.type0 x) ((a:Int)+1) pl s:=Jb (by omega)
    rw[e0]at ha
    have hp:=p86 f d ((a:Int)+1) none l ck (g.steps+1) place g.high none pl s g.counts g.seen c x (by omega) o2
    generalize bY ck 9 c.type0 x=r at ha hp
    unfold fe at ha
    by_cases h0:r.2=0
    ·rw[TL h0]at ha hp
     rw[ha]
     refine go _ _ _ ha ?_
     rw[Oa b e l ck g.steps place g.high argv z f d a g.counts g.seen pl (x::s) e0 hc hs s0 s1 (by omega) hp rfl rfl (λ_=>rfl) nofun,hse (by omega)]
     rfl
    ·rw[TK h0]at ha hp
     rw[ha]
     refine stop _ 0 ?_
     rw[Oa b e l ck g.steps place g.high argv z f d a g.counts g.seen pl (x::s) e0 hc hs s0 s1 (by omega) hp rfl rfl (λ_=>rfl) nofun]
     rfl
   ·have o2:=Hh hcode (by omega)
    obtain⟨x,s,rfl⟩:=dR rfl (by rw[(bv hr.1 hr.2 (by omega)).2 (by omega)]at ht;exact ht)
    rw[Qz]at hst
    have ha:cf ck c ((a:Int)+1) pl (x::s)=fe (bY ck c.op c.type0 x) ((a:Int)+1) pl s:=Jb (by omega)
    rw[e0]at ha
    have hal2:bY ck 10 c.type0 x=(cI (bt c.type0 x.n),0):=rfl
    rw[hal2]at ha
    have ha2:cf ck c ((a:Int)+1) pl (x::s)= .go ((a:Int)+1) pl (cI (bt c.type0 x.n)::s):=ha
    rw[ha2]
    refine go _ _ _ ha2 ?_
    rw[OB b e l ck g.steps place g.high argv z f d a g.counts g.seen pl (x::s) e0 hc hs s0 s1 (by omega) (p87 f d ((a:Int)+1) none l ck (g.steps+1) place g.high none pl s g.counts g.seen c x (by omega) o2) rfl rfl (λ_=>rfl) nofun,hse (by omega)]
    rfl
   ·obtain⟨x,s,rfl⟩:=dR rfl (by rw[(bv hr.1 hr.2 (by omega)).2 (by omega)]at ht;exact ht)
    rw[Qz]at hst
    have ha:cf ck c ((a:Int)+1) pl (x::s)=fe (bY ck c.op c.type0 x) ((a:Int)+1) pl s:=Jb (by omega)
    rw[e0]at ha
    have hp:=p88 f d ((a:Int)+1) none l ck (g.steps+1) place g.high none pl s g.counts g.seen c x (by omega)
    generalize bY ck 11 c.type0 x=r at ha hp
    unfold fe at ha
    by_cases h0:r.2=0
    ·rw[TL h0]at ha hp
     rw[ha]
     refine go _ _ _ ha ?_
     rw[Ob b e l ck g.steps place g.high argv z f d a g.counts g.seen pl (x::s) e0 hc hs s0 s1 (by omega) hp rfl rfl (λ_=>rfl) nofun,hse (by omega)]
     rfl
    ·rw[TK h0]at ha hp
     rw[ha]
     refine stop _ 0 ?_
     rw[Ob b e l ck g.steps place g.high argv z f d a g.counts g.seen pl (x::s) e0 hc hs s0 s1 (by omega) hp rfl rfl (λ_=>rfl) nofun]
     rfl
   ·obtain⟨x,s,rfl⟩:=dR rfl (by rw[(bv hr.1 hr.2 (by omega)).2 (by omega)]at ht;exact ht)
    rw[Qz]at hst
    have ha:cf ck c ((a:Int)+1) pl (x::s)=if x.null=true then .go c.a pl s else .go ((a:Int)+1) pl (x::s):=by simp[cf,e0]
    have hp:=p89 f d ((a:Int)+1) none l ck (g.steps+1) place g.high none pl s g.counts g.seen c x (by omega)
    by_cases h0:x.null=true
    ·rw[TL h0]at ha hp
     rw[ha]
     refine go _ _ _ ha ?_
     rw[Oc b e l ck g.steps place g.high argv z f d a g.counts g.seen pl (x::s) e0 hc hs s0 s1 (by omega) hp rfl rfl (λ_=>rfl) nofun,hse (by omega),fm (λq=>by have:=hh q;simp only[Qz]at this;omega)]
     rfl
    ·rw[TK h0]at ha hp
     rw[ha]
     refine go _ _ _ ha ?_
     rw[Oc b e l ck g.steps place g.high argv z f d a g.counts g.seen pl (x::s) e0 hc hs s0 s1 (by omega) hp rfl rfl (λ_=>rfl) nofun,hse (by omega),fm hh]
     rfl
   ·obtain⟨x,s,rfl⟩:=dR rfl (by rw[(bv hr.1 hr.2 (by omega)).2 (by omega)]at ht;exact ht)
    rw[Qz]at hst
    have ha:cf ck c ((a:Int)+1) pl (x::s)=if x.err=Qa #[]then .go ((a:Int)+1) pl (x::s)else .go c.a pl (x::s):=by simp[cf,e0]
    have hp:=p90 f d ((a:Int)+1) none l ck (g.steps+1) place g.high none pl s g.counts g.seen c x (by omega)
    by_cases h0:x.err=Qa #[]
    ·rw[TL h0]at ha hp
     rw[ha]
     refine go _ _ _ ha ?_
     rw[Od b e l ck g.steps place g.high argv z f d a g.counts g.seen pl (x::s) e0 hc hs s0 s1 (by omega) hp rfl rfl (λ_=>rfl) (λ_=>rfl),hse (by omega),fm hh]
     rfl
    ·rw[TK h0]at ha hp
     rw[ha]
     refine go _ _ _ ha ?_
     rw[Od b e l ck g.steps place g.high argv z f d a g.counts g.seen pl (x::s) e0 hc hs s0 s1 (by omega) hp rfl rfl (λ_=>rfl) (λ_=>rfl),hse (by omega),fm hh]
     rfl
   ·have ha:cf ck c ((a:Int)+1) pl st= .go c.a pl st:=by simp[cf,e0]
    rw[ha]
    refine go _ _ _ ha ?_
    rw[OC b e l ck g.steps place g.high argv z f d a g.counts g.seen pl st e0 hc hs s0 s1 (by omega) (p91 f d ((a:Int)+1) none l ck (g.steps+1) place g.high none pl st g.counts g.seen c) rfl rfl (λ_=>rfl) (λ_=>rfl),hse (by omega),fm hh]
    rfl
   ·obtain⟨x,s,rfl⟩:=dR rfl (by rw[(bv hr.1 hr.2 (by omega)).2 (by omega)]at ht;exact ht)
    rw[Qz]at hst
    have ha:cf ck c ((a:Int)+1) pl (x::s)= .go (if x.n=0 then c.a else(a:Int)+1) pl s:=by
     by_cases h0:x.n=0<;>simp[cf,e0,h0]
    rw[ha]
    refine go _ _ _ ha ?_
    rw[OD b e l ck g.steps place g.high argv z f d a g.counts g.seen pl (x::s) e0 hc hs s0 s1 (by omega) (p92 f d ((a:Int)+1) none l ck (g.steps+1) place g.high none pl s g.counts g.seen c x (by omega)) rfl rfl (λ_=>rfl) nofun,hse (by omega),fm (λq=>by have:=hh q;simp only[Qz]at this;omega)]
    rfl
   ·have ha:=(u9 hcode (ck:=ck) (at1:=(a:Int)+1) (pl:=pl) (st:=st)).mpr e0
    rw[ha]
    obtain⟨k,h,n,h1,h2,h3,h4,h5,h6,h7,h8,h9,h10⟩:=sf R A hc e0
    simp only[h1,h3,h4,Qp]
    by_cases hd:30<d+1
    ·rw[TL hd]
     have q:=p93 R h1 h4 h5 hst f (at1:=(a:Int)+1) hd1 hd2 ck place pl {g with steps:=g.steps+1} (x:=cI 0) (g2:={g with steps:=g.steps+1}) rfl (Eo (g:={g with steps:=g.steps+1}) hd)
     refine .inr ⟨by simp[Ci],?_⟩
     rw[L6 b e l ck g.steps place g.high argv z f d a g.counts g.seen pl st e0 hc hs s0 s1 (by omega) q rfl rfl nofun nofun]
     simp only[Ci,G.stop]
     rfl
    ·rw[TK hd]
     have G1:OkG l {g with steps:=g.steps+1,counts:=tB g.counts k}:=⟨by simp only[];omega,by simp only[];omega,G.kind,G.stop,by simp only[tB,QU];exact G.cnt,G.seen⟩
     have A1:=h10 (by omega)
     have L:=gK R ck place N h (d+1) 0 _ [] _ A1 G1
     have I:=jA R ck place N h (d+1) 0 _ [] _ A1 G1 (λq=>by omega) (by simp only[];omega) (st.length-n) n ((st.map val).reverse) (val (cI 0))
     rw[Q_]at L I
     generalize hrr:fg l ck place N h (d+1) 0 (cF h (st.take n).reverse) [] {g with steps:=g.steps+1,counts:=tB g.counts k}=r at L I⊢
     have L0:=L.s0
     have L1:=L.s1
     have Lh:=L.high (by omega)
     simp only[]at L0 Lh
     have h40:=p40 h3 (b:=st.length-n) (e:=n) (argv:=(st.map val).reverse) (args:=(st.take n).reverse) (by rw[j6];omega) (GJ st h5).2 (by simp;omega) (ck:=ck) (place:=place) (d:=d+1) (g:={g with steps:=g.steps+1}) (by omega) (by omega) h8 G.kind G.cnt h2 (λq=>by omega) (λq=>by omega) (r:=r) (by
      rw[TK (λq=>by omega)]
      exact I) L.zero
     have q:=p93 R h1 h4 h5 hst f (at1:=(a:Int)+1) hd1 hd2 ck place pl {g with steps:=g.steps+1} (x:=r.1) (g2:=r.2) (by rw[L.cnt];exact G.cnt.symm) h40
     by_cases hk:r.2.kind=0
     ·rw[TL hk]
      have een:zA r.2=none:=by unfold zA;rw[TL hk]
      rw[een]at q
      have G2:OkG l {r.2 with high:=du d r.2.high (st.length-n+1)}:=⟨by simp only[];omega,L1,hk,L.stop hk,L.cnt,L.seen⟩
      have ih:=jA R ck place N f d (a+1) pl _ _ (h9 r.1) G2 (λq=>by
       have:(((r.1::st.drop n).length:Nat):Int)=((st.length-n+1:Nat):Int):=by rw[Qz,QN]
       rw[this];exact vD q) (by simp only[];omega) b e argv z
      have e1:(((a+1:Nat):Int))=(a:Int)+1:=rfl
      rw[e1]at ih
      unfold th at ih⊢
      rw[e1]at ih
      rw[L6 b e l ck g.steps place g.high argv z f d a g.counts g.seen pl st e0 hc hs s0 s1 (by omega) q rfl (by rw[L.cnt];exact G.cnt.symm) nofun nofun]
      exact ih
     ·rw[TK hk]
      have een:zA r.2=some (aT.mk r.2.kind r.2.stop):=by unfold zA;rw[TK hk]
      rw[een]at q
      refine .inr ⟨hk,?_⟩
      rw[L6 b e l ck g.steps place g.high argv z f d a g.counts g.seen pl st e0 hc hs s0 s1 (by omega) q rfl (by rw[L.cnt];exact G.cnt.symm) nofun nofun]
      rfl
   ·obtain⟨x,s,rfl⟩:=dR rfl (by rw[(bv hr.1 hr.2 (by omega)).2 (by omega)]at ht;exact ht)
    rw[Qz]at hst
    have ha:cf ck c ((a:Int)+1) pl (x::s)= .ret x:=by simp[cf,e0]
    rw[ha]
    refine ret x ((a:Int)+1) pl s ?_
    rw[OE b e l ck g.steps place g.high argv z f d a g.counts g.seen pl (x::s) e0 hc hs s0 s1 (by omega) (p94 f d ((a:Int)+1) none l ck (g.steps+1) place g.high none pl s g.counts g.seen c x (by omega)) rfl rfl (λ_=>rfl) nofun]
    rfl
   ·have ha:cf ck c ((a:Int)+1) pl st= .go ((a:Int)+1) pl (Item.mk 0 false c.name0::st):=by simp[cf,e0]
    rw[ha]
    refine go _ _ _ ha ?_
    rw[OG b e l ck g.steps place g.high argv z f d a g.counts g.seen pl st e0 hc hs s0 s1 (by omega) (p95 f d ((a:Int)+1) none l ck (g.steps+1) place g.high none pl st g.counts g.seen c (by omega)) rfl rfl (λ_=>rfl) nofun,hse (by omega)]
    rfl
   ·have ha:cf ck c ((a:Int)+1) pl st=if ck=true then .stop c.a else .ret (cI 0):=by simp[cf,e0]
    have hp:=p96 f d ((a:Int)+1) none l ck (g.steps+1) place g.high none pl st g.counts g.seen c
    by_cases h0:ck=true
    ·rw[TL h0]at ha hp
     rw[ha]
     refine stop _ 0 ?_
     rw[Oe b e l ck g.steps place g.high argv z f d a g.counts g.seen pl st e0 hc hs s0 s1 (by omega) hp rfl rfl (λ_=>rfl) (λ_=>rfl)]
     rfl
    ·rw[TK h0]at ha hp
     rw[ha]
     refine ret _ ((a:Int)+1) pl st ?_
     rw[Oe b e l ck g.steps place g.high argv z f d a g.counts g.seen pl st e0 hc hs s0 s1 (by omega) hp rfl rfl (λ_=>rfl) (λ_=>rfl)]
     rfl
end Go.Proofs.YtcghbgmmgcljkaaGreatDoor
end
section
namespace Go.Proofs.YtcghbgmmgcljkaaGreatDoor
open IntKind (i64)
set_option maxRecDepth 20000
set_option maxHeartbeats 4000000
def rt(k:Nat)(l:List af)(d:Int)(ck:Bool)(at1 steps high place:Int)(i0:Item)(lg:Log)(pl st:List Item)(cnt:List Int)(sn:List Item):=
 (l,(k:Int),d,ck,at1,(0:Int),(0:Int),steps,high,place,i0,lg,pl,st.reverse,cnt,sn,())
section
variable (k:Nat) {l:List af} {d:Int} (ck:Bool) (a:Nat) {steps high:Int} (place:Int) (i0:Item) (lg:Log) (pl:List Item) (cnt:List Int) (sn:List Item) {f:af} {c:au}
end
end Go.Proofs.YtcghbgmmgcljkaaGreatDoor
end
section
namespace Go.Proofs.YtcghbgmmgcljkaaGreatDoor
open IntKind (i64)
set_option maxRecDepth 20000
set_option maxHeartbeats 4000000
end Go.Proofs.YtcghbgmmgcljkaaGreatDoor
end
section
namespace Go.Proofs.YtcghbgmmgcljkaaGreatDoor
set_option maxRecDepth 20000
set_option maxHeartbeats 4000000
end Go.Proofs.YtcghbgmmgcljkaaGreatDoor
end
section
namespace Go.Proofs.YtcghbgmmgcljkaaGreatDoor
set_option maxRecDepth 20000
set_option maxHeartbeats 4000000
def itm(v:ah):Item:=Item.mk v.n v.null v.err
theorem pi(args:List ah)(hl:args.length<=4294967296):∀(j k:Nat) (out:List ah),k+j=args.length->out.length=k->
 cL (args,(args.length:Int),(k:Int),out,())=some (out++(args.drop k).map (λv=>val (itm v)),())
 |0,k,out,h,ho=>by
  rw[cL,cY (by omega)]
  have:¬(k:Int)<(args.length:Int):=by omega
  simp[this]
 |j+1,k,out,h,ho=>by
  obtain⟨x,hx,hm,hd⟩:=cA (l:=args) (k:=k) (by omega)
  have h1:(k:Int)<(args.length:Int):=by omega
  have h2:(0:Int)<=(k:Int):=by omega
  have w:IntKind.i64.wrap ((k:Int)+1)=((k+1:Nat):Int):=by rw[w64 (by omega) (by omega)];omega
  have hle:∀v:ah,out.length+[v].length<=4294967296:=by intro v;simp;omega
  have ih:=pi args hl j (k+1) (out++[val (itm x)]) (by omega) (by simp;omega)
  rw[cL,hd]
  simp only[h1,h2,TM,TH,Qp,hx,Qh,P_,hle,w]
  refine Eq.trans ih ?_
  rw[Qj,Q2]
  rfl
theorem Ev(args:List ah)(hl:args.length<=4294967296):jq (args,())=some ((args.map itm).map val,()):=by
 have h:=pi args hl _ 0 [] (Qt _) rfl
 rw[Q_,QW,QJ]at h
 rw[jq,h,QA]
 rfl
def tc(r:Item×Lg):bh:=if r.2.kind=0 then bh.mk 0 (val r.1) 0 []else bh.mk r.2.kind (val (cI 0)) r.2.stop []
structure GT (l:List af) (s:ByteArray) (args:List ah) (k:Nat) (f:af):Prop where
 runs:og l
 name:bP l s=(k:Int)
 lt:k<l.length
 get:l[k]?=some f
 fit:(args.length:Int)=f.params
theorem yG{l:List af}(hl:l.length<=3000)(h3:∀f∈l,f.code.length<=3000){s:ByteArray}{args:List ah}(h:dz l s args=0):∃k f,GT l s args k f:=by
 unfold dz at h
 by_cases hc:gk l=0
 ·rw[TL hc]at h
  rcases qf l s with hf|⟨k,g,hk,hkl,hg⟩
  ·rw[TL hf]at h;cases h
  ·rw[TK (by omega),hk,Qp,hg]at h
   simp only at h
   by_cases hp:(args.length:Int)=g.params
   ·exact⟨k,g,Io hl h3 (jR.mp hc),hk,hkl,hg,hp⟩
   ·rw[TK hp]at h;cases h
 ·rw[TK hc]at h;exact absurd h hc
theorem vi{l:List af}{s:ByteArray}{args:List ah}{k:Nat}{f:af}(A:GT l s args k f)(place:Int):
 OkA l f 1 0 (cF f (args.map itm)) []/\OkG l (lg1 l place k f (args.map itm)):=by
 have hm:=Qk A.get
 obtain⟨_,p0,p1,_⟩:=A.runs.fns f hm
 have hfit:=A.fit
 refine⟨⟨hm,Reach.start,?_,by decide,by decide⟩,⟨R0 0,show(0:Int)<=40000 by decide,rfl,rfl,?_,?_⟩⟩
 ·unfold cF
  rw[Qx,Rf,Qb]
  omega
 ·unfold lg1 lg0 tB
  simp only[QU,Rf]
 ·unfold lg1 lg0
  simp only[]
  split
  ·simp
  ·simp
theorem EG{l:List af}{s:ByteArray}{args:List ah}{k:Nat}{f:af}(A:GT l s args k f)(ck:Bool)(place:Int):
 Left l 1 (lg1 l place k f (args.map itm)) (pq l ck place k f (args.map itm)):=by
 obtain⟨b1,b2⟩:=vi A place
 exact gK A.runs ck place 40000 f 1 0 _ [] _ b1 b2
theorem OJ{l:List af}{s:ByteArray}{args:List ah}{k:Nat}{f:af}(A:GT l s args k f)(ha:args.length<=4294967296)(ck:Bool)(place:Int)(hp:place<f.places){r:Item×Lg}(hr:r=pq l ck place k f (args.map itm)):
 IZ (l,(k:Int),args,ck,place,())=some (l,ck,r.2.steps,place,r.2.high,zA r.2,r.2.counts,r.2.seen.map val,tc r,()):=by
 have hm:=Qk A.get
 obtain⟨_,p0,p1,_⟩:=A.runs.fns f hm
 have p2:=A.runs.places f hm
 have hfit:=A.fit
 have hll:=A.runs.len
 obtain⟨b1,b2⟩:=vi A place
 have L:=EG A ck place
 have I:=jA A.runs ck place 40000 f 1 0 _ [] _ b1 b2 (λ_=>by unfold lg1 lg0;simp) (by unfold lg1 lg0;simp) 0 args.length ((args.map itm).map val) (val (cI 0))
 have e:fg l ck place 40000 f 1 ((0:Nat):Int) (cF f (args.map itm)) [] (lg1 l place k f (args.map itm))=r:=by rw[hr];rfl
 rw[e]at I
 rw[<-hr]at L
 have h40:=p40 A.get (b:=0) (e:=args.length) (argv:=(args.map itm).map val) (args:=args.map itm) (by simp) (by rw[QW,QP (by simp)]) (by simp) (ck:=ck) (place:=place) (d:=1) (g:=lg0 l) (by decide) (by omega) p2 rfl (by simp[lg0]) A.lt (λ_=>hp) (λ_=>by simp[lg0]) (r:=r) I L.zero
 have hl4:(l.length:Int)<=4294967296:=by omega
 have hal:(((args.map itm).map val).length:Int)=(args.length:Int):=by simp
 have hcl:r.2.counts.length=(QL l.length (0:Int)).length:=by rw[L.cnt,Rf]
 unfold lg0 at h40
 rw[QO]at h40
 simp only[Q_]at h40
 rw[IZ]
 have z:ah.mk (ak.mk 0 0 (Qa #[]) false false) 0 false (Qa #[]) (ak.mk 0 0 (Qa #[]) false false)=val (cI 0):=rfl
 have nz:((0:Nat):Int)=0:=rfl
 simp only[hl4,TH,Qh,P_,Ev args ha,Qp,hal,nz,h40,hcl]
 unfold zA tc
 by_cases hk:r.2.kind=0
 ·simp only[hk,TH,Option.isSome_none,Qf,TI]
  try rfl
 ·simp only[hk,TI,St,TH,P_]
  try rfl
end Go.Proofs.YtcghbgmmgcljkaaGreatDoor
end
section
namespace Go.Proofs.YtcghbgmmgcljkaaGreatDoor
set_option maxRecDepth 20000
set_option maxHeartbeats 4000000
theorem pj{r1 r2:Item×Int}{at1:Int}{pl s:List Item}(h:r1.2≠0\/r1=r2):fe r1 at1 pl s=fe r2 at1 pl s\/∃w,fe r1 at1 pl s= .stop w:=by
 rcases h with h|h
 ·right;exact⟨r1.2,by unfold fe;rw[TK h]⟩
 ·left;rw[h]
theorem Em(op:Int)(t:ak)(y x:Item):(opS true op t y x).2≠0\/opS true op t y x=opS false op t y x:=by
 unfold opS
 generalize doS op (t.base==3) t.bits (bt t y.n) (bt t x.n)=r
 by_cases h:r.2=0
 ·right;simp[h]
 ·left;simp[h]
theorem tn(op:Int)(t:ak)(x:Item):(bY true op t x).2≠0\/bY true op t x=bY false op t x:=by
 unfold bY
 by_cases h8:op=8
 ·right;simp[h8]
 by_cases h11:op=11
 ·cases hn:x.null
  ·right;simp[h11]
  ·left;simp[h11]
 by_cases h7:op=7
 ·by_cases hi:inT (t.base==3) t.bits (-(bt t x.n))
  ·right;simp[h7,hi]
  ·left;simp[h7,hi]
 by_cases h9:op=9
 ·by_cases hi:inT (t.base==3) t.bits x.n
  ·right;simp[h9,hi]
  ·left;simp[h9,hi]
 ·right;simp[h8,h11,h7,h9]
theorem yH(c:au)(at1:Int)(pl st:List Item):cf true c at1 pl st=cf false c at1 pl st\/∃w,cf true c at1 pl st= .stop w:=by
 by_cases h5:c.op=5
 ·have e:∀ck,cf ck c at1 pl st=fe (opS ck c.a c.type0 (st.tail.headD (cI 0)) (st.headD (cI 0))) at1 pl st.tail.tail:=by intro ck;simp[cf,h5]
  rw[e,e]
  exact pj (Em _ _ _ _)
 by_cases h7:c.op=7\/c.op=8\/c.op=9\/c.op=10\/c.op=11
 ·have e:∀ck,cf ck c at1 pl st=fe (bY ck c.op c.type0 (st.headD (cI 0))) at1 pl st.tail:=by
   intro ck
   rw[cf,TK (by omega),TK (by omega),TK (by omega),TK (by omega),TK (by omega),TK (by omega),TK h5,TK (by omega),TL h7]
  rw[e,e]
  exact pj (tn _ _ _)
 by_cases h:c.op=0\/c.op=1\/c.op=18\/c.op=2\/c.op=3\/c.op=4\/c.op=6\/c.op=12\/c.op=13\/c.op=14\/c.op=15\/c.op=16\/c.op=17
 ·left
  rcases h with h|h|h|h|h|h|h|h|h|h|h|h|h<;>simp[cf,h]
 ·right
  refine⟨c.a,?_⟩
  rw[cf,TK (by omega),TK (by omega),TK (by omega),TK (by omega),TK (by omega),TK (by omega),TK h5,TK (by omega),TK h7,TK (by omega),TK (by omega),TK (by omega),TK (by omega),TK (by omega),TK (by omega),TL rfl]
theorem hH(l:List af)(place:Int):∀(N:Nat) (f:af) (d at0:Int) (pl st:List Item) (g:Lg),g.kind=0->(fg l true place N f d at0 pl st g).2.kind=1\/fg l true place N f d at0 pl st g=fg l false place N f d at0 pl st g
 |0,f,d,at0,pl,st,g,hg=> .inr (by rw[fg,fg])
 |N+1,f,d,at0,pl,st,g,hg=>by
  rw[fg,fg]
  by_cases hs:g.steps=40000
  ·rw[TL hs,TL hs];exact .inr rfl
  ·rw[TK hs,TK hs]
   cases hc:f.code[at0.toNat]? with
   |none=>exact .inr rfl
   |some c=>
    simp only[]
    rcases yH c (at0+1) pl st with hm|⟨w,hw⟩
    ·rw[<-hm]
     cases cf true c (at0+1) pl st with
     |go at1 pl1 st1=>exact hH l place N f d at1 pl1 st1 _ hg
     |ret x=>exact .inr rfl
     |stop w=>exact .inr rfl
     |call=>
      simp only[]
      cases hf:l[(bP l c.name0).toNat]? with
      |none=>exact .inr rfl
      |some h=>
       simp only[]
       by_cases hd:30<d+1
       ·rw[TL hd,TL hd];exact .inr rfl
       ·rw[TK hd,TK hd]
        have ih:=hH l place N h (d+1) 0 (cF h (st.take c.b.toNat).reverse) [] {g with steps:=g.steps+1,counts:=tB g.counts (bP l c.name0).toNat} hg
        rcases ih with ih|ih
        ·left
         rw[TK (by rw[ih];decide)]
         exact ih
        ·rw[<-ih]
         generalize fg l true place N h (d+1) 0 (cF h (st.take c.b.toNat).reverse) [] {g with steps:=g.steps+1,counts:=tB g.counts (bP l c.name0).toNat}=r
         by_cases hk:r.2.kind=0
         ·rw[TL hk,TL hk]
          exact hH l place N f d (at0+1) pl _ _ hk
         ·rw[TK hk,TK hk];exact .inr rfl
    ·left
     rw[hw]
theorem Bn(l:List af)(place:Int)(k:Nat)(f:af)(args:List Item):(pq l true place k f args).2.kind=1\/pq l true place k f args=pq l false place k f args:=by
 unfold pq
 exact hH l place 40000 f 1 0 _ [] _ rfl
end Go.Proofs.YtcghbgmmgcljkaaGreatDoor
end
section
namespace Go.Proofs.YtcghbgmmgcljkaaGreatDoor
set_option maxRecDepth 20000
set_option maxHeartbeats 4000000
def Nm:au:=au.mk 19 5 0 (ak.mk 0 0 (Qa #[]) false false) (Qa #[])
def ext(e:Int)(f:af):af:=af.mk f.name0 f.params (f.places+e) f.type0 (f.code++[Nm])
end Go.Proofs.YtcghbgmmgcljkaaGreatDoor
end
section
namespace Go.Proofs.YtcghbgmmgcljkaaGreatDoor
set_option maxRecDepth 20000
set_option maxHeartbeats 4000000
theorem ss(l:List af)(hl:l.length<=4294967296):∀(j k:Nat) (a:Int),k+j=l.length->
 se (l,a,(k:Int),())=if(l.drop k).any (λf=>decide (f.places>2000))=true then some (.inl (true,()))else some (.inr (l,fA a (l.drop k),()))
 |0,k,a,h=>by
  rw[se,cY (by omega)]
  have:¬(k:Int)<(l.length:Int):=by omega
  simp[this,fA]
 |j+1,k,a,h=>by
  obtain⟨x,hx,hm,hd⟩:=cA (l:=l) (k:=k) (by omega)
  have h1:(k:Int)<(l.length:Int):=by omega
  have h2:(0:Int)<=(k:Int):=by omega
  have w:IntKind.i64.wrap ((k:Int)+1)=((k+1:Nat):Int):=by rw[w64 (by omega) (by omega)];omega
  have ih:=ss l hl j (k+1) (IntKind.i64.wrap (a+(x.code.length:Int))) (by omega)
  rw[se,hd]
  simp only[h1,h2,TM,TH,Qp,hx,Qh,P_,SU,w]
  by_cases hp:x.places>2000
  ·simp[hp]
  ·simp only[hp,TN,Qf,TI,SW]
   exact ih
theorem vn:∀(l:List af) (a:Int),0<=a->a+(l.length:Int) *4294967296<=4611686018427387904->(∀f∈l,f.code.length<=4294967296)->a<=fA a l/\∀f∈l,(f.code.length:Int)<=fA a l
 |[],a,h0,h1,h2=>⟨R0 _,λf hf=>by cases hf⟩
 |x::r,a,h0,h1,h2=>by
  have hx:=h2 x (Qi ..)
  rw[Qz]at h1
  have e:(((r.length+1:Nat):Int)) *4294967296=(r.length:Int) *4294967296+4294967296:=by rw[Int.natCast_add,Int.add_mul];rfl
  rw[e]at h1
  have hr:(0:Int)<=(r.length:Int) *4294967296:=Sy (by omega) (by decide)
  have w:IntKind.i64.wrap (a+(x.code.length:Int))=a+(x.code.length:Int):=w64 (by omega) (by omega)
  have ih:=vn r (a+(x.code.length:Int)) (by omega) (by omega) (λf hf=>h2 f (Qd _ hf))
  have ec:fA a (x::r)=fA (a+(x.code.length:Int)) r:=by unfold fA;rw[SJ,w]
  rw[ec]
  refine⟨by omega,λf hf=> ?_⟩
  rw[Ql]at hf
  rcases hf with hf|hf
  ·rw[hf];omega
  ·exact ih.2 f hf
theorem Ib(l:List af)(hl:l.length<=4294967296)(hc:∀f∈l,f.code.length<=4294967296):∃b,n_9 (l,())=some (b,())/\(b=false->l.length<=200/\∀f∈l,f.code.length<=3000):=by
 have h:=ss l hl _ 0 0 (Qt _)
 rw[Q_,QW]at h
 rw[n_9,h]
 by_cases ha:l.any (λf=>decide (f.places>2000))=true
 ·rw[TL ha];exact⟨true,rfl,λh=>by cases h⟩
 ·rw[TK ha]
  simp only[Qh,P_]
  by_cases h3:fA 0 l>3000
  ·simp only[h3,TM,TH,P_];exact⟨true,rfl,λh=>by cases h⟩
  ·simp only[h3,TN,Qf,TI,P_]
   refine⟨_,rfl,λhb=> ?_⟩
   have h2:l.length<=200:=by
    have:(l.length:Int)<=200:=by simpa using hb
    omega
   refine⟨h2,λf hf=> ?_⟩
   have:=(vn l 0 (R0 _) (by omega) hc).2 f hf
   omega
def veq(v w:ah):Bool:=Mp.ieq v.type0.base w.type0.base&&(Mp.ieq v.type0.bits w.type0.bits&&(Mp.seq v.type0.name0 w.type0.name0&&(Mp.beq v.type0.opt w.type0.opt&&(Mp.beq v.type0.err w.type0.err&&(Mp.ieq v.n w.n&&(Mp.beq v.null w.null&&(Mp.seq v.err w.err&&(Mp.ieq v.of0.base w.of0.base&&(Mp.ieq v.of0.bits w.of0.bits&&(Mp.seq v.of0.name0 w.of0.name0&&(Mp.beq v.of0.opt w.of0.opt&&Mp.beq v.of0.err w.of0.err)))))))))))
theorem Iq{a b:ByteArray}:Mp.seq a b=true↔a=b:=by
 obtain⟨a⟩:=a
 obtain⟨b⟩:=b
 show(a==b)=true↔_
 simp
theorem EJ(s:ByteArray):Mp.seq s s=true:=Iq.mpr rfl
theorem Fk(v:ah):veq v v=true:=by
 unfold veq
 simp[Mp.ieq,Mp.beq,EJ]
def EI(a b:bh):Bool:=(a.kind==b.kind)&&(veq a.value b.value&&(a.stop==b.stop))
theorem xQ(a:bh):EI a a=true:=by unfold EI;rw[Fk];simp
theorem Bq(a b:bh)(ha:a.trace=[])(hb:b.trace=[]):Lm (a,b,())=some (EI a b,()):=by
 have hl:nk (0,a,b,())=some (.inr ()):=by
  rw[nk]
  simp[ha]
 have hv:∀v w:ah,(Mp.ieq v.type0.base w.type0.base&&(Mp.ieq v.type0.bits w.type0.bits&&(Mp.seq v.type0.name0 w.type0.name0&&(Mp.beq v.type0.opt w.type0.opt&&(Mp.beq v.type0.err w.type0.err&&(Mp.ieq v.n w.n&&(Mp.beq v.null w.null&&(Mp.seq v.err w.err&&(Mp.ieq v.of0.base w.of0.base&&(Mp.ieq v.of0.bits w.of0.bits&&(Mp.seq v.of0.name0 w.of0.name0&&(Mp.beq v.of0.opt w.of0.opt&&Mp.beq v.of0.err w.of0.err))))))))))))=veq v w:=λ_ _=>rfl
 rw[Lm]
 unfold EI
 simp only[hv]
 by_cases hk:a.kind=b.kind
 ·have hk1:(a.kind !=b.kind)=false:=by simpa using hk
  have hk2:(a.kind==b.kind)=true:=by simpa using hk
  rw[hk1,hk2]
  cases hq:veq a.value b.value
  ·simp
  ·by_cases hs:a.stop=b.stop
   ·have hs1:(a.stop !=b.stop)=false:=by simpa using hs
    simp[hs,ha,hb,hl]
   ·have hs1:(a.stop !=b.stop)=true:=by simpa using hs
    simp[hs]
 ·have hk1:(a.kind !=b.kind)=true:=by simpa using hk
  have hk2:(a.kind==b.kind)=false:=by simpa using hk
  rw[hk1,hk2]
  simp
theorem pf(r:Item×Lg):(tc r).trace=[]:=by unfold tc;split<;>rfl
noncomputable def Bm(l:List af)(s:ByteArray)(args:List ah)(ck:Bool)(place:Int):Item×Lg:=
 match l[(bP l s).toNat]? with
 |some f=>pq l ck place (bP l s).toNat f (args.map itm)
 |none=>(cI 0,lg0 l)
theorem uu{l:List af}{s:ByteArray}{args:List ah}{k:Nat}{f:af}(A:GT l s args k f)(ck:Bool)(place:Int):Bm l s args ck place=pq l ck place k f (args.map itm):=by
 unfold Bm
 rw[A.name,Qp,A.get]
structure CJ (l:List af) (args:List ah):Prop where
 len:l.length<=3000
 code:∀f∈l,f.code.length<=3000
 args:args.length<=4294967296
section
variable {l:List af} {s:ByteArray} {args:List ah} (F:CJ l args)
include F
theorem Gu(h:dz l s args=0)(ck:Bool){place:Int}(hp:∀k f,GT l s args k f->place<f.places):
 IZ (l,bP l s,args,ck,place,())=some (l,ck,(Bm l s args ck place).2.steps,place,(Bm l s args ck place).2.high,zA (Bm l s args ck place).2,(Bm l s args ck place).2.counts,(Bm l s args ck place).2.seen.map val,tc (Bm l s args ck place),()):=by
 obtain⟨k,f,A⟩:=yG F.len F.code h
 rw[A.name]
 exact OJ A F.args ck place (hp k f A) (uu A ck place)
omit F in
theorem vO:∀(k:Nat) (f:af),GT l s args k f->(-1:Int)<f.places:=λk f A=>by
 obtain⟨_,p0,p1,_⟩:=A.runs.fns f (Qk A.get)
 omega
noncomputable def I5(l:List af)(s:ByteArray)(args:List ah)(ck:Bool):bh:=if dz l s args=0 then tc (Bm l s args ck (-1))else bh.mk 0 (val (cI 0)) 0 []
theorem Im(ck:Bool):HJ (l,s,args,ck,())=some (dz l s args,I5 l s args ck,()):=by
 rw[HJ]
 unfold I5
 simp only[nD l F.len F.code s args F.args,Qh,P_]
 by_cases h:dz l s args=0
 ·have e:=Gu F h ck (place:= -1) vO
  simp only[h,TH,bne_self_eq_false,Qf,TI,e,P_]
 ·have hb:(dz l s args !=0)=true:=by simpa using h
  simp only[hb,h,TH,TI]
  rfl
noncomputable def wl(l:List af)(s:ByteArray)(args:List ah)(ck:Bool):Int:=if dz l s args=0 then(Bm l s args ck (-1)).2.steps else 0
theorem Kt(ck:Bool):Kg (l,s,args,ck,())=some (wl l s args ck,dz l s args,()):=by
 rw[Kg]
 unfold wl
 simp only[nD l F.len F.code s args F.args,Qh,P_]
 by_cases h:dz l s args=0
 ·have e:=Gu F h ck (place:= -1) vO
  simp only[h,TH,bne_self_eq_false,Qf,TI,e,P_]
 ·have hb:(dz l s args !=0)=true:=by simpa using h
  simp only[hb,h,TH,TI]
end
end Go.Proofs.YtcghbgmmgcljkaaGreatDoor
end
section
namespace Go.Proofs.YtcghbgmmgcljkaaGreatDoor
set_option maxRecDepth 20000
set_option maxHeartbeats 4000000
section
variable {l:List af} {s:ByteArray} {args:List ah} (F:CJ l args)
include F
end
def t8:ak:=ak.mk 2 8 (Qa #[]) false false
def CB:au:=au.mk 0 200 0 t8 (Qa #[])
def CA:au:=au.mk 0 100 0 t8 (Qa #[])
def CD:au:=au.mk 5 5 0 t8 (Qa #[])
def yX:au:=au.mk 17 0 0 (ak.mk 0 0 (Qa #[]) false false) (Qa #[])
def kF:af:=af.mk (Qa #[102]) 0 0 t8 [CB,CA,CD,yX]
theorem Hz:aQ CB=0/\aQ CA=0/\aQ CD=2/\aQ yX=1:=by
 unfold aQ CB CA CD yX
 simp
theorem qj{a:Nat}{h:Int}(r:Reach kF a h):(a=0/\h=0)\/(a=1/\h=1)\/(a=2/\h=2)\/(a=3/\h=1):=by
 induction r with
 |start=>exact .inl ⟨rfl,rfl⟩
 | @step a h c b k r hc hk hw hb ih=>
  rcases ih with⟨e1,e2⟩|⟨e1,e2⟩|⟨e1,e2⟩|⟨e1,e2⟩
  ·subst e1 e2
   have:c=CB:=(Re hc).symm
   subst this
   rcases b_.mp hw with⟨h1,_⟩|⟨_,h2,h3⟩
   ·simp[cS,CB]at h1
   ·right;left
    refine⟨by omega,?_⟩
    rw[h3];simp[bz,aQ,bm,CB]
  ·subst e1 e2
   have:c=CA:=(Re hc).symm
   subst this
   rcases b_.mp hw with⟨h1,_⟩|⟨_,h2,h3⟩
   ·simp[cS,CA]at h1
   ·right;right;left
    refine⟨by omega,?_⟩
    rw[h3];simp[bz,aQ,bm,CA]
  ·subst e1 e2
   have:c=CD:=(Re hc).symm
   subst this
   rcases b_.mp hw with⟨h1,_⟩|⟨_,h2,h3⟩
   ·simp[cS,CD]at h1
   ·right;right;right
    refine⟨by omega,?_⟩
    rw[h3];simp[bz,aQ,bm,CD]
  ·subst e1 e2
   have:c=yX:=(Re hc).symm
   subst this
   rcases b_.mp hw with⟨h1,_⟩|⟨h1,_,_⟩
   ·simp[cS,yX]at h1
   ·simp[gr,yX]at h1
theorem Ab:¬iW kF:=by
 rintro⟨a,h,c,r,hc,hF⟩
 obtain⟨t1,t2,t3,t4⟩:=Hz
 have hl:(kF.code.length:Int)=4:=rfl
 have two:∀h',Reach kF a h'->h'=h:=by
  intro h' r'
  have q1:=qj r
  have q2:=qj r'
  omega
 rcases hF with hF|⟨_,k,hw⟩|⟨h',r',hne⟩
 ·rcases qj r with⟨e1,e2⟩|⟨e1,e2⟩|⟨e1,e2⟩|⟨e1,e2⟩
  ·subst e1 e2
   have:c=CB:=(Re hc).symm
   subst this
   exact hF ⟨by omega,by omega⟩
  ·subst e1 e2
   have:c=CA:=(Re hc).symm
   subst this
   exact hF ⟨by omega,by omega⟩
  ·subst e1 e2
   have:c=CD:=(Re hc).symm
   subst this
   exact hF ⟨by omega,by omega⟩
  ·subst e1 e2
   have:c=yX:=(Re hc).symm
   subst this
   exact hF ⟨by omega,by omega⟩
 ·rw[hl]at hw
  rcases qj r with⟨e1,e2⟩|⟨e1,e2⟩|⟨e1,e2⟩|⟨e1,e2⟩
  ·subst e1 e2
   have:c=CB:=(Re hc).symm
   subst this
   rcases b_.mp hw with⟨h1,_⟩|⟨_,h2,h3⟩
   ·simp[cS,CB]at h1
   ·omega
  ·subst e1 e2
   have:c=CA:=(Re hc).symm
   subst this
   rcases b_.mp hw with⟨h1,_⟩|⟨_,h2,h3⟩
   ·simp[cS,CA]at h1
   ·omega
  ·subst e1 e2
   have:c=CD:=(Re hc).symm
   subst this
   rcases b_.mp hw with⟨h1,_⟩|⟨_,h2,h3⟩
   ·simp[cS,CD]at h1
   ·omega
  ·subst e1 e2
   have:c=yX:=(Re hc).symm
   subst this
   rcases b_.mp hw with⟨h1,_⟩|⟨h1,_,_⟩
   ·simp[cS,yX]at h1
   ·simp[gr,yX]at h1
 ·exact hne (two h' r')
theorem HA:dS [kF]=0:=by kernel_rfl
theorem Gl:bP [kF] (Qa #[102])=0:=by kernel_rfl
theorem z_:dz [kF] (Qa #[102]) []=0:=by
 have hc:gk [kF]=0:=jR.mpr ⟨HA,by
  rintro⟨f,hf,hF⟩
  rw[Q4]at hf
  subst hf
  exact Ab hF⟩
 unfold dz
 rw[TL hc,Gl]
 rfl
theorem Gm:CJ [kF] []:=⟨by simp,by intro f hf;rw[Q4]at hf;rw[hf];simp[kF],by simp⟩
theorem Gn:(pq [kF] true (-1) 0 kF []).2.kind=1/\(pq [kF] true (-1) 0 kF []).2.stop=1:=⟨by kernel_rfl,by kernel_rfl⟩
theorem Aa:(pq [kF] false (-1) 0 kF []).2.kind=0/\(pq [kF] false (-1) 0 kF []).1.n=44:=⟨by kernel_rfl,by kernel_rfl⟩
theorem fE:IY ()=some (true,()):=by
 have r1:=Im Gm (s:=Qa #[102]) true
 have r2:=Im Gm (s:=Qa #[102]) false
 have e:∀ck,I5 [kF] (Qa #[102]) [] ck=tc (pq [kF] ck (-1) 0 kF []):=by
  intro ck
  unfold I5 Bm
  rw[TL z_,Gl]
  rfl
 rw[z_,e]at r1 r2
 have o1:(tc (pq [kF] true (-1) 0 kF [])).kind=1/\(tc (pq [kF] true (-1) 0 kF [])).stop=1:=by
  unfold tc
  rw[TK (by rw[Gn.1];decide)]
  exact Gn
 have o2:(tc (pq [kF] false (-1) 0 kF [])).value.n=44:=by
  unfold tc
  rw[TL Aa.1]
  exact Aa.2
 unfold kF CB CA CD yX t8 at r1 r2 o1 o2
 rw[IY]
 simp only[r1,r2,o1,o2,Qh,P_,beq_self_eq_true,TH]
end Go.Proofs.YtcghbgmmgcljkaaGreatDoor
end
section
namespace Go.Proofs.YtcghbgmmgcljkaaGreatDoor
set_option maxRecDepth 20000
set_option maxHeartbeats 4000000
section
variable (l:List af) (x:fS) (hl:l.length<=4294967296) (hc:∀f∈l,f.code.length<=4294967296) (ha:x.args.length<=4294967296)
include hl hc ha
theorem Oo:n_5 (l,x,())=some (true,()):=by
 obtain⟨b,hb,hb2⟩:=Ib l hl hc
 rw[n_5]
 simp only[hb,Qh,P_]
 cases b
 ·obtain⟨h1,h2⟩:=hb2 rfl
  have F:CJ l x.args:=⟨by omega,h2,ha⟩
  simp only[Qf,TI,Im F,Kt F,P_,bne_self_eq_false]
  by_cases h:dz l x.name0 x.args=0
  ·obtain⟨k,f,A⟩:=yG F.len F.code h
   have o:∀ck,I5 l x.name0 x.args ck=tc (pq l ck (-1) k f (x.args.map itm)):=λck=>by unfold I5;rw[TL h,uu A]
   have st:∀ck,wl l x.name0 x.args ck=(pq l ck (-1) k f (x.args.map itm)).2.steps:=λck=>by unfold wl;rw[TL h,uu A]
   rcases Bn l (-1) k f (x.args.map itm)with hm|hm
   ·have hk:((tc (pq l true (-1) k f (x.args.map itm))).kind==1)=true:=by
     unfold tc
     rw[TK (by rw[hm];decide)]
     simp[hm]
    simp only[h,bne_self_eq_false,Qf,TI,o,hk,TH,P_,fE]
   ·by_cases hk:((tc (pq l true (-1) k f (x.args.map itm))).kind==1)=true
    ·simp only[h,bne_self_eq_false,Qf,TI,o,hk,TH,P_,fE]
    ·simp only[h,bne_self_eq_false,Qf,TI,o,hk,TH,P_,fE,Kt F,st,<-hm,Bq _ _ (pf _) (pf _),xQ,beq_self_eq_true]
  ·have hb3:(dz l x.name0 x.args !=0)=true:=by simpa using h
   simp only[hb3,TH,P_,fE]
 ·simp only[TH,fE,P_]
end
end Go.Proofs.YtcghbgmmgcljkaaGreatDoor
end
section
namespace Go.Proofs.YtcghbgmmgcljkaaGreatDoor
open Go.Tx
theorem GK{ns:List Nat}:∀{i n:Nat},ns[i]?=some n->n<=ns.sum:=by
 induction ns with
 |nil=>intro i n h;simp at h
 |cons a r ih=>
  intro i n h
  cases i with
  |zero=>simp at h;subst h;simp
  |succ i=>have:=ih (i:=i) (by simpa using h);simp;omega
theorem It{ns:List Nat}(h:∀n∈ns,1<=n):ns.length<=ns.sum:=by
 induction ns with
 |nil=>simp
 |cons a r ih=>
  have h1:=h a Qi
  have h2:=ih λn hn=>h n (Qd _ hn)
  simp;omega
theorem Jg{e:Ty vw.ι}{x:den vw.N e}{m:Nat}(h:Bk vw e x m):1<=m:=by
 cases h<;>omega
theorem G9{e:Ty SN}{xs:List (den NN e)}{m:Nat}(h:Bk vw (.sl e) xs m):xs.length+1<=m/\∀x∈xs,∃n,n+1<=m/\Bk vw e x n:=by
 cases h with
 |sl ns h1 h2 h3=>
  have h1:ns.length=xs.length:=h1
  have hp:∀n∈ns,1<=n:=λn hn=>by
   obtain⟨i,hi⟩:=Rr hn
   obtain⟨x,hx⟩:∃x,xs[i]?=some x:=⟨_,Qe (by have:=(P9.1 hi).1;omega)⟩
   exact Jg (h2 i x n hx hi)
  have:=It hp
  refine⟨by omega,λx hx=> ?_⟩
  obtain⟨i,hi⟩:=Rr hx
  obtain⟨n,hn⟩:∃n,ns[i]?=some n:=⟨_,Qe (by have:=(P9.1 hi).1;omega)⟩
  exact⟨n,by have:=GK hn;omega,h2 i x n hi hn⟩
theorem Jh{i:SN}{x:NN i}{m:Nat}(h:Bk vw (.st i) x m):∀l∈dA i x,∃n,n+1<=m/\Bk vw l.t l.x n:=by
 cases h with
 |st ns h1 h2 h3=>
  intro l hl
  obtain⟨j,hj⟩:=Rr hl
  have h1:ns.length=(dA i x).length:=h1
  obtain⟨n,hn⟩:∃n,ns[j]?=some n:=⟨_,Qe (by have:=(P9.1 hj).1;omega)⟩
  exact⟨n,by have:=GK hn;omega,h2 j l n hj hn⟩
theorem vC{l:List af}{m:Nat}(h:Bk vw (.sl (.st .myFuncT)) l m)(hm:m<=1048576):l.length<=4294967296/\∀f∈l,f.code.length<=4294967296:=by
 obtain⟨h1,h2⟩:=G9 h
 refine⟨by omega,λf hf=> ?_⟩
 obtain⟨n,hn,hb⟩:=h2 f hf
 obtain⟨k,hk,hc⟩:=Jh hb ⟨.sl (.st .myCodeT),f.code⟩ (by simp[dA])
 have:f.code.length+1<=k:=(G9 hc).1
 omega
theorem CO{x:fS}{m:Nat}(h:Bk vw (.st .askedT) x m)(hm:m<=1048576):x.args.length<=4294967296:=by
 obtain⟨k,hk,hc⟩:=Jh h ⟨.sl (.st .myValueT),x.args⟩ (by simp[dA])
 have:x.args.length+1<=k:=(G9 hc).1
 omega
theorem nZ(l:List af)(x:fS)(h0:Ok vw (.sl (.st .myFuncT)) l)(h1:Ok vw (.st .askedT) x)(m0:Nat)(b0:Bk vw (.sl (.st .myFuncT)) l m0)(m1:Nat)(b1:Bk vw (.st .askedT) x m1)(hm:m0+m1<=1048576):n_5 (l,x,())=some (true,()):=
 Oo l x (vC b0 (by omega)).1 (vC b0 (by omega)).2 (CO b1 (by omega))
end Go.Proofs.YtcghbgmmgcljkaaGreatDoor
end
section
namespace Go.Proofs.YtcghbgmmgcljkaaGreatDoor.stackLegal
open Go.ChangeShapes Go.WideShapes Go.ChangeAt Go.RowKit Go.Awp Go.Tx
open Go.Proofs.Tryz (prog)
theorem Ae:laidOutB prog=true:=by kernel_rfl
theorem own:ownKnob prog.godebug=none:=by kernel_rfl
theorem CZ(x0:(List af))(x1:fS)(h0:Ok vw (.sl (.st .myFuncT)) x0)(h1:Ok vw (.st .askedT) x1)(m0:Nat)(b0:Bk vw (.sl (.st .myFuncT)) x0 m0)(m1:Nat)(b1:Bk vw (.st .askedT) x1 m1)(hm:m0+m1<=1048576):lA prog 5 [.d (aH szN C2 (.sl (.st .myFuncT)) x0), .d (aH szN C2 (.st .askedT) x1)] [] (.d (.v (.bool true))) []:=
 jX (by kernel_rfl) (Kj (x0,x1,()) (true,()) (.lf .bool true) (nZ x0 x1 h0 h1 m0 b0 m1 b1 hm) rfl)
noncomputable def w0(os:Os):World:=World.laidAll prog os Rows.stackLegalUptoRow.laid
theorem Dd(os:Os):laidMetH prog Rows.stackLegalUptoRow.laid ((w0 os).forCall (λ_ _=>0) ⟨#[], #[.slice none 0 0, .agg #[.string Ro, .slice none 0 0, .bool false]],[]⟩).memory:=by
 rw[MakeChecks.laidMetH_plain _ _ _ (by kernel_rfl)];exact laidMet_laidAll _ (by kernel_rfl) (by kernel_rfl)
set_option maxRecDepth 100000 in
theorem reads(os:Os){H:Type}(enc:TypeId×Value->H):DataW.whole enc prog ((w0 os).forCall (λ_ _=>0) ⟨#[], #[.slice none 0 0, .agg #[.string Ro, .slice none 0 0, .bool false]],[]⟩).memory Tryz.f5.params.toList Rows.stackLegalSpec.vars false #[.slice none 0 0, .agg #[.string Ro, .slice none 0 0, .bool false]].toList 8=some ([.nil, .agg [.lit (.string []), .nil, .lit (.bool false)]],[],[]):=by kernel_rfl
set_option maxRecDepth 100000 in
theorem Kd(os:Os)(started:os.Started)(H:Type)(enc:TypeId×Value->H)(F:Stop.Interp):
 ReturnsInHanded {} Tryz.checked os 5 .any ((Rows.OpenSpec.upto Rows.stackLegalSpec).preRow enc prog Tryz.f5 Rows.stackLegalUptoRow.domain false Rows.stackLegalUptoRow.laid) (((Rows.OpenSpec.upto Rows.stackLegalSpec).at F).post enc prog Tryz.f5 false true false false):=by
 have hok:Input.okWideB prog ((w0 os).forCall (λ_ _=>0) ⟨#[], #[.slice none 0 0, .agg #[.string Ro, .slice none 0 0, .bool false]],[]⟩) 5 ⟨#[], #[.slice none 0 0, .agg #[.string Ro, .slice none 0 0, .bool false]],[]⟩=true:=by kernel_rfl
 refine returnsInHanded_of_row (C:=Tryz.checked) (s:=(Rows.OpenSpec.upto Rows.stackLegalSpec)) own started (by kernel_rfl) Tryz.func5
  ⟨w0 os,λ_ _=>0,⟨#[], #[.slice none 0 0, .agg #[.string Ro, .slice none 0 0, .bool false]],[]⟩,World.laidAll_os _ _ _,World.shaped_of_ZipB (by kernel_rfl) (by kernel_rfl),(Input.okWide_of_okWideB (base:=0) hok).1,(Input.okWide_of_okWideB hok).2,
   OpenSpec.preRow_of_cond 8 (reads os enc) (by kernel_rfl) (λk hk=>by cases hk;kernel_rfl) (by kernel_rfl) (Dd os),
   by simp only[Assume.holds];exact⟨by simp,by simp,λ_=>Modest.zero,by simp,by simp⟩⟩ ?_
 intro W base args ds gs before hval0 hW _ hcond _ hL _ _
 have hval:∀(j:Nat) t v,Tryz.f5.params[j]?=some t->args[j]?=some v->Value.okWide prog W .any base t v:=hval0
 have hW':=hW
 obtain⟨p,q,hA0,hV,rfl,hfz,hnd⟩:=hW'
 have hA:DataW.TrodAll enc prog W 0 (λ_=>true) true Tryz.f5.params.toList args.toList ds p:=hA0
 rw[Tryz.params5]at hA hval
 obtain⟨v0,vs0,d0,ds0,p0,q0,ha0,rfl,rfl,h0,r0⟩:=trodAll_cons hA
 obtain⟨v1,vs1,d1,ds1,p1,q1,ha1,rfl,rfl,h1,r1⟩:=trodAll_cons r0
 subst ha1
 obtain⟨rfl,rfl,rfl⟩:=trodAll_nil r1
 obtain rfl:args= #[v0,v1]:=by cases args;simp_all
 obtain⟨rfl,rfl⟩:=trodVars_none hV
 have hk:Rows.uptoBulkAll ([d0,d1]++[])<=1048576:=of_decide_eq_true (hcond _ rfl)
 have hlt0:∀x∈p0,x.block<W.heap.size:=λx hx=>by simpa using hW.lt x (by simp[hx])
 have hd0:=i6 d0
 have hlt1:∀x∈p1,x.block<W.heap.size:=λx hx=>by simpa using hW.lt x (by simp[hx])
 have hd1:=i6 d1
 obtain⟨x0,ok0,hr0,hb0⟩:=sr facts (τ:=(.sl (.st .myFuncT))) rfl (hval 0 22 v0 rfl rfl) h0
 obtain⟨x1,ok1,hr1,hb1⟩:=sr facts (τ:=(.st .askedT)) rfl (hval 1 25 v1 rfl rfl) h1
 have hm:cH d0+cH d1<=1048576:=by
  simp only[Rj,Rows.uptoBulkAll]at hk
  omega
 refine((CZ x0 x1 ok0 ok1 _ hb0 _ hb1 hm).closed (W:=W) (vs:= #[v0,v1]) (zQ hL) ⟨rfl,λi c x hc hx=> ?_⟩).mono λe W' ⟨he,hb⟩=> ?_
 ·match i with
  |0=>simp at hc hx;subst hc;subst hx;exact .d hr0
  |1=>simp at hc hx;subst hc;subst hx;exact .d hr1
  |i+2=>simp at hc
 subst he
 exact⟨_,rfl,_,_,_,[],_,[],hW,trodAll_cons_mk (shut_bool Tryz.underlying4 _) trodAll_mk0,
  (trodAll_cons_mk (Below.trod Ae (by kernel_rfl) (of_decide_eq_true (by kernel_rfl)) h0 hb hlt0) (trodAll_cons_mk (Below.trod Ae (by kernel_rfl) (of_decide_eq_true (by kernel_rfl)) h1 hb hlt1) trodAll_mk0)),rfl,hb.frame _,(λh=>by cases h)⟩
theorem row:Rows.StackLegalUptoSaid:=
 OpenClaim.holds_of_cond 5 Tryz.f5 rfl rfl rfl rfl rfl rfl rfl ⟨rfl,rfl,rfl,rfl,rfl⟩ rfl rfl rfl rfl rfl (by kernel_rfl) Tryz.func5 (by kernel_rfl)
  (of_decide_eq_true (by kernel_rfl)) (by unfold Func.isWrapper;first|(rw[TL (by decide+kernel)];kernel_rfl)|(rw[TK (by decide+kernel)];exact⟨rfl,rfl⟩))
  (λos started H enc _ F=>by rw[OpenClaim.pre_eq_preRow];exact Kd os started H enc F)
theorem proved:Rows.StackLegalUptoCardSaid:=
 Claim7.holds_tied_plain_at .later [] [.listed, .data] true (true, "9903706971e3bb189f6f1d2425e4062bf0ab55d30c817c4194f043affe1c4612") false row (λ_ h=>by cases h) (by kernel_rfl) (λ_ h=>by cases h) stackLegalUpto_row_tie rfl ⟨rfl,rfl⟩ (by kernel_rfl) rfl
  (λf fn hf hfn=>by
    obtain rfl:f=5:=Re ((show prog.funcNamed "mandrel/mandrellaw13.StackLegal" =some 5 by kernel_rfl).symm.trans hf)|>.symm
    obtain rfl:fn=Tryz.f5:=(Re (Tryz.func5.symm.trans hfn)).symm
    exact⟨by kernel_rfl,λj t ht=>by
     rw[Tryz.params5]at ht
     have hm:t∈([22,25]:List TypeId):=by simpa using Array.mem_of_getElem? ht
     have hall:(([22,25]:List TypeId).all λu=> !prog.wantsStandIn u)=true:=by kernel_rfl
     exact(show prog.wantsStandIn t=false by simpa using Qm.1 hall t hm)⟩)
  (by kernel_rfl)
end Go.Proofs.YtcghbgmmgcljkaaGreatDoor.stackLegal
end
