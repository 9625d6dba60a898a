/-
  Texts of this claim, joined by a program of mine: what the theorem uses.
-/
import Derived.Test.YtcghbgmmgcljkaaGreatDoorPkI
import Derived.Test.YtcghbgmmgcljkaaGreatDoorPkF
import Derived.Test.YtcghbgmmgcljkaaGreatDoorCards
import Derived.Test.YtcghbgmmgcljkaaGreatDoorTie
import Derived.WalkKit
import Derived.ProofKit
import Derived.OpenShut
import Derived.LaidMore
import Derived.Lay
import Derived.SevenTiedAt
import Derived.Stop.Joined
import Derived.Deep.DeepHandedRow
open Bool renaming and_eq_true→Qk,false_eq_true→Qj,false_or→SW
open ByteArray renaming empty→Rr,mk→Qc
open Int renaming le_refl→RS,mul_nonneg→Sw,natCast_zero→Q5,tmod_eq_emod_of_nonneg→SU,toNat_natCast→Qs
open List renaming all_eq_true→Qq,any_cons→SS,append_assoc→Rt,append_nil→RO,drop_zero→QV,foldl_cons→SF,getD_eq_getElem?_getD→RT,getElem?_append_left→Qv,getElem?_eq_getElem→Qi,getElem?_eq_some_iff→Qf,getElem?_map→Qh,getElem?_of_mem→RA,length_append→QB,length_cons→QA,length_map→Qg,length_replicate→Ra,length_reverse→Sd,length_set→Q6,length_singleton→Rq,length_take→QQ,map_cons→Qp,map_map→QJ,map_nil→QW,mem_append→Q0,mem_cons→Qu,mem_cons_of_mem→Qm,mem_cons_self→Qo,mem_map→QD,mem_of_getElem?→Qn,mem_singleton→Q3,nil_append→QS,replicate→QK,set_append_left→Tn,take_of_length_le→QP
open Nat renaming zero_add→Qy
open Option renaming bind_eq_bind→Ql,bind_some→Qe,isSome_some→St,map_some→QG
open Option.some renaming inj→Rc
noncomputable section
set_option linter.unusedSimpArgs false
set_option linter.unusedVariables false
section
namespace Go.Proofs.YtcghbgmmgcljkaaGreatDoor
open IntKind (i64)
set_option maxRecDepth 20000
set_option maxHeartbeats 8000000
def rt(k:Nat)(l:List aB)(d:Int)(ck:Bool)(at1 steps high place:Int)(i0:Item)(lg:Log)(pl st:List Item)(cnt:List Int)(sn:List Item):=
 (l,(k:Int),d,ck,at1,(0:Int),(0:Int),steps,high,place,i0,lg,pl,st.reverse,cnt,sn,())
structure Rh (l:List aB) (f:aB) (c:aM) (k a:Nat) (d steps high:Int) (st:List Item) (op:Int):Prop where
 hk:l[k]?=some f
 hc:f.code[a]?=some c
 hs:¬steps=40000
 h0:0<=steps
 h1:steps<=40000
 ha:a<=3000
 hh:d=1->(st.length:Int)<=high
 hst:st.length<=65
 e:c.op=op
section
variable {k:Nat} {l:List aB} {d:Int} {ck:Bool} {a:Nat} {steps high place:Int} {i0:Item} {lg:Log} {pl:List Item} {cnt:List Int} {sn:List Item} {f:aB} {c:aM}
end
end Go.Proofs.YtcghbgmmgcljkaaGreatDoor
end
section
namespace Go.Proofs.YtcghbgmmgcljkaaGreatDoor
open IntKind (i64)
set_option maxRecDepth 20000
set_option maxHeartbeats 4000000
end Go.Proofs.YtcghbgmmgcljkaaGreatDoor
end
section
namespace Go.Proofs.YtcghbgmmgcljkaaGreatDoor
set_option maxRecDepth 20000
set_option maxHeartbeats 4000000
end Go.Proofs.YtcghbgmmgcljkaaGreatDoor
end
section
namespace Go.Proofs.YtcghbgmmgcljkaaGreatDoor
set_option maxRecDepth 20000
set_option maxHeartbeats 4000000
def itm(v:aD):Item:=Item.mk v.n v.null v.err
theorem pB(args:List aD)(hl:args.length<=4294967296):∀(j k:Nat) (out:List aD),k+j=args.length->out.length=k->
 dE (args,(args.length:Int),(k:Int),out,())=some (out++(args.drop k).map (λv=>val (itm v)),())
 |0,k,out,h,ho=>by
  rw[dE,dI (by omega)]
  have:¬(k:Int)<(args.length:Int):=by omega
  simp[this]
 |j+1,k,out,h,ho=>by
  obtain⟨x,hx,hm,hd⟩:=cY (l:=args) (k:=k) (by omega)
  have h1:(k:Int)<(args.length:Int):=by omega
  have h2:(0:Int)<=(k:Int):=by omega
  have w:IntKind.i64.wrap ((k:Int)+1)=((k+1:Nat):Int):=by rw[w64 (by omega) (by omega)];omega
  have hle:∀v:aD,out.length+[v].length<=4294967296:=by intro v;simp;omega
  have ih:=pB args hl j (k+1) (out++[val (itm x)]) (by omega) (by simp;omega)
  rw[dE,hd]
  simp only[h1,h2,TQ,TK,Qs,hx,Ql,Qe,hle,w]
  refine Eq.trans ih ?_
  rw[Qp,Rt]
  rfl
theorem Ez(args:List aD)(hl:args.length<=4294967296):jP (args,())=some ((args.map itm).map val,()):=by
 have h:=pB args hl _ 0 [] (Qy _) rfl
 rw[Q5,QV,QS]at h
 rw[jP,h,QJ]
 rfl
def yJ(r:Item×Lg):bP:=if r.2.kind=0 then bP.mk 0 (val r.1) 0 []else bP.mk r.2.kind (val (dh 0)) r.2.stop []
structure GW (l:List aB) (s:ByteArray) (args:List aD) (k:Nat) (f:aB):Prop where
 runs:kK l
 name:cJ l s=(k:Int)
 lt:k<l.length
 get:l[k]?=some f
 fit:(args.length:Int)=f.params
theorem tD{l:List aB}(hl:l.length<=3000)(h3:∀f∈l,f.code.length<=3000){s:ByteArray}{args:List aD}(h:dW l s args=0):∃k f,GW l s args k f:=by
 unfold dW at h
 by_cases hc:eT l=0
 ·rw[TP hc]at h
  rcases qt l s with hf|⟨k,g,hk,hkl,hg⟩
  ·rw[TP hf]at h;cases h
  ·rw[TN (by omega),hk,Qs,hg]at h
   simp only at h
   by_cases hp:(args.length:Int)=g.params
   ·exact⟨k,g,Iz hl h3 (iy.mp hc),hk,hkl,hg,hp⟩
   ·rw[TN hp]at h;cases h
 ·rw[TN hc]at h;exact absurd h hc
theorem qi{l:List aB}{s:ByteArray}{args:List aD}{k:Nat}{f:aB}(A:GW l s args k f)(place:Int):
 OkA l f 1 0 (c8 f (args.map itm)) []/\OkG l (lg1 l place k f (args.map itm)):=by
 have hm:=Qn A.get
 obtain⟨_,p0,p1,_⟩:=A.runs.fns f hm
 have hfit:=A.fit
 refine⟨⟨hm,Reach.start,?_,by decide,by decide⟩,⟨RS 0,show(0:Int)<=40000 by decide,rfl,rfl,?_,?_⟩⟩
 ·unfold c8
  rw[QB,Ra,Qg]
  omega
 ·unfold lg1 lg0 tw
  simp only[Q6,Ra]
 ·unfold lg1 lg0
  simp only[]
  split
  ·simp
  ·simp
theorem EL{l:List aB}{s:ByteArray}{args:List aD}{k:Nat}{f:aB}(A:GW l s args k f)(ck:Bool)(place:Int):
 Left l 1 (lg1 l place k f (args.map itm)) (xS l ck place k f (args.map itm)):=by
 obtain⟨b1,b2⟩:=qi A place
 exact gf A.runs ck place 40000 f 1 0 _ [] _ b1 b2
theorem OP{l:List aB}{s:ByteArray}{args:List aD}{k:Nat}{f:aB}(A:GW l s args k f)(ha:args.length<=4294967296)(ck:Bool)(place:Int)(hp:place<f.places){r:Item×Lg}(hr:r=xS l ck place k f (args.map itm)):
 Kh (l,(k:Int),args,ck,place,())=some (l,ck,r.2.steps,place,r.2.high,zH r.2,r.2.counts,r.2.seen.map val,yJ r,()):=by
 have hm:=Qn A.get
 obtain⟨_,p0,p1,_⟩:=A.runs.fns f hm
 have p2:=A.runs.places f hm
 have hfit:=A.fit
 have hll:=A.runs.len
 obtain⟨b1,b2⟩:=qi A place
 have L:=EL A ck place
 have I:=jW A.runs ck place 40000 f 1 0 _ [] _ b1 b2 (λ_=>by unfold lg1 lg0;simp) (by unfold lg1 lg0;simp) 0 args.length ((args.map itm).map val) (val (dh 0))
 have e:f5 l ck place 40000 f 1 ((0:Nat):Int) (c8 f (args.map itm)) [] (lg1 l place k f (args.map itm))=r:=by rw[hr];rfl
 rw[e]at I
 rw[<-hr]at L
 have h40:=p40 A.get (b:=0) (e:=args.length) (argv:=(args.map itm).map val) (args:=args.map itm) (by simp) (by rw[QV,QP (by simp)]) (by simp) (ck:=ck) (place:=place) (d:=1) (g:=lg0 l) (by decide) (by omega) p2 rfl (by simp[lg0]) A.lt (λ_=>hp) (λ_=>by simp[lg0]) (r:=r) I L.zero
 have hl4:(l.length:Int)<=4294967296:=by omega
 have hal:(((args.map itm).map val).length:Int)=(args.length:Int):=by simp
 have hcl:r.2.counts.length=(QK l.length (0:Int)).length:=by rw[L.cnt,Ra]
 unfold lg0 at h40
 rw[QW]at h40
 simp only[Q5]at h40
 rw[Kh]
 have z:aD.mk (aG.mk 0 0 (Qc #[]) false false) 0 false (Qc #[]) (aG.mk 0 0 (Qc #[]) false false)=val (dh 0):=rfl
 have nz:((0:Nat):Int)=0:=rfl
 simp only[hl4,TK,Ql,Qe,Ez args ha,Qs,hal,nz,h40,hcl]
 unfold zH yJ
 by_cases hk:r.2.kind=0
 ·simp only[hk,TK,Option.isSome_none,Qj,TL]
  try rfl
 ·simp only[hk,TL,St,TK,Qe]
  try rfl
end Go.Proofs.YtcghbgmmgcljkaaGreatDoor
end
section
namespace Go.Proofs.YtcghbgmmgcljkaaGreatDoor
set_option maxRecDepth 20000
set_option maxHeartbeats 4000000
end Go.Proofs.YtcghbgmmgcljkaaGreatDoor
end
section
namespace Go.Proofs.YtcghbgmmgcljkaaGreatDoor
open IntKind (i64)
set_option maxRecDepth 20000
set_option maxHeartbeats 4000000
def lQ:aM:=aM.mk 19 5 0 (aG.mk 0 0 (Qc #[]) false false) (Qc #[])
def ext(e:Int)(f:aB):aB:=aB.mk f.name0 f.params (f.places+e) f.type0 (f.code++[lQ])
theorem rR(e:Int):∀(l:List aB) (s:ByteArray) (k:Nat),i7 (l.map (ext e)) s k=i7 l s k
 |[],_,_=>rfl
 |f::r,s,k=>by
  rw[Qp,i7,i7,rR e r s (k+1)]
  rfl
theorem g8(e:Int)(l:List aB)(s:ByteArray):cJ (l.map (ext e)) s=cJ l s:=rR e l s 0
theorem zB{e:Int}(he:0<=e/\e<=7){l:List aB}{f:aB}(hp0:0<=f.places)(hp:f.places<=200)(hl:1<=f.code.length)(hl3:f.code.length<=3000){c:aM}(h:dc l f c=true):dc (l.map (ext e)) (ext e f) c=true:=by
 have w1:i64.wrap (f.places-1)=f.places-1:=w64 (by omega) (by omega)
 have w2:i64.wrap (f.places+e-1)=f.places+e-1:=w64 (by omega) (by omega)
 have w3:i64.wrap ((f.code.length:Int) -1)=(f.code.length:Int) -1:=w64 (by omega) (by omega)
 have w4:i64.wrap (((f.code++[lQ]).length:Int) -1)=(f.code.length:Int):=by rw[QB,Rq,w64 (by omega) (by omega)];omega
 have hr:∀{a b b':Int},b<=b'->rng a 0 b=true->rng a 0 b'=true:=by
  intro a b b' hb h
  unfold rng at *
  rw[TM]at *
  omega
 unfold dc at *
 rw[g8]
 show(if c.op=0 then _ else if c.op=2\/c.op=3 then rng c.a 0 (i64.wrap (f.places+e-1))&&_&&_&&_ else if c.op=5 then _ else if c.op=6 then _ else if c.op=7\/c.op=9\/c.op=10 then _ else if c.op=12\/c.op=13\/c.op=14\/c.op=15 then rng c.a 0 (i64.wrap (((f.code++[lQ]).length:Int) -1))&&_&&_&&_ else _)=true
 rw[w2,w4]
 rw[w1,w3]at h
 by_cases h0:c.op=0
 ·rw[TP h0]at h⊢;exact h
 rw[TN h0]at h⊢
 by_cases h2:c.op=2\/c.op=3
 ·rw[TP h2]at h⊢
  simp only[Qk]at h⊢
  exact⟨⟨⟨hr (by omega) h.1.1.1,h.1.1.2⟩,h.1.2⟩,h.2⟩
 rw[TN h2]at h⊢
 by_cases h5:c.op=5
 ·rw[TP h5]at h⊢;exact h
 rw[TN h5]at h⊢
 by_cases h6:c.op=6
 ·rw[TP h6]at h⊢;exact h
 rw[TN h6]at h⊢
 by_cases h7:c.op=7\/c.op=9\/c.op=10
 ·rw[TP h7]at h⊢;exact h
 rw[TN h7]at h⊢
 by_cases h12:c.op=12\/c.op=13\/c.op=14\/c.op=15
 ·rw[TP h12]at h⊢
  simp only[Qk]at h⊢
  exact⟨⟨⟨hr (by omega) h.1.1.1,h.1.1.2⟩,h.1.2⟩,h.2⟩
 rw[TN h12]at h⊢
 by_cases h16:c.op=16
 ·rw[TP h16]at h⊢
  rw[Qh]
  cases hg:l[(cJ l c.name0).toNat]? with
  |none=>rw[hg]at h;simp at h
  |some g=>rw[hg]at h;exact h
 rw[TN h16]at h⊢
 exact h
theorem w7(l:List aB)(f:aB):dc l f lQ=true:=by
 unfold dc lQ
 simp[rng,zT,noN,Mp.ieq,Mp.seq,Mp.beq]
 rfl
theorem zU{e:Int}(he:0<=e/\e<=7){l:List aB}(R:kK l){f:aB}(hf:f∈l):jA (l.map (ext e)) (ext e f)=true:=by
 obtain⟨h,p0,p1,S⟩:=R.fns f hf
 have p2:=R.places f hf
 unfold jA at h⊢
 simp only[Qk,TM,Qq,rng]at h⊢
 obtain⟨⟨⟨⟨h1,h2⟩,h3⟩,h4⟩,h5⟩:=h
 refine⟨⟨⟨⟨h1,⟨h2.1,?_⟩⟩,h3⟩,?_⟩,?_⟩
 ·show f.params<=f.places+e
  omega
 ·show 1<=(f.code++[lQ]).length
  simp
 ·intro c hc
  rcases Q0.mp hc with hc|hc
  ·exact zB he (by omega) p2 S.1 S.2.1 (h5 c hc)
  ·rw[Q3]at hc
   rw[hc];exact w7 _ _
theorem pe{e:Int}(he:0<=e/\e<=7){l:List aB}(R:kK l):∀(r:List aB) (k:Nat),(∀f∈r,f∈l)->fS l k r=true->fS (l.map (ext e)) k (r.map (ext e))=true
 |[],_,_,_=>rfl
 |f::r,k,hm,h=>by
  rw[fS]at h
  rw[Qp,fS]
  simp only[Qk,TM]at h⊢
  refine⟨⟨zU he R (hm f (Qo ..)),?_⟩,pe he R r (k+1) (λf hf=>hm f (Qm _ hf)) h.2⟩
  rw[g8]
  exact h.1.2
theorem sT{e:Int}{f:aB}(S:CN f)(nf:¬gV f){a:Nat}{h:Int}(r:Reach (ext e f) a h):Reach f a h:=by
 induction r with
 |start=>exact Reach.start
 | @step a h c b k r hc hk hw hb ih=>
  have hal:=jX S.1 ih
  have hc':f.code[a]?=some c:=by
   have:(f.code++[lQ])[a]?=some c:=hc
   rw[Qv hal]at this
   exact this
  have hb':b<f.code.length+1:=by
   have:b<(f.code++[lQ]).length:=hb
   simpa using this
  by_cases hbl:b<f.code.length
  ·exact Reach.step ih hc' hk hw hbl
  ·have e1:b=f.code.length:=by omega
   rw[e1]at hw
   exact absurd ⟨a,h,c,ih,hc', .inr (.inl ⟨hk,k,hw⟩)⟩ nf
theorem uu{e:Int}{f:aB}(S:CN f)(nf:¬gV f):¬gV (ext e f):=by
 rintro⟨a,h,c,r,hc,hF⟩
 have r':=sT S nf r
 have hal:=jX S.1 r'
 have hc':f.code[a]?=some c:=by
  have:(f.code++[lQ])[a]?=some c:=hc
  rw[Qv hal]at this
  exact this
 rcases hF with hF|⟨hk,k,hw⟩|⟨h',r2,hne⟩
 ·exact nf ⟨a,h,c,r',hc', .inl hF⟩
 ·have el:(((ext e f).code.length:Nat):Int)=(f.code.length:Int)+1:=by
   show(((f.code++[lQ]).length:Nat):Int)=_
   simp
  rw[el]at hw
  rcases cI.mp hw with⟨h1,h2,_⟩|⟨h1,h2,_⟩
  ·obtain⟨b,eb,hb⟩:=(S.2.2 c (Qn hc')).2 h1
   omega
  ·omega
 ·exact nf ⟨a,h,c,r',hc', .inr (.inr ⟨h',sT S nf r2,hne⟩)⟩
theorem G7{l:List aB}{f:aB}{c:aM}(hcode:dc l f c=true)(hp0:0<=f.places)(hp1:f.places<=200){pl:List Item}(hpl:(pl.length:Int)=f.places)(ck:Bool)(at1:Int)(ex st:List Item):
 cB ck c at1 (pl++ex) st=match cB ck c at1 pl st with| .go at2 pl1 st1=> .go at2 (pl1++ex) st1|x=>x:=by
 have pr:∀(r:Item×Int) (s:List Item),fO r at1 (pl++ex) s=match fO r at1 pl s with| .go at2 pl1 st1=> .go at2 (pl1++ex) st1|x=>x:=by
  intro r s
  unfold fO
  split<;>rfl
 have hr:=mf hcode
 have hk:c.op=0\/c.op=1\/c.op=18\/c.op=2\/c.op=3\/c.op=4\/c.op=5\/c.op=6\/(c.op=7\/c.op=8\/c.op=9\/c.op=10\/c.op=11)\/c.op=12\/c.op=13\/c.op=14\/c.op=15\/c.op=16\/c.op=17\/c.op=19:=by omega
 rcases hk with e|e|e|e|e|e|e|e|e|e|e|e|e|e|e|e
 ·simp[cB,e]
 ·simp[cB,e]
 ·simp[cB,e]
 ·obtain⟨a0,a1⟩:=vu hcode (by omega) hp0 hp1
  have:(pl++ex).getD c.a.toNat (dh 0)=pl.getD c.a.toNat (dh 0):=by
   rw[RT,RT,Qv (by omega)]
  simp only[cB,e,this]
  rfl
 ·obtain⟨a0,a1⟩:=vu hcode (by omega) hp0 hp1
  have:∀x,(pl++ex).set c.a.toNat x=pl.set c.a.toNat x++ex:=λx=>by rw[Tn _ _ (by omega)]
  simp[cB,e,this]
 ·simp[cB,e]
 ·have:∀pl,cB ck c at1 pl st=fO (opS ck c.a c.type0 (st.tail.headD (dh 0)) (st.headD (dh 0))) at1 pl st.tail.tail:=by intro pl;simp[cB,e]
  rw[this,this];exact pr _ _
 ·simp[cB,e]
 ·have:∀pl,cB ck c at1 pl st=fO (dm ck c.op c.type0 (st.headD (dh 0))) at1 pl st.tail:=by
   intro pl
   rw[cB,TN (by omega),TN (by omega),TN (by omega),TN (by omega),TN (by omega),TN (by omega),TN (by omega),TN (by omega),TP e]
  rw[this,this];exact pr _ _
 ·by_cases h:(st.headD (dh 0)).null=true<;>simp only[cB,e,h]<;>rfl
 ·by_cases h:(st.headD (dh 0)).err=Qc #[]<;>simp only[cB,e,h]<;>rfl
 ·simp[cB,e]
 ·by_cases h:(st.headD (dh 0)).n=0<;>simp only[cB,e,h]<;>rfl
 ·simp[cB,e]
 ·simp[cB,e]
 ·cases ck<;>simp[cB,e]
theorem rN{e:Int}(he:0<=e)(h:aB)(args:List Item)(hp:(args.length:Int)<=h.places):c8 (ext e h) args=c8 h args++QK e.toNat (dh 0):=by
 unfold c8
 rw[Rt,List.replicate_append_replicate]
 congr 2
 show(h.places+e).toNat-args.length=_
 omega
theorem l_{e:Int}(he:0<=e/\e<=7){l:List aB}(R:kK l)(ck:Bool)(place:Int):∀(N:Nat) (f:aB) (d:Int) (a:Nat) (pl st:List Item) (g:Lg),OkA l f d a pl st->OkG l g->
 f5 (l.map (ext e)) ck place N (ext e f) d (a:Int) (pl++QK e.toNat (dh 0)) st g=f5 l ck place N f d (a:Int) pl st g
 |0,f,d,a,pl,st,g,A,G=>by rw[f5,f5]
 |N+1,f,d,a,pl,st,g,A,G=>by
  obtain⟨c,hc,hcm,hcode,hal,hl3⟩:=A.code R
  have hplc:=R.places f A.mem
  have hpls:=A.pls
  have s0:=G.s0
  have s1:=G.s1
  have hc2:(ext e f).code[a]?=some c:=by
   show(f.code++[lQ])[a]?=some c
   rw[Qv hal];exact hc
  rw[f5,f5]
  by_cases hs:g.steps=40000
  ·rw[TP hs,TP hs]
  ·rw[TN hs,TN hs]
   simp only[Qs,hc,hc2]
   rw[G7 hcode (by omega) hplc hpls]
   cases ha:cB ck c ((a:Int)+1) pl st with
   |go at1 pl1 st1=>
    obtain⟨⟨b,hb,A'⟩,G'⟩:=ur (place:=place) R A G hs hc ha
    simp only[]
    subst hb
    exact l_ he R ck place N f d b pl1 st1 _ A' G'
   |ret x=>rfl
   |stop w=>rfl
   |call=>
    obtain⟨k,h,b,h1,h2,h3,h4,h5,h6,h7,h8,h9,h10⟩:=nO R A hc ((qf hcode).mp ha)
    simp only[g8,h1,Qh,h3,QG,h4,Qs]
    by_cases hd:30<d+1
    ·rw[TP hd,TP hd]
    ·rw[TN hd,TN hd]
     have G1:OkG l {g with steps:=g.steps+1,counts:=tw g.counts k}:=⟨by simp only[];omega,by simp only[];omega,G.kind,G.stop,by simp only[tw,Q6];exact G.cnt,G.seen⟩
     have A1:=h10 (by omega)
     have L:=gf R ck place N h (d+1) 0 _ [] _ A1 G1
     have I:=l_ he R ck place N h (d+1) 0 _ [] _ A1 G1
     rw[Q5]at L I
     rw[rN he.1 h _ (by rw[Sd,QQ];omega),I]
     generalize f5 l ck place N h (d+1) 0 (c8 h (st.take b).reverse) [] {g with steps:=g.steps+1,counts:=tw g.counts k}=r at L⊢
     have L0:=L.s0
     simp only[]at L0
     by_cases hk:r.2.kind=0
     ·rw[TP hk,TP hk]
      have G2:OkG l {r.2 with high:=d9 d r.2.high (st.length-b+1)}:=⟨by simp only[];omega,L.s1,hk,L.stop hk,L.cnt,L.seen⟩
      exact l_ he R ck place N f d (a+1) pl _ _ (h9 r.1) G2
     ·rw[TN hk,TN hk]
end Go.Proofs.YtcghbgmmgcljkaaGreatDoor
end
section
namespace Go.Proofs.YtcghbgmmgcljkaaGreatDoor
open IntKind (i64)
set_option maxRecDepth 20000
set_option maxHeartbeats 4000000
theorem sG(l:List aB)(hl:l.length<=4294967296):∀(j k:Nat) (a:Int),k+j=l.length->
 sA (l,a,(k:Int),())=if(l.drop k).any (λf=>decide (f.places>2000))=true then some (.inl (true,()))else some (.inr (l,fi a (l.drop k),()))
 |0,k,a,h=>by
  rw[sA,dI (by omega)]
  have:¬(k:Int)<(l.length:Int):=by omega
  simp[this,fi]
 |j+1,k,a,h=>by
  obtain⟨x,hx,hm,hd⟩:=cY (l:=l) (k:=k) (by omega)
  have h1:(k:Int)<(l.length:Int):=by omega
  have h2:(0:Int)<=(k:Int):=by omega
  have w:i64.wrap ((k:Int)+1)=((k+1:Nat):Int):=by rw[w64 (by omega) (by omega)];omega
  have ih:=sG l hl j (k+1) (i64.wrap (a+(x.code.length:Int))) (by omega)
  rw[sA,hd]
  simp only[h1,h2,TQ,TK,Qs,hx,Ql,Qe,SS,w]
  by_cases hp:x.places>2000
  ·simp[hp]
  ·simp only[hp,TR,Qj,TL,SW]
   exact ih
theorem qn:∀(l:List aB) (a:Int),0<=a->a+(l.length:Int) *4294967296<=4611686018427387904->(∀f∈l,f.code.length<=4294967296)->a<=fi a l/\∀f∈l,(f.code.length:Int)<=fi a l
 |[],a,h0,h1,h2=>⟨RS _,λf hf=>by cases hf⟩
 |x::r,a,h0,h1,h2=>by
  have hx:=h2 x (Qo ..)
  rw[QA]at h1
  have e:(((r.length+1:Nat):Int)) *4294967296=(r.length:Int) *4294967296+4294967296:=by rw[Int.natCast_add,Int.add_mul];rfl
  rw[e]at h1
  have hr:(0:Int)<=(r.length:Int) *4294967296:=Sw (by omega) (by decide)
  have w:i64.wrap (a+(x.code.length:Int))=a+(x.code.length:Int):=w64 (by omega) (by omega)
  have ih:=qn r (a+(x.code.length:Int)) (by omega) (by omega) (λf hf=>h2 f (Qm _ hf))
  have ec:fi a (x::r)=fi (a+(x.code.length:Int)) r:=by unfold fi;rw[SF,w]
  rw[ec]
  refine⟨by omega,λf hf=> ?_⟩
  rw[Qu]at hf
  rcases hf with hf|hf
  ·rw[hf];omega
  ·exact ih.2 f hf
theorem Io(l:List aB)(hl:l.length<=4294967296)(hc:∀f∈l,f.code.length<=4294967296):∃b,n_9 (l,())=some (b,())/\(b=false->l.length<=200/\∀f∈l,f.code.length<=3000):=by
 have h:=sG l hl _ 0 0 (Qy _)
 rw[Q5,QV]at h
 rw[n_9,h]
 by_cases ha:l.any (λf=>decide (f.places>2000))=true
 ·rw[TP ha];exact⟨true,rfl,λh=>by cases h⟩
 ·rw[TN ha]
  simp only[Ql,Qe]
  by_cases h3:fi 0 l>3000
  ·simp only[h3,TQ,TK,Qe];exact⟨true,rfl,λh=>by cases h⟩
  ·simp only[h3,TR,Qj,TL,Qe]
   refine⟨_,rfl,λhb=> ?_⟩
   have h2:l.length<=200:=by
    have:(l.length:Int)<=200:=by simpa using hb
    omega
   refine⟨h2,λf hf=> ?_⟩
   have:=(qn l 0 (RS _) (by omega) hc).2 f hf
   omega
def veq(v w:aD):Bool:=Mp.ieq v.type0.base w.type0.base&&(Mp.ieq v.type0.bits w.type0.bits&&(Mp.seq v.type0.name0 w.type0.name0&&(Mp.beq v.type0.opt w.type0.opt&&(Mp.beq v.type0.err w.type0.err&&(Mp.ieq v.n w.n&&(Mp.beq v.null w.null&&(Mp.seq v.err w.err&&(Mp.ieq v.of0.base w.of0.base&&(Mp.ieq v.of0.bits w.of0.bits&&(Mp.seq v.of0.name0 w.of0.name0&&(Mp.beq v.of0.opt w.of0.opt&&Mp.beq v.of0.err w.of0.err)))))))))))
theorem IB{a b:ByteArray}:Mp.seq a b=true↔a=b:=by
 obtain⟨a⟩:=a
 obtain⟨b⟩:=b
 show(a==b)=true↔_
 simp
theorem EO(s:ByteArray):Mp.seq s s=true:=IB.mpr rfl
theorem Fp(v:aD):veq v v=true:=by
 unfold veq
 simp[Mp.ieq,Mp.beq,EO]
def EN(a b:bP):Bool:=(a.kind==b.kind)&&(veq a.value b.value&&(a.stop==b.stop))
theorem xX(a:bP):EN a a=true:=by unfold EN;rw[Fp];simp
theorem BA(a b:bP)(ha:a.trace=[])(hb:b.trace=[]):Ll (a,b,())=some (EN a b,()):=by
 have hl:nJ (0,a,b,())=some (.inr ()):=by
  rw[nJ]
  simp[ha]
 have hv:∀v w:aD,(Mp.ieq v.type0.base w.type0.base&&(Mp.ieq v.type0.bits w.type0.bits&&(Mp.seq v.type0.name0 w.type0.name0&&(Mp.beq v.type0.opt w.type0.opt&&(Mp.beq v.type0.err w.type0.err&&(Mp.ieq v.n w.n&&(Mp.beq v.null w.null&&(Mp.seq v.err w.err&&(Mp.ieq v.of0.base w.of0.base&&(Mp.ieq v.of0.bits w.of0.bits&&(Mp.seq v.of0.name0 w.of0.name0&&(Mp.beq v.of0.opt w.of0.opt&&Mp.beq v.of0.err w.of0.err))))))))))))=veq v w:=λ_ _=>rfl
 rw[Ll]
 unfold EN
 simp only[hv]
 by_cases hk:a.kind=b.kind
 ·have hk1:(a.kind !=b.kind)=false:=by simpa using hk
  have hk2:(a.kind==b.kind)=true:=by simpa using hk
  rw[hk1,hk2]
  cases hq:veq a.value b.value
  ·simp
  ·by_cases hs:a.stop=b.stop
   ·have hs1:(a.stop !=b.stop)=false:=by simpa using hs
    simp[hs,ha,hb,hl]
   ·have hs1:(a.stop !=b.stop)=true:=by simpa using hs
    simp[hs]
 ·have hk1:(a.kind !=b.kind)=true:=by simpa using hk
  have hk2:(a.kind==b.kind)=false:=by simpa using hk
  rw[hk1,hk2]
  simp
theorem xI(r:Item×Lg):(yJ r).trace=[]:=by unfold yJ;split<;>rfl
noncomputable def Bw(l:List aB)(s:ByteArray)(args:List aD)(ck:Bool)(place:Int):Item×Lg:=
 match l[(cJ l s).toNat]? with
 |some f=>xS l ck place (cJ l s).toNat f (args.map itm)
 |none=>(dh 0,lg0 l)
theorem Iy{l:List aB}{s:ByteArray}{args:List aD}{k:Nat}{f:aB}(A:GW l s args k f)(ck:Bool)(place:Int):Bw l s args ck place=xS l ck place k f (args.map itm):=by
 unfold Bw
 rw[A.name,Qs,A.get]
structure wF (l:List aB) (args:List aD):Prop where
 len:l.length<=3000
 code:∀f∈l,f.code.length<=3000
 args:args.length<=4294967296
section
variable {l:List aB} {s:ByteArray} {args:List aD} (F:wF l args)
include F
theorem Kq(h:dW l s args=0)(ck:Bool){place:Int}(hp:∀k f,GW l s args k f->place<f.places):
 Kh (l,cJ l s,args,ck,place,())=some (l,ck,(Bw l s args ck place).2.steps,place,(Bw l s args ck place).2.high,zH (Bw l s args ck place).2,(Bw l s args ck place).2.counts,(Bw l s args ck place).2.seen.map val,yJ (Bw l s args ck place),()):=by
 obtain⟨k,f,A⟩:=tD F.len F.code h
 rw[A.name]
 exact OP A F.args ck place (hp k f A) (Iy A ck place)
omit F in
theorem Dq:∀(k:Nat) (f:aB),GW l s args k f->(-1:Int)<f.places:=λk f A=>by
 obtain⟨_,p0,p1,_⟩:=A.runs.fns f (Qn A.get)
 omega
noncomputable def CJ(l:List aB)(s:ByteArray)(args:List aD)(ck:Bool):bP:=if dW l s args=0 then yJ (Bw l s args ck (-1))else bP.mk 0 (val (dh 0)) 0 []
omit F in
theorem py(ck:Bool):(CJ l s args ck).trace=[]:=by
 unfold CJ
 split
 ·exact xI _
 ·rfl
theorem EJ(ck:Bool):HT (l,s,args,ck,())=some (dW l s args,CJ l s args ck,()):=by
 rw[HT]
 unfold CJ
 simp only[uA l F.len F.code s args F.args,Ql,Qe]
 by_cases h:dW l s args=0
 ·have e:=Kq F h ck (place:= -1) Dq
  simp only[h,TK,bne_self_eq_false,Qj,TL,e,Qe]
 ·have hb:(dW l s args !=0)=true:=by simpa using h
  simp only[hb,h,TK,TL]
  rfl
end
end Go.Proofs.YtcghbgmmgcljkaaGreatDoor
end
section
namespace Go.Proofs.YtcghbgmmgcljkaaGreatDoor
set_option maxRecDepth 20000
set_option maxHeartbeats 4000000
section
variable {l:List aB} {s:ByteArray} {args:List aD} (F:wF l args)
include F
end
def t8:aG:=aG.mk 2 8 (Qc #[]) false false
def CD:aM:=aM.mk 0 200 0 t8 (Qc #[])
def CB:aM:=aM.mk 0 100 0 t8 (Qc #[])
def CE:aM:=aM.mk 5 5 0 t8 (Qc #[])
def y9:aM:=aM.mk 17 0 0 (aG.mk 0 0 (Qc #[]) false false) (Qc #[])
def kF:aB:=aB.mk (Qc #[102]) 0 0 t8 [CD,CB,CE,y9]
theorem HH:bE CD=0/\bE CB=0/\bE CE=2/\bE y9=1:=by
 unfold bE CD CB CE y9
 simp
theorem qx{a:Nat}{h:Int}(r:Reach kF a h):(a=0/\h=0)\/(a=1/\h=1)\/(a=2/\h=2)\/(a=3/\h=1):=by
 induction r with
 |start=>exact .inl ⟨rfl,rfl⟩
 | @step a h c b k r hc hk hw hb ih=>
  rcases ih with⟨e1,e2⟩|⟨e1,e2⟩|⟨e1,e2⟩|⟨e1,e2⟩
  ·subst e1 e2
   have:c=CD:=(Rc hc).symm
   subst this
   rcases cI.mp hw with⟨h1,_⟩|⟨_,h2,h3⟩
   ·simp[dL,CD]at h1
   ·right;left
    refine⟨by omega,?_⟩
    rw[h3];simp[cu,bE,bY,CD]
  ·subst e1 e2
   have:c=CB:=(Rc hc).symm
   subst this
   rcases cI.mp hw with⟨h1,_⟩|⟨_,h2,h3⟩
   ·simp[dL,CB]at h1
   ·right;right;left
    refine⟨by omega,?_⟩
    rw[h3];simp[cu,bE,bY,CB]
  ·subst e1 e2
   have:c=CE:=(Rc hc).symm
   subst this
   rcases cI.mp hw with⟨h1,_⟩|⟨_,h2,h3⟩
   ·simp[dL,CE]at h1
   ·right;right;right
    refine⟨by omega,?_⟩
    rw[h3];simp[cu,bE,bY,CE]
  ·subst e1 e2
   have:c=y9:=(Rc hc).symm
   subst this
   rcases cI.mp hw with⟨h1,_⟩|⟨h1,_,_⟩
   ·simp[dL,y9]at h1
   ·simp[gU,y9]at h1
theorem Aj:¬gV kF:=by
 rintro⟨a,h,c,r,hc,hF⟩
 obtain⟨t1,t2,t3,t4⟩:=HH
 have hl:(kF.code.length:Int)=4:=rfl
 have two:∀h',Reach kF a h'->h'=h:=by
  intro h' r'
  have q1:=qx r
  have q2:=qx r'
  omega
 rcases hF with hF|⟨_,k,hw⟩|⟨h',r',hne⟩
 ·rcases qx r with⟨e1,e2⟩|⟨e1,e2⟩|⟨e1,e2⟩|⟨e1,e2⟩
  ·subst e1 e2
   have:c=CD:=(Rc hc).symm
   subst this
   exact hF ⟨by omega,by omega⟩
  ·subst e1 e2
   have:c=CB:=(Rc hc).symm
   subst this
   exact hF ⟨by omega,by omega⟩
  ·subst e1 e2
   have:c=CE:=(Rc hc).symm
   subst this
   exact hF ⟨by omega,by omega⟩
  ·subst e1 e2
   have:c=y9:=(Rc hc).symm
   subst this
   exact hF ⟨by omega,by omega⟩
 ·rw[hl]at hw
  rcases qx r with⟨e1,e2⟩|⟨e1,e2⟩|⟨e1,e2⟩|⟨e1,e2⟩
  ·subst e1 e2
   have:c=CD:=(Rc hc).symm
   subst this
   rcases cI.mp hw with⟨h1,_⟩|⟨_,h2,h3⟩
   ·simp[dL,CD]at h1
   ·omega
  ·subst e1 e2
   have:c=CB:=(Rc hc).symm
   subst this
   rcases cI.mp hw with⟨h1,_⟩|⟨_,h2,h3⟩
   ·simp[dL,CB]at h1
   ·omega
  ·subst e1 e2
   have:c=CE:=(Rc hc).symm
   subst this
   rcases cI.mp hw with⟨h1,_⟩|⟨_,h2,h3⟩
   ·simp[dL,CE]at h1
   ·omega
  ·subst e1 e2
   have:c=y9:=(Rc hc).symm
   subst this
   rcases cI.mp hw with⟨h1,_⟩|⟨h1,_,_⟩
   ·simp[dL,y9]at h1
   ·simp[gU,y9]at h1
 ·exact hne (two h' r')
theorem HI:dG [kF]=0:=by kernel_rfl
theorem Gq:cJ [kF] (Qc #[102])=0:=by kernel_rfl
theorem Ah:dW [kF] (Qc #[102]) []=0:=by
 have hc:eT [kF]=0:=iy.mpr ⟨HI,by
  rintro⟨f,hf,hF⟩
  rw[Q3]at hf
  subst hf
  exact Aj hF⟩
 unfold dW
 rw[TP hc,Gq]
 rfl
theorem Gr:wF [kF] []:=⟨by simp,by intro f hf;rw[Q3]at hf;rw[hf];simp[kF],by simp⟩
theorem Gs:(xS [kF] true (-1) 0 kF []).2.kind=1/\(xS [kF] true (-1) 0 kF []).2.stop=1:=⟨by kernel_rfl,by kernel_rfl⟩
theorem Ai:(xS [kF] false (-1) 0 kF []).2.kind=0/\(xS [kF] false (-1) 0 kF []).1.n=44:=⟨by kernel_rfl,by kernel_rfl⟩
theorem gd:HR ()=some (true,()):=by
 have r1:=EJ Gr (s:=Qc #[102]) true
 have r2:=EJ Gr (s:=Qc #[102]) false
 have e:∀ck,CJ [kF] (Qc #[102]) [] ck=yJ (xS [kF] ck (-1) 0 kF []):=by
  intro ck
  unfold CJ Bw
  rw[TP Ah,Gq]
  rfl
 rw[Ah,e]at r1 r2
 have o1:(yJ (xS [kF] true (-1) 0 kF [])).kind=1/\(yJ (xS [kF] true (-1) 0 kF [])).stop=1:=by
  unfold yJ
  rw[TN (by rw[Gs.1];decide)]
  exact Gs
 have o2:(yJ (xS [kF] false (-1) 0 kF [])).value.n=44:=by
  unfold yJ
  rw[TP Ai.1]
  exact Ai.2
 unfold kF CD CB CE y9 t8 at r1 r2 o1 o2
 rw[HR]
 simp only[r1,r2,o1,o2,Ql,Qe,beq_self_eq_true,TK]
end Go.Proofs.YtcghbgmmgcljkaaGreatDoor
end
section
namespace Go.Proofs.YtcghbgmmgcljkaaGreatDoor
open IntKind (i64)
set_option maxRecDepth 20000
set_option maxHeartbeats 4000000
section
variable (l:List aB) (x:ff) (hl:l.length<=4294967296) (hc:∀f∈l,f.code.length<=4294967296) (ha:x.args.length<=4294967296)
include hl hc ha
end
theorem zC{l:List aB}(R:kK l):∀f∈l,f.code.length<=2000:=by
 intro f hf
 have h:=R.valid
 unfold dG at h
 split at h
 ·cases h
 ·rename_i hb
  have h48:¬l.length>48:=λq=>hb (.inl q)
  have hc:¬fi 0 l>2000:=λq=>hb (.inr (.inl q))
  have:=(qn l 0 (RS _) (by omega) (λf hf=>by have:=(R.fns f hf).2.2.2.2.1;omega)).2 f hf
  omega
theorem Ax{e:Int}{l:List aB}{g:aB}(h:g∈l.map (ext e)):∃f∈l,g=ext e f:=by
 obtain⟨f,hf,rfl⟩:=QD.mp h
 exact⟨f,hf,rfl⟩
theorem yT{e:Int}(he:0<=e/\e<=7){l:List aB}{s:ByteArray}{args:List aD}(F:wF l args)(h:dW l s args=0):
 dW (l.map (ext e)) s args=3\/(dW (l.map (ext e)) s args=0/\∀ck,CJ (l.map (ext e)) s args ck=CJ l s args ck):=by
 obtain⟨k,f,A⟩:=tD F.len F.code h
 have R:=A.runs
 by_cases hbig:(l.map (ext e)).length>48\/fi 0 (l.map (ext e))>2000\/nx (l.map (ext e))=true
 ·left
  have hv:dG (l.map (ext e))=3:=by unfold dG;rw[TP hbig]
  have hc:eT (l.map (ext e))=3:=by unfold eT;rw[hv,TN (by decide)]
  unfold dW
  rw[hc,TN (by decide)]
 ·right
  have hfs:fS l 0 l=true:=by
   have hv:=R.valid
   unfold dG at hv
   split at hv
   ·cases hv
   ·split at hv
    ·assumption
    ·cases hv
  have hv:dG (l.map (ext e))=0:=by
   unfold dG
   rw[TN hbig,TP (pe he R l 0 (λf hf=>hf) hfs)]
  have hc:eT (l.map (ext e))=0:=iy.mpr ⟨hv,by
   rintro⟨g,hg,hF⟩
   obtain⟨f',hf',rfl⟩:=Ax hg
   exact uu (R.fns f' hf').2.2.2 (R.nofault f' hf') hF⟩
  have hget:(l.map (ext e))[k]?=some (ext e f):=by rw[Qh,A.get];rfl
  have has:dW (l.map (ext e)) s args=0:=by
   have hk0:¬(k:Int)<0:=by omega
   have h':=h
   unfold dW at h'⊢
   rw[hc,TP rfl,g8,A.name,TN hk0,Qs,hget]
   rw[TP (by
    by_cases q:eT l=0
    ·exact q
    ·rw[TN q]at h';exact absurd h' q),A.name,TN hk0,Qs,A.get]at h'
   exact h'
  refine⟨has,λck=> ?_⟩
  unfold CJ Bw
  rw[TP has,TP h,g8,A.name,Qs,hget,A.get]
  simp only[]
  congr 1
  obtain⟨b1,b2⟩:=qi A (-1)
  have p:=R.fns f (Qn A.get)
  have hfit:=A.fit
  have hle:=l_ he R ck (-1) 40000 f 1 0 _ [] _ b1 b2
  unfold xS
  rw[rN he.1 f _ (by rw[Qg];omega)]
  have e2:lg1 (l.map (ext e)) (-1) k (ext e f) (args.map itm)=lg1 l (-1) k f (args.map itm):=by
   unfold lg1 lg0
   simp
  rw[e2]
  exact hle
theorem vC(l:List aB)(more e:Int)(he:0<=e/\e<=7)(hm:i64.wrap (more.tmod 8)=e)(hl:l.length<=3000)(hp:∀f∈l,0<=f.places/\f.places<=200/\f.code.length<=3000)(x:ff)(o:bP):∀(j k:Nat) (out:List aB),k+j=l.length->out.length=k->
 sm (l,more,(k:Int),x,o,out,())=some (x,o,out++(l.drop k).map (ext e),())
 |0,k,out,h,ho=>by
  rw[sm,dI (by omega)]
  have:¬(k:Int)<(l.length:Int):=by omega
  simp[this]
 |j+1,k,out,h,ho=>by
  obtain⟨f,hx,hfm,hd⟩:=cY (l:=l) (k:=k) (by omega)
  obtain⟨p0,p1,p2⟩:=hp f hfm
  have h1:(k:Int)<(l.length:Int):=by omega
  have h2:(0:Int)<=(k:Int):=by omega
  have w:i64.wrap ((k:Int)+1)=((k+1:Nat):Int):=by rw[w64 (by omega) (by omega)];omega
  have w2:i64.wrap (f.places+e)=f.places+e:=w64 (by omega) (by omega)
  have hle:∀v:aB,out.length+[v].length<=4294967296:=by intro v;simp;omega
  have hle2:∀v:aM,f.code.length+[v].length<=4294967296:=by intro v;simp;omega
  have hle3:f.code.length<=4294967296:=by omega
  have ih:=vC l more e he hm hl hp x o j (k+1) (out++[ext e f]) (by omega) (by simp;omega)
  rw[sm,hd]
  simp only[h1,h2,TQ,TK,Qs,hx,Ql,Qe,Qy,hle3,QS,hle2,hle,hm,w2,w]
  refine Eq.trans ih ?_
  rw[Qp,Rt]
  rfl
theorem Ov(l:List aB)(x:ff)(more:Int)(hl:l.length<=4294967296)(hc:∀f∈l,f.code.length<=4294967296)(ha:x.args.length<=4294967296)(hm:0<=more/\more<=255):n_4 (l,x,more,())=some (true,()):=by
 obtain⟨b,hb,hb2⟩:=Io l hl hc
 rw[n_4]
 simp only[hb,Ql,Qe]
 cases b
 ·obtain⟨h1,h2⟩:=hb2 rfl
  have F:wF l x.args:=⟨by omega,h2,ha⟩
  simp only[Qj,TL,Qe]
  by_cases h0:l.length=0
  ·have:((l.length:Int)==0)=true:=by simp[h0]
   simp only[this,TK,gd,Qe]
  ·have:((l.length:Int)==0)=false:=by simp;exactλq=>h0 (by simp[q])
   simp only[this,Qj,TL,EJ F,Qe]
   by_cases h:dW l x.name0 x.args=0
   ·obtain⟨k,f,A⟩:=tD F.len F.code h
    have R:=A.runs
    have et:more.tmod 8=more%8:=SU hm.1
    have e1:0<=more%8/\more%8<=7:=by omega
    have hw:i64.wrap (more.tmod 8)=more%8:=by rw[et];exact w64 (by omega) (by omega)
    have lp:=vC l more (more%8) e1 hw F.len (λf hf=>by have p:=R.fns f hf;have:=R.places f hf;exact⟨by omega,this,F.code f hf⟩) x (CJ l x.name0 x.args x.checks) _ 0 [] (Qy _) rfl
    rw[Q5,QV,QS]at lp
    have F2:wF (l.map (ext (more%8))) x.args:=⟨by rw[Qg];exact F.len,by
     intro g hg
     obtain⟨f',hf',rfl⟩:=Ax hg
     have:=zC R f' hf'
     show(f'.code++[lQ]).length<=3000
     rw[QB,Rq];omega,ha⟩
    simp only[h,bne_self_eq_false,Qj,TL,lp,Qe,EJ F2]
    rcases yT e1 F h with h3|⟨h3,ho⟩
    ·simp only[h3,beq_self_eq_true,TK,gd,Qe]
    ·have n3:((0:Int)==3)=false:=rfl
     simp only[h3,n3,beq_self_eq_true,Qj,TL,TK,gd,Qe,ho,BA _ _ (py _) (py _),xX]
   ·have hb3:(dW l x.name0 x.args !=0)=true:=by simpa using h
    simp only[hb3,TK,Qe,gd]
 ·simp only[TK,gd,Qe]
end Go.Proofs.YtcghbgmmgcljkaaGreatDoor
end
section
namespace Go.Proofs.YtcghbgmmgcljkaaGreatDoor
open Go.Tx
theorem GN{ns:List Nat}:∀{i n:Nat},ns[i]?=some n->n<=ns.sum:=by
 induction ns with
 |nil=>intro i n h;simp at h
 |cons a r ih=>
  intro i n h
  cases i with
  |zero=>simp at h;subst h;simp
  |succ i=>have:=ih (i:=i) (by simpa using h);simp;omega
theorem IE{ns:List Nat}(h:∀n∈ns,1<=n):ns.length<=ns.sum:=by
 induction ns with
 |nil=>simp
 |cons a r ih=>
  have h1:=h a Qo
  have h2:=ih λn hn=>h n (Qm _ hn)
  simp;omega
theorem Jj{e:Ty vw.ι}{x:den vw.N e}{m:Nat}(h:Bk vw e x m):1<=m:=by
 cases h<;>omega
theorem Hf{e:Ty SN}{xs:List (den NN e)}{m:Nat}(h:Bk vw (.sl e) xs m):xs.length+1<=m/\∀x∈xs,∃n,n+1<=m/\Bk vw e x n:=by
 cases h with
 |sl ns h1 h2 h3=>
  have h1:ns.length=xs.length:=h1
  have hp:∀n∈ns,1<=n:=λn hn=>by
   obtain⟨i,hi⟩:=RA hn
   obtain⟨x,hx⟩:∃x,xs[i]?=some x:=⟨_,Qi (by have:=(Qf.1 hi).1;omega)⟩
   exact Jj (h2 i x n hx hi)
  have:=IE hp
  refine⟨by omega,λx hx=> ?_⟩
  obtain⟨i,hi⟩:=RA hx
  obtain⟨n,hn⟩:∃n,ns[i]?=some n:=⟨_,Qi (by have:=(Qf.1 hi).1;omega)⟩
  exact⟨n,by have:=GN hn;omega,h2 i x n hi hn⟩
theorem Jk{i:SN}{x:NN i}{m:Nat}(h:Bk vw (.st i) x m):∀l∈eu i x,∃n,n+1<=m/\Bk vw l.t l.x n:=by
 cases h with
 |st ns h1 h2 h3=>
  intro l hl
  obtain⟨j,hj⟩:=RA hl
  have h1:ns.length=(eu i x).length:=h1
  obtain⟨n,hn⟩:∃n,ns[j]?=some n:=⟨_,Qi (by have:=(Qf.1 hj).1;omega)⟩
  exact⟨n,by have:=GN hn;omega,h2 j l n hj hn⟩
theorem vJ{l:List aB}{m:Nat}(h:Bk vw (.sl (.st .myFuncT)) l m)(hm:m<=1048576):l.length<=4294967296/\∀f∈l,f.code.length<=4294967296:=by
 obtain⟨h1,h2⟩:=Hf h
 refine⟨by omega,λf hf=> ?_⟩
 obtain⟨n,hn,hb⟩:=h2 f hf
 obtain⟨k,hk,hc⟩:=Jk hb ⟨.sl (.st .myCodeT),f.code⟩ (by simp[eu])
 have:f.code.length+1<=k:=(Hf hc).1
 omega
theorem CQ{x:ff}{m:Nat}(h:Bk vw (.st .askedT) x m)(hm:m<=1048576):x.args.length<=4294967296:=by
 obtain⟨k,hk,hc⟩:=Jk h ⟨.sl (.st .myValueT),x.args⟩ (by simp[eu])
 have:x.args.length+1<=k:=(Hf hc).1
 omega
theorem kC(l:List aB)(x:ff)(more:Int)(h0:Ok vw (.sl (.st .myFuncT)) l)(h1:Ok vw (.st .askedT) x)(h2:Ok vw (.int .u8) more)(m0:Nat)(b0:Bk vw (.sl (.st .myFuncT)) l m0)(m1:Nat)(b1:Bk vw (.st .askedT) x m1)(m2:Nat)(b2:Bk vw (.int .u8) more m2)(hm:m0+m1+m2<=1048576):n_4 (l,x,more,())=some (true,()):=
 Ov l x more (vJ b0 (by omega)).1 (vJ b0 (by omega)).2 (CQ b1 (by omega)) (by
  cases h2 with
  |int h=>simpa[Lit.wf,IntKind.min,IntKind.max,IntKind.signed,IntKind.bits]using h)
end Go.Proofs.YtcghbgmmgcljkaaGreatDoor
end
section
namespace Go.Proofs.YtcghbgmmgcljkaaGreatDoor.stackExtends
open Go.ChangeShapes Go.WideShapes Go.ChangeAt Go.RowKit Go.Awp Go.Tx
open Go.Proofs.Tryz (prog)
theorem uf:laidOutB prog=true:=by kernel_rfl
theorem own:ownKnob prog.godebug=none:=by kernel_rfl
theorem C1(x0:(List aB))(x1:ff)(x2:Int)(h0:Ok vw (.sl (.st .myFuncT)) x0)(h1:Ok vw (.st .askedT) x1)(h2:Ok vw (.int .u8) x2)(m0:Nat)(b0:Bk vw (.sl (.st .myFuncT)) x0 m0)(m1:Nat)(b1:Bk vw (.st .askedT) x1 m1)(m2:Nat)(b2:Bk vw (.int .u8) x2 m2)(hm:m0+m1+m2<=1048576):lS prog 4 [.d (aY szN CF (.sl (.st .myFuncT)) x0), .d (aY szN CF (.st .askedT) x1), .d (aY szN CF (.int .u8) x2)] [] (.d (.v (.bool true))) []:=
 kq (by kernel_rfl) (Ki (x0,x1,x2,()) (true,()) (.lf .bool true) (kC x0 x1 x2 h0 h1 h2 m0 b0 m1 b1 m2 b2 hm) rfl)
noncomputable def w0(os:Os):World:=World.laidAll prog os Rows.stackExtendsUptoRow.laid
theorem Dh(os:Os):laidMetH prog Rows.stackExtendsUptoRow.laid ((w0 os).forCall (λ_ _=>0) ⟨#[], #[.slice none 0 0, .agg #[.string Rr, .slice none 0 0, .bool false], .int .u8 0],[]⟩).memory:=by
 rw[MakeChecks.laidMetH_plain _ _ _ (by kernel_rfl)];exact laidMet_laidAll _ (by kernel_rfl) (by kernel_rfl)
set_option maxRecDepth 100000 in
theorem reads(os:Os){H:Type}(enc:TypeId×Value->H):DataW.whole enc prog ((w0 os).forCall (λ_ _=>0) ⟨#[], #[.slice none 0 0, .agg #[.string Rr, .slice none 0 0, .bool false], .int .u8 0],[]⟩).memory Tryz.f4.params.toList Rows.stackExtendsSpec.vars false #[.slice none 0 0, .agg #[.string Rr, .slice none 0 0, .bool false], .int .u8 0].toList 8=some ([.nil, .agg [.lit (.string []), .nil, .lit (.bool false)], .lit (.int .u8 0)],[],[]):=by kernel_rfl
set_option maxRecDepth 100000 in
theorem Ke(os:Os)(started:os.Started)(H:Type)(enc:TypeId×Value->H)(F:Stop.Interp):
 ReturnsInHanded {} Tryz.checked os 4 .any ((Rows.OpenSpec.upto Rows.stackExtendsSpec).preRow enc prog Tryz.f4 Rows.stackExtendsUptoRow.domain false Rows.stackExtendsUptoRow.laid) (((Rows.OpenSpec.upto Rows.stackExtendsSpec).at F).post enc prog Tryz.f4 false true false false):=by
 have hok:Input.okWideB prog ((w0 os).forCall (λ_ _=>0) ⟨#[], #[.slice none 0 0, .agg #[.string Rr, .slice none 0 0, .bool false], .int .u8 0],[]⟩) 4 ⟨#[], #[.slice none 0 0, .agg #[.string Rr, .slice none 0 0, .bool false], .int .u8 0],[]⟩=true:=by kernel_rfl
 refine returnsInHanded_of_row (C:=Tryz.checked) (s:=(Rows.OpenSpec.upto Rows.stackExtendsSpec)) own started (by kernel_rfl) Tryz.func4
  ⟨w0 os,λ_ _=>0,⟨#[], #[.slice none 0 0, .agg #[.string Rr, .slice none 0 0, .bool false], .int .u8 0],[]⟩,World.laidAll_os _ _ _,World.shaped_of_ZipB (by kernel_rfl) (by kernel_rfl),(Input.okWide_of_okWideB (base:=0) hok).1,(Input.okWide_of_okWideB hok).2,
   OpenSpec.preRow_of_cond 8 (reads os enc) (by kernel_rfl) (λk hk=>by cases hk;kernel_rfl) (by kernel_rfl) (Dh os),
   by simp only[Assume.holds];exact⟨by simp,by simp,λ_=>Modest.zero,by simp,by simp⟩⟩ ?_
 intro W base args ds gs before hval0 hW _ hcond _ hL _ _
 have hval:∀(j:Nat) t v,Tryz.f4.params[j]?=some t->args[j]?=some v->Value.okWide prog W .any base t v:=hval0
 have hW':=hW
 obtain⟨p,q,hA0,hV,rfl,hfz,hnd⟩:=hW'
 have hA:DataW.TrodAll enc prog W 0 (λ_=>true) true Tryz.f4.params.toList args.toList ds p:=hA0
 rw[Tryz.params4]at hA hval
 obtain⟨v0,vs0,d0,ds0,p0,q0,ha0,rfl,rfl,h0,r0⟩:=trodAll_cons hA
 obtain⟨v1,vs1,d1,ds1,p1,q1,ha1,rfl,rfl,h1,r1⟩:=trodAll_cons r0
 subst ha1
 obtain⟨v2,vs2,d2,ds2,p2,q2,ha2,rfl,rfl,h2,r2⟩:=trodAll_cons r1
 subst ha2
 obtain⟨rfl,rfl,rfl⟩:=trodAll_nil r2
 obtain rfl:args= #[v0,v1,v2]:=by cases args;simp_all
 obtain⟨rfl,rfl⟩:=trodVars_none hV
 have hk:Rows.uptoBulkAll ([d0,d1,d2]++[])<=1048576:=of_decide_eq_true (hcond _ rfl)
 have hlt0:∀x∈p0,x.block<W.heap.size:=λx hx=>by simpa using hW.lt x (by simp[hx])
 have hd0:=iz d0
 have hlt1:∀x∈p1,x.block<W.heap.size:=λx hx=>by simpa using hW.lt x (by simp[hx])
 have hd1:=iz d1
 have hlt2:∀x∈p2,x.block<W.heap.size:=λx hx=>by simpa using hW.lt x (by simp[hx])
 have hd2:=iz d2
 obtain⟨x0,ok0,hr0,hb0⟩:=nU facts (τ:=(.sl (.st .myFuncT))) rfl (hval 0 22 v0 rfl rfl) h0
 obtain⟨x1,ok1,hr1,hb1⟩:=nU facts (τ:=(.st .askedT)) rfl (hval 1 25 v1 rfl rfl) h1
 obtain⟨x2,ok2,hr2,hb2⟩:=nU facts (τ:=(.int .u8)) rfl (hval 2 5 v2 rfl rfl) h2
 have hm:dw d0+dw d1+dw d2<=1048576:=by
  simp only[RO,Rows.uptoBulkAll]at hk
  omega
 refine((C1 x0 x1 x2 ok0 ok1 ok2 _ hb0 _ hb1 _ hb2 hm).closed (W:=W) (vs:= #[v0,v1,v2]) (zX hL) ⟨rfl,λi c x hc hx=> ?_⟩).mono λe W' ⟨he,hb⟩=> ?_
 ·match i with
  |0=>simp at hc hx;subst hc;subst hx;exact .d hr0
  |1=>simp at hc hx;subst hc;subst hx;exact .d hr1
  |2=>simp at hc hx;subst hc;subst hx;exact .d hr2
  |i+3=>simp at hc
 subst he
 exact⟨_,rfl,_,_,_,[],_,[],hW,trodAll_cons_mk (shut_bool Tryz.underlying4 _) trodAll_mk0,
  (trodAll_cons_mk (Below.trod uf (by kernel_rfl) (of_decide_eq_true (by kernel_rfl)) h0 hb hlt0) (trodAll_cons_mk (Below.trod uf (by kernel_rfl) (of_decide_eq_true (by kernel_rfl)) h1 hb hlt1) (trodAll_cons_mk (Below.trod uf (by kernel_rfl) (of_decide_eq_true (by kernel_rfl)) h2 hb hlt2) trodAll_mk0))),rfl,hb.frame _,(λh=>by cases h)⟩
theorem row:Rows.StackExtendsUptoSaid:=
 OpenClaim.holds_of_cond 4 Tryz.f4 rfl rfl rfl rfl rfl rfl rfl ⟨rfl,rfl,rfl,rfl,rfl⟩ rfl rfl rfl rfl rfl (by kernel_rfl) Tryz.func4 (by kernel_rfl)
  (of_decide_eq_true (by kernel_rfl)) (by unfold Func.isWrapper;first|(rw[TP (by decide+kernel)];kernel_rfl)|(rw[TN (by decide+kernel)];exact⟨rfl,rfl⟩))
  (λos started H enc _ F=>by rw[OpenClaim.pre_eq_preRow];exact Ke os started H enc F)
theorem proved:Rows.StackExtendsUptoCardSaid:=
 Claim7.holds_tied_plain_at .later [] [.listed, .data] true (true, "9903706971e3bb189f6f1d2425e4062bf0ab55d30c817c4194f043affe1c4612") false row (λ_ h=>by cases h) (by kernel_rfl) (λ_ h=>by cases h) stackExtendsUpto_row_tie rfl ⟨rfl,rfl⟩ (by kernel_rfl) rfl
  (λf fn hf hfn=>by
    obtain rfl:f=4:=Rc ((show prog.funcNamed "mandrel/mandrellaw13.StackExtends" =some 4 by kernel_rfl).symm.trans hf)|>.symm
    obtain rfl:fn=Tryz.f4:=(Rc (Tryz.func4.symm.trans hfn)).symm
    exact⟨by kernel_rfl,λj t ht=>by
     rw[Tryz.params4]at ht
     have hm:t∈([22,25,5]:List TypeId):=by simpa using Array.mem_of_getElem? ht
     have hall:(([22,25,5]:List TypeId).all λu=> !prog.wantsStandIn u)=true:=by kernel_rfl
     exact(show prog.wantsStandIn t=false by simpa using Qq.1 hall t hm)⟩)
  (by kernel_rfl)
end Go.Proofs.YtcghbgmmgcljkaaGreatDoor.stackExtends
end
