/-
  Texts of this claim, joined by a program of mine: what the theorem uses.
-/
import Derived.Test.YtpelkenpapfadaaGreatDoorPkI
import Derived.Test.YtpelkenpapfadaaGreatDoorPkH
import Derived.KernelRfl
import Derived.Test.YtpelkenpapfadaaGreatDoorPkE
import Derived.Test.YtpelkenpapfadaaGreatDoorCards
import Derived.Test.YtpelkenpapfadaaGreatDoorTie
import Derived.ProofKit
import Derived.OpenShut
import Derived.LaidMore
import Derived.Lay
import Derived.SevenTiedAt
import Derived.Stop.Joined
open Bool renaming eq_false_iff→Yo,false_eq_true→Vj,false_ne_true→VK,not_false→Vo,not_true→Vq,or_eq_false_iff→We,or_eq_true→V0,true_eq_false→Vn,true_or→V2
open ByteArray renaming empty→W9,mk→Vp
open Decidable renaming byContradiction→Yq
open Int renaming le_refl→Yf,natCast_nonneg→Vm,natCast_zero→WB,ofNat_eq_natCast→Wn,ofNat_lt→Vs,toNat→Wq,toNat_natCast→Vl
open List renaming all_eq_true→VH,any_eq_true→WJ,append_nil→Wo,cons_append→VM,drop→YE,drop_zero→V6,findIdx?_eq_some_iff_findIdx_eq→Xm,foldl_cons→Wy,getD_eq_getElem?_getD→VS,getElem?_eq_getElem→Vw,getElem?_map→Vz,length→Xt,length_append→VB,length_cons→VD,length_drop→Wg,length_map→VA,length_nil→VU,length_singleton→Vt,length_take→Wj,map_append→Wk,map_cons→VC,map_map→V1,map_singleton→XW,mem_append→VJ,mem_append_left→WQ,mem_append_right→W5,mem_cons→VG,mem_cons_of_mem→Vu,mem_cons_self→Vy,mem_of_getElem?→VI,mem_singleton→Wd,nil_append→V7,take_add_one→Xg,take_append_drop→WW,take_of_length_le→Wf,take_zero→XI
open Nat renaming add_zero→V3,eq_zero_or_pos→XU,le_refl→VN,le_trans→Wl,lt_irrefl→Xh,reduceAdd→Xp,reduceEqDiff→Xb,succ_mul→Wt,zero_add→V4,zero_le→WL
open Option renaming bind_eq_bind→Vi,bind_none→Vr,bind_some→Vk,getD_some→WY,or_eq_some_iff→X3
open Option.some renaming inj→Xn
open Sum renaming inl→V_,inr→V9
noncomputable section
set_option linter.unusedSimpArgs false
set_option linter.unusedVariables false
section
namespace Go.Proofs.YtpelkenpapfadaaGreatDoor
open Go.Tx
set_option maxRecDepth 20000
open Go.Lib
def Bdd(t:aa):Prop:=t.Fits/\t.all.length<=61
theorem jw{k n:Int}{f:Bool}(hk:0<=k/\k<=100)(hn: -9223372036854775808<=n/\n<=9223372036854775807):(aa.mk k n f []).Fits:=by
 intro q hq
 have:q=aa.mk k n f []:=by rw[aa.all_eq]at hq;simpa[aa.allL]using hq
 rw[this];exact⟨by simp only;omega,hn,by simp⟩
theorem vR{q:aa}:∀{ps:List aa},q∈aa.allL ps->∃p∈ps,q∈p.all
 |p::r,h=>by
  rw[aa.allL,VJ]at h
  rcases h with h|h
  ·exact⟨p,Vy,h⟩
  ·obtain⟨p',a,b⟩:=vR h;exact⟨p',Vu _ a,b⟩
theorem zM{k n:Int}{f:Bool}{ps:List aa}(hk:0<=k/\k<=100)(hn: -9223372036854775808<=n/\n<=9223372036854775807)(hl:ps.length<=9223372036854775807)(hp:∀p∈ps,p.Fits):(aa.mk k n f ps).Fits:=by
 intro q hq
 rw[aa.all_eq]at hq
 rcases VG.1 hq with rfl|hq
 ·exact⟨by simp only;omega,hn,hl⟩
 ·obtain⟨p,a,b⟩:=vR hq
  exact hp p a q b
theorem Ea{B:Nat}:∀{ps:List aa},(∀p∈ps,p.all.length<=B)->(aa.allL ps).length<=ps.length *B
 |[],_=>by simp[aa.allL]
 |p::r,h=>by
  rw[aa.allL,VB,VD,Wt]
  have:=h p Vy
  have:=Ea (B:=B) λq hq=>h q (Vu p hq)
  omega
theorem IJ{l:List UInt8}{n:Int}(h:Lib.atoiAll l= .ok n): -9223372036854775808<=n/\n<=9223372036854775807:=by
 unfold Lib.atoiAll at h
 split at h
 ·cases h
 ·simp only[]at h
  split at h
  ·cases h
  ·cases h
  ·rename_i u hu
   split at h
   ·cases h
   ·split at h
    ·cases h
    ·cases h
     split<;>omega
theorem JH(s:BA): -9223372036854775808<=qV s/\qV s<=9223372036854775807:=by
 unfold qV
 cases h:Lib.atoiAll s.data.toList with
 |ok n=>exact IJ h
 |range=>simp only;unfold Lib.atoiSat;split<;>omega
 |_=>simp only;omega
theorem Mb{it:List Item}(hi:eV it){l:List BA}{t:aa}{r:List BA}(h:qY it l=some (t,r)):t.Fits/\t.all.length<=60:=by
 rw[eS]at h
 obtain⟨u,r1,_,h⟩:=au h
 obtain⟨s,r2,_,h⟩:=au h
 unfold dF at h
 have leaf (k n:Int) (f:Bool) (hk:0<=k/\k<=100) (hn:0<=n/\n<=100):(aa.mk k n f []).Fits/\(aa.mk k n f []).all.length<=60:=⟨jw hk (by omega),by rw[aa.all_eq];simp[aa.allL]⟩
 split at h
 ·cases h;exact leaf 2 8 _ (by omega) (by omega)
 split at h
 ·cases h;exact leaf 2 16 _ (by omega) (by omega)
 split at h
 ·cases h;exact leaf 2 32 _ (by omega) (by omega)
 obtain⟨_,r3,_,h⟩:=au h
 split at h
 ·cases h;exact leaf 3 0 _ (by omega) (by omega)
 split at h
 ·cases h;exact leaf 0 0 _ (by omega) (by omega)
 split at h
 ·obtain⟨n,r4,_,h⟩:=au h
  obtain⟨_,r5,hn,h⟩:=au h
  cases h
  rcases uJ it 2 n with⟨e,_⟩|⟨e,_,_⟩
  ·rw[e];exact leaf 0 0 false (by omega) (by omega)
  ·exact⟨hi.fits _ e,(H4 (hi.val _ e)).1⟩
 split at h
 ·obtain⟨n,r4,_,h⟩:=au h
  obtain⟨_,r5,hn,h⟩:=au h
  cases h;exact leaf 2 32 _ (by omega) (by omega)
 ·obtain⟨_,r5,hn,h⟩:=au h
  cases h;exact leaf 0 0 _ (by omega) (by omega)
theorem Bz:∀(l:List BA) (t:aa),t.Fits/\t.all.length<=60->(stars t l).1.Fits/\(stars t l).1.all.length<=60
 |[],t,h=>h
 |s::r,t,h=>by
  unfold stars;split
  ·exact Bz r _ ⟨jw (by omega) (by omega),by rw[aa.all_eq];simp[aa.allL]⟩
  ·exact h
theorem qw{it:List Item}(hi:eV it){b:Bool}{l:List BA}{t:aa}{r:List BA}(h:sM it b l=some (t,r)):t.Fits/\t.all.length<=60:=by
 obtain⟨t0,r1,h1,h⟩:=au h
 obtain⟨t1,r2,h2,h⟩:=au h
 obtain⟨_,r3,_,h⟩:=au h
 have h2:some (stars t0 r1)=some (t1,r2):=h2
 injection h2 with h2
 have:=Bz r1 t0 (Mb hi h1)
 rw[h2]at this
 cases h;exact this
theorem NC{it:List Item}(hi:eV it){mx:Int}{l:List BA}{p:aa×BA}{r:List BA}(h:kG it mx l=some (p,r)):Bdd p.1:=by
 obtain⟨t,r1,h1,h⟩:=au h
 obtain⟨n,r2,_,h⟩:=au h
 obtain⟨b,r3,_,h⟩:=au h
 obtain⟨t',r4,h4,h⟩:=au h
 obtain⟨_,r5,_,h⟩:=au h
 cases h
 obtain⟨k1,k2⟩:=qw hi h1
 unfold yV at h4
 split at h4
 ·obtain⟨v,r6,hv,h4⟩:=au h4
  obtain⟨_,r7,_,h4⟩:=au h4
  obtain⟨_,r8,_,h4⟩:=au h4
  cases h4
  have hvb: -9223372036854775808<=v/\v<=9223372036854775807:=by
   cases hr3:r3 with
   |nil=>rw[hr3]at hv;cases hv
   |cons s z=>
    rw[hr3]at hv
    have hv:(if fi s=true then some (qV s,z)else none)=some (v,r6):=hv
    split at hv
    ·cases hv;exact JH s
    ·cases hv
  refine⟨zM (by omega) hvb (by simp) (by simpa using k1),?_⟩
  show(aa.mk 5 v false [t]).all.length<=61
  rw[aa.all_eq,VD]
  simp only[aa.allL,Wo];omega
 ·cases h4;exact⟨k1,Wl k2 (by omega)⟩
structure QW (l:List BA) (ns0:List BA) (ps0:List aa) (q:List BA×List aa):Prop where
 sub:∀p∈ps0,p∈q.2
 len:ns0.length=ps0.length->q.1.length=q.2.length
 bnd:q.2.length<=ps0.length+l.length
 bd:(∀p∈ps0,Bdd p)->∀p∈q.2,Bdd p
theorem vn{it:List Item}(hi:eV it){mx:Int}:∀(k:Nat) (ns0:List BA) (ps0:List aa) (l:List BA) (q:List BA×List aa) (r:List BA),bR it mx k ns0 ps0 l=some (q,r)->QW l ns0 ps0 q
 |0,ns0,ps0,l,q,r,h=>by cases h
 |k+1,ns0,ps0,l,q,r,h=>by
  unfold bR at h
  split at h
  ·cases h;exact⟨λp hp=>hp,λh=>h,by simp,λh=>h⟩
  ·obtain⟨a,r1,e1,e2⟩:=au h
   have ih:=vn hi k _ _ _ _ _ e2
   have hlt:=Ltp.part it mx _ _ _ e1
   have hb:=NC hi e1
   refine⟨λp hp=>ih.sub p (WQ _ hp),λh=>ih.len (by rw[VB,VB,h];rfl),?_,λh=>ih.bd λp hp=> ?_⟩
   ·have:=ih.bnd;rw[VB,Vt]at this;omega
   ·rcases VJ.1 hp with hp|hp
    ·exact h p hp
    ·rw[Wd.1 hp];exact hb
theorem Ee{it:List Item}(hi:eV it):∀(k:Nat) (ns0:List BA) (ps0:List aa) (l:List BA) (q:List BA×List aa) (r:List BA),G6 it k ns0 ps0 l=some (q,r)->QW l ns0 ps0 q
 |0,ns0,ps0,l,q,r,h=>by cases h
 |k+1,ns0,ps0,l,q,r,h=>by
  obtain⟨t,r1,e1,h⟩:=au h
  obtain⟨n,r2,e2,h⟩:=au h
  obtain⟨c,r3,e3,h⟩:=au h
  have l1:=Ltp.kind it false _ _ _ e1
  have l2:=Ltp.name _ _ _ e2
  have l3:=Lep.may _ _ _ _ e3
  have hb:Bdd t:=⟨(qw hi e1).1,by have:=(qw hi e1).2;omega⟩
  have key:QW r3 (ns0++[n]) (ps0++[t]) q:=by
   split at h
   ·exact Ee hi k _ _ _ _ _ h
   ·cases h;exact⟨λp hp=>hp,λh=>h,by simp,λh=>h⟩
  refine⟨λp hp=>key.sub p (WQ _ hp),λh=>key.len (by rw[VB,VB,h];rfl),?_,λh=>key.bd λp hp=> ?_⟩
  ·have:=key.bnd;rw[VB,Vt]at this;omega
  ·rcases VJ.1 hp with hp|hp
   ·exact h p hp
   ·rw[Wd.1 hp];exact hb
def form(it:List Item)(mx:Int):Nat->Ps Item
 |0=>ql it
 |1=>zK it
 |2=>dR it mx
 |_=>zL it
structure D7 (l:List BA) (k:Nat) (x:Item):Prop where
 kind:x.kind=(k:Int)
 names:x.names.length<=l.length+1
 fits:x.layout.Fits
 all:x.layout.all.length<=62 *(l.length+2)
 lay:k<2->x.layout=z0
 str:2<=k->x.layout.kind=6
 par:2<=k->x.names.length<=x.layout.parts.length
theorem xF:∀(k:Nat) (acc:List BA) (l:List BA) (ns:List BA) (r:List BA),mU k acc l=some (ns,r)->ns.length<=acc.length+l.length
 |0,acc,l,ns,r,h=>by cases h
 |k+1,acc,l,ns,r,h=>by
  obtain⟨n,r2,e2,h⟩:=au h
  obtain⟨c,r3,e3,h⟩:=au h
  have l2:=Ltp.name _ _ _ e2
  have l3:=Lep.may _ _ _ _ e3
  split at h
  ·have:=xF k _ _ _ _ h;rw[VB,Vt]at this;omega
  ·cases h;rw[VB,Vt];omega
theorem IB:z0.Fits:=jw (by omega) (by omega)
theorem LY:z0.all.length=1:=by rw[aa.all_eq];simp[aa.allL,z0]
theorem LZ:jW z0=0:=by
 simp[jW,z0,aa.large,aa.all,aa.allL,aa.depth,aa.depthL,aa.big,aa.big1,aa.cells,aa.cellsL,aa.right,aa.isS,ra,P1]
theorem FV{ps:List aa}(h:∀p∈ps,Bdd p):(aa.mk 6 0 false ps).Fits/\(ps.length<=9223372036854775807->True)/\(aa.mk 6 0 false ps).all.length<=62 *(ps.length+1)\/9223372036854775807<ps.length:=by
 by_cases hl:ps.length<=9223372036854775807
 ·left
  refine⟨zM (by omega) (by omega) hl λp hp=>(h p hp).1,λ_=>trivial,?_⟩
  rw[aa.all_eq,VD]
  have:=Ea (B:=61) λp hp=>(h p hp).2
  simp only;omega
 ·right;omega
theorem zQ{it:List Item}(hi:eV it){mx:Int}{k:Nat}(hk:k<4){l:List BA}(hl:l.length<=1000000){x:Item}{r:List BA}(h:form it mx k l=some (x,r)):D7 l k x:=by
 match k,hk with
 |0,_=>
  obtain⟨_,r1,_,h⟩:=au h
  obtain⟨n,r2,_,h⟩:=au h
  obtain⟨m,r3,_,h⟩:=au h
  obtain⟨v,r4,_,h⟩:=au h
  obtain⟨_,r5,_,h⟩:=au h
  cases h
  exact⟨rfl,by simp,IB,by rw[LY];omega,λ_=>rfl,λh=>by omega,λh=>by omega⟩
 |1,_=>
  obtain⟨_,r1,e1,h⟩:=au h
  obtain⟨n,r2,e2,h⟩:=au h
  obtain⟨_,r3,e3,h⟩:=au h
  obtain⟨ns,r4,e4,h⟩:=au h
  obtain⟨_,r5,_,h⟩:=au h
  obtain⟨_,r6,_,h⟩:=au h
  cases h
  have a1:=Lep.wants _ _ _ _ e1
  have a2:=Ltp.name _ _ _ e2
  have a3:=Lep.wants _ _ _ _ e3
  have a4:=xF _ _ _ _ _ e4
  rw[VU]at a4
  exact⟨rfl,by simp only;omega,IB,by rw[LY];omega,λ_=>rfl,λh=>by omega,λh=>by omega⟩
 |2,_=>
  obtain⟨_,r1,e1,h⟩:=au h
  obtain⟨n,r2,e2,h⟩:=au h
  obtain⟨_,r3,e3,h⟩:=au h
  obtain⟨q,r4,e4,h⟩:=au h
  obtain⟨_,r5,_,h⟩:=au h
  obtain⟨_,r6,_,h⟩:=au h
  cases h
  have a1:=Lep.wants _ _ _ _ e1
  have a2:=Ltp.name _ _ _ e2
  have a3:=Lep.wants _ _ _ _ e3
  have ok:=vn hi _ _ _ _ _ _ e4
  have b1:=ok.len rfl
  have b2:=ok.bnd
  rw[VU]at b2
  rcases FV (ok.bd (by simp))with⟨c1,_,c2⟩|c
  ·exact⟨rfl,by simp only;omega,c1,by simp only;omega,λh=>by omega,λ_=>rfl,λ_=>by simp only;omega⟩
  ·omega
 |3,_=>
  obtain⟨t,r1,e1,h⟩:=au h
  obtain⟨n,r2,e2,h⟩:=au h
  obtain⟨_,r3,e3,h⟩:=au h
  obtain⟨q,r4,e4,h⟩:=au h
  obtain⟨_,r5,_,h⟩:=au h
  obtain⟨_,r6,_,h⟩:=au h
  cases h
  have a1:=Ltp.kind it true _ _ _ e1
  have a2:=Ltp.name _ _ _ e2
  have a3:=Lep.wants _ _ _ _ e3
  have hb:Bdd t:=⟨(qw hi e1).1,by have:=(qw hi e1).2;omega⟩
  have ok:QW r3 [] [] q:=by
   unfold kV at e4
   split at e4
   ·cases e4;exact⟨by simp,λ_=>rfl,by simp,by simp⟩
   ·exact Ee hi _ _ _ _ _ _ e4
  have b1:=ok.len rfl
  have b2:=ok.bnd
  rw[VU]at b2
  have hps:∀p∈q.2++[t],Bdd p:=λp hp=>by
   rcases VJ.1 hp with hp|hp
   ·exact ok.bd (by simp) p hp
   ·rw[Wd.1 hp];exact hb
  rcases FV hps with⟨c1,_,c2⟩|c
  ·rw[VB,Vt]at c2
   exact⟨rfl,by simp only;omega,c1,by simp only;omega,λh=>by omega,λ_=>rfl,λ_=>by simp only[VB,Vt];omega⟩
  ·rw[VB,Vt]at c;omega
def SV(ps:List aa):Prop:=∃p∈ps,p.kind=5/\p.n>1000
theorem OD(t:aa)(b:Bool)(l:List BA):(∀t' r,yV jc t b l=some (t',r)->yV 1000 t b l=some (t',r)\/yV 1000 t b l=none/\t'.kind=5/\t'.n>1000)/\(yV jc t b l=none->yV 1000 t b l=none):=by
 unfold yV
 cases b with
 |false=>simp only[Vj,Y2];exact⟨λt' r h=> .inl h,λh=>h⟩
 |true=>
  simp only[Y1]
  unfold bnd nay
  cases NB l with
  |none=>exact⟨λt' r h=> .inl h,λh=>h⟩
  |some y=>
   obtain⟨v,r⟩:=y
   simp only
   by_cases h1:v<1
   ·simp[h1]
   ·by_cases h2:v>jc
    ·have h3:v>1000:=by unfold jc at h2;omega
     simp[h1,h2,h3]
    ·by_cases h3:v>1000
     ·have e1:(decide (v<1)||decide (v>jc))=false:=by simp[h1,h2]
      have e2:(decide (v<1)||decide (v>1000))=true:=by simp[h3]
      simp only[e1,e2,Y1,Vj,Y2]
      refine⟨λt' r' h=> .inr ⟨by trivial,?_⟩,λ_=>by trivial⟩
      cases hw:cG [Ov] r with
      |none=>rw[hw]at h;cases h
      |some z=>rw[hw]at h;cases h;exact⟨rfl,h3⟩
     ·have e1:(decide (v<1)||decide (v>jc))=false:=by simp[h1,h2]
      have e2:(decide (v<1)||decide (v>1000))=false:=by simp[h1,h3]
      simp only[e1,e2]
      exact⟨λt' r h=> .inl h,λh=>h⟩
theorem ND(it:List Item)(l:List BA):(∀p r,kG it jc l=some (p,r)->kG it 1000 l=some (p,r)\/kG it 1000 l=none/\p.1.kind=5/\p.1.n>1000)/\(kG it jc l=none->kG it 1000 l=none):=by
 unfold kG
 unfold bnd
 cases sM it false l with
 |none=>exact⟨λt' r h=> .inl h,λh=>h⟩
 |some y=>
  obtain⟨t,r1⟩:=y
  simp only
  cases dU r1 with
  |none=>exact⟨λt' r h=> .inl h,λh=>h⟩
  |some y=>
   obtain⟨n,r2⟩:=y
   simp only
   cases xO vM r2 with
   |none=>exact⟨λt' r h=> .inl h,λh=>h⟩
   |some y=>
    obtain⟨b,r3⟩:=y
    simp only
    obtain⟨m1,m2⟩:=OD t b r3
    cases hb:yV jc t b r3 with
    |none=>rw[m2 hb];exact⟨λt' r h=> .inl h,λh=>h⟩
    |some y=>
     obtain⟨t',r4⟩:=y
     rcases m1 t' r4 hb with e|⟨e,e2⟩
     ·rw[e];exact⟨λt' r h=> .inl h,λh=>h⟩
     ·rw[e]
      simp only
      refine⟨λp r h=> .inr ⟨by trivial,?_⟩,λ_=>by trivial⟩
      cases hw:cG [sB] r4 with
      |none=>rw[hw]at h;cases h
      |some z=>rw[hw]at h;cases h;exact e2
theorem Bo{it:List Item}(hi:eV it):∀(k:Nat) (ns:List BA) (ps:List aa) (l:List BA),(∀q r,bR it jc k ns ps l=some (q,r)->bR it 1000 k ns ps l=some (q,r)\/bR it 1000 k ns ps l=none/\SV q.2)/\(bR it jc k ns ps l=none->bR it 1000 k ns ps l=none)
 |0,ns,ps,l=>⟨λq r h=>(by cases h),λ_=>rfl⟩
 |k+1,ns,ps,l=>by
  unfold bR
  cases hc:dK cB l with
  |true=>rw[Y5 rfl];exact⟨λq r h=> .inl h,λh=>h⟩
  |false=>
   rw[Y4 VK]
   obtain⟨m1,m2⟩:=ND it l
   unfold bnd
   cases hb:kG it jc l with
   |none=>rw[m2 hb];exact⟨λq r h=>(by cases h),λ_=>rfl⟩
   |some y=>
    obtain⟨p,r1⟩:=y
    rcases m1 p r1 hb with e|⟨e,e2⟩
    ·rw[e];exact Bo hi k _ _ r1
    ·rw[e]
     refine⟨λq r h=> .inr ⟨by trivial,p.1,?_,e2⟩,λ_=>by trivial⟩
     exact(vn hi k _ _ _ _ _ h).sub p.1 (W5 _ (Wd.2 rfl))
theorem I_{x:aa}(h:SV x.parts):¬jW x=0:=by
 obtain⟨p,hp,h1,h2⟩:=h
 have hb:p.big=true:=by unfold aa.big aa.big1;rw[h1,decide_eq_true h2];simp
 have hl:x.large=true:=by
  unfold aa.large
  have:x.all.any aa.big=true:=WJ.2 ⟨p,by rw[x.all_eq];exact Vu _ (aa.allL_mem hp p.mem_self),hb⟩
  rw[this];simp
 unfold jW
 rw[hl,V2,Y5 rfl];decide
theorem HI{it:List Item}(hi:eV it)(l:List BA):(∀x r,dR it jc l=some (x,r)->dR it 1000 l=some (x,r)\/dR it 1000 l=none/\¬jW x.layout=0)/\(dR it jc l=none->dR it 1000 l=none):=by
 unfold dR
 unfold bnd
 cases cG [bP] l with
 |none=>exact⟨λt' r h=> .inl h,λh=>h⟩
 |some y=>
  obtain⟨_,r1⟩:=y
  simp only
  cases dU r1 with
  |none=>exact⟨λt' r h=> .inl h,λh=>h⟩
  |some y=>
   obtain⟨n,r2⟩:=y
   simp only
   cases cG [oB] r2 with
   |none=>exact⟨λt' r h=> .inl h,λh=>h⟩
   |some y=>
    obtain⟨_,r3⟩:=y
    simp only
    obtain⟨m1,m2⟩:=Bo hi (r3.length+1) [] [] r3
    have e1:lT it jc r3=bR it jc (r3.length+1) [] [] r3:=rfl
    have e2:lT it 1000 r3=bR it 1000 (r3.length+1) [] [] r3:=rfl
    rw[e1,e2]
    cases hb:bR it jc (r3.length+1) [] [] r3 with
    |none=>rw[m2 hb];exact⟨λt' r h=> .inl h,λh=>h⟩
    |some y=>
     obtain⟨q,r4⟩:=y
     rcases m1 q r4 hb with e|⟨e,e3⟩
     ·rw[e];exact⟨λt' r h=> .inl h,λh=>h⟩
     ·rw[e]
      simp only
      refine⟨λx r h=> .inr ⟨by trivial,?_⟩,λ_=>by trivial⟩
      cases hw:cG [cB,sB] r4 with
      |none=>rw[hw]at h;cases h
      |some z=>
       rw[hw]at h
       simp only at h
       cases hz:nay (q.1.isEmpty||j5 q.1) z.2 with
       |none=>rw[hz]at h;cases h
       |some z2=>rw[hz]at h;cases h;exact I_ e3
def fc(it:List Item)(mx:Int)(k:Nat)(l:List BA):Option Item:=match form it mx k l with
 |some (x,[])=>if fH it k x.name0=true then none else if 1<k/\¬jW x.layout=0 then none else some x
 |_=>none
theorem I7(it:List Item)(mx:Int):form it mx 0=ql it:=rfl
theorem Pu(it:List Item)(mx:Int):form it mx 1=zK it:=rfl
theorem Pv(it:List Item)(mx:Int):form it mx 2=dR it mx:=rfl
theorem Pw(it:List Item)(mx:Int)(k:Nat):form it mx (k+3)=zL it:=rfl
theorem HU{it:List Item}(hi:eV it)(k:Nat)(l:List BA):fc it jc k l=fc it 1000 k l:=by
 unfold fc
 match k with
 |0=>rw[I7,I7]
 |1=>rw[Pu,Pu]
 |k+3=>rw[Pw,Pw]
 |2=>
  obtain⟨m1,m2⟩:=HI hi l
  rw[Pv,Pv]
  cases hb:dR it jc l with
  |none=>rw[m2 hb]
  |some y=>
   obtain⟨x,r⟩:=y
   rcases m1 x r hb with e|⟨e,e2⟩
   ·rw[e]
   ·rw[e]
    cases r with
    |nil=>
     simp only
     split
     ·rfl
     ·rw[Y5 ⟨by omega,e2⟩]
    |cons z w=>rfl
def kF(it:List Item)(l:List BA):Option Item:=(((fc it 1000 0 l).or (fc it 1000 1 l)).or (fc it 1000 2 l)).or (fc it 1000 3 l)
theorem Ob{it:List Item}(hi:eV it){k:Nat}(hk:k<4){l:List BA}(hl:l.length<=1000000){x:Item}(h:fc it 1000 k l=some x):D7 l k x/\jW x.layout=0:=by
 unfold fc at h
 split at h
 ·rename_i y hf
  split at h
  ·cases h
  ·split at h
   ·cases h
   ·rename_i h2
    cases h
    have ok:=zQ hi hk hl hf
    refine⟨ok,?_⟩
    by_cases hk2:1<k
    ·exact Yq λh=>h2 ⟨hk2,h⟩
    ·rw[ok.lay (by omega)];exact LZ
 ·cases h
theorem Ja{it:List Item}(hi:eV it){l:List BA}(hl:l.length<=1000000){x:Item}(h:kF it l=some x):x.names.length<=l.length+1/\x.layout.Fits/\jW x.layout=0/\(x.kind=2->x.layout.kind=6):=by
 have:∃k,k<4/\fc it 1000 k l=some x:=by
  unfold kF at h
  rcases X3.1 h with h|⟨_,h⟩
  ·rcases X3.1 h with h|⟨_,h⟩
   ·rcases X3.1 h with h|⟨_,h⟩
    ·exact⟨0,by omega,h⟩
    ·exact⟨1,by omega,h⟩
   ·exact⟨2,by omega,h⟩
  ·exact⟨3,by omega,h⟩
 obtain⟨k,hk,h⟩:=this
 obtain⟨ok,hv⟩:=Ob hi hk hl h
 refine⟨ok.names,ok.fits,hv,λh2=>ok.str ?_⟩
 have:=ok.kind;rw[h2]at this;omega
theorem eV.add{it:List Item}(hi:eV it){l:List BA}(hl:l.length<=900000){x:Item}(h:kF it l=some x)(hn:it.length<1000000):eV (it++[x]):=by
 obtain⟨a1,a2,a3,a4⟩:=Ja hi (by omega) h
 have mem {P:Item->Prop} (h1:∀y∈it,P y) (h2:P x):∀y∈it++[x],P y:=λy hy=>by
  rcases VJ.1 hy with hy|hy
  ·exact h1 y hy
  ·rw[Wd.1 hy];exact h2
 exact⟨by rw[VB,Vt];omega,mem hi.names (by omega),mem hi.fits a2,mem hi.val a3,mem (P:=λy=>y.kind=2->y.layout.kind=6) hi.str a4⟩
end Go.Proofs.YtpelkenpapfadaaGreatDoor
end
section
namespace Go.Proofs.YtpelkenpapfadaaGreatDoor
open Go.Tx
set_option maxRecDepth 20000
open Go.Lib
theorem CP{it:List Item}{k:Int}{y x:Item}{l r:List BA}(h:fresh it k y l=some (x,r)):x=y/\r=l/\fH it k y.name0=false:=by
 obtain⟨_,r1,e1,h⟩:=au h
 unfold nay at e1
 split at e1
 ·cases e1
 ·rename_i hh
  cases e1;cases h
  exact⟨rfl,rfl,Yo.2 hh⟩
theorem IL{α β:Type}{p:Ps α}{q:α->Ps β}{l:List BA}(h:bnd p q l=none):p l=none\/∃a r,p l=some (a,r)/\q a r=none:=by
 unfold bnd at h
 cases hp:p l with
 |none=>exact .inl rfl
 |some x=>obtain⟨a,r⟩:=x;rw[hp]at h;exact .inr ⟨a,r,rfl,h⟩
theorem Oj{x:Item}{l:List BA}{k:Nat}(ok:D7 l k x)(hl:l.length<=10000):D2 (x.layout,())=some (jW x.layout,())/\z_ (x.layout,())=some (jW x.layout,()):=by
 have h1:=ok.all
 have h2:x.layout.depth<=x.layout.all.length:=by
  refine aa.ind (P:=λl=>l.depth<=l.all.length) (λl ih=> ?_) x.layout
  rw[l.depth_eq,l.all_eq,VD]
  have:∀ps:List aa,(∀p∈ps,p.depth<=(aa.allL l.parts).length)->aa.depthL ps<=(aa.allL l.parts).length:=by
   intro ps
   induction ps with
   |nil=>intro _;simp[aa.depthL]
   |cons p r ihr=>
    intro h
    rw[aa.depthL]
    have:=h p Vy
    have:=ihr λq hq=>h q (Vu p hq)
    omega
  have:=this l.parts λp hp=>Wl (ih p hp) (ux hp)
  omega
 exact⟨y20 _ ok.fits (by omega) (by omega),y21 _ ok.fits (by omega) (by omega)⟩
structure uw (it:List Item) (mx:Int) (k:Nat) (l:List BA) (P:Ps Item):Prop where
 yes:∀y r,P l=some (y,r)->form it mx k l=some (y,r)/\fH it k y.name0=false
 no:P l=none->∀y r,form it mx k l=some (y,r)->fH it k y.name0=true
abbrev L4(it:List Item)(mx:Int)(k:Nat)(l:List BA)(x:Item)(l':List BA)(w':Bool):Prop:=
 (fc it mx k l=none/\(w'=true\/w'=false/\l'≠[]\/w'=false/\l'=[]/\x.kind=(k:Int)/\2<=k/\D7 l k x/\¬jW x.layout=0))\/
   (fc it mx k l=some x/\w'=false/\l'=[]/\x.kind=(k:Int)/\D7 l k x/\jW x.layout=0)
theorem o_{it:List Item}(hi:eV it){mx:Int}{k:Nat}(hk:k<4){l:List BA}(hl:l.length<=10000){x:Item}{l':List BA}{w':Bool}{P:Ps Item}(hP:uw it mx k l P)
 (hm:Sim P l false x l' w'):L4 it mx k l x l' w':=by
 have key:(w'=true/\∀y r,form it mx k l=some (y,r)->fH it k y.name0=true)\/(w'=false/\form it mx k l=some (x,l')/\fH it k x.name0=false):=by
  cases hf:P l with
  |none=>exact .inl ⟨hm.no rfl hf,hP.no hf⟩
  |some z=>
   obtain⟨y,r⟩:=z
   obtain⟨a,b,c⟩:=hm.ok rfl y r hf
   obtain⟨d,e⟩:=hP.yes y r hf
   subst b c
   exact .inr ⟨a,d,e⟩
 rcases key with⟨hw,hh⟩|⟨hw,hf,hh⟩
 ·refine .inl ⟨?_, .inl hw⟩
  unfold fc
  cases hf:form it mx k l with
  |none=>rfl
  |some z=>
   obtain⟨y,r⟩:=z
   cases r with
   |nil=>simp only;rw[hh y [] hf,Y5 rfl]
   |cons a b=>rfl
 ·have ok:=zQ hi hk (by omega) hf
  cases l' with
  |cons a b=>exact .inl ⟨by unfold fc;rw[hf], .inr (.inl ⟨hw,by simp⟩)⟩
  |nil=>
   have hb:(fH it (k:Int) x.name0=true)=False:=by rw[hh];simp
   by_cases hv:1<k/\¬jW x.layout=0
   ·exact .inl ⟨by unfold fc;rw[hf];simp only[hb,Y2];rw[Y5 hv], .inr (.inr ⟨hw,rfl,ok.kind,by omega,ok,hv.2⟩)⟩
   ·refine .inr ⟨by unfold fc;rw[hf];simp only[hb,Y2];rw[Y4 hv],hw,rfl,ok.kind,ok,?_⟩
    by_cases hk2:1<k
    ·exact Yq λh=>hv ⟨hk2,h⟩
    ·rw[ok.lay (by omega)];exact LZ
theorem uw.fresh(it:List Item)(mx:Int)(k:Nat)(l:List BA):uw it mx k l (bnd (form it mx k) (fresh it k)):=by
 refine⟨λy r h=> ?_,λh y r hy=> ?_⟩
 ·obtain⟨y',r',e1,e2⟩:=au h
  obtain⟨e3,e4,e5⟩:=CP e2
  subst e3 e4
  exact⟨e1,e5⟩
 ·rcases IL h with e|⟨a,r',e,e2⟩
  ·rw[e]at hy;cases hy
  ·rw[e]at hy
   injection hy with hy;injection hy with h1 h2
   subst h1 h2
   cases hh:fH it k a.name0 with
   |true=>rfl
   |false=>
    unfold Proofs.YtpelkenpapfadaaGreatDoor.fresh Proofs.YtpelkenpapfadaaGreatDoor.bnd nay at e2
    rw[hh,Y4 VK]at e2
    cases e2
theorem CC{it:List Item}{mx:Int}{l:List BA}{y:Item}{r:List BA}(h:form it mx 0 l=some (y,r)):fH it 0 y.name0=false:=by
 rw[I7]at h
 obtain⟨_,r1,_,h⟩:=au h
 obtain⟨n,r2,_,h⟩:=au h
 obtain⟨m,r3,_,h⟩:=au h
 obtain⟨v,r4,_,h⟩:=au h
 obtain⟨_,r5,e,h⟩:=au h
 cases h
 unfold nay at e
 split at e
 ·cases e
 ·rename_i hh
  unfold gG at hh
  simp only[V0,not_or,Bool.not_eq_true]at hh
  exact hh.1
abbrev Fm:List Nat:=[122,123,124,125]
theorem mr{it:List Item}(hi:eV it){k:Nat}(hk:k<4){l:List BA}(hl:l.length<=10000)(X:Item){x:Item}{l':List BA}{w':Bool}
 (ht:L4 it jc k l x l' w')
 (h:(k=0/\fL (l,false,it,())=some (l',w',it,x,()))\/(k=1/\fM (l,false,it,())=some (l',w',it,x,()))\/(k=2/\fN (l,false,it,())=some (l',w',it,x,()))\/(k=3/\d7 (l,false,it,())=some (l',w',it,x,()))):
 aZ (l,Fm,4,(k:Int),X,it,())=match fc it 1000 k l with|some y=>some (.inl (true,it,y,()))|none=>aZ (l,Fm,4,((k+1:Nat):Int),X,it,()):=by
 have hlt:((k:Int)<4):=by omega
 have hge:(0:Int)<=(k:Int):=by omega
 have hwr:=bh (a:=k) (by omega)
 have hlen0:(([]:List BA).length:Int)>0↔False:=by simp
 have ht:L4 it 1000 k l x l' w':=by
  rcases ht with⟨e,h⟩|⟨e,h⟩
  ·exact .inl ⟨by rw[<-HU hi];exact e,h⟩
  ·exact .inr ⟨by rw[<-HU hi];exact e,h⟩
 conv=>lhs;rw[aZ]
 have tail (h':l'≠[]):((l'.length:Int)>0)=True:=by
  cases l' with
  |nil=>exact(h' rfl).elim
  |cons a b=>simp only[VD,eq_iff_iff,iff_true];omega
 have small (hk2:k<2):((k:Int)<2)=True:=by simp;omega
 have great (hk2:2<=k):((k:Int)<2)=False:=by simp;omega
 have get:Fm[k]?=some (122+k):=by
  match k,hk with
  |0,_=>rfl
  |1,_=>rfl
  |2,_=>rfl
  |3,_=>rfl
 rcases ht with⟨e,ht⟩|⟨e,hw,hl0,hkd,ok,hv⟩
 ·rw[e]
  rcases ht with hw|⟨hw,hne⟩|⟨hw,hl0,hkd,hk2,ok,hv⟩
  ·rcases h with⟨rfl,h⟩|⟨rfl,h⟩|⟨rfl,h⟩|⟨rfl,h⟩<;>
    simp only[hlt,hge,Y7,Vi,Vk,Y1,Y2,Vj,Vq,Vo,Vl,get,h,hw,hwr,V3,Xp,Xb]
  ·have:=tail hne
   rcases h with⟨rfl,h⟩|⟨rfl,h⟩|⟨rfl,h⟩|⟨rfl,h⟩<;>
    simp only[hlt,hge,Y7,Vi,Vk,Y1,Y2,Vj,Vq,Vo,Vl,get,h,hw,this,hwr,V3,Xp,Xb]
  ·have hg:=great hk2
   have h99:=(Oj ok hl).1
   have hv':(jW x.layout==0)=false:=beq_eq_false_iff_ne.2 hv
   subst hl0
   rcases h with⟨rfl,h⟩|⟨rfl,h⟩|⟨rfl,h⟩|⟨rfl,h⟩
   ·omega
   ·omega
   ·simp only[hlt,hge,Y7,Vi,Vk,Y1,Y2,Vj,Vq,Vo,Vl,get,h,hw,hkd,hg,hlen0,Y8,eta,h99,hv',hwr,V3,Xp,Xb]
   ·simp only[hlt,hge,Y7,Vi,Vk,Y1,Y2,Vj,Vq,Vo,Vl,get,h,hw,hkd,hg,hlen0,Y8,eta,h99,hv',hwr,V3,Xp,Xb]
 ·rw[e]
  subst hl0
  by_cases hk2:k<2
  ·have hs:=small hk2
   rcases h with⟨rfl,h⟩|⟨rfl,h⟩|⟨rfl,h⟩|⟨rfl,h⟩
   ·simp only[hlt,hge,Y7,Vi,Vk,Y1,Y2,Vj,Vq,Vo,Vl,get,h,hw,hkd,hs,hlen0,Y8,V3,Xp,Xb]
   ·simp only[hlt,hge,Y7,Vi,Vk,Y1,Y2,Vj,Vq,Vo,Vl,get,h,hw,hkd,hs,hlen0,Y8,V3,Xp,Xb]
   ·omega
   ·omega
  ·have hg:=great (by omega)
   have h99:=(Oj ok hl).1
   have hv':(jW x.layout==0)=true:=by rw[hv];rfl
   rcases h with⟨rfl,h⟩|⟨rfl,h⟩|⟨rfl,h⟩|⟨rfl,h⟩
   ·omega
   ·omega
   ·simp only[hlt,hge,Y7,Vi,Vk,Y1,Y2,Vj,Vq,Vo,Vl,get,h,hw,hkd,hg,hlen0,Y8,eta,h99,hv',V3,Xp,Xb]
   ·simp only[hlt,hge,Y7,Vi,Vk,Y1,Y2,Vj,Vq,Vo,Vl,get,h,hw,hkd,hg,hlen0,Y8,eta,h99,hv',V3,Xp,Xb]
def tY(l:List BA)(it:List Item):Bool×List Item×Item×Unit:=match kF it l with|some y=>(true,it,y,())|none=>(false,it,zI,())
theorem f68(it:List Item)(hi:eV it)(l:List BA)(hg:vK l)(hl:l.length<=10000):jH (l,it,())=some (tY l it):=by
 obtain⟨l0,w0,x0,e0',m0⟩:=Ua it hi l hg false
 obtain⟨l1,w1,x1,e1,m1⟩:=f123 it hi l (by omega) false
 obtain⟨l2,w2,x2,e2,m2⟩:=f124 it hi l hg (by omega) false
 obtain⟨l3,w3,x3,e3,m3⟩:=f125 it hi l (by omega) false
 have g0:uw it jc 0 l (ql it):=⟨λy r h=>⟨h,CC (mx:=jc) h⟩,λh y r hy=>by rw[I7,h]at hy;cases hy⟩
 have t0:=o_ hi (k:=0) (by omega) hl g0 m0
 have t1:=o_ hi (k:=1) (by omega) hl (.fresh it jc 1 l) m1
 have t2:=o_ hi (k:=2) (by omega) hl (.fresh it jc 2 l) m2
 have t3:=o_ hi (k:=3) (by omega) hl (.fresh it jc 3 l) m3
 have s0:=mr hi (k:=0) (by omega) hl zI t0 (.inl ⟨rfl,e0'⟩)
 have s1:=mr hi (k:=1) (by omega) hl zI t1 (.inr (.inl ⟨rfl,e1⟩))
 have s2:=mr hi (k:=2) (by omega) hl zI t2 (.inr (.inr (.inl ⟨rfl,e2⟩)))
 have s3:=mr hi (k:=3) (by omega) hl zI t3 (.inr (.inr (.inr ⟨rfl,e3⟩)))
 have s0:aZ (l,Fm,4,0,zI,it,())=match fc it 1000 0 l with|some y=>some (.inl (true,it,y,()))|none=>aZ (l,Fm,4,1,zI,it,()):=s0
 have s1:aZ (l,Fm,4,1,zI,it,())=match fc it 1000 1 l with|some y=>some (.inl (true,it,y,()))|none=>aZ (l,Fm,4,2,zI,it,()):=s1
 have s2:aZ (l,Fm,4,2,zI,it,())=match fc it 1000 2 l with|some y=>some (.inl (true,it,y,()))|none=>aZ (l,Fm,4,3,zI,it,()):=s2
 have s3:aZ (l,Fm,4,3,zI,it,())=match fc it 1000 3 l with|some y=>some (.inl (true,it,y,()))|none=>aZ (l,Fm,4,4,zI,it,()):=s3
 have s4:aZ (l,Fm,4,4,zI,it,())=some (.inr (zI,it,())):=by
  rw[aZ];rfl
 have hz:Item.mk 0 (Vp #[]) 0 [] (aa.mk 0 0 false [])=zI:=rfl
 have hF:([122,123,124,125]:List Nat)=Fm:=rfl
 have hFl:((Fm.length:Nat):Int)=4:=rfl
 rw[jH,Q3]
 simp only[Vi,Vk,Y1,Y2,Vj,Vq,Vo,hz,hF,hFl,s0,s1,s2,s3,s4]
 unfold tY kF
 cases fc it 1000 0 l with
 |some y=>rfl
 |none=>
  cases fc it 1000 1 l with
  |some y=>rfl
  |none=>
   cases fc it 1000 2 l with
   |some y=>rfl
   |none=>cases fc it 1000 3 l<;>rfl
theorem pj{it:List Item}(hi:eV it){k:Nat}(hk:k<4){l:List BA}(hl:l.length<=10000)(X:Item){x:Item}{l':List BA}{w':Bool}(hm:Sim (form it 1000 k) l false x l' w')
 (h:(k=0/\fI (l,false,it,())=some (l',w',it,x,()))\/(k=1/\fJ (l,false,it,())=some (l',w',it,x,()))\/(k=2/\fK (l,false,it,())=some (l',w',it,x,()))\/(k=3/\d6 (l,false,it,())=some (l',w',it,x,()))):
 aF (l,(k:Int),it,X,())=match fc it 1000 k l with|some y=>some (.inl (true,it,y,()))|none=>aF (l,((k+1:Nat):Int),it,X,()):=by
 have hilen:=hi.len
 have hlt:((k:Int)<4):=by omega
 have hwr:=bh (a:=k) (by omega)
 have h48:=f48 it (by omega) k x.name0
 have tail (h':l'≠[]):((l'.length:Int)>0)=True:=by
  cases l' with
  |nil=>exact(h' rfl).elim
  |cons a b=>simp only[VD,eq_iff_iff,iff_true];omega
 have hlen0:(([]:List BA).length:Int)>0↔False:=by simp
 have q0:((0:Int)==0)=true:=rfl
 have q1:((1:Int)==0)=false:=rfl
 have q2:((1:Int)==1)=true:=rfl
 have q3:((2:Int)==0)=false:=rfl
 have q4:((2:Int)==1)=false:=rfl
 have q5:((2:Int)==2)=true:=rfl
 have q6:((3:Int)==0)=false:=rfl
 have q7:((3:Int)==1)=false:=rfl
 have q8:((3:Int)==2)=false:=rfl
 have q9:((3:Int)==3)=true:=rfl
 have c0:(((0:Nat):Int))=0:=rfl
 have c1:(((1:Nat):Int))=1:=rfl
 have c2:(((2:Nat):Int))=2:=rfl
 have c3:(((3:Nat):Int))=3:=rfl
 have body:aF (l,(k:Int),it,X,())=(some ((l,(k:Int),it,X,l',w',x,()):List BA×Int×List Item×Item×List BA×Bool×Item×Unit)).bind λx1=>
  (en (x1.2.1,x1.2.2.2.2.2.2.1.name0,x1.2.2.1,())).bind λx2=>if x2.2.1.length=x1.2.2.1.length then
    (if x1.2.2.2.2.2.1=true then some ((x1.1,x1.2.1,true,x2.2.1,x1.2.2.2.1,x1.2.2.2.2.2.2.1,()):List BA×Int×Bool×List Item×Item×Item×Unit)
      else if decide ((x1.2.2.2.2.1.length:Int)>0)=true then some (x1.1,x1.2.1,true,x2.2.1,x1.2.2.2.1,x1.2.2.2.2.2.2.1,())
      else if x2.1=true then some (x1.1,x1.2.1,true,x2.2.1,x1.2.2.2.1,x1.2.2.2.2.2.2.1,())
      else if decide (x1.2.1>1)=true then if decide ((x1.2.2.2.2.2.2.1.names.length:Int)>12)=true then some (x1.1,x1.2.1,true,x2.2.1,x1.2.2.2.1,x1.2.2.2.2.2.2.1,())
       else(z_ (aa.mk x1.2.2.2.2.2.2.1.layout.kind x1.2.2.2.2.2.2.1.layout.n x1.2.2.2.2.2.2.1.layout.flag x1.2.2.2.2.2.2.1.layout.parts,())).bind λx3=>some (x1.1,x1.2.1,x3.1 !=0,x2.2.1,x1.2.2.2.1,x1.2.2.2.2.2.2.1,())
      else some (x1.1,x1.2.1,false,x2.2.1,x1.2.2.2.1,x1.2.2.2.2.2.2.1,())).bind λx3=>if x3.2.2.1=true then aF (x3.1,IntKind.i64.wrap (x3.2.1+1),x3.2.2.2.1,x3.2.2.2.2.1,())else some (.inl (true,x3.2.2.2.1,x3.2.2.2.2.2.1,()))
    else none:=by
  conv=>lhs;rw[aF]
  rcases h with⟨rfl,h⟩|⟨rfl,h⟩|⟨rfl,h⟩|⟨rfl,h⟩
  ·simp only[c0,q0,hlt,Y7,Vi,Vk,Y1,Y2,Vj,Vq,Vo,h];rfl
  ·simp only[c1,q1,q2,hlt,Y7,Vi,Vk,Y1,Y2,Vj,Vq,Vo,h];rfl
  ·simp only[c2,q3,q4,q5,hlt,Y7,Vi,Vk,Y1,Y2,Vj,Vq,Vo,h];rfl
  ·simp only[c3,q6,q7,q8,q9,hlt,Y7,Vi,Vk,Y1,Y2,Vj,Vq,Vo,h];rfl
 rw[body]
 simp only[Vi,Vk,Y1,Y2,Vj,Vq,Vo,h48,hwr]
 cases w' with
 |true=>
  have hn:fc it 1000 k l=none:=by
   unfold fc
   cases hf:form it 1000 k l with
   |none=>rfl
   |some z=>obtain⟨y,r⟩:=z;have:=(hm.ok rfl y r hf).1;cases this
  simp only[Vi,Vk,Y1,Y2,Vj,Vq,Vo,hn]
  exact congrArg (λi=>aF (l,i,it,X,())) hwr
 |false=>
  cases hf:form it 1000 k l with
  |none=>have:=hm.no rfl hf;cases this
  |some z=>
   obtain⟨y,r⟩:=z
   obtain⟨_,b,c⟩:=hm.ok rfl y r hf
   subst b c
   have ok:=zQ hi hk (by omega) hf
   cases l' with
   |cons a b=>
    have hn:fc it 1000 k l=none:=by unfold fc;rw[hf]
    have:=tail (by simp)
    simp only[Vi,Vk,Y1,Y2,Vj,Vq,Vo,this,Y7,hn]
    exact congrArg (λi=>aF (l,i,it,X,())) hwr
   |nil=>
    simp only[Vi,Vk,Y1,Y2,Vj,Vq,Vo,hlen0,Y8]
    cases hh:fH it k x.name0 with
    |true=>
     have hn:fc it 1000 k l=none:=by unfold fc;rw[hf];simp only;rw[hh,Y5 rfl]
     simp only[Vi,Vk,Y1,Y2,Vj,Vq,Vo,hn]
     exact congrArg (λi=>aF (l,i,it,X,())) hwr
    |false=>
     have hb:(fH it (k:Int) x.name0=true)=False:=by rw[hh];simp
     by_cases hk2:1<k
     ·have hgt:((k:Int)>1):=by omega
      have h105:=(Oj ok hl).2
      by_cases hv:jW x.layout=0
      ·have hn:fc it 1000 k l=some x:=by unfold fc;rw[hf];simp only[hb,Y2];rw[Y4 (λh=>h.2 hv)]
       have hnames:¬((x.names.length:Int)>12):=by
        have:=ok.par (by omega)
        have hbig:x.layout.big=false:=by
         cases hbg:x.layout.big with
         |false=>rfl
         |true=>
          have:x.layout.large=true:=by
           unfold aa.large
           have:x.layout.all.any aa.big=true:=WJ.2 ⟨x.layout,x.layout.mem_self,hbg⟩
           rw[this];simp
          unfold jW at hv
          rw[this,V2,Y5 rfl]at hv;cases hv
        unfold aa.big at hbig
        rw[We,decide_eq_false_iff_not]at hbig
        omega
       have hv':(jW x.layout !=0)=false:=by rw[hv];rfl
       simp only[Vi,Vk,Y1,Y2,Vj,Vq,Vo,hgt,Y7,hnames,Y8,eta,h105,hv',hn]
      ·have hn:fc it 1000 k l=none:=by unfold fc;rw[hf];simp only[hb,Y2];rw[Y5 ⟨hk2,hv⟩]
       have hv':(jW x.layout !=0)=true:=bne_iff_ne.2 hv
       by_cases hnm:(x.names.length:Int)>12
       ·simp only[Vi,Vk,Y1,Y2,Vj,Vq,Vo,hgt,Y7,hnm,hn]
        exact congrArg (λi=>aF (l,i,it,X,())) hwr
       ·simp only[Vi,Vk,Y1,Y2,Vj,Vq,Vo,hgt,Y7,hnm,Y8,eta,h105,hv',hn]
        exact congrArg (λi=>aF (l,i,it,X,())) hwr
     ·have hgt:¬((k:Int)>1):=by omega
      have hn:fc it 1000 k l=some x:=by unfold fc;rw[hf];simp only[hb,Y2];rw[Y4 (λh=>hk2 h.1)]
      simp only[Vi,Vk,Y1,Y2,Vj,Vq,Vo,hgt,Y8,hn]
theorem f70(it:List Item)(hi:eV it)(l:List BA)(hg:vK l)(hl:l.length<=10000):jI (l,it,())=some (tY l it):=by
 obtain⟨l0,w0,x0,e0',m0⟩:=T7 it hi l hg false
 obtain⟨l1,w1,x1,e1,m1⟩:=f102 it hi l (by omega) false
 obtain⟨l2,w2,x2,e2,m2⟩:=f103 it hi l hg (by omega) false
 obtain⟨l3,w3,x3,e3,m3⟩:=f104 it hi l (by omega) false
 have s0:=pj hi (k:=0) (by omega) hl zI m0 (.inl ⟨rfl,e0'⟩)
 have s1:=pj hi (k:=1) (by omega) hl zI m1 (.inr (.inl ⟨rfl,e1⟩))
 have s2:=pj hi (k:=2) (by omega) hl zI m2 (.inr (.inr (.inl ⟨rfl,e2⟩)))
 have s3:=pj hi (k:=3) (by omega) hl zI m3 (.inr (.inr (.inr ⟨rfl,e3⟩)))
 have s0:aF (l,0,it,zI,())=match fc it 1000 0 l with|some y=>some (.inl (true,it,y,()))|none=>aF (l,1,it,zI,()):=s0
 have s1:aF (l,1,it,zI,())=match fc it 1000 1 l with|some y=>some (.inl (true,it,y,()))|none=>aF (l,2,it,zI,()):=s1
 have s2:aF (l,2,it,zI,())=match fc it 1000 2 l with|some y=>some (.inl (true,it,y,()))|none=>aF (l,3,it,zI,()):=s2
 have s3:aF (l,3,it,zI,())=match fc it 1000 3 l with|some y=>some (.inl (true,it,y,()))|none=>aF (l,4,it,zI,()):=s3
 have s4:aF (l,4,it,zI,())=some (.inr (it,zI,())):=by
  rw[aF];rfl
 have hz:Item.mk 0 (Vp #[]) 0 [] (aa.mk 0 0 false [])=zI:=rfl
 rw[jI]
 simp only[Vi,Vk,Y1,Y2,Vj,Vq,Vo,hz,s0,s1,s2,s3,s4]
 unfold tY kF
 cases fc it 1000 0 l with
 |some y=>rfl
 |none=>
  cases fc it 1000 1 l with
  |some y=>rfl
  |none=>
   cases fc it 1000 2 l with
   |some y=>rfl
   |none=>cases fc it 1000 3 l<;>rfl
end Go.Proofs.YtpelkenpapfadaaGreatDoor
end
section
namespace Go.Proofs.YtpelkenpapfadaaGreatDoor
open Go.Tx
set_option maxRecDepth 20000
open Classical
theorem f39:∀a:aa,a.Fits->∀b:aa,b.Fits->n_39 (a,b,())=some (decide (a=b),()):=by
 refine aa.ind λa ih ha b hb=> ?_
 have hn:=ha.len
 have loop:∀(m k:Nat),a.parts.length=b.parts.length->a.parts.length-k=m->jB (k,a,b,())=some (if a.parts.drop k=b.parts.drop k then .inr ()else .inl (false,())):=by
  intro m
  induction m with
  |zero=>
   intro k he hm
   have hlt:¬k<a.parts.length:=by omega
   have hlt':¬k<b.parts.length:=by omega
   rw[jB]
   simp only[Vi,Vk,Vr,Y1,Y2,Vj,Vn,Vl,Vm,Y6,Y3,Vs,hlt,dy hlt,dy hlt']
  |succ m ihm=>
   intro k he hm
   have hlt:k<a.parts.length:=by omega
   obtain⟨p,hp1,hpm,hd,g1,g2⟩:=dP hlt
   obtain⟨q,hq1,hqm,hd',_,_⟩:=dP (xs:=b.parts) (k:=k) (by omega)
   have hp:=ih p hpm (ha.part hpm) q (hb.part hqm)
   have hih:=ihm (k+1) he (by omega)
   rw[jB]
   simp only[Vi,Vk,Vr,Y1,Y2,Vj,Vn,Vl,Vm,Y6,Y3,Vs,hlt,hp1,hq1,hp,bq hlt hn,hih]
   rw[hd,hd']
   by_cases hpq:p=q
   ·simp[hpq]
   ·simp[hpq]
 rw[n_39]
 by_cases h1:a.kind=b.kind
 rotate_left
 ·have h1':(a.kind !=b.kind)=true:=by simpa using h1
  simp only[h1',Vi,Vk,Vr,Y1,Y2,Vj,Vn,Vl,Vm,Y6,Y3,Vs,nw a b,h1,false_and,Y8]
 by_cases h2:a.n=b.n
 rotate_left
 ·have h2':(a.n !=b.n)=true:=by simpa using h2
  simp only[h1,h2',bne_self_eq_false,Vi,Vk,Vr,Y1,Y2,Vj,Vn,Vl,Vm,Y6,Y3,Vs,nw a b,h2,true_and,false_and,Y8]
 by_cases h3:a.flag=b.flag
 rotate_left
 ·have h3':(!a.flag==b.flag)=true:=by
   revert h3;cases a.flag<;>cases b.flag<;>simp
  simp only[h1,h2,h3',bne_self_eq_false,Vi,Vk,Vr,Y1,Y2,Vj,Vn,Vl,Vm,Y6,Y3,Vs,nw a b,h3,true_and,false_and,Y8]
 have h3':(!a.flag==b.flag)=false:=by rw[h3];cases b.flag<;>rfl
 by_cases he:a.parts.length=b.parts.length
 ·have h:=loop _ 0 he rfl
  simp only[WB,Wn,V6]at h
  have he':((a.parts.length:Int) !=(b.parts.length:Int))=false:=by simp[he]
  simp only[h1,h2,h3',he',bne_self_eq_false,Vi,Vk,Vr,Y1,Y2,Vj,Vn,Vl,Vm,Y6,Y3,Vs,h]
  by_cases hp:a.parts=b.parts
  ·simp[nw a b,h1,h2,h3,hp]
  ·simp[nw a b,h1,h2,h3,hp]
 ·have he':((a.parts.length:Int) !=(b.parts.length:Int))=true:=by simp;omega
  have hp:¬a.parts=b.parts:=λh=>he (by rw[h])
  simp only[h1,h2,h3',he',bne_self_eq_false,Vi,Vk,Vr,Y1,Y2,Vj,Vn,Vl,Vm,Y6,Y3,Vs]
  simp[nw a b,hp]
theorem f15(a b:List ByteArray)(hn:a.length<=9223372036854775807):Lq (a,b,())=some (decide (a=b),()):=by
 have loop:∀(m k:Nat),a.length=b.length->a.length-k=m->oz (a,b,k,())=some (if a.drop k=b.drop k then .inr ()else .inl (false,())):=by
  intro m
  induction m with
  |zero=>
   intro k he hm
   have hlt:¬k<a.length:=by omega
   have hlt':¬k<b.length:=by omega
   rw[oz]
   simp only[Vi,Vk,Vr,Y1,Y2,Vj,Vn,Vl,Vm,Y6,Y3,Vs,hlt,dy hlt,dy hlt']
  |succ m ihm=>
   intro k he hm
   have hlt:k<a.length:=by omega
   obtain⟨p,hp1,hpm,hd,g1,g2⟩:=dP hlt
   obtain⟨q,hq1,hqm,hd',_,_⟩:=dP (xs:=b) (k:=k) (by omega)
   have hih:=ihm (k+1) he (by omega)
   rw[oz]
   simp only[Vi,Vk,Vr,Y1,Y2,Vj,Vn,Vl,Vm,Y6,Y3,Vs,hlt,hp1,hq1,aL,bq hlt hn,hih]
   rw[hd,hd']
   by_cases hpq:p=q
   ·simp[hpq]
   ·simp[hpq]
 rw[Lq]
 by_cases he:a.length=b.length
 ·have h:=loop _ 0 he rfl
  simp only[WB,Wn,V6]at h
  have he':((a.length:Int) !=(b.length:Int))=false:=by simp[he]
  simp only[he',Vi,Vk,Vr,Y1,Y2,Vj,Vn,Vl,Vm,Y6,Y3,Vs,h]
  by_cases hp:a=b
  ·simp[hp]
  ·simp[hp]
 ·have he':((a.length:Int) !=(b.length:Int))=true:=by simp;omega
  have hp:¬a=b:=λh=>he (by rw[h])
  simp only[he',Vi,Vk,Vr,Y1,Y2,Vj,Vn,Vl,Vm,Y6,Y3,Vs,hp,Y8]
structure Item.Fits (x:Item):Prop where
 names:x.names.length<=9223372036854775807
 layout:x.layout.Fits
theorem f14(a b:List Item)(ha:∀x∈a,x.Fits)(hb:∀x∈b,x.Fits)(hn:a.length<=9223372036854775807):MQ (a,b,())=some (decide (a=b),()):=by
 have loop:∀(m k:Nat),a.length=b.length->a.length-k=m->mH (a,b,k,())=some (if a.drop k=b.drop k then .inr ()else .inl (false,())):=by
  intro m
  induction m with
  |zero=>
   intro k he hm
   have hlt:¬k<a.length:=by omega
   have hlt':¬k<b.length:=by omega
   rw[mH]
   simp only[Vi,Vk,Vr,Y1,Y2,Vj,Vn,Vl,Vm,Y6,Y3,Vs,hlt,dy hlt,dy hlt']
  |succ m ihm=>
   intro k he hm
   have hlt:k<a.length:=by omega
   obtain⟨p,hp1,hpm,hd,g1,g2⟩:=dP hlt
   obtain⟨q,hq1,hqm,hd',_,_⟩:=dP (xs:=b) (k:=k) (by omega)
   have hih:=ihm (k+1) he (by omega)
   have fp:=ha p hpm
   have fq:=hb q hqm
   have hih2:mH (a,b,IntKind.i64.wrap ((k:Int)+1),())=some (if YE (k+1) a=YE (k+1) b then V9 ()else V_ (false,())):=by rw[bq hlt hn];exact hih
   rw[mH]
   simp only[Vi,Vk,Vr,Y1,Y2,Vj,Vn,Vl,Vm,Y6,Y3,Vs,hlt,hp1,hq1,aL,f15 p.names q.names fp.names,eta,f39 p.layout fp.layout q.layout fq.layout,bq hlt hn,hih]
   rw[hd,hd']
   by_cases h1:p.kind=q.kind
   rotate_left
   ·simp[h1,kb p q]
   by_cases h2:p.name0=q.name0
   rotate_left
   ·simp[h1,h2,kb p q]
   by_cases h3:p.n=q.n
   rotate_left
   ·simp[h1,h2,h3,kb p q]
   by_cases h4:p.names=q.names
   rotate_left
   ·simp[h1,h2,h3,h4,kb p q]
   by_cases h5:p.layout=q.layout
   ·simp[h1,h2,h3,h4,h5,kb p q,hih2]
   ·simp[h1,h2,h3,h4,h5,kb p q]
 rw[MQ]
 by_cases he:a.length=b.length
 ·have h:=loop _ 0 he rfl
  simp only[WB,Wn,V6]at h
  have he':((a.length:Int) !=(b.length:Int))=false:=by simp[he]
  simp only[he',Vi,Vk,Vr,Y1,Y2,Vj,Vn,Vl,Vm,Y6,Y3,Vs,h]
  by_cases hp:a=b
  ·simp[hp]
  ·simp[hp]
 ·have he':((a.length:Int) !=(b.length:Int))=true:=by simp;omega
  have hp:¬a=b:=λh=>he (by rw[h])
  simp only[he',Vi,Vk,Vr,Y1,Y2,Vj,Vn,Vl,Vm,Y6,Y3,Vs,hp,Y8]
end Go.Proofs.YtpelkenpapfadaaGreatDoor
end
section
namespace Go.Proofs.YtpelkenpapfadaaGreatDoor
open Go.Tx
set_option maxRecDepth 20000
open Go.Lib
def wtp(x:List BA):Nat:=(x.map λt=>t.size+1).sum
def wtw(out:List (List BA)):Nat:=(out.map wtp).sum
theorem Ib(a b:List BA):wtp (a++b)=wtp a+wtp b:=by simp[wtp]
theorem Ic{x:List BA}{t:BA}(h:t∈x):t.size+1<=wtp x:=by
 induction x with
 |nil=>cases h
 |cons y r ih=>
  have e:wtp (y::r)=y.size+1+wtp r:=by simp[wtp]
  rcases VG.1 h with rfl|h
  ·omega
  ·have:=ih h;omega
theorem Om{out:List (List BA)}{x:List BA}(h:x∈out):wtp x<=wtw out:=by
 induction out with
 |nil=>cases h
 |cons y r ih=>
  have e:wtw (y::r)=wtp y+wtw r:=by simp[wtw]
  rcases VG.1 h with rfl|h
  ·omega
  ·have:=ih h;omega
theorem Id:∀(out:List (List BA)) (k:Nat) (t:BA),k<out.length->wtw (out.set k (out.getD k []++[t]))=wtw out+(t.size+1)
 |[],k,t,h=>by simp at h
 |x::r,0,t,h=>by
  show wtw ((x++[t])::r)=_
  have e (z:List BA):wtw (z::r)=wtp z+wtw r:=by simp[wtw]
  rw[e,e,Ib,show wtp [t]=t.size+1 from by simp[wtp]];omega
 |x::r,k+1,t,h=>by
  have e (z:List (List BA)):wtw (x::z)=wtp x+wtw z:=by simp[wtw]
  have ih:=Id r k t (by simpa using h)
  show wtw (x::r.set k (r.getD k []++[t]))=_
  rw[e,e,ih];omega
theorem On(out:List (List BA))(op:Int):wtw (opn out op).1=wtw out:=by
 unfold opn;split
 ·simp[wtw,wtp]
 ·rfl
theorem Kr{B:Nat}{out:List (List BA)}{op dp:Int}(h:Inv B out op dp)(t:BA):wtw (dd id (out,op,dp) t).1=wtw out+(t.size+1):=by
 obtain⟨k,out1,e,hk,_⟩:=h.opn
 have h2:=On out op
 unfold dd add
 simp only[e,Vl]at h2⊢
 rw[Id _ _ _ hk,h2]
theorem yC:∀(ts:List BA) (B:Nat) (out:List (List BA)) (op dp:Int),Inv B out op dp->wtw (ts.foldl (dd id) (out,op,dp)).1=wtw out+wtp ts
 |[],B,out,op,dp,h=>rfl
 |t::r,B,out,op,dp,h=>by
  have e:wtp (t::r)=t.size+1+wtp r:=by simp[wtp]
  have ih:=yC r (B+1) _ _ _ (h.step (f:=id) t)
  have h1:=Kr h t
  rw[Wy,e]
  have ih:wtw (r.foldl (dd id) (dd id (out,op,dp) t)).1=_:=ih
  omega
theorem AB:∀(n:Nat) (l:List UInt8) (i:Nat),l.length<=n->wtp ((mb i l).map λp=>mkB p.2)<=2 *l.length
 |n,[],i,_=>by simp[dN,wtp]
 |0,c::r,i,h=>by simp at h
 |n+1,c::r,i,h=>by
  rw[VD]at h
  cases hw:isW c with
  |true=>rw[jb hw,VD];have:=AB n r (i+1) (by omega);omega
  |false=>
   rw[ja hw,VC]
   have h3:=eU c r
   have h2:=rS (c::r)
   have ih:=AB n ((c::r).drop (fk (c::r))) (i+fk (c::r)) (by rw[Wg,VD];omega)
   have e (t:BA) (z:List BA):wtp (t::z)=t.size+1+wtp z:=by simp[wtp]
   rw[e,mB,Wj]
   rw[Wg]at ih
   omega
theorem Kq{B:Nat}{st:List (List BA)×Int×Int}(h:Inv B st.1 st.2.1 st.2.2)(l:List UInt8):wtw (bi st l).1<=wtw st.1+2 *l.length:=by
 have ht:wtp (sS l)<=2 *l.length:=AB _ l 0 (VN _)
 unfold bi;split
 ·have:wtw (st.1++[sS l])=wtw st.1+wtp (sS l):=by simp[wtw]
  simp only[this];omega
 ·have:=yC (sS l) B st.1 st.2.1 st.2.2 h
  have e:(st.1,st.2.1,st.2.2)=st:=rfl
  rw[e]at this;omega
theorem yB:∀(ls:List (List UInt8)) (B:Nat) (st:List (List BA)×Int×Int),Inv B st.1 st.2.1 st.2.2->wtw (ls.foldl bi st).1<=wtw st.1+2 *D3 ls
 |[],B,st,h=>by simp[D3]
 |l::r,B,st,h=>by
  have ih:=yB r _ _ (h.line l)
  have h1:=Kq h l
  rw[Wy,gp];omega
theorem G_(s:List UInt8):wtw (aO s)<=2 *s.length+2:=by
 have:=yB (lines s) 0 ([],-1,0) Inv.zero
 rw[kw]at this
 have h0:wtw ([]:List (List BA))=0:=rfl
 unfold aO
 simp only[h0]at this
 omega
structure Pcs (ps:List (List BA)):Prop where
 len:ps.length<=4097
 row:∀x∈ps,x.length<=4097
 wt:∀x∈ps,wtp x<=8194
 tok:∀x∈ps,∀t∈x,se t
theorem xR{s:BA}(h:s.size<=4096):Pcs (aO s.data.toList):=by
 have h1:=Dl s.data.toList
 have h2:=G_ s.data.toList
 rw[b_]at h1 h2
 exact⟨by omega,λx hx=>by have:=h1.2 x hx;omega,λx hx=>by have:=Om hx;omega,G9 _⟩
theorem Pcs.good{ps:List (List BA)}(h:Pcs ps){x:List BA}(hx:x∈ps):vK x:=λt ht=>⟨h.tok x hx t ht,by have:=Ic ht;have:=h.wt x hx;omega⟩
def sw(x:List BA):List UInt8:=Lib.join (x.map λt=>t.data.toList) [32]
def d9(x:List BA):BA:=mkB (sw x)
theorem FS(x:List BA)(t:BA)(h:x≠[]):sw (x++[t])=sw x++[32]++t.data.toList:=by
 cases x with
 |nil=>exact(h rfl).elim
 |cons y r=>
  unfold sw
  rw[VM,VC,VC,Lib.join_cons,Lib.join_cons,Wk]
  simp[Lib.joinTail]
theorem FR(t:BA):sw [t]=t.data.toList:=by unfold sw;rw[XW,Lib.join_one]
theorem FT:∀x:List BA,(sw x).length<=wtp x
 |[]=>by simp[sw,Lib.join_nil]
 |y::r=>by
  have lens:∀z:List BA,Lib.lens (z.map λt=>t.data.toList)+z.length=wtp z:=by
   intro z
   induction z with
   |nil=>simp[Lib.lens,wtp]
   |cons a b ih=>
    have e:wtp (a::b)=a.size+1+wtp b:=by simp[wtp]
    have e2:Lib.lens ((a::b).map λt=>t.data.toList)=a.size+Lib.lens (b.map λt=>t.data.toList):=by
     unfold Lib.lens;rw[VC,VC,List.sum_cons,b_]
    rw[e,e2,VD];omega
  have:=lens (y::r)
  unfold sw
  rw[VC,Lib.join_length,VA]
  rw[VD,VC]at this
  simp only[Vt,Nat.one_mul];omega
theorem f36(x:List BA)(hl:x.length<=100000)(hw:wtp x<=1000000):MX (x,())=some (d9 x,()):=by
 have hj:=FT x
 rw[MX,PU]
 have hb:(Vp #[32]).data.toList=[32]:=rfl
 have hc:x.length<=140737488355328/\(Lib.join (x.map (·.data.toList)) [32]).length<=140737488355328:=⟨by omega,by show(sw x).length<=_;omega⟩
 simp only[hb,hc,and_self,Vi,Vk,Y1,Y2,Vj,Vq,Vo];rfl
theorem AM(a b:BA):a++b=mkB (a.data.toList++b.data.toList):=by
 apply AN;rw[dL,ByteArray.data_append,Array.toList_append]
theorem f50(x:List BA)(hl:x.length<=100000)(hw:wtp x<=1000000):PO (x,())=some (d9 x,()):=by
 have sz (j:Nat):(d9 (x.take j)).size<=wtp x:=by
  have h1:=FT (x.take j)
  have h2:wtp (x.take j)<=wtp x:=by
   conv=>rhs;rw[<-WW j x,Ib]
   omega
  unfold d9;rw[mB];omega
 have go:∀(m j:Nat),x.length-j=m->j<=x.length->mR (x,d9 (x.take j),(j:Int),())=some (d9 x,()):=by
  intro m
  induction m with
  |zero=>
   intro j hm hj
   have hlt:¬j<x.length:=by omega
   rw[mR]
   simp only[Vi,Vk,Vr,Y1,Y2,Vj,Vn,Vl,Vm,Y6,Y3,Vs,hlt,Y8,Wf (show x.length<=j by omega)]
  |succ m ih=>
   intro j hm hj
   have hlt:j<x.length:=by omega
   obtain⟨t,hp,hpm,hd,g1,g2⟩:=dP hlt
   have h:=ih (j+1) (by omega) (by omega)
   have ht:x.take (j+1)=x.take j++[t]:=by rw[Xg,hp];rfl
   have hts:=Ic hpm
   have s1:=sz j
   rw[mR]
   rcases XU j with h0|h0
   ·subst h0
    have e:d9 (x.take 1)=d9 (x.take 0)++t:=by
     rw[show(1:Nat)=0+1 from rfl,ht,AM]
     unfold d9;rw[XI,V7,FR,dL];rfl
    have e2:¬(((0:Nat):Int)>0):=by omega
    have c1:(d9 (x.take 0)).size+t.size<=4294967296:=by omega
    rw[V4,e]at h
    simp only[Vi,Vk,Vr,Y1,Y2,Vj,Vn,Vl,Vm,Y6,Y3,Vs,hlt,e2,Y7,Y8,hp,c1,bh (a:=0) (by omega)]
    exact h
   ·have hne:x.take j≠[]:=λe=>by
     have:=congrArg Xt e
     rw[Wj,VU]at this;omega
    have e:d9 (x.take (j+1))=d9 (x.take j)++Vp #[32]++t:=by
     rw[ht,AM,AM]
     unfold d9;rw[FS _ _ hne,dL,dL]
    have e2:((j:Int)>0):=by omega
    have hz:(Vp #[32]).size=1:=rfl
    have c1:(d9 (x.take j)).size+1<=4294967296:=by omega
    have c2:(d9 (x.take j)++Vp #[32]).size+t.size<=4294967296:=by rw[AM,mB,VB,b_,b_,hz];omega
    rw[e]at h
    simp only[Vi,Vk,Vr,Y1,Y2,Vj,Vn,Vl,Vm,Y6,Y3,Vs,hlt,e2,Y7,hz,c1,c2,hp,bh (a:=j) (by omega)]
    exact h
 have h:=go _ 0 rfl (WL _)
 have h:mR (x,Vp #[],0,())=some (d9 x,()):=h
 rw[PO]
 simp only[h,Vi,Vk,Y1,Y2,Vj,Vq,Vo]
def tr:List Item->List Nat->Nat->List (List BA)->List Item×List Nat
 |it,oth,_,[]=>(it,oth)
 |it,oth,k,p::r=>match kF it p with
  |some x=>tr (it++[x]) oth (k+1) r
  |none=>tr it (oth++[k]) (k+1) r
theorem Oa:∀(ps:List (List BA)) (it:List Item) (oth:List Nat) (k:Nat),eV it->it.length+ps.length<=100000->(∀x∈ps,x.length<=10000)->(∀n∈oth,n<k)->
 eV (tr it oth k ps).1/\(tr it oth k ps).1.length+(tr it oth k ps).2.length=it.length+oth.length+ps.length/\∀n∈(tr it oth k ps).2,n<k+ps.length
 |[],it,oth,k,hi,_,_,ho=>⟨hi,by simp[tr],by simpa[tr]using ho⟩
 |p::r,it,oth,k,hi,hl,hr,ho=>by
  rw[VD]at hl⊢
  have hp:=hr p Vy
  have hr':=λx hx=>hr x (Vu p hx)
  rw[tr]
  cases h:kF it p with
  |some x=>
   obtain⟨a,b,c⟩:=Oa r (it++[x]) oth (k+1) (hi.add (by omega) h (by omega)) (by rw[VB,Vt];omega) hr' λn hn=>by have:=ho n hn;omega
   simp only
   refine⟨a,by rw[VB,Vt]at b;omega,λn hn=>by have:=c n hn;omega⟩
  |none=>
   obtain⟨a,b,c⟩:=Oa r it (oth++[k]) (k+1) hi (by omega) hr' λn hn=>by
    rcases VJ.1 hn with hn|hn
    ·have:=ho n hn;omega
    ·rw[Wd.1 hn];omega
   simp only
   refine⟨a,by rw[VB,Vt]at b;omega,λn hn=>by have:=c n hn;omega⟩
def ly(l:List Nat):List Int:=l.map λ(n:Nat)=>(n:Int)
theorem eV.nil:eV []:=⟨by simp,by simp,by simp,by simp,by simp⟩
theorem Uh(ps:List (List BA))(hp:Pcs ps)(Z:List Item):∀(m j:Nat) (it:List Item) (oth:List Nat),ps.length-j=m->eV it->it.length+m<=10000->oth.length+m<=10000->
 mO (ps,(ps.length:Int),(j:Int),Z,ly oth,it,())=some (Z,ly (tr it oth j (ps.drop j)).2,(tr it oth j (ps.drop j)).1,()):=by
 intro m
 have hpl:=hp.len
 induction m with
 |zero=>
  intro j it oth hm hi h1 h2
  have hlt:¬j<ps.length:=by omega
  rw[mO]
  simp only[Vi,Vk,Vr,Y1,Y2,Vj,Vn,Vl,Vm,Y6,Y3,Vs,hlt,Y8,dy hlt,tr]
 |succ m ih=>
  intro j it oth hm hi h1 h2
  have hlt:j<ps.length:=by omega
  obtain⟨x,hx,hxm,hd,g1,g2⟩:=dP hlt
  have hxl:=hp.row x hxm
  have h68:=f68 it hi x (hp.good hxm) (by omega)
  unfold tY at h68
  rw[hd,tr,mO]
  cases h:kF it x with
  |some y=>
   rw[h]at h68
   have hi2:=ih (j+1) (it++[y]) oth (by omega) (hi.add (by omega) h (by omega)) (by rw[VB,Vt];omega) (by omega)
   have ht:it.length+1<=4294967296:=by omega
   simp only[Vi,Vk,Y1,Y2,Vj,Vq,Vo,Vs,Vm,Vl,hlt,Y7,hx,h68,Vt,ht,bh (a:=j) (by omega)]
   exact hi2
  |none=>
   rw[h]at h68
   have hi2:=ih (j+1) it (oth++[j]) (by omega) hi (by omega) (by rw[VB,Vt];omega)
   have ht:(ly oth).length+1<=4294967296:=by unfold ly;rw[VA];omega
   have hc:ly oth++[(j:Int)]=ly (oth++[j]):=by unfold ly;rw[Wk];rfl
   simp only[Vi,Vk,Y1,Y2,Vj,Vq,Vo,Vs,Vm,Vl,hlt,Y7,hx,h68,Vt,ht,hc,bh (a:=j) (by omega)]
   exact hi2
def trS(ps:List (List BA)):List Item×List Nat:=tr [] [] 0 ps
theorem f35(ps:List (List BA))(hp:Pcs ps):PI (ps,())=some (ly (trS ps).2,(trS ps).1,()):=by
 have hpl:=hp.len
 have h:=Uh ps hp [] _ 0 [] [] rfl eV.nil (by simp;omega) (by simp;omega)
 have h:mO (ps,(ps.length:Int),0,[],[],[],())=some ([],ly (trS ps).2,(trS ps).1,()):=h
 rw[PI]
 simp only[Vi,Vk,Y1,Y2,Vj,Vq,Vo,h,jG]
def jN(ps:List (List BA))(k:Nat):k_:=k_.mk ((k:Int)+1) (d9 (ps.getD k []))
theorem Ui(P:List (List aK))(ps:List (List BA))(hP:txt P=ps)(hp:Pcs ps):∀(m j:Nat) (it:List Item) (oth:List Nat),ps.length-j=m->eV it->it.length+m<=10000->oth.length+m<=10000->
 mP (P,(j:Int),it,oth.map (jN ps),())=some ((tr it oth j (ps.drop j)).1,(tr it oth j (ps.drop j)).2.map (jN ps),()):=by
 intro m
 have hpl:=hp.len
 have hPl:P.length=ps.length:=by rw[<-hP];unfold txt;rw[VA]
 induction m with
 |zero=>
  intro j it oth hm hi h1 h2
  have hlt:¬j<ps.length:=by omega
  rw[mP]
  simp only[Vi,Vk,Vr,Y1,Y2,Vj,Vn,Vl,Vm,Y6,Y3,Vs,hPl,hlt,Y8,dy hlt,tr]
 |succ m ih=>
  intro j it oth hm hi h1 h2
  have hlt:j<ps.length:=by omega
  obtain⟨x,hx,hxm,hd,g1,g2⟩:=dP hlt
  have hltP:j<P.length:=by omega
  have hPx:∃X,P[j]?=some X/\X.map aK.text=x:=by
   refine⟨P[j],Vw hltP,?_⟩
   rw[<-hP]at hx
   unfold txt at hx
   rw[Vz,Vw hltP]at hx
   injection hx
  obtain⟨X,hX,hXt⟩:=hPx
  have hXl:X.length=x.length:=by rw[<-hXt,VA]
  have hxl:=hp.row x hxm
  have h51:=f51 X (by omega)
  rw[hXt]at h51
  have h70:=f70 it hi x (hp.good hxm) (by omega)
  unfold tY at h70
  rw[hd,tr,mP]
  cases h:kF it x with
  |some y=>
   rw[h]at h70
   have hi2:=ih (j+1) (it++[y]) oth (by omega) (hi.add (by omega) h (by omega)) (by rw[VB,Vt];omega) (by omega)
   have ht:it.length+1<=4294967296:=by omega
   simp only[Vi,Vk,Y1,Y2,Vj,Vq,Vo,Vs,Vm,Vl,hPl,hlt,Y7,hX,h51,h70,Vt,ht,bh (a:=j) (by omega)]
   exact hi2
  |none=>
   rw[h]at h70
   have hi2:=ih (j+1) it (oth++[j]) (by omega) hi (by omega) (by rw[VB,Vt];omega)
   have ht:(oth.map (jN ps)).length+1<=4294967296:=by rw[VA];omega
   have hxd:ps.getD j []=x:=by rw[VS,hx];rfl
   have hc:oth.map (jN ps)++[k_.mk ((j+1:Nat):Int) (d9 x)]=(oth++[j]).map (jN ps):=by
    rw[Wk,XW,jN,hxd];rfl
   have h50:=f50 x (by omega) (by have:=hp.wt x hxm;omega)
   simp only[Vi,Vk,Y1,Y2,Vj,Vq,Vo,Vs,Vm,Vl,hPl,hlt,Y7,hX,h51,h70,h50,Vt,ht,bh (a:=j) (by omega)]
   rw[hc];exact hi2
theorem f38(s:BA)(hs:s.size<=4096):PJ (s,())=some ((trS (aO s.data.toList)).1,(trS (aO s.data.toList)).2.map (jN (aO s.data.toList)),()):=by
 have hp:=xR hs
 have hpl:=hp.len
 obtain⟨P,h49,hP⟩:=f49 s (by omega)
 have h:=Ui P _ hP hp _ 0 [] [] rfl eV.nil (by simp;omega) (by simp;omega)
 have h:mP (P,0,[],[],())=some ((trS (aO s.data.toList)).1,(trS (aO s.data.toList)).2.map (jN (aO s.data.toList)),()):=h
 rw[PJ]
 simp only[h49,h,Vi,Vk,Y1,Y2,Vj,Vq,Vo]
theorem HT{ps:List (List BA)}(hp:Pcs ps):eV (trS ps).1/\(trS ps).1.length+(trS ps).2.length=ps.length/\∀n∈(trS ps).2,n<ps.length:=by
 have hpl:=hp.len
 obtain⟨a,b,c⟩:=Oa ps [] [] 0 eV.nil (by simp;omega) (λx hx=>by have:=hp.row x hx;omega) (by simp)
 exact⟨a,by simp only[VU]at b;show(tr [] [] 0 ps).1.length+(tr [] [] 0 ps).2.length=_;omega,λn hn=>by have:=c n hn;simpa using this⟩
def IH(ps:List (List BA))(oth:List Nat):List BA:=oth.map λk=>d9 (ps.getD k [])
theorem T8(ps:List (List BA))(hp:Pcs ps)(it:List Item)(oth:List Nat)(ho:∀n∈oth,n<ps.length)(hol:oth.length<=10000):∀(m j:Nat),oth.length-j=m->j<=oth.length->
 mC (ps,it,ly oth,(oth.length:Int),(j:Int),(IH ps oth).take j,())=some (it,IH ps oth,()):=by
 intro m
 induction m with
 |zero=>
  intro j hm hj
  have hlt:¬j<oth.length:=by omega
  rw[mC]
  simp only[Vi,Vk,Vr,Y1,Y2,Vj,Vn,Vl,Vm,Y6,Y3,Vs,hlt,Y8,Wf (show(IH ps oth).length<=j by unfold IH;rw[VA];omega)]
 |succ m ih=>
  intro j hm hj
  have hlt:j<oth.length:=by omega
  obtain⟨k,hk,hkm,hd,g1,g2⟩:=dP hlt
  have hkl:=ho k hkm
  have hx:ps[k]?=some (ps.getD k []):=by rw[VS,Vw hkl];rfl
  have hxm:ps.getD k []∈ps:=VI hx
  have h36:=f36 (ps.getD k []) (by have:=hp.row _ hxm;omega) (by have:=hp.wt _ hxm;omega)
  have hc:(ly oth)[j]?=some (k:Int):=by unfold ly;rw[Vz,hk];rfl
  have ht:(IH ps oth).take (j+1)=(IH ps oth).take j++[d9 (ps.getD k [])]:=by
   rw[Xg];unfold IH;rw[Vz,hk];rfl
  have h:=ih (j+1) (by omega) (by omega)
  rw[ht]at h
  have hl:((IH ps oth).take j).length+1<=4294967296:=by rw[Wj];omega
  rw[mC]
  simp only[Vi,Vk,Y1,Y2,Vj,Vq,Vo,Vs,Vm,Vl,hlt,Y7,hc,hx,h36,Vt,hl,bh (a:=j) (by omega)]
  exact h
theorem Fl(l:List Nat):(ly l).length=l.length:=by unfold ly;rw[VA]
def Ao(s:BA):List Item×List BA:=((trS (aO s.data.toList)).1,IH (aO s.data.toList) (trS (aO s.data.toList)).2)
theorem f11(s:BA):Gb (s,())=some (if s.size<=4096 then((Ao s).1,(Ao s).2,0,())else([],[],3,())):=by
 rw[Gb]
 by_cases hs:s.size<=4096
 ·have hs':¬((s.size:Int)>4096):=by omega
  have hp:=xR hs
  obtain⟨a,b,c⟩:=HT hp
  have hpl:=hp.len
  have h:=T8 _ hp (trS (aO s.data.toList)).1 (trS (aO s.data.toList)).2 c (by omega) _ 0 rfl (WL _)
  rw[XI]at h
  have h:mC (aO s.data.toList,(trS (aO s.data.toList)).1,ly (trS (aO s.data.toList)).2,((trS (aO s.data.toList)).2.length:Int),0,[],())=_:=h
  simp only[hs',hs,Y8,Vi,Vk,Y1,Y2,Vj,Vq,Vo,f34 s (by omega),f35 _ hp,Fl,h];rfl
 ·have hs':((s.size:Int)>4096):=by omega
  simp only[hs',hs,Y7,Vi,Vk,Y1,Y2,Vj,Vq,Vo]
theorem Ub(it:List Item)(qs:List k_)(hl:qs.length<=10000):∀(m j:Nat),qs.length-j=m->j<=qs.length->
 mD (it,qs,(j:Int),(qs.map k_.text).take j,())=some (it,qs.map k_.text,()):=by
 intro m
 induction m with
 |zero=>
  intro j hm hj
  have hlt:¬j<qs.length:=by omega
  rw[mD]
  simp only[Vi,Vk,Vr,Y1,Y2,Vj,Vn,Vl,Vm,Y6,Y3,Vs,hlt,Y8,Wf (show(qs.map k_.text).length<=j by rw[VA];omega)]
 |succ m ih=>
  intro j hm hj
  have hlt:j<qs.length:=by omega
  obtain⟨q,hk,hkm,hd,g1,g2⟩:=dP hlt
  have ht:(qs.map k_.text).take (j+1)=(qs.map k_.text).take j++[q.text]:=by
   rw[Xg,Vz,hk];rfl
  have h:=ih (j+1) (by omega) (by omega)
  rw[ht]at h
  have hl:((qs.map k_.text).take j).length+1<=4294967296:=by rw[Wj];omega
  rw[mD]
  simp only[Vi,Vk,Y1,Y2,Vj,Vq,Vo,Vs,Vm,Vl,hlt,Y7,hk,Vt,hl,bh (a:=j) (by omega)]
  exact h
theorem f37(s:BA):Q0 (s,())=some (decide ((s.size:Int)>4096),()):=rfl
theorem f12(s:BA):PF (s,())=some (if s.size<=4096 then((Ao s).1,(Ao s).2,0,())else([],[],3,())):=by
 rw[PF]
 by_cases hs:s.size<=4096
 ·have hs':¬((s.size:Int)>4096):=by omega
  have hp:=xR hs
  obtain⟨a,b,c⟩:=HT hp
  have hpl:=hp.len
  have h:=Ub (trS (aO s.data.toList)).1 ((trS (aO s.data.toList)).2.map (jN (aO s.data.toList))) (by rw[VA];omega) _ 0 rfl (WL _)
  have e:((trS (aO s.data.toList)).2.map (jN (aO s.data.toList))).map k_.text=(Ao s).2:=by rw[V1];rfl
  rw[XI,e]at h
  have h:mD ((trS (aO s.data.toList)).1,(trS (aO s.data.toList)).2.map (jN (aO s.data.toList)),0,[],())=_:=h
  simp only[f37,hs',hs,Y8,Vi,Vk,Y1,Y2,Vj,Vq,Vo,f38 s hs,h];rfl
 ·have hs':((s.size:Int)>4096):=by omega
  simp only[f37,hs',hs,Y7,Vi,Vk,Y1,Y2,Vj,Vq,Vo]
end Go.Proofs.YtpelkenpapfadaaGreatDoor
end
section
namespace Go.Proofs.YtpelkenpapfadaaGreatDoor
set_option maxRecDepth 20000
open Go.Lib
end Go.Proofs.YtpelkenpapfadaaGreatDoor
end
section
namespace Go.Proofs.YtpelkenpapfadaaGreatDoor
open Go.Tx
open IntKind (i64)
set_option maxRecDepth 100000
theorem Uo(it:List Item)(hl:it.length<=1000000000)(k:Int)(name:BA):jJ (it,k,name,())=some (uM it (kn k name),k,name,()):=by
 have h:=fx (λj=>cX (it,(it.length:Int),(j:Int),k,name,())) it (kn k name) (λj=>((j:Int),k,name,())) (k,name,()) (λj x hj hx=>by
  rw[cX]
  simp only[Vi,Vk,Vr,Y1,Y2,Vj,Vn,Vl,Vm,Y6,Y3,Vs,hj,Y7,hx,f84,bh (a:=j) (by omega)]) (by
  rw[cX]
  simp only[Vi,Vk,Vr,Y1,Y2,Vj,Vn,Vl,Vm,Y6,Y3,Vs,Xh,Y8])
 have h:cX (it,(it.length:Int),0,k,name,())=_:=h
 rw[jJ]
 simp only[h,Vi,Vk,Vr,Y1,Y2,Vj,Vn,Vl,Vm,Y6,Y3,Vs,uM]
 cases it.findIdx? (kn k name)<;>rfl
theorem Uj(it:List Item)(hl:it.length<=1000000000)(k:Int)(name:BA):Oq (it,k,name,())=some (fH it k name,je it k name,()):=by
 rw[Oq]
 simp only[Uo it hl,Vi,Vk,Y1,Y2,Vj,Vq,Vo]
 unfold fH je
 rw[<-ix,lA]
 unfold uM
 cases h:it.findIdx? (kn k name)with
 |none=>rfl
 |some i=>
  have hi:i<it.length:=(Xm.1 h).1
  have c1:¬((i:Int)<0):=by omega
  have c2:(0:Int)<=(i:Int):=by omega
  have c3:(i:Int)>=0:=by omega
  simp only[c1,c2,c3,Y8,Y7,Y1,Vl,Vw hi,Vk,WY,Vj,Y2]
def DS:Nat->Nat->List UInt8->List (Nat×List UInt8)
 |0,_,_=>[]
 |_,_,[]=>[]
 |n+1,i,c::r=>if isW c then DS n (i+1) r else(i,(c::r).take (fk (c::r)))::DS n (i+fk (c::r)) ((c::r).drop (fk (c::r)))
theorem HS:∀(n i:Nat) (l:List UInt8),l.length<=n->mb i l=DS n i l
 |0,i,[],_=>by rw[dN];rfl
 |n+1,i,[],_=>by rw[dN];rfl
 |n+1,i,c::r,h=>by
  rw[VD]at h
  cases hw:isW c with
  |true=>rw[jb hw,DS,Y5 hw,HS n (i+1) r (by omega)]
  |false=>
   have h3:=eU c r
   rw[ja hw,DS,Y4 (by rw[hw];exact VK),HS n _ _ (by rw[Wg,VD];omega)]
def Rc(l:List UInt8):List BA:=(DS l.length 0 l).map λp=>mkB p.2
def MK(st:List (List BA)×Int×Int)(l:List UInt8):List (List BA)×Int×Int:=
 if hsh l then(st.1++[Rc l],st.2)else(Rc l).foldl (dd id) st
theorem Jd:bi=MK:=by
 funext st l
 have:sS l=Rc l:=by unfold sS Rc;rw[HS l.length 0 l (VN _)]
 unfold bi MK
 rw[this]
def Ly(s:List UInt8):List (List BA):=((lines s).foldl MK ([],-1,0)).1
theorem xS(s:List UInt8):aO s=Ly s:=by unfold aO Ly;rw[Jd]
def s1:BA:=Vp #[115,116,114,117,99,116,32,83,32,123,32,99,104,97,114,32,97,59,32,105,110,116,32,98,59,32,125,59]
def s2:BA:=Vp #[35,100,101,102,105,110,101,32,78,32,49,48,10,35,100,101,102,105,110,101,32,70,40,120,41,32,120,10]
def L1:aa:=aa.mk 6 0 false [aa.mk 2 8 true [],aa.mk 2 32 true []]
def i1:Item:=Item.mk 2 (Vp #[83]) 0 [Vp #[97],Vp #[98]] L1
def i2:Item:=Item.mk 0 (Vp #[78]) 10 [] z0
def p1:List (List BA):=[[bP,Vp #[83],oB,fE,Vp #[97],sB,sU,Vp #[98],sB,cB,sB]]
def p2:List (List BA):=[[sT,gL,Vp #[78],Vp #[49,48]],[sT,gL,Vp #[70],AF,Vp #[120],dE,Vp #[120]]]
theorem k1:aO s1.data.toList=p1:=by rw[xS];kernel_rfl
theorem k2:aO s2.data.toList=p2:=by rw[xS];kernel_rfl
theorem v1:jW L1=0:=by
 simp[jW,L1,aa.large,aa.all,aa.allL,aa.depth,aa.depthL,aa.big,aa.big1,aa.cells,aa.cellsL,aa.right,aa.isS,ra,P1]
def q1:List BA:=[bP,Vp #[83],oB,fE,Vp #[97],sB,sU,Vp #[98],sB,cB,sB]
def q2:List BA:=[sT,gL,Vp #[78],Vp #[49,48]]
def q3:List BA:=[sT,gL,Vp #[70],AF,Vp #[120],dE,Vp #[120]]
theorem kv{it:List Item}{k:Nat}{l:List BA}(h:form it 1000 k l=none):fc it 1000 k l=none:=by unfold fc;rw[h]
theorem t1:kF [] q1=some i1:=by
 have h2:fc [] 1000 2 q1=some i1:=by
  have h:form [] 1000 2 q1=some (i1,[]):=by kernel_rfl
  unfold fc;rw[h]
  simp only
  rw[Y4 (by decide),Y4 (λh=>h.2 v1)]
 unfold kF
 rw[kv (k:=0) (l:=q1) (by kernel_rfl),kv (k:=1) (l:=q1) (by kernel_rfl),h2];rfl
theorem t2:kF [] q2=some i2:=by
 have h2:fc [] 1000 0 q2=some i2:=by
  have h:form [] 1000 0 q2=some (i2,[]):=by kernel_rfl
  unfold fc;rw[h]
  simp only
  rw[Y4 (by decide),Y4 (λh=>by omega)]
 unfold kF
 rw[h2];rfl
theorem t3:kF [i2] q3=none:=by
 unfold kF
 rw[kv (k:=0) (l:=q3) (by kernel_rfl),kv (k:=1) (l:=q3) (by kernel_rfl),kv (k:=2) (l:=q3) (by kernel_rfl),kv (k:=3) (l:=q3) (by kernel_rfl)];rfl
theorem tr1:trS p1=([i1],[]):=by
 show tr [] [] 0 [q1]=_
 rw[tr,t1];rfl
theorem tr2:trS p2=([i2],[1]):=by
 show tr [] [] 0 [q2,q3]=_
 rw[tr,t2]
 show tr [i2] [] 1 [q3]=_
 rw[tr,t3];rfl
def T4:aG:=aG.mk 4 false
theorem m1:n_80 (aa.mk 2 8 true [],T4,())=some (bj.mk 1 1,()):=by
 have h:u1 (8,())=some (1,()):=by
  rw[u1,iH];rfl
 rw[n_80]
 simp[h,T4];rfl
theorem m2:n_80 (aa.mk 2 32 true [],T4,())=some (bj.mk 4 4,()):=by
 have h:u1 (32,())=some (4,()):=by
  rw[u1,iH]
  simp only[show i64.wrap (8 *1)=8 by rfl,show i64.wrap (1 *2)=2 by rfl]
  rw[iH]
  simp only[show i64.wrap (8 *2)=16 by rfl,show i64.wrap (2 *2)=4 by rfl]
  rw[iH];rfl
 rw[n_80]
 simp[h,T4]
theorem m3:n_79 (L1,T4,())=some ([0,4],bj.mk 8 4,()):=by
 have e1:ny (0,1,())=some (0,()):=by rw[ny];rfl
 have e2:ny (1,4,())=some (4,()):=by rw[ny];rfl
 have e3:ny (8,4,())=some (8,()):=by rw[ny];rfl
 have e4:=Oy (a:=0) (b:=1) (by omega) (by omega)
 have e5:=Oy (a:=4) (b:=4) (by omega) (by omega)
 rw[n_79]
 have l3:ez (8,4,L1.parts,2,2,T4,bj.mk 0 0,[0,4],())=some (8,4,bj.mk 0 0,[0,4],()):=by rw[ez];rfl
 have l2:ez (1,1,L1.parts,2,1,T4,bj.mk 0 0,[0],())=some (8,4,bj.mk 0 0,[0,4],()):=by
  rw[ez]
  have g:L1.parts[Wq 1]?=some (aa.mk 2 32 true []):=rfl
  simp only[show decide ((1:Int)<2)=true by rfl,show(0:Int)<=1 by omega,g,m2,e2,e5,Vi,Vk,Y1,Y2,Vj,Vq,Vo,Vt,show(1+1<=4294967296)=True by simp,show min far (4+4)=8 by rfl,show max (1:Int) 4=4 by rfl,show i64.wrap (1+1)=2 by rfl]
  exact l3
 have l1:ez (0,1,L1.parts,2,0,T4,bj.mk 0 0,[],())=some (8,4,bj.mk 0 0,[0,4],()):=by
  rw[ez]
  have g:L1.parts[Wq 0]?=some (aa.mk 2 8 true []):=rfl
  simp only[show decide ((0:Int)<2)=true by rfl,Yf,g,m1,e1,e4,Vi,Vk,Y1,Y2,Vj,Vq,Vo,VU,Vt,show(0+1<=4294967296)=True by simp,show min far (0+1)=1 by rfl,show max (1:Int) 1=1 by rfl,show i64.wrap (0+1)=1 by rfl,V7]
  exact l2
 have l1:ez (0,1,L1.parts,(L1.parts.length:Int),0,T4,bj.mk 0 0,[],())=some (8,4,bj.mk 0 0,[0,4],()):=l1
 simp only[l1,e3,Vi,Vk,Y1,Y2,Vj,Vq,Vo]
theorem m4:PM (L1,T4,1,())=some (4,0,()):=by
 have f:L1.Fits:=zM (by omega) (by omega) (by simp) (by
  intro p hp
  rcases VG.1 hp with rfl|hp
  ·exact jw (by omega) (by omega)
  ·rw[Wd.1 hp];exact jw (by omega) (by omega))
 have h99:D2 (L1,())=some (0,()):=by
  have:=y20 L1 f (by simp[L1,aa.all,aa.allL]) (by simp[L1,aa.depth,aa.depthL])
  rw[v1]at this;exact this
 have h71:JA (T4,())=some (0,()):=by rw[JA];rfl
 have h72:PV (L1,T4,())=some (0,()):=by rw[PV];simp only[h99,h71,Vi,Vk,Y1,Y2,Vj,Vq,Vo];rfl
 have h78:PX (L1,())=some (2,()):=by rw[PX];rfl
 have h80:n_80 (L1,T4,())=some (bj.mk 8 4,()):=by
  rw[n_80]
  simp only[show(L1.kind==1)=false by rfl,show(L1.kind==2)=false by rfl,show(L1.kind==3)=false by rfl,show(L1.kind==4)=false by rfl,show(L1.kind==5)=false by rfl,show(L1.kind==6)=true by rfl,m3,Vi,Vk,Y1,Y2,Vj,Vq,Vo]
 have h73:PW (L1,T4,())=some (0,bj.mk 8 4,()):=by rw[PW];simp only[h80,Vi,Vk,Y1,Y2,Vj,Vq,Vo];rfl
 rw[PM]
 simp only[h72,h78,show((0:Int) !=0)=false by rfl,show decide ((2:Int)<0)=false by rfl,show decide ((1:Int)<0)=false by rfl,show decide ((1:Int)>=2)=false by rfl,show(L1.kind==6)=true by rfl,h73,m3,Vi,Vk,Y1,Y2,Vj,Vq,Vo]
 rfl
theorem m5:Gb (s1,())=some ([i1],[],0,()):=by
 rw[f11,Y5 (by decide)]
 unfold Ao
 rw[k1,tr1];rfl
theorem m6:Gb (s2,())=some ([i2],[d9 q3],0,()):=by
 rw[f11,Y5 (by decide)]
 unfold Ao
 rw[k2,tr2];rfl
theorem m7:PH (s1,Vp #[83],Vp #[98],T4,())=some (4,0,()):=by
 have h71:JA (T4,())=some (0,()):=by rw[JA];rfl
 have h47:Oq ([i1],2,Vp #[83],())=some (true,i1,()):=by
  rw[Uj [i1] (by simp)];rfl
 have h40:PL (s1,Vp #[83],T4,())=some (0,i1,()):=by rw[PL];simp only[m5,h71,h47,Vi,Vk,Y1,Y2,Vj,Vq,Vo];rfl
 have h44:Lr (i1.names,Vp #[98],())=some (1,()):=by rw[f44 _ (by simp[i1])];rfl
 have hL:aa.mk i1.layout.kind i1.layout.n i1.layout.flag i1.layout.parts=L1:=rfl
 rw[PH]
 simp only[h40,Vi,Vk,Y1,Y2,Vj,Vq,Vo,h44,hL,m4];rfl
theorem nv:Oo ()=some (true,()):=by
 have z1:Vp #[115,116,114,117,99,116,32,83,32,123,32,99,104,97,114,32,97,59,32,105,110,116,32,98,59,32,125,59]=s1:=rfl
 have z2:Vp #[35,100,101,102,105,110,101,32,78,32,49,48,10,35,100,101,102,105,110,101,32,70,40,120,41,32,120,10]=s2:=rfl
 have z3:aG.mk 4 false=T4:=rfl
 rw[Oo]
 simp only[z1,z2,z3,m6,m7,Vi,Vk,Y1,Y2,Vj,Vq,Vo]
 have hj:d9 q3=Vp #[35,32,100,101,102,105,110,101,32,70,32,40,32,120,32,41,32,120]:=by kernel_rfl
 have hn:i2.n=10:=rfl
 simp[hj,hn]
end Go.Proofs.YtpelkenpapfadaaGreatDoor
end
section
namespace Go.Proofs.YtpelkenpapfadaaGreatDoor
open Go.Tx
set_option maxRecDepth 20000
open Go.Lib
def Q6(s:BA):List BA:=(aO s.data.toList).map d9
theorem Uc(ps:List (List BA))(hp:Pcs ps):∀(m j:Nat),ps.length-j=m->j<=ps.length->mG (ps,(ps.length:Int),(j:Int),(ps.map d9).take j,())=some (ps.map d9,()):=by
 intro m
 have hpl:=hp.len
 induction m with
 |zero=>
  intro j hm hj
  have hlt:¬j<ps.length:=by omega
  rw[mG]
  simp only[Vi,Vk,Vr,Y1,Y2,Vj,Vn,Vl,Vm,Y6,Y3,Vs,hlt,Y8,Wf (show(ps.map d9).length<=j by rw[VA];omega)]
 |succ m ih=>
  intro j hm hj
  have hlt:j<ps.length:=by omega
  obtain⟨x,hk,hkm,hd,g1,g2⟩:=dP hlt
  have h36:=f36 x (by have:=hp.row _ hkm;omega) (by have:=hp.wt _ hkm;omega)
  have ht:(ps.map d9).take (j+1)=(ps.map d9).take j++[d9 x]:=by rw[Xg,Vz,hk];rfl
  have h:=ih (j+1) (by omega) (by omega)
  rw[ht]at h
  have hl:((ps.map d9).take j).length+1<=4294967296:=by rw[Wj];omega
  rw[mG]
  simp only[Vi,Vk,Y1,Y2,Vj,Vq,Vo,Vs,Vm,Vl,hlt,Y7,hk,h36,Vt,hl,bh (a:=j) (by omega)]
  exact h
theorem f13(s:BA):PG (s,())=some (if s.size<=4096 then(Q6 s,0,())else([],3,())):=by
 rw[PG]
 by_cases hs:s.size<=4096
 ·have hs':¬((s.size:Int)>4096):=by omega
  have hp:=xR hs
  have h:=Uc _ hp _ 0 rfl (WL _)
  rw[XI]at h
  have h:mG (aO s.data.toList,((aO s.data.toList).length:Int),0,[],())=_:=h
  simp only[hs',hs,Y8,Vi,Vk,Y1,Y2,Vj,Vq,Vo,f34 s (by omega),h];rfl
 ·have hs':((s.size:Int)>4096):=by omega
  simp only[hs',hs,Y7,Vi,Vk,Y1,Y2,Vj,Vq,Vo]
theorem eV.it{it:List Item}(h:eV it):∀x∈it,x.Fits:=λx hx=>⟨by have:=h.names x hx;omega,h.fits x hx⟩
theorem Hq{it:List Item}(h:eV it):MQ (it,it,())=some (true,()):=by
 rw[f14 it it h.it h.it (by have:=h.len;omega)];simp
theorem Hr(l:List BA)(h:l.length<=100000):Lq (l,l,())=some (true,()):=by
 rw[f15 l l (by omega),decide_eq_true rfl]
theorem Up(s:BA):n_3 (s,())=some (true,()):=by
 rw[n_3]
 by_cases h6:s.size>6000
 ·have h6':((s.size:Int)>6000):=by omega
  simp only[h6',Y7,Vi,Vk,Y1,Y2,Vj,Vq,Vo,nv]
 have h6':¬((s.size:Int)>6000):=by omega
 simp only[h6',Y8,Vi,Vk,Y1,Y2,Vj,Vq,Vo,f11,f12,f13]
 by_cases hs:s.size<=4096
 ·have hp:=xR hs
  have hpl:=hp.len
  obtain⟨a,b,c⟩:=HT hp
  have h1:=Hq a
  have hol:(Ao s).2.length=(trS (aO s.data.toList)).2.length:=by unfold Ao IH;rw[VA]
  have h2:=Hr (Ao s).2 (by omega)
  have hlen:(Q6 s).length=(aO s.data.toList).length:=by unfold Q6;rw[VA]
  have h3:(((Q6 s).length:Int)==IntKind.i64.wrap (((Ao s).1.length:Int)+((Ao s).2.length:Int)))=true:=by
   rw[show(Ao s).1=(trS (aO s.data.toList)).1 from rfl,hol,hlen,cN (by omega) (by omega)]
   rw[Y6];omega
  have h1:MQ ((Ao s).1,(Ao s).1,())=some (true,()):=h1
  simp only[hs,Vi,Vk,Y1,Y2,Vj,Vq,Vo,h1,h2,beq_self_eq_true,h3,nv]
 ·have h1:=Hq eV.nil
  have h2:=Hr [] (by simp)
  have h3:((([]:List BA).length:Int)==IntKind.i64.wrap ((([]:List Item).length:Int)+(([]:List BA).length:Int)))=true:=rfl
  simp only[hs,Vi,Vk,Y1,Y2,Vj,Vq,Vo,h1,h2,beq_self_eq_true,h3,nv]
end Go.Proofs.YtpelkenpapfadaaGreatDoor
end
section
namespace Go.Proofs.YtpelkenpapfadaaGreatDoor
open Go.Tx
theorem lD(s:ByteArray)(h0:Ok vw .str s):n_3 (s,())=some (true,()):=Up s
end Go.Proofs.YtpelkenpapfadaaGreatDoor
end
section
namespace Go.Proofs.YtpelkenpapfadaaGreatDoor.headTranslates
open Go.ChangeShapes Go.WideShapes Go.ChangeAt Go.RowKit Go.Awp Go.Tx
open Go.Proofs.Tryz (prog)
theorem MJ:laidOutB prog=true:=by kernel_rfl
theorem own:ownKnob prog.godebug=none:=by kernel_rfl
theorem IY(x0:ByteArray)(h0:Ok vw .str x0):i6 prog 3 [.d (aW szN Ln .str x0)] [] (.d (.v (.bool true))) []:=
 bw (by kernel_rfl) (PK (x0,()) (true,()) (.lf .bool true) (lD x0 h0) rfl)
set_option maxRecDepth 100000 in
theorem PE(os:Os)(started:os.Started)(H:Type)(enc:TypeId×Value->H):
 ReturnsInHanded {} Tryz.checked os 3 .any (λw args=>(Rows.headTranslatesSpec.pre enc prog Tryz.f3 Rows.headTranslatesRow.domain false w args/\laidMetH prog Rows.headTranslatesRow.laid w)/\sizedMet enc prog Tryz.f3 (OpenSpec.ofChange Rows.headTranslatesSpec) false w args)
  (Rows.headTranslatesSpec.post enc prog Tryz.f3 false true false false):=by
 refine returnsInHanded_of_change_and (C:=Tryz.checked) (X:=λw _=>laidMetH prog Rows.headTranslatesRow.laid w) (λ_ _ _ hh h=>h.of_heap hh) own started (by kernel_rfl) Tryz.func3
  (ChangeSpec.witness_shaped (enc:=enc) (C:=Tryz.checked) (os:=os) (X:=λw _=>laidMetH prog Rows.headTranslatesRow.laid w) false (World.laidAll prog os Rows.headTranslatesRow.laid) #[.string W9] 8 (World.laidAll_os _ _ _)
    (World.shaped_of_ZipB (by kernel_rfl) (by kernel_rfl)) (by kernel_rfl) (by kernel_rfl) (by kernel_rfl)
    (by rw[MakeChecks.laidMetH_plain _ _ _ (by kernel_rfl)];exact laidMet_laidAll _ (by kernel_rfl) (by kernel_rfl))) ?_
 intro W base args ds gs before hval0 hW hcnd _ hL _
 have hval:∀(j:Nat) t v,Tryz.f3.params[j]?=some t->args[j]?=some v->Value.okWide prog W .any base t v:=hval0
 have hW':=hW
 obtain⟨p,q,hA0,hV,rfl,hfz,hnd⟩:=hW'
 have hA:DataW.TrodAll enc prog W 0 (λ_=>true) true Tryz.f3.params.toList args.toList ds p:=hA0
 rw[Tryz.params3]at hA hval
 obtain⟨v0,vs0,d0,ds0,p0,q0,ha0,rfl,rfl,h0,r0⟩:=trodAll_cons hA
 obtain⟨rfl,rfl,rfl⟩:=trodAll_nil r0
 obtain rfl:args= #[v0]:=by cases args;simp_all
 obtain⟨rfl,rfl⟩:=trodVars_none hV
 have hlt0:∀x∈p0,x.block<W.heap.size:=λx hx=>by simpa using hW.lt x (by simp[hx])
 obtain⟨x0,ok0,hr0⟩:=JR facts (τ:= .str) rfl (hval 0 9 v0 rfl rfl) h0
 refine((IY x0 ok0).closed (W:=W) (vs:= #[v0]) (FH hL) ⟨rfl,λi c x hc hx=> ?_⟩).mono λe W' ⟨he,hb⟩=> ?_
 ·match i with
  |0=>simp at hc hx;subst hc;subst hx;exact .d hr0
  |i+1=>simp at hc
 subst he
 exact⟨_,rfl,_,_,_,[],_,[],hW,trodAll_cons_mk (shut_bool Tryz.underlying4 _) trodAll_mk0,
  (trodAll_cons_mk (Below.trod MJ (by kernel_rfl) (of_decide_eq_true (by kernel_rfl)) h0 hb hlt0) trodAll_mk0),rfl,hb.frame _,(λh=>by cases h)⟩
theorem row:Rows.HeadTranslatesSaid:=
 OpenClaim.holds_of_wide 3 Tryz.f3 rfl rfl rfl rfl rfl rfl rfl ⟨rfl,rfl,rfl,rfl,rfl⟩ rfl rfl rfl rfl rfl (by kernel_rfl) Tryz.func3 (by kernel_rfl)
  (of_decide_eq_true (by kernel_rfl)) (by unfold Func.isWrapper;first|(rw[Y5 (by decide+kernel)];kernel_rfl)|(rw[Y4 (by decide+kernel)];exact⟨rfl,rfl⟩))
  (λos started H enc _=>PE os started H enc)
theorem proved:Rows.HeadTranslatesCardSaid:=
 Claim7.holds_tied_plain_at .later [] [.data, .data, .data, .data, .sentinel, .sentinel, .pinned] true (true, "916f158e77d004ae93d5d2cc5423fa60a285d3b19f506b9995d5e7b77cb84306") true row (λ_ h=>by cases h) (by kernel_rfl) (λ_ h=>by cases h) headTranslates_row_tie rfl ⟨rfl,rfl⟩ (by kernel_rfl) rfl
  (λf fn hf hfn=>by
    obtain rfl:f=3:=Xn ((show prog.funcNamed "mandrel/mandrellaw24.HeadTranslates" =some 3 by kernel_rfl).symm.trans hf)|>.symm
    obtain rfl:fn=Tryz.f3:=(Xn (Tryz.func3.symm.trans hfn)).symm
    exact⟨by kernel_rfl,λj t ht=>by
     rw[Tryz.params3]at ht
     have hm:t∈([9]:List TypeId):=by simpa using Array.mem_of_getElem? ht
     have hall:(([9]:List TypeId).all λu=> !prog.wantsStandIn u)=true:=by kernel_rfl
     exact(show prog.wantsStandIn t=false by simpa using VH.1 hall t hm)⟩)
  (by kernel_rfl)
end Go.Proofs.YtpelkenpapfadaaGreatDoor.headTranslates
end
