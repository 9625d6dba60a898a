/-
  Texts of this claim, joined by a program of mine: what the theorem uses.
-/
import Derived.Test.YtpelkenpapfadaaGreatDoorPkI
import Derived.Test.YtpelkenpapfadaaGreatDoorPkH
import Derived.KernelRfl
import Derived.Test.YtpelkenpapfadaaGreatDoorPkE
import Derived.Test.YtpelkenpapfadaaGreatDoorCards
import Derived.Test.YtpelkenpapfadaaGreatDoorTie
import Derived.ProofKit
import Derived.OpenShut
import Derived.LaidMore
import Derived.Lay
import Derived.SevenTiedAt
import Derived.Stop.Joined
open Bool renaming eq_false_iff→WZ,false_and→Vh,false_eq_true→TT,false_ne_true→Ul,false_or→Ux,not_false→TY,not_true→T1,or_eq_false_iff→UQ,or_eq_true→UB,true_and→U9,true_eq_false→T0,true_or→UD
open ByteArray renaming empty→VG,mk→TZ
open Decidable renaming byContradiction→W1
open Int renaming le_refl→WQ,natCast_nonneg→TX,natCast_zero→Vd,ofNat_eq_natCast→U2,ofNat_lt→T3,toNat→U1,toNat_natCast→TW
open List renaming all_eq_true→Uj,any_eq_true→Vl,append_nil→UZ,cons_append→Uo,drop→Xe,drop_zero→UJ,findIdx?_eq_some_iff_findIdx_eq→VJ,foldl_cons→Va,getD_eq_getElem?_getD→Um,getElem?_eq_getElem→T8,getElem?_map→Ua,length→V5,length_append→Uc,length_cons→Ue,length_drop→UR,length_map→Ub,length_nil→Uv,length_singleton→T5,length_take→UY,map_append→UV,map_cons→Ud,map_map→UC,map_singleton→Wv,mem_append→Uk,mem_append_left→Vq,mem_append_right→VI,mem_cons→Uh,mem_cons_of_mem→T6,mem_cons_self→T_,mem_of_getElem?→Ui,mem_singleton→UP,nil_append→UK,take_add_one→V2,take_append_drop→Vz,take_of_length_le→UU,take_zero→Wx
open Nat renaming add_zero→UE,eq_zero_or_pos→Wt,le_refl→Up,le_trans→UW,lt_irrefl→Vy,reduceAdd→V0,reduceEqDiff→VP,succ_mul→U5,zero_add→UG,zero_le→Vs
open Option renaming bind_eq_bind→TR,bind_none→T2,bind_some→TU,getD_some→Vr,or_eq_some_iff→WD
open Option.some renaming inj→VX
open Sum renaming inl→UF,inr→UI
noncomputable section
set_option linter.unusedSimpArgs false
set_option linter.unusedVariables false
section
namespace Go.Proofs.YtpelkenpapfadaaGreatDoor
open Go.Tx
set_option maxRecDepth 20000
open Go.Lib
def Bdd(t:aa):Prop:=t.Fits/\t.all.length<=61
theorem ja{k n:Int}{f:Bool}(hk:0<=k/\k<=100)(hn: -9223372036854775808<=n/\n<=9223372036854775807):(aa.mk k n f []).Fits:=by
 intro q hq
 have:q=aa.mk k n f []:=by rw[aa.all_eq]at hq;simpa[aa.allL]using hq
 rw[this];exact⟨by simp only;omega,hn,by simp⟩
theorem tV{q:aa}:∀{ps:List aa},q∈aa.allL ps->∃p∈ps,q∈p.all
 |p::r,h=>by
  rw[aa.allL,Uk]at h
  rcases h with h|h
  ·exact⟨p,T_,h⟩
  ·obtain⟨p',a,b⟩:=tV h;exact⟨p',T6 _ a,b⟩
theorem xw{k n:Int}{f:Bool}{ps:List aa}(hk:0<=k/\k<=100)(hn: -9223372036854775808<=n/\n<=9223372036854775807)(hl:ps.length<=9223372036854775807)(hp:∀p∈ps,p.Fits):(aa.mk k n f ps).Fits:=by
 intro q hq
 rw[aa.all_eq]at hq
 rcases Uh.1 hq with rfl|hq
 ·exact⟨by simp only;omega,hn,hl⟩
 ·obtain⟨p,a,b⟩:=tV hq
  exact hp p a q b
theorem CV{B:Nat}:∀{ps:List aa},(∀p∈ps,p.all.length<=B)->(aa.allL ps).length<=ps.length *B
 |[],_=>by simp[aa.allL]
 |p::r,h=>by
  rw[aa.allL,Uc,Ue,U5]
  have:=h p T_
  have:=CV (B:=B) λq hq=>h q (T6 p hq)
  omega
theorem GQ{l:List UInt8}{n:Int}(h:Lib.atoiAll l= .ok n): -9223372036854775808<=n/\n<=9223372036854775807:=by
 unfold Lib.atoiAll at h
 split at h
 ·cases h
 ·simp only[]at h
  split at h
  ·cases h
  ·cases h
  ·rename_i u hu
   split at h
   ·cases h
   ·split at h
    ·cases h
    ·cases h
     split<;>omega
theorem HR(s:BA): -9223372036854775808<=pM s/\pM s<=9223372036854775807:=by
 unfold pM
 cases h:Lib.atoiAll s.data.toList with
 |ok n=>exact GQ h
 |range=>simp only;unfold Lib.atoiSat;split<;>omega
 |_=>simp only;omega
theorem JO{it:List Item}(hi:eL it){l:List BA}{t:aa}{r:List BA}(h:pP it l=some (t,r)):t.Fits/\t.all.length<=60:=by
 rw[eB]at h
 obtain⟨u,r1,_,h⟩:=ap h
 obtain⟨s,r2,_,h⟩:=ap h
 unfold dw at h
 have leaf (k n:Int) (f:Bool) (hk:0<=k/\k<=100) (hn:0<=n/\n<=100):(aa.mk k n f []).Fits/\(aa.mk k n f []).all.length<=60:=⟨ja hk (by omega),by rw[aa.all_eq];simp[aa.allL]⟩
 split at h
 ·cases h;exact leaf 2 8 _ (by omega) (by omega)
 split at h
 ·cases h;exact leaf 2 16 _ (by omega) (by omega)
 split at h
 ·cases h;exact leaf 2 32 _ (by omega) (by omega)
 obtain⟨_,r3,_,h⟩:=ap h
 split at h
 ·cases h;exact leaf 3 0 _ (by omega) (by omega)
 split at h
 ·cases h;exact leaf 0 0 _ (by omega) (by omega)
 split at h
 ·obtain⟨n,r4,_,h⟩:=ap h
  obtain⟨_,r5,hn,h⟩:=ap h
  cases h
  rcases og it 2 n with⟨e,_⟩|⟨e,_,_⟩
  ·rw[e];exact leaf 0 0 false (by omega) (by omega)
  ·exact⟨hi.fits _ e,(Gc (hi.val _ e)).1⟩
 split at h
 ·obtain⟨n,r4,_,h⟩:=ap h
  obtain⟨_,r5,hn,h⟩:=ap h
  cases h;exact leaf 2 32 _ (by omega) (by omega)
 ·obtain⟨_,r5,hn,h⟩:=ap h
  cases h;exact leaf 0 0 _ (by omega) (by omega)
theorem zS:∀(l:List BA) (t:aa),t.Fits/\t.all.length<=60->(stars t l).1.Fits/\(stars t l).1.all.length<=60
 |[],t,h=>h
 |s::r,t,h=>by
  unfold stars;split
  ·exact zS r _ ⟨ja (by omega) (by omega),by rw[aa.all_eq];simp[aa.allL]⟩
  ·exact h
theorem pg{it:List Item}(hi:eL it){b:Bool}{l:List BA}{t:aa}{r:List BA}(h:qT it b l=some (t,r)):t.Fits/\t.all.length<=60:=by
 obtain⟨t0,r1,h1,h⟩:=ap h
 obtain⟨t1,r2,h2,h⟩:=ap h
 obtain⟨_,r3,_,h⟩:=ap h
 have h2:some (stars t0 r1)=some (t1,r2):=h2
 injection h2 with h2
 have:=zS r1 t0 (JO hi h1)
 rw[h2]at this
 cases h;exact this
theorem La{it:List Item}(hi:eL it){mx:Int}{l:List BA}{p:aa×BA}{r:List BA}(h:j8 it mx l=some (p,r)):Bdd p.1:=by
 obtain⟨t,r1,h1,h⟩:=ap h
 obtain⟨n,r2,_,h⟩:=ap h
 obtain⟨b,r3,_,h⟩:=ap h
 obtain⟨t',r4,h4,h⟩:=ap h
 obtain⟨_,r5,_,h⟩:=ap h
 cases h
 obtain⟨k1,k2⟩:=pg hi h1
 unfold wv at h4
 split at h4
 ·obtain⟨v,r6,hv,h4⟩:=ap h4
  obtain⟨_,r7,_,h4⟩:=ap h4
  obtain⟨_,r8,_,h4⟩:=ap h4
  cases h4
  have hvb: -9223372036854775808<=v/\v<=9223372036854775807:=by
   cases hr3:r3 with
   |nil=>rw[hr3]at hv;cases hv
   |cons s z=>
    rw[hr3]at hv
    have hv:(if eR s=true then some (pM s,z)else none)=some (v,r6):=hv
    split at hv
    ·cases hv;exact HR s
    ·cases hv
  refine⟨xw (by omega) hvb (by simp) (by simpa using k1),?_⟩
  show(aa.mk 5 v false [t]).all.length<=61
  rw[aa.all_eq,Ue]
  simp only[aa.allL,UZ];omega
 ·cases h4;exact⟨k1,UW k2 (by omega)⟩
structure N_ (l:List BA) (ns0:List BA) (ps0:List aa) (q:List BA×List aa):Prop where
 sub:∀p∈ps0,p∈q.2
 len:ns0.length=ps0.length->q.1.length=q.2.length
 bnd:q.2.length<=ps0.length+l.length
 bd:(∀p∈ps0,Bdd p)->∀p∈q.2,Bdd p
theorem tn{it:List Item}(hi:eL it){mx:Int}:∀(k:Nat) (ns0:List BA) (ps0:List aa) (l:List BA) (q:List BA×List aa) (r:List BA),bH it mx k ns0 ps0 l=some (q,r)->N_ l ns0 ps0 q
 |0,ns0,ps0,l,q,r,h=>by cases h
 |k+1,ns0,ps0,l,q,r,h=>by
  unfold bH at h
  split at h
  ·cases h;exact⟨λp hp=>hp,λh=>h,by simp,λh=>h⟩
  ·obtain⟨a,r1,e1,e2⟩:=ap h
   have ih:=tn hi k _ _ _ _ _ e2
   have hlt:=Ltp.part it mx _ _ _ e1
   have hb:=La hi e1
   refine⟨λp hp=>ih.sub p (Vq _ hp),λh=>ih.len (by rw[Uc,Uc,h];rfl),?_,λh=>ih.bd λp hp=> ?_⟩
   ·have:=ih.bnd;rw[Uc,T5]at this;omega
   ·rcases Uk.1 hp with hp|hp
    ·exact h p hp
    ·rw[UP.1 hp];exact hb
theorem CZ{it:List Item}(hi:eL it):∀(k:Nat) (ns0:List BA) (ps0:List aa) (l:List BA) (q:List BA×List aa) (r:List BA),Fa it k ns0 ps0 l=some (q,r)->N_ l ns0 ps0 q
 |0,ns0,ps0,l,q,r,h=>by cases h
 |k+1,ns0,ps0,l,q,r,h=>by
  obtain⟨t,r1,e1,h⟩:=ap h
  obtain⟨n,r2,e2,h⟩:=ap h
  obtain⟨c,r3,e3,h⟩:=ap h
  have l1:=Ltp.kind it false _ _ _ e1
  have l2:=Ltp.name _ _ _ e2
  have l3:=Lep.may _ _ _ _ e3
  have hb:Bdd t:=⟨(pg hi e1).1,by have:=(pg hi e1).2;omega⟩
  have key:N_ r3 (ns0++[n]) (ps0++[t]) q:=by
   split at h
   ·exact CZ hi k _ _ _ _ _ h
   ·cases h;exact⟨λp hp=>hp,λh=>h,by simp,λh=>h⟩
  refine⟨λp hp=>key.sub p (Vq _ hp),λh=>key.len (by rw[Uc,Uc,h];rfl),?_,λh=>key.bd λp hp=> ?_⟩
  ·have:=key.bnd;rw[Uc,T5]at this;omega
  ·rcases Uk.1 hp with hp|hp
   ·exact h p hp
   ·rw[UP.1 hp];exact hb
def form(it:List Item)(mx:Int):Nat->Ps Item
 |0=>oX it
 |1=>xr it
 |2=>dI it mx
 |_=>xu it
structure CR (l:List BA) (k:Nat) (x:Item):Prop where
 kind:x.kind=(k:Int)
 names:x.names.length<=l.length+1
 fits:x.layout.Fits
 all:x.layout.all.length<=62 *(l.length+2)
 lay:k<2->x.layout=z0
 str:2<=k->x.layout.kind=6
 par:2<=k->x.names.length<=x.layout.parts.length
theorem vj:∀(k:Nat) (acc:List BA) (l:List BA) (ns:List BA) (r:List BA),my k acc l=some (ns,r)->ns.length<=acc.length+l.length
 |0,acc,l,ns,r,h=>by cases h
 |k+1,acc,l,ns,r,h=>by
  obtain⟨n,r2,e2,h⟩:=ap h
  obtain⟨c,r3,e3,h⟩:=ap h
  have l2:=Ltp.name _ _ _ e2
  have l3:=Lep.may _ _ _ _ e3
  split at h
  ·have:=vj k _ _ _ _ h;rw[Uc,T5]at this;omega
  ·cases h;rw[Uc,T5];omega
theorem yW:z0.Fits:=ja (by omega) (by omega)
theorem JB:z0.all.length=1:=by rw[aa.all_eq];simp[aa.allL,z0]
theorem JC:jv z0=0:=by
 simp[jv,z0,aa.large,aa.all,aa.allL,aa.depth,aa.depthL,aa.big,aa.big1,aa.cells,aa.cellsL,aa.right,aa.isS,pS,Nl]
theorem DZ{ps:List aa}(h:∀p∈ps,Bdd p):(aa.mk 6 0 false ps).Fits/\(ps.length<=9223372036854775807->True)/\(aa.mk 6 0 false ps).all.length<=62 *(ps.length+1)\/9223372036854775807<ps.length:=by
 by_cases hl:ps.length<=9223372036854775807
 ·left
  refine⟨xw (by omega) (by omega) hl λp hp=>(h p hp).1,λ_=>trivial,?_⟩
  rw[aa.all_eq,Ue]
  have:=CV (B:=61) λp hp=>(h p hp).2
  simp only;omega
 ·right;omega
theorem xA{it:List Item}(hi:eL it){mx:Int}{k:Nat}(hk:k<4){l:List BA}(hl:l.length<=1000000){x:Item}{r:List BA}(h:form it mx k l=some (x,r)):CR l k x:=by
 match k,hk with
 |0,_=>
  obtain⟨_,r1,_,h⟩:=ap h
  obtain⟨n,r2,_,h⟩:=ap h
  obtain⟨m,r3,_,h⟩:=ap h
  obtain⟨v,r4,_,h⟩:=ap h
  obtain⟨_,r5,_,h⟩:=ap h
  cases h
  exact⟨rfl,by simp,yW,by rw[JB];omega,λ_=>rfl,λh=>by omega,λh=>by omega⟩
 |1,_=>
  obtain⟨_,r1,e1,h⟩:=ap h
  obtain⟨n,r2,e2,h⟩:=ap h
  obtain⟨_,r3,e3,h⟩:=ap h
  obtain⟨ns,r4,e4,h⟩:=ap h
  obtain⟨_,r5,_,h⟩:=ap h
  obtain⟨_,r6,_,h⟩:=ap h
  cases h
  have a1:=Lep.wants _ _ _ _ e1
  have a2:=Ltp.name _ _ _ e2
  have a3:=Lep.wants _ _ _ _ e3
  have a4:=vj _ _ _ _ _ e4
  rw[Uv]at a4
  exact⟨rfl,by simp only;omega,yW,by rw[JB];omega,λ_=>rfl,λh=>by omega,λh=>by omega⟩
 |2,_=>
  obtain⟨_,r1,e1,h⟩:=ap h
  obtain⟨n,r2,e2,h⟩:=ap h
  obtain⟨_,r3,e3,h⟩:=ap h
  obtain⟨q,r4,e4,h⟩:=ap h
  obtain⟨_,r5,_,h⟩:=ap h
  obtain⟨_,r6,_,h⟩:=ap h
  cases h
  have a1:=Lep.wants _ _ _ _ e1
  have a2:=Ltp.name _ _ _ e2
  have a3:=Lep.wants _ _ _ _ e3
  have ok:=tn hi _ _ _ _ _ _ e4
  have b1:=ok.len rfl
  have b2:=ok.bnd
  rw[Uv]at b2
  rcases DZ (ok.bd (by simp))with⟨c1,_,c2⟩|c
  ·exact⟨rfl,by simp only;omega,c1,by simp only;omega,λh=>by omega,λ_=>rfl,λ_=>by simp only;omega⟩
  ·omega
 |3,_=>
  obtain⟨t,r1,e1,h⟩:=ap h
  obtain⟨n,r2,e2,h⟩:=ap h
  obtain⟨_,r3,e3,h⟩:=ap h
  obtain⟨q,r4,e4,h⟩:=ap h
  obtain⟨_,r5,_,h⟩:=ap h
  obtain⟨_,r6,_,h⟩:=ap h
  cases h
  have a1:=Ltp.kind it true _ _ _ e1
  have a2:=Ltp.name _ _ _ e2
  have a3:=Lep.wants _ _ _ _ e3
  have hb:Bdd t:=⟨(pg hi e1).1,by have:=(pg hi e1).2;omega⟩
  have ok:N_ r3 [] [] q:=by
   unfold kj at e4
   split at e4
   ·cases e4;exact⟨by simp,λ_=>rfl,by simp,by simp⟩
   ·exact CZ hi _ _ _ _ _ _ e4
  have b1:=ok.len rfl
  have b2:=ok.bnd
  rw[Uv]at b2
  have hps:∀p∈q.2++[t],Bdd p:=λp hp=>by
   rcases Uk.1 hp with hp|hp
   ·exact ok.bd (by simp) p hp
   ·rw[UP.1 hp];exact hb
  rcases DZ hps with⟨c1,_,c2⟩|c
  ·rw[Uc,T5]at c2
   exact⟨rfl,by simp only;omega,c1,by simp only;omega,λh=>by omega,λ_=>rfl,λ_=>by simp only[Uc,T5];omega⟩
  ·rw[Uc,T5]at c;omega
def Rm(ps:List aa):Prop:=∃p∈ps,p.kind=5/\p.n>1000
theorem LZ(t:aa)(b:Bool)(l:List BA):(∀t' r,wv iM t b l=some (t',r)->wv 1000 t b l=some (t',r)\/wv 1000 t b l=none/\t'.kind=5/\t'.n>1000)/\(wv iM t b l=none->wv 1000 t b l=none):=by
 unfold wv
 cases b with
 |false=>simp only[TT,XD];exact⟨λt' r h=> .inl h,λh=>h⟩
 |true=>
  simp only[XC]
  unfold bnd nay
  cases K_ l with
  |none=>exact⟨λt' r h=> .inl h,λh=>h⟩
  |some y=>
   obtain⟨v,r⟩:=y
   simp only
   by_cases h1:v<1
   ·simp[h1]
   ·by_cases h2:v>iM
    ·have h3:v>1000:=by unfold iM at h2;omega
     simp[h1,h2,h3]
    ·by_cases h3:v>1000
     ·have e1:(decide (v<1)||decide (v>iM))=false:=by simp[h1,h2]
      have e2:(decide (v<1)||decide (v>1000))=true:=by simp[h3]
      simp only[e1,e2,XC,TT,XD]
      refine⟨λt' r' h=> .inr ⟨by trivial,?_⟩,λ_=>by trivial⟩
      cases hw:cu [LR] r with
      |none=>rw[hw]at h;cases h
      |some z=>rw[hw]at h;cases h;exact⟨rfl,h3⟩
     ·have e1:(decide (v<1)||decide (v>iM))=false:=by simp[h1,h2]
      have e2:(decide (v<1)||decide (v>1000))=false:=by simp[h1,h3]
      simp only[e1,e2]
      exact⟨λt' r h=> .inl h,λh=>h⟩
theorem Lb(it:List Item)(l:List BA):(∀p r,j8 it iM l=some (p,r)->j8 it 1000 l=some (p,r)\/j8 it 1000 l=none/\p.1.kind=5/\p.1.n>1000)/\(j8 it iM l=none->j8 it 1000 l=none):=by
 unfold j8
 unfold bnd
 cases qT it false l with
 |none=>exact⟨λt' r h=> .inl h,λh=>h⟩
 |some y=>
  obtain⟨t,r1⟩:=y
  simp only
  cases dL r1 with
  |none=>exact⟨λt' r h=> .inl h,λh=>h⟩
  |some y=>
   obtain⟨n,r2⟩:=y
   simp only
   cases vu tQ r2 with
   |none=>exact⟨λt' r h=> .inl h,λh=>h⟩
   |some y=>
    obtain⟨b,r3⟩:=y
    simp only
    obtain⟨m1,m2⟩:=LZ t b r3
    cases hb:wv iM t b r3 with
    |none=>rw[m2 hb];exact⟨λt' r h=> .inl h,λh=>h⟩
    |some y=>
     obtain⟨t',r4⟩:=y
     rcases m1 t' r4 hb with e|⟨e,e2⟩
     ·rw[e];exact⟨λt' r h=> .inl h,λh=>h⟩
     ·rw[e]
      simp only
      refine⟨λp r h=> .inr ⟨by trivial,?_⟩,λ_=>by trivial⟩
      cases hw:cu [sB] r4 with
      |none=>rw[hw]at h;cases h
      |some z=>rw[hw]at h;cases h;exact e2
theorem zJ{it:List Item}(hi:eL it):∀(k:Nat) (ns:List BA) (ps:List aa) (l:List BA),(∀q r,bH it iM k ns ps l=some (q,r)->bH it 1000 k ns ps l=some (q,r)\/bH it 1000 k ns ps l=none/\Rm q.2)/\(bH it iM k ns ps l=none->bH it 1000 k ns ps l=none)
 |0,ns,ps,l=>⟨λq r h=>(by cases h),λ_=>rfl⟩
 |k+1,ns,ps,l=>by
  unfold bH
  cases hc:dB cB l with
  |true=>rw[XG rfl];exact⟨λq r h=> .inl h,λh=>h⟩
  |false=>
   rw[XF Ul]
   obtain⟨m1,m2⟩:=Lb it l
   unfold bnd
   cases hb:j8 it iM l with
   |none=>rw[m2 hb];exact⟨λq r h=>(by cases h),λ_=>rfl⟩
   |some y=>
    obtain⟨p,r1⟩:=y
    rcases m1 p r1 hb with e|⟨e,e2⟩
    ·rw[e];exact zJ hi k _ _ r1
    ·rw[e]
     refine⟨λq r h=> .inr ⟨by trivial,p.1,?_,e2⟩,λ_=>by trivial⟩
     exact(tn hi k _ _ _ _ _ h).sub p.1 (VI _ (UP.2 rfl))
theorem Hc{x:aa}(h:Rm x.parts):¬jv x=0:=by
 obtain⟨p,hp,h1,h2⟩:=h
 have hb:p.big=true:=by unfold aa.big aa.big1;rw[h1,decide_eq_true h2];simp
 have hl:x.large=true:=by
  unfold aa.large
  have:x.all.any aa.big=true:=Vl.2 ⟨p,by rw[x.all_eq];exact T6 _ (aa.allL_mem hp p.mem_self),hb⟩
  rw[this];simp
 unfold jv
 rw[hl,UD,XG rfl];decide
theorem FT{it:List Item}(hi:eL it)(l:List BA):(∀x r,dI it iM l=some (x,r)->dI it 1000 l=some (x,r)\/dI it 1000 l=none/\¬jv x.layout=0)/\(dI it iM l=none->dI it 1000 l=none):=by
 unfold dI
 unfold bnd
 cases cu [bF] l with
 |none=>exact⟨λt' r h=> .inl h,λh=>h⟩
 |some y=>
  obtain⟨_,r1⟩:=y
  simp only
  cases dL r1 with
  |none=>exact⟨λt' r h=> .inl h,λh=>h⟩
  |some y=>
   obtain⟨n,r2⟩:=y
   simp only
   cases cu [oB] r2 with
   |none=>exact⟨λt' r h=> .inl h,λh=>h⟩
   |some y=>
    obtain⟨_,r3⟩:=y
    simp only
    obtain⟨m1,m2⟩:=zJ hi (r3.length+1) [] [] r3
    have e1:lr it iM r3=bH it iM (r3.length+1) [] [] r3:=rfl
    have e2:lr it 1000 r3=bH it 1000 (r3.length+1) [] [] r3:=rfl
    rw[e1,e2]
    cases hb:bH it iM (r3.length+1) [] [] r3 with
    |none=>rw[m2 hb];exact⟨λt' r h=> .inl h,λh=>h⟩
    |some y=>
     obtain⟨q,r4⟩:=y
     rcases m1 q r4 hb with e|⟨e,e3⟩
     ·rw[e];exact⟨λt' r h=> .inl h,λh=>h⟩
     ·rw[e]
      simp only
      refine⟨λx r h=> .inr ⟨by trivial,?_⟩,λ_=>by trivial⟩
      cases hw:cu [cB,sB] r4 with
      |none=>rw[hw]at h;cases h
      |some z=>
       rw[hw]at h
       simp only at h
       cases hz:nay (q.1.isEmpty||jA q.1) z.2 with
       |none=>rw[hz]at h;cases h
       |some z2=>rw[hz]at h;cases h;exact Hc e3
def eK(it:List Item)(mx:Int)(k:Nat)(l:List BA):Option Item:=match form it mx k l with
 |some (x,[])=>if eJ it k x.name0=true then none else if 1<k/\¬jv x.layout=0 then none else some x
 |_=>none
theorem G_(it:List Item)(mx:Int):form it mx 0=oX it:=rfl
theorem MR(it:List Item)(mx:Int):form it mx 1=xr it:=rfl
theorem MS(it:List Item)(mx:Int):form it mx 2=dI it mx:=rfl
theorem MT(it:List Item)(mx:Int)(k:Nat):form it mx (k+3)=xu it:=rfl
theorem F4{it:List Item}(hi:eL it)(k:Nat)(l:List BA):eK it iM k l=eK it 1000 k l:=by
 unfold eK
 match k with
 |0=>rw[G_,G_]
 |1=>rw[MR,MR]
 |k+3=>rw[MT,MT]
 |2=>
  obtain⟨m1,m2⟩:=FT hi l
  rw[MS,MS]
  cases hb:dI it iM l with
  |none=>rw[m2 hb]
  |some y=>
   obtain⟨x,r⟩:=y
   rcases m1 x r hb with e|⟨e,e2⟩
   ·rw[e]
   ·rw[e]
    cases r with
    |nil=>
     simp only
     split
     ·rfl
     ·rw[XG ⟨by omega,e2⟩]
    |cons z w=>rfl
def j7(it:List Item)(l:List BA):Option Item:=(((eK it 1000 0 l).or (eK it 1000 1 l)).or (eK it 1000 2 l)).or (eK it 1000 3 l)
theorem Lv{it:List Item}(hi:eL it){k:Nat}(hk:k<4){l:List BA}(hl:l.length<=1000000){x:Item}(h:eK it 1000 k l=some x):CR l k x/\jv x.layout=0:=by
 unfold eK at h
 split at h
 ·rename_i y hf
  split at h
  ·cases h
  ·split at h
   ·cases h
   ·rename_i h2
    cases h
    have ok:=xA hi hk hl hf
    refine⟨ok,?_⟩
    by_cases hk2:1<k
    ·exact W1 λh=>h2 ⟨hk2,h⟩
    ·rw[ok.lay (by omega)];exact JC
 ·cases h
theorem Hd{it:List Item}(hi:eL it){l:List BA}(hl:l.length<=1000000){x:Item}(h:j7 it l=some x):x.names.length<=l.length+1/\x.layout.Fits/\jv x.layout=0/\(x.kind=2->x.layout.kind=6):=by
 have:∃k,k<4/\eK it 1000 k l=some x:=by
  unfold j7 at h
  rcases WD.1 h with h|⟨_,h⟩
  ·rcases WD.1 h with h|⟨_,h⟩
   ·rcases WD.1 h with h|⟨_,h⟩
    ·exact⟨0,by omega,h⟩
    ·exact⟨1,by omega,h⟩
   ·exact⟨2,by omega,h⟩
  ·exact⟨3,by omega,h⟩
 obtain⟨k,hk,h⟩:=this
 obtain⟨ok,hv⟩:=Lv hi hk hl h
 refine⟨ok.names,ok.fits,hv,λh2=>ok.str ?_⟩
 have:=ok.kind;rw[h2]at this;omega
theorem eL.add{it:List Item}(hi:eL it){l:List BA}(hl:l.length<=900000){x:Item}(h:j7 it l=some x)(hn:it.length<1000000):eL (it++[x]):=by
 obtain⟨a1,a2,a3,a4⟩:=Hd hi (by omega) h
 have mem {P:Item->Prop} (h1:∀y∈it,P y) (h2:P x):∀y∈it++[x],P y:=λy hy=>by
  rcases Uk.1 hy with hy|hy
  ·exact h1 y hy
  ·rw[UP.1 hy];exact h2
 exact⟨by rw[Uc,T5];omega,mem hi.names (by omega),mem hi.fits a2,mem hi.val a3,mem (P:=λy=>y.kind=2->y.layout.kind=6) hi.str a4⟩
end Go.Proofs.YtpelkenpapfadaaGreatDoor
end
section
namespace Go.Proofs.YtpelkenpapfadaaGreatDoor
open Go.Tx
set_option maxRecDepth 20000
open Go.Lib
theorem A3{it:List Item}{k:Int}{y x:Item}{l r:List BA}(h:fresh it k y l=some (x,r)):x=y/\r=l/\eJ it k y.name0=false:=by
 obtain⟨_,r1,e1,h⟩:=ap h
 unfold nay at e1
 split at e1
 ·cases e1
 ·rename_i hh
  cases e1;cases h
  exact⟨rfl,rfl,WZ.2 hh⟩
theorem GS{α β:Type}{p:Ps α}{q:α->Ps β}{l:List BA}(h:bnd p q l=none):p l=none\/∃a r,p l=some (a,r)/\q a r=none:=by
 unfold bnd at h
 cases hp:p l with
 |none=>exact .inl rfl
 |some x=>obtain⟨a,r⟩:=x;rw[hp]at h;exact .inr ⟨a,r,rfl,h⟩
theorem LD{x:Item}{l:List BA}{k:Nat}(ok:CR l k x)(hl:l.length<=10000):EK (x.layout,())=some (jv x.layout,())/\Bd (x.layout,())=some (jv x.layout,()):=by
 have h1:=ok.all
 have h2:x.layout.depth<=x.layout.all.length:=by
  refine aa.ind (P:=λl=>l.depth<=l.all.length) (λl ih=> ?_) x.layout
  rw[l.depth_eq,l.all_eq,Ue]
  have:∀ps:List aa,(∀p∈ps,p.depth<=(aa.allL l.parts).length)->aa.depthL ps<=(aa.allL l.parts).length:=by
   intro ps
   induction ps with
   |nil=>intro _;simp[aa.depthL]
   |cons p r ihr=>
    intro h
    rw[aa.depthL]
    have:=h p T_
    have:=ihr λq hq=>h q (T6 p hq)
    omega
  have:=this l.parts λp hp=>UW (ih p hp) (si hp)
  omega
 exact⟨y20 _ ok.fits (by omega) (by omega),y21 _ ok.fits (by omega) (by omega)⟩
structure sf (it:List Item) (mx:Int) (k:Nat) (l:List BA) (P:Ps Item):Prop where
 yes:∀y r,P l=some (y,r)->form it mx k l=some (y,r)/\eJ it k y.name0=false
 no:P l=none->∀y r,form it mx k l=some (y,r)->eJ it k y.name0=true
abbrev JG(it:List Item)(mx:Int)(k:Nat)(l:List BA)(x:Item)(l':List BA)(w':Bool):Prop:=
 (eK it mx k l=none/\(w'=true\/w'=false/\l'≠[]\/w'=false/\l'=[]/\x.kind=(k:Int)/\2<=k/\CR l k x/\¬jv x.layout=0))\/
   (eK it mx k l=some x/\w'=false/\l'=[]/\x.kind=(k:Int)/\CR l k x/\jv x.layout=0)
theorem oi{it:List Item}(hi:eL it){mx:Int}{k:Nat}(hk:k<4){l:List BA}(hl:l.length<=10000){x:Item}{l':List BA}{w':Bool}{P:Ps Item}(hP:sf it mx k l P)
 (hm:Sim P l false x l' w'):JG it mx k l x l' w':=by
 have key:(w'=true/\∀y r,form it mx k l=some (y,r)->eJ it k y.name0=true)\/(w'=false/\form it mx k l=some (x,l')/\eJ it k x.name0=false):=by
  cases hf:P l with
  |none=>exact .inl ⟨hm.no rfl hf,hP.no hf⟩
  |some z=>
   obtain⟨y,r⟩:=z
   obtain⟨a,b,c⟩:=hm.ok rfl y r hf
   obtain⟨d,e⟩:=hP.yes y r hf
   subst b c
   exact .inr ⟨a,d,e⟩
 rcases key with⟨hw,hh⟩|⟨hw,hf,hh⟩
 ·refine .inl ⟨?_, .inl hw⟩
  unfold eK
  cases hf:form it mx k l with
  |none=>rfl
  |some z=>
   obtain⟨y,r⟩:=z
   cases r with
   |nil=>simp only;rw[hh y [] hf,XG rfl]
   |cons a b=>rfl
 ·have ok:=xA hi hk (by omega) hf
  cases l' with
  |cons a b=>exact .inl ⟨by unfold eK;rw[hf], .inr (.inl ⟨hw,by simp⟩)⟩
  |nil=>
   have hb:(eJ it (k:Int) x.name0=true)=False:=by rw[hh];simp
   by_cases hv:1<k/\¬jv x.layout=0
   ·exact .inl ⟨by unfold eK;rw[hf];simp only[hb,XD];rw[XG hv], .inr (.inr ⟨hw,rfl,ok.kind,by omega,ok,hv.2⟩)⟩
   ·refine .inr ⟨by unfold eK;rw[hf];simp only[hb,XD];rw[XF hv],hw,rfl,ok.kind,ok,?_⟩
    by_cases hk2:1<k
    ·exact W1 λh=>hv ⟨hk2,h⟩
    ·rw[ok.lay (by omega)];exact JC
theorem sf.fresh(it:List Item)(mx:Int)(k:Nat)(l:List BA):sf it mx k l (bnd (form it mx k) (fresh it k)):=by
 refine⟨λy r h=> ?_,λh y r hy=> ?_⟩
 ·obtain⟨y',r',e1,e2⟩:=ap h
  obtain⟨e3,e4,e5⟩:=A3 e2
  subst e3 e4
  exact⟨e1,e5⟩
 ·rcases GS h with e|⟨a,r',e,e2⟩
  ·rw[e]at hy;cases hy
  ·rw[e]at hy
   injection hy with hy;injection hy with h1 h2
   subst h1 h2
   cases hh:eJ it k a.name0 with
   |true=>rfl
   |false=>
    unfold Proofs.YtpelkenpapfadaaGreatDoor.fresh Proofs.YtpelkenpapfadaaGreatDoor.bnd nay at e2
    rw[hh,XF Ul]at e2
    cases e2
theorem AM{it:List Item}{mx:Int}{l:List BA}{y:Item}{r:List BA}(h:form it mx 0 l=some (y,r)):eJ it 0 y.name0=false:=by
 rw[G_]at h
 obtain⟨_,r1,_,h⟩:=ap h
 obtain⟨n,r2,_,h⟩:=ap h
 obtain⟨m,r3,_,h⟩:=ap h
 obtain⟨v,r4,_,h⟩:=ap h
 obtain⟨_,r5,e,h⟩:=ap h
 cases h
 unfold nay at e
 split at e
 ·cases e
 ·rename_i hh
  unfold gj at hh
  simp only[UB,not_or,Bool.not_eq_true]at hh
  exact hh.1
abbrev Fm:List Nat:=[122,123,124,125]
theorem lM{it:List Item}(hi:eL it){k:Nat}(hk:k<4){l:List BA}(hl:l.length<=10000)(X:Item){x:Item}{l':List BA}{w':Bool}
 (ht:JG it iM k l x l' w')
 (h:(k=0/\fi (l,false,it,())=some (l',w',it,x,()))\/(k=1/\fj (l,false,it,())=some (l',w',it,x,()))\/(k=2/\fk (l,false,it,())=some (l',w',it,x,()))\/(k=3/\dR (l,false,it,())=some (l',w',it,x,()))):
 aT (l,Fm,4,(k:Int),X,it,())=match eK it 1000 k l with|some y=>some (.inl (true,it,y,()))|none=>aT (l,Fm,4,((k+1:Nat):Int),X,it,()):=by
 have hlt:((k:Int)<4):=by omega
 have hge:(0:Int)<=(k:Int):=by omega
 have hwr:=aX (a:=k) (by omega)
 have hlen0:(([]:List BA).length:Int)>0↔False:=by simp
 have ht:JG it 1000 k l x l' w':=by
  rcases ht with⟨e,h⟩|⟨e,h⟩
  ·exact .inl ⟨by rw[<-F4 hi];exact e,h⟩
  ·exact .inr ⟨by rw[<-F4 hi];exact e,h⟩
 conv=>lhs;rw[aT]
 have tail (h':l'≠[]):((l'.length:Int)>0)=True:=by
  cases l' with
  |nil=>exact(h' rfl).elim
  |cons a b=>simp only[Ue,eq_iff_iff,iff_true];omega
 have small (hk2:k<2):((k:Int)<2)=True:=by simp;omega
 have great (hk2:2<=k):((k:Int)<2)=False:=by simp;omega
 have get:Fm[k]?=some (122+k):=by
  match k,hk with
  |0,_=>rfl
  |1,_=>rfl
  |2,_=>rfl
  |3,_=>rfl
 rcases ht with⟨e,ht⟩|⟨e,hw,hl0,hkd,ok,hv⟩
 ·rw[e]
  rcases ht with hw|⟨hw,hne⟩|⟨hw,hl0,hkd,hk2,ok,hv⟩
  ·rcases h with⟨rfl,h⟩|⟨rfl,h⟩|⟨rfl,h⟩|⟨rfl,h⟩<;>
    simp only[hlt,hge,XI,TR,TU,XC,XD,TT,T1,TY,TW,get,h,hw,hwr,UE,V0,VP]
  ·have:=tail hne
   rcases h with⟨rfl,h⟩|⟨rfl,h⟩|⟨rfl,h⟩|⟨rfl,h⟩<;>
    simp only[hlt,hge,XI,TR,TU,XC,XD,TT,T1,TY,TW,get,h,hw,this,hwr,UE,V0,VP]
  ·have hg:=great hk2
   have h99:=(LD ok hl).1
   have hv':(jv x.layout==0)=false:=beq_eq_false_iff_ne.2 hv
   subst hl0
   rcases h with⟨rfl,h⟩|⟨rfl,h⟩|⟨rfl,h⟩|⟨rfl,h⟩
   ·omega
   ·omega
   ·simp only[hlt,hge,XI,TR,TU,XC,XD,TT,T1,TY,TW,get,h,hw,hkd,hg,hlen0,XJ,eta,h99,hv',hwr,UE,V0,VP]
   ·simp only[hlt,hge,XI,TR,TU,XC,XD,TT,T1,TY,TW,get,h,hw,hkd,hg,hlen0,XJ,eta,h99,hv',hwr,UE,V0,VP]
 ·rw[e]
  subst hl0
  by_cases hk2:k<2
  ·have hs:=small hk2
   rcases h with⟨rfl,h⟩|⟨rfl,h⟩|⟨rfl,h⟩|⟨rfl,h⟩
   ·simp only[hlt,hge,XI,TR,TU,XC,XD,TT,T1,TY,TW,get,h,hw,hkd,hs,hlen0,XJ,UE,V0,VP]
   ·simp only[hlt,hge,XI,TR,TU,XC,XD,TT,T1,TY,TW,get,h,hw,hkd,hs,hlen0,XJ,UE,V0,VP]
   ·omega
   ·omega
  ·have hg:=great (by omega)
   have h99:=(LD ok hl).1
   have hv':(jv x.layout==0)=true:=by rw[hv];rfl
   rcases h with⟨rfl,h⟩|⟨rfl,h⟩|⟨rfl,h⟩|⟨rfl,h⟩
   ·omega
   ·omega
   ·simp only[hlt,hge,XI,TR,TU,XC,XD,TT,T1,TY,TW,get,h,hw,hkd,hg,hlen0,XJ,eta,h99,hv',UE,V0,VP]
   ·simp only[hlt,hge,XI,TR,TU,XC,XD,TT,T1,TY,TW,get,h,hw,hkd,hg,hlen0,XJ,eta,h99,hv',UE,V0,VP]
def rW(l:List BA)(it:List Item):Bool×List Item×Item×Unit:=match j7 it l with|some y=>(true,it,y,())|none=>(false,it,zI,())
theorem f68(it:List Item)(hi:eL it)(l:List BA)(hg:tO l)(hl:l.length<=10000):mn (l,it,())=some (rW l it):=by
 obtain⟨l0,w0,x0,e0',m0⟩:=Sc it hi l hg false
 obtain⟨l1,w1,x1,e1,m1⟩:=f123 it hi l (by omega) false
 obtain⟨l2,w2,x2,e2,m2⟩:=f124 it hi l hg (by omega) false
 obtain⟨l3,w3,x3,e3,m3⟩:=f125 it hi l (by omega) false
 have g0:sf it iM 0 l (oX it):=⟨λy r h=>⟨h,AM (mx:=iM) h⟩,λh y r hy=>by rw[G_,h]at hy;cases hy⟩
 have t0:=oi hi (k:=0) (by omega) hl g0 m0
 have t1:=oi hi (k:=1) (by omega) hl (.fresh it iM 1 l) m1
 have t2:=oi hi (k:=2) (by omega) hl (.fresh it iM 2 l) m2
 have t3:=oi hi (k:=3) (by omega) hl (.fresh it iM 3 l) m3
 have s0:=lM hi (k:=0) (by omega) hl zI t0 (.inl ⟨rfl,e0'⟩)
 have s1:=lM hi (k:=1) (by omega) hl zI t1 (.inr (.inl ⟨rfl,e1⟩))
 have s2:=lM hi (k:=2) (by omega) hl zI t2 (.inr (.inr (.inl ⟨rfl,e2⟩)))
 have s3:=lM hi (k:=3) (by omega) hl zI t3 (.inr (.inr (.inr ⟨rfl,e3⟩)))
 have s0:aT (l,Fm,4,0,zI,it,())=match eK it 1000 0 l with|some y=>some (.inl (true,it,y,()))|none=>aT (l,Fm,4,1,zI,it,()):=s0
 have s1:aT (l,Fm,4,1,zI,it,())=match eK it 1000 1 l with|some y=>some (.inl (true,it,y,()))|none=>aT (l,Fm,4,2,zI,it,()):=s1
 have s2:aT (l,Fm,4,2,zI,it,())=match eK it 1000 2 l with|some y=>some (.inl (true,it,y,()))|none=>aT (l,Fm,4,3,zI,it,()):=s2
 have s3:aT (l,Fm,4,3,zI,it,())=match eK it 1000 3 l with|some y=>some (.inl (true,it,y,()))|none=>aT (l,Fm,4,4,zI,it,()):=s3
 have s4:aT (l,Fm,4,4,zI,it,())=some (.inr (zI,it,())):=by
  rw[aT];rfl
 have hz:Item.mk 0 (TZ #[]) 0 [] (aa.mk 0 0 false [])=zI:=rfl
 have hF:([122,123,124,125]:List Nat)=Fm:=rfl
 have hFl:((Fm.length:Nat):Int)=4:=rfl
 rw[mn,Oz]
 simp only[TR,TU,XC,XD,TT,T1,TY,hz,hF,hFl,s0,s1,s2,s3,s4]
 unfold rW j7
 cases eK it 1000 0 l with
 |some y=>rfl
 |none=>
  cases eK it 1000 1 l with
  |some y=>rfl
  |none=>
   cases eK it 1000 2 l with
   |some y=>rfl
   |none=>cases eK it 1000 3 l<;>rfl
theorem ow{it:List Item}(hi:eL it){k:Nat}(hk:k<4){l:List BA}(hl:l.length<=10000)(X:Item){x:Item}{l':List BA}{w':Bool}(hm:Sim (form it 1000 k) l false x l' w')
 (h:(k=0/\gL (l,false,it,())=some (l',w',it,x,()))\/(k=1/\gM (l,false,it,())=some (l',w',it,x,()))\/(k=2/\gN (l,false,it,())=some (l',w',it,x,()))\/(k=3/\ej (l,false,it,())=some (l',w',it,x,()))):
 aD (l,(k:Int),it,X,())=match eK it 1000 k l with|some y=>some (.inl (true,it,y,()))|none=>aD (l,((k+1:Nat):Int),it,X,()):=by
 have hilen:=hi.len
 have hlt:((k:Int)<4):=by omega
 have hwr:=aX (a:=k) (by omega)
 have h48:=f48 it (by omega) k x.name0
 have tail (h':l'≠[]):((l'.length:Int)>0)=True:=by
  cases l' with
  |nil=>exact(h' rfl).elim
  |cons a b=>simp only[Ue,eq_iff_iff,iff_true];omega
 have hlen0:(([]:List BA).length:Int)>0↔False:=by simp
 have q0:((0:Int)==0)=true:=rfl
 have q1:((1:Int)==0)=false:=rfl
 have q2:((1:Int)==1)=true:=rfl
 have q3:((2:Int)==0)=false:=rfl
 have q4:((2:Int)==1)=false:=rfl
 have q5:((2:Int)==2)=true:=rfl
 have q6:((3:Int)==0)=false:=rfl
 have q7:((3:Int)==1)=false:=rfl
 have q8:((3:Int)==2)=false:=rfl
 have q9:((3:Int)==3)=true:=rfl
 have c0:(((0:Nat):Int))=0:=rfl
 have c1:(((1:Nat):Int))=1:=rfl
 have c2:(((2:Nat):Int))=2:=rfl
 have c3:(((3:Nat):Int))=3:=rfl
 have body:aD (l,(k:Int),it,X,())=(some ((l,(k:Int),it,X,l',w',x,()):List BA×Int×List Item×Item×List BA×Bool×Item×Unit)).bind λx1=>
  (fP (x1.2.1,x1.2.2.2.2.2.2.1.name0,x1.2.2.1,())).bind λx2=>if x2.2.1.length=x1.2.2.1.length then
    (if x1.2.2.2.2.2.1=true then some ((x1.1,x1.2.1,true,x2.2.1,x1.2.2.2.1,x1.2.2.2.2.2.2.1,()):List BA×Int×Bool×List Item×Item×Item×Unit)
      else if decide ((x1.2.2.2.2.1.length:Int)>0)=true then some (x1.1,x1.2.1,true,x2.2.1,x1.2.2.2.1,x1.2.2.2.2.2.2.1,())
      else if x2.1=true then some (x1.1,x1.2.1,true,x2.2.1,x1.2.2.2.1,x1.2.2.2.2.2.2.1,())
      else if decide (x1.2.1>1)=true then if decide ((x1.2.2.2.2.2.2.1.names.length:Int)>12)=true then some (x1.1,x1.2.1,true,x2.2.1,x1.2.2.2.1,x1.2.2.2.2.2.2.1,())
       else(Bd (aa.mk x1.2.2.2.2.2.2.1.layout.kind x1.2.2.2.2.2.2.1.layout.n x1.2.2.2.2.2.2.1.layout.flag x1.2.2.2.2.2.2.1.layout.parts,())).bind λx3=>some (x1.1,x1.2.1,x3.1 !=0,x2.2.1,x1.2.2.2.1,x1.2.2.2.2.2.2.1,())
      else some (x1.1,x1.2.1,false,x2.2.1,x1.2.2.2.1,x1.2.2.2.2.2.2.1,())).bind λx3=>if x3.2.2.1=true then aD (x3.1,IntKind.i64.wrap (x3.2.1+1),x3.2.2.2.1,x3.2.2.2.2.1,())else some (.inl (true,x3.2.2.2.1,x3.2.2.2.2.2.1,()))
    else none:=by
  conv=>lhs;rw[aD]
  rcases h with⟨rfl,h⟩|⟨rfl,h⟩|⟨rfl,h⟩|⟨rfl,h⟩
  ·simp only[c0,q0,hlt,XI,TR,TU,XC,XD,TT,T1,TY,h];rfl
  ·simp only[c1,q1,q2,hlt,XI,TR,TU,XC,XD,TT,T1,TY,h];rfl
  ·simp only[c2,q3,q4,q5,hlt,XI,TR,TU,XC,XD,TT,T1,TY,h];rfl
  ·simp only[c3,q6,q7,q8,q9,hlt,XI,TR,TU,XC,XD,TT,T1,TY,h];rfl
 rw[body]
 simp only[TR,TU,XC,XD,TT,T1,TY,h48,hwr]
 cases w' with
 |true=>
  have hn:eK it 1000 k l=none:=by
   unfold eK
   cases hf:form it 1000 k l with
   |none=>rfl
   |some z=>obtain⟨y,r⟩:=z;have:=(hm.ok rfl y r hf).1;cases this
  simp only[TR,TU,XC,XD,TT,T1,TY,hn]
  exact congrArg (λi=>aD (l,i,it,X,())) hwr
 |false=>
  cases hf:form it 1000 k l with
  |none=>have:=hm.no rfl hf;cases this
  |some z=>
   obtain⟨y,r⟩:=z
   obtain⟨_,b,c⟩:=hm.ok rfl y r hf
   subst b c
   have ok:=xA hi hk (by omega) hf
   cases l' with
   |cons a b=>
    have hn:eK it 1000 k l=none:=by unfold eK;rw[hf]
    have:=tail (by simp)
    simp only[TR,TU,XC,XD,TT,T1,TY,this,XI,hn]
    exact congrArg (λi=>aD (l,i,it,X,())) hwr
   |nil=>
    simp only[TR,TU,XC,XD,TT,T1,TY,hlen0,XJ]
    cases hh:eJ it k x.name0 with
    |true=>
     have hn:eK it 1000 k l=none:=by unfold eK;rw[hf];simp only;rw[hh,XG rfl]
     simp only[TR,TU,XC,XD,TT,T1,TY,hn]
     exact congrArg (λi=>aD (l,i,it,X,())) hwr
    |false=>
     have hb:(eJ it (k:Int) x.name0=true)=False:=by rw[hh];simp
     by_cases hk2:1<k
     ·have hgt:((k:Int)>1):=by omega
      have h105:=(LD ok hl).2
      by_cases hv:jv x.layout=0
      ·have hn:eK it 1000 k l=some x:=by unfold eK;rw[hf];simp only[hb,XD];rw[XF (λh=>h.2 hv)]
       have hnames:¬((x.names.length:Int)>12):=by
        have:=ok.par (by omega)
        have hbig:x.layout.big=false:=by
         cases hbg:x.layout.big with
         |false=>rfl
         |true=>
          have:x.layout.large=true:=by
           unfold aa.large
           have:x.layout.all.any aa.big=true:=Vl.2 ⟨x.layout,x.layout.mem_self,hbg⟩
           rw[this];simp
          unfold jv at hv
          rw[this,UD,XG rfl]at hv;cases hv
        unfold aa.big at hbig
        rw[UQ,decide_eq_false_iff_not]at hbig
        omega
       have hv':(jv x.layout !=0)=false:=by rw[hv];rfl
       simp only[TR,TU,XC,XD,TT,T1,TY,hgt,XI,hnames,XJ,eta,h105,hv',hn]
      ·have hn:eK it 1000 k l=none:=by unfold eK;rw[hf];simp only[hb,XD];rw[XG ⟨hk2,hv⟩]
       have hv':(jv x.layout !=0)=true:=bne_iff_ne.2 hv
       by_cases hnm:(x.names.length:Int)>12
       ·simp only[TR,TU,XC,XD,TT,T1,TY,hgt,XI,hnm,hn]
        exact congrArg (λi=>aD (l,i,it,X,())) hwr
       ·simp only[TR,TU,XC,XD,TT,T1,TY,hgt,XI,hnm,XJ,eta,h105,hv',hn]
        exact congrArg (λi=>aD (l,i,it,X,())) hwr
     ·have hgt:¬((k:Int)>1):=by omega
      have hn:eK it 1000 k l=some x:=by unfold eK;rw[hf];simp only[hb,XD];rw[XF (λh=>hk2 h.1)]
      simp only[TR,TU,XC,XD,TT,T1,TY,hgt,XJ,hn]
theorem f70(it:List Item)(hi:eL it)(l:List BA)(hg:tO l)(hl:l.length<=10000):jj (l,it,())=some (rW l it):=by
 obtain⟨l0,w0,x0,e0',m0⟩:=R9 it hi l hg false
 obtain⟨l1,w1,x1,e1,m1⟩:=f102 it hi l (by omega) false
 obtain⟨l2,w2,x2,e2,m2⟩:=f103 it hi l hg (by omega) false
 obtain⟨l3,w3,x3,e3,m3⟩:=f104 it hi l (by omega) false
 have s0:=ow hi (k:=0) (by omega) hl zI m0 (.inl ⟨rfl,e0'⟩)
 have s1:=ow hi (k:=1) (by omega) hl zI m1 (.inr (.inl ⟨rfl,e1⟩))
 have s2:=ow hi (k:=2) (by omega) hl zI m2 (.inr (.inr (.inl ⟨rfl,e2⟩)))
 have s3:=ow hi (k:=3) (by omega) hl zI m3 (.inr (.inr (.inr ⟨rfl,e3⟩)))
 have s0:aD (l,0,it,zI,())=match eK it 1000 0 l with|some y=>some (.inl (true,it,y,()))|none=>aD (l,1,it,zI,()):=s0
 have s1:aD (l,1,it,zI,())=match eK it 1000 1 l with|some y=>some (.inl (true,it,y,()))|none=>aD (l,2,it,zI,()):=s1
 have s2:aD (l,2,it,zI,())=match eK it 1000 2 l with|some y=>some (.inl (true,it,y,()))|none=>aD (l,3,it,zI,()):=s2
 have s3:aD (l,3,it,zI,())=match eK it 1000 3 l with|some y=>some (.inl (true,it,y,()))|none=>aD (l,4,it,zI,()):=s3
 have s4:aD (l,4,it,zI,())=some (.inr (it,zI,())):=by
  rw[aD];rfl
 have hz:Item.mk 0 (TZ #[]) 0 [] (aa.mk 0 0 false [])=zI:=rfl
 rw[jj]
 simp only[TR,TU,XC,XD,TT,T1,TY,hz,s0,s1,s2,s3,s4]
 unfold rW j7
 cases eK it 1000 0 l with
 |some y=>rfl
 |none=>
  cases eK it 1000 1 l with
  |some y=>rfl
  |none=>
   cases eK it 1000 2 l with
   |some y=>rfl
   |none=>cases eK it 1000 3 l<;>rfl
end Go.Proofs.YtpelkenpapfadaaGreatDoor
end
section
namespace Go.Proofs.YtpelkenpapfadaaGreatDoor
open Go.Tx
set_option maxRecDepth 20000
open Classical
theorem f39:∀a:aa,a.Fits->∀b:aa,b.Fits->n_39 (a,b,())=some (decide (a=b),()):=by
 refine aa.ind λa ih ha b hb=> ?_
 have hn:=ha.len
 have loop:∀(m k:Nat),a.parts.length=b.parts.length->a.parts.length-k=m->je (k,a,b,())=some (if a.parts.drop k=b.parts.drop k then .inr ()else .inl (false,())):=by
  intro m
  induction m with
  |zero=>
   intro k he hm
   have hlt:¬k<a.parts.length:=by omega
   have hlt':¬k<b.parts.length:=by omega
   rw[je]
   simp only[TR,TU,T2,XC,XD,TT,T0,TW,TX,XH,XE,T3,hlt,dk hlt,dk hlt']
  |succ m ihm=>
   intro k he hm
   have hlt:k<a.parts.length:=by omega
   obtain⟨p,hp1,hpm,hd,g1,g2⟩:=dW hlt
   obtain⟨q,hq1,hqm,hd',_,_⟩:=dW (xs:=b.parts) (k:=k) (by omega)
   have hp:=ih p hpm (ha.part hpm) q (hb.part hqm)
   have hih:=ihm (k+1) he (by omega)
   rw[je]
   simp only[TR,TU,T2,XC,XD,TT,T0,TW,TX,XH,XE,T3,hlt,hp1,hq1,hp,bm hlt hn,hih]
   rw[hd,hd']
   by_cases hpq:p=q
   ·simp[hpq]
   ·simp[hpq]
 rw[n_39]
 by_cases h1:a.kind=b.kind
 rotate_left
 ·have h1':(a.kind !=b.kind)=true:=by simpa using h1
  simp only[h1',TR,TU,T2,XC,XD,TT,T0,TW,TX,XH,XE,T3,mT a b,h1,false_and,XJ]
 by_cases h2:a.n=b.n
 rotate_left
 ·have h2':(a.n !=b.n)=true:=by simpa using h2
  simp only[h1,h2',bne_self_eq_false,TR,TU,T2,XC,XD,TT,T0,TW,TX,XH,XE,T3,mT a b,h2,true_and,false_and,XJ]
 by_cases h3:a.flag=b.flag
 rotate_left
 ·have h3':(!a.flag==b.flag)=true:=by
   revert h3;cases a.flag<;>cases b.flag<;>simp
  simp only[h1,h2,h3',bne_self_eq_false,TR,TU,T2,XC,XD,TT,T0,TW,TX,XH,XE,T3,mT a b,h3,true_and,false_and,XJ]
 have h3':(!a.flag==b.flag)=false:=by rw[h3];cases b.flag<;>rfl
 by_cases he:a.parts.length=b.parts.length
 ·have h:=loop _ 0 he rfl
  simp only[Vd,U2,UJ]at h
  have he':((a.parts.length:Int) !=(b.parts.length:Int))=false:=by simp[he]
  simp only[h1,h2,h3',he',bne_self_eq_false,TR,TU,T2,XC,XD,TT,T0,TW,TX,XH,XE,T3,h]
  by_cases hp:a.parts=b.parts
  ·simp[mT a b,h1,h2,h3,hp]
  ·simp[mT a b,h1,h2,h3,hp]
 ·have he':((a.parts.length:Int) !=(b.parts.length:Int))=true:=by simp;omega
  have hp:¬a.parts=b.parts:=λh=>he (by rw[h])
  simp only[h1,h2,h3',he',bne_self_eq_false,TR,TU,T2,XC,XD,TT,T0,TW,TX,XH,XE,T3]
  simp[mT a b,hp]
theorem f15(a b:List ByteArray)(hn:a.length<=9223372036854775807):Of (a,b,())=some (decide (a=b),()):=by
 have loop:∀(m k:Nat),a.length=b.length->a.length-k=m->nF (a,b,k,())=some (if a.drop k=b.drop k then .inr ()else .inl (false,())):=by
  intro m
  induction m with
  |zero=>
   intro k he hm
   have hlt:¬k<a.length:=by omega
   have hlt':¬k<b.length:=by omega
   rw[nF]
   simp only[TR,TU,T2,XC,XD,TT,T0,TW,TX,XH,XE,T3,hlt,dk hlt,dk hlt']
  |succ m ihm=>
   intro k he hm
   have hlt:k<a.length:=by omega
   obtain⟨p,hp1,hpm,hd,g1,g2⟩:=dW hlt
   obtain⟨q,hq1,hqm,hd',_,_⟩:=dW (xs:=b) (k:=k) (by omega)
   have hih:=ihm (k+1) he (by omega)
   rw[nF]
   simp only[TR,TU,T2,XC,XD,TT,T0,TW,TX,XH,XE,T3,hlt,hp1,hq1,aI,bm hlt hn,hih]
   rw[hd,hd']
   by_cases hpq:p=q
   ·simp[hpq]
   ·simp[hpq]
 rw[Of]
 by_cases he:a.length=b.length
 ·have h:=loop _ 0 he rfl
  simp only[Vd,U2,UJ]at h
  have he':((a.length:Int) !=(b.length:Int))=false:=by simp[he]
  simp only[he',TR,TU,T2,XC,XD,TT,T0,TW,TX,XH,XE,T3,h]
  by_cases hp:a=b
  ·simp[hp]
  ·simp[hp]
 ·have he':((a.length:Int) !=(b.length:Int))=true:=by simp;omega
  have hp:¬a=b:=λh=>he (by rw[h])
  simp only[he',TR,TU,T2,XC,XD,TT,T0,TW,TX,XH,XE,T3,hp,XJ]
structure Item.Fits (x:Item):Prop where
 names:x.names.length<=9223372036854775807
 layout:x.layout.Fits
theorem f14(a b:List Item)(ha:∀x∈a,x.Fits)(hb:∀x∈b,x.Fits)(hn:a.length<=9223372036854775807):Na (a,b,())=some (decide (a=b),()):=by
 have loop:∀(m k:Nat),a.length=b.length->a.length-k=m->lY (a,b,k,())=some (if a.drop k=b.drop k then .inr ()else .inl (false,())):=by
  intro m
  induction m with
  |zero=>
   intro k he hm
   have hlt:¬k<a.length:=by omega
   have hlt':¬k<b.length:=by omega
   rw[lY]
   simp only[TR,TU,T2,XC,XD,TT,T0,TW,TX,XH,XE,T3,hlt,dk hlt,dk hlt']
  |succ m ihm=>
   intro k he hm
   have hlt:k<a.length:=by omega
   obtain⟨p,hp1,hpm,hd,g1,g2⟩:=dW hlt
   obtain⟨q,hq1,hqm,hd',_,_⟩:=dW (xs:=b) (k:=k) (by omega)
   have hih:=ihm (k+1) he (by omega)
   have fp:=ha p hpm
   have fq:=hb q hqm
   have hih2:lY (a,b,IntKind.i64.wrap ((k:Int)+1),())=some (if Xe (k+1) a=Xe (k+1) b then UI ()else UF (false,())):=by rw[bm hlt hn];exact hih
   rw[lY]
   simp only[TR,TU,T2,XC,XD,TT,T0,TW,TX,XH,XE,T3,hlt,hp1,hq1,aI,f15 p.names q.names fp.names,eta,f39 p.layout fp.layout q.layout fq.layout,bm hlt hn,hih]
   rw[hd,hd']
   by_cases h1:p.kind=q.kind
   rotate_left
   ·simp[h1,jH p q]
   by_cases h2:p.name0=q.name0
   rotate_left
   ·simp[h1,h2,jH p q]
   by_cases h3:p.n=q.n
   rotate_left
   ·simp[h1,h2,h3,jH p q]
   by_cases h4:p.names=q.names
   rotate_left
   ·simp[h1,h2,h3,h4,jH p q]
   by_cases h5:p.layout=q.layout
   ·simp[h1,h2,h3,h4,h5,jH p q,hih2]
   ·simp[h1,h2,h3,h4,h5,jH p q]
 rw[Na]
 by_cases he:a.length=b.length
 ·have h:=loop _ 0 he rfl
  simp only[Vd,U2,UJ]at h
  have he':((a.length:Int) !=(b.length:Int))=false:=by simp[he]
  simp only[he',TR,TU,T2,XC,XD,TT,T0,TW,TX,XH,XE,T3,h]
  by_cases hp:a=b
  ·simp[hp]
  ·simp[hp]
 ·have he':((a.length:Int) !=(b.length:Int))=true:=by simp;omega
  have hp:¬a=b:=λh=>he (by rw[h])
  simp only[he',TR,TU,T2,XC,XD,TT,T0,TW,TX,XH,XE,T3,hp,XJ]
end Go.Proofs.YtpelkenpapfadaaGreatDoor
end
section
namespace Go.Proofs.YtpelkenpapfadaaGreatDoor
open Go.Tx
set_option maxRecDepth 20000
open Go.Lib
def wtp(x:List BA):Nat:=(x.map λt=>t.size+1).sum
def wtw(out:List (List BA)):Nat:=(out.map wtp).sum
theorem Gk(a b:List BA):wtp (a++b)=wtp a+wtp b:=by simp[wtp]
theorem Gl{x:List BA}{t:BA}(h:t∈x):t.size+1<=wtp x:=by
 induction x with
 |nil=>cases h
 |cons y r ih=>
  have e:wtp (y::r)=y.size+1+wtp r:=by simp[wtp]
  rcases Uh.1 h with rfl|h
  ·omega
  ·have:=ih h;omega
theorem LF{out:List (List BA)}{x:List BA}(h:x∈out):wtp x<=wtw out:=by
 induction out with
 |nil=>cases h
 |cons y r ih=>
  have e:wtw (y::r)=wtp y+wtw r:=by simp[wtw]
  rcases Uh.1 h with rfl|h
  ·omega
  ·have:=ih h;omega
theorem Gm:∀(out:List (List BA)) (k:Nat) (t:BA),k<out.length->wtw (out.set k (out.getD k []++[t]))=wtw out+(t.size+1)
 |[],k,t,h=>by simp at h
 |x::r,0,t,h=>by
  show wtw ((x++[t])::r)=_
  have e (z:List BA):wtw (z::r)=wtp z+wtw r:=by simp[wtw]
  rw[e,e,Gk,show wtp [t]=t.size+1 from by simp[wtp]];omega
 |x::r,k+1,t,h=>by
  have e (z:List (List BA)):wtw (x::z)=wtp x+wtw z:=by simp[wtw]
  have ih:=Gm r k t (by simpa using h)
  show wtw (x::r.set k (r.getD k []++[t]))=_
  rw[e,e,ih];omega
theorem LG(out:List (List BA))(op:Int):wtw (opn out op).1=wtw out:=by
 unfold opn;split
 ·simp[wtw,wtp]
 ·rfl
theorem IE{B:Nat}{out:List (List BA)}{op dp:Int}(h:Inv B out op dp)(t:BA):wtw (cW id (out,op,dp) t).1=wtw out+(t.size+1):=by
 obtain⟨k,out1,e,hk,_⟩:=h.opn
 have h2:=LG out op
 unfold cW add
 simp only[e,TW]at h2⊢
 rw[Gm _ _ _ hk,h2]
theorem v7:∀(ts:List BA) (B:Nat) (out:List (List BA)) (op dp:Int),Inv B out op dp->wtw (ts.foldl (cW id) (out,op,dp)).1=wtw out+wtp ts
 |[],B,out,op,dp,h=>rfl
 |t::r,B,out,op,dp,h=>by
  have e:wtp (t::r)=t.size+1+wtp r:=by simp[wtp]
  have ih:=v7 r (B+1) _ _ _ (h.step (f:=id) t)
  have h1:=IE h t
  rw[Va,e]
  have ih:wtw (r.foldl (cW id) (cW id (out,op,dp) t)).1=_:=ih
  omega
theorem yR:∀(n:Nat) (l:List UInt8) (i:Nat),l.length<=n->wtp ((lz i l).map λp=>mkB p.2)<=2 *l.length
 |n,[],i,_=>by simp[dE,wtp]
 |0,c::r,i,h=>by simp at h
 |n+1,c::r,i,h=>by
  rw[Ue]at h
  cases hw:isW c with
  |true=>rw[iL hw,Ue];have:=yR n r (i+1) (by omega);omega
  |false=>
   rw[iK hw,Ud]
   have h3:=eC c r
   have h2:=qk (c::r)
   have ih:=yR n ((c::r).drop (eT (c::r))) (i+eT (c::r)) (by rw[UR,Ue];omega)
   have e (t:BA) (z:List BA):wtp (t::z)=t.size+1+wtp z:=by simp[wtp]
   rw[e,lT,UY]
   rw[UR]at ih
   omega
theorem ID{B:Nat}{st:List (List BA)×Int×Int}(h:Inv B st.1 st.2.1 st.2.2)(l:List UInt8):wtw (aZ st l).1<=wtw st.1+2 *l.length:=by
 have ht:wtp (qZ l)<=2 *l.length:=yR _ l 0 (Up _)
 unfold aZ;split
 ·have:wtw (st.1++[qZ l])=wtw st.1+wtp (qZ l):=by simp[wtw]
  simp only[this];omega
 ·have:=v7 (qZ l) B st.1 st.2.1 st.2.2 h
  have e:(st.1,st.2.1,st.2.2)=st:=rfl
  rw[e]at this;omega
theorem v6:∀(ls:List (List UInt8)) (B:Nat) (st:List (List BA)×Int×Int),Inv B st.1 st.2.1 st.2.2->wtw (ls.foldl aZ st).1<=wtw st.1+2 *CN ls
 |[],B,st,h=>by simp[CN]
 |l::r,B,st,h=>by
  have ih:=v6 r _ _ (h.line l)
  have h1:=ID h l
  rw[Va,fW];omega
theorem Fe(s:List UInt8):wtw (aP s)<=2 *s.length+2:=by
 have:=v6 (lines s) 0 ([],-1,0) Inv.zero
 rw[jV]at this
 have h0:wtw ([]:List (List BA))=0:=rfl
 unfold aP
 simp only[h0]at this
 omega
structure Pcs (ps:List (List BA)):Prop where
 len:ps.length<=4097
 row:∀x∈ps,x.length<=4097
 wt:∀x∈ps,wtp x<=8194
 tok:∀x∈ps,∀t∈x,qy t
theorem zK{s:BA}(h:s.size<=4096):Pcs (aP s.data.toList):=by
 have h1:=BG s.data.toList
 have h2:=Fe s.data.toList
 rw[bR]at h1 h2
 exact⟨by omega,λx hx=>by have:=h1.2 x hx;omega,λx hx=>by have:=LF hx;omega,Fd _⟩
theorem Pcs.good{ps:List (List BA)}(h:Pcs ps){x:List BA}(hx:x∈ps):tO x:=λt ht=>⟨h.tok x hx t ht,by have:=Gl ht;have:=h.wt x hx;omega⟩
def qG(x:List BA):List UInt8:=Lib.join (x.map λt=>t.data.toList) [32]
def fX(x:List BA):BA:=mkB (qG x)
theorem DW(x:List BA)(t:BA)(h:x≠[]):qG (x++[t])=qG x++[32]++t.data.toList:=by
 cases x with
 |nil=>exact(h rfl).elim
 |cons y r=>
  unfold qG
  rw[Uo,Ud,Ud,Lib.join_cons,Lib.join_cons,UV]
  simp[Lib.joinTail]
theorem DV(t:BA):qG [t]=t.data.toList:=by unfold qG;rw[Wv,Lib.join_one]
theorem DX:∀x:List BA,(qG x).length<=wtp x
 |[]=>by simp[qG,Lib.join_nil]
 |y::r=>by
  have lens:∀z:List BA,Lib.lens (z.map λt=>t.data.toList)+z.length=wtp z:=by
   intro z
   induction z with
   |nil=>simp[Lib.lens,wtp]
   |cons a b ih=>
    have e:wtp (a::b)=a.size+1+wtp b:=by simp[wtp]
    have e2:Lib.lens ((a::b).map λt=>t.data.toList)=a.size+Lib.lens (b.map λt=>t.data.toList):=by
     unfold Lib.lens;rw[Ud,Ud,List.sum_cons,bR]
    rw[e,e2,Ue];omega
  have:=lens (y::r)
  unfold qG
  rw[Ud,Lib.join_length,Ub]
  rw[Ue,Ud]at this
  simp only[T5,Nat.one_mul];omega
theorem f36(x:List BA)(hl:x.length<=100000)(hw:wtp x<=1000000):Oj (x,())=some (fX x,()):=by
 have hj:=DX x
 rw[Oj,Ou]
 have hb:(TZ #[32]).data.toList=[32]:=rfl
 have hc:x.length<=140737488355328/\(Lib.join (x.map (·.data.toList)) [32]).length<=140737488355328:=⟨by omega,by show(qG x).length<=_;omega⟩
 simp only[hb,hc,and_self,TR,TU,XC,XD,TT,T1,TY];rfl
theorem y7(a b:BA):a++b=mkB (a.data.toList++b.data.toList):=by
 apply y8;rw[dC,ByteArray.data_append,Array.toList_append]
theorem f50(x:List BA)(hl:x.length<=100000)(hw:wtp x<=1000000):Ng (x,())=some (fX x,()):=by
 have sz (j:Nat):(fX (x.take j)).size<=wtp x:=by
  have h1:=DX (x.take j)
  have h2:wtp (x.take j)<=wtp x:=by
   conv=>rhs;rw[<-Vz j x,Gk]
   omega
  unfold fX;rw[lT];omega
 have go:∀(m j:Nat),x.length-j=m->j<=x.length->mj (x,fX (x.take j),(j:Int),())=some (fX x,()):=by
  intro m
  induction m with
  |zero=>
   intro j hm hj
   have hlt:¬j<x.length:=by omega
   rw[mj]
   simp only[TR,TU,T2,XC,XD,TT,T0,TW,TX,XH,XE,T3,hlt,XJ,UU (show x.length<=j by omega)]
  |succ m ih=>
   intro j hm hj
   have hlt:j<x.length:=by omega
   obtain⟨t,hp,hpm,hd,g1,g2⟩:=dW hlt
   have h:=ih (j+1) (by omega) (by omega)
   have ht:x.take (j+1)=x.take j++[t]:=by rw[V2,hp];rfl
   have hts:=Gl hpm
   have s1:=sz j
   rw[mj]
   rcases Wt j with h0|h0
   ·subst h0
    have e:fX (x.take 1)=fX (x.take 0)++t:=by
     rw[show(1:Nat)=0+1 from rfl,ht,y7]
     unfold fX;rw[Wx,UK,DV,dC];rfl
    have e2:¬(((0:Nat):Int)>0):=by omega
    have c1:(fX (x.take 0)).size+t.size<=4294967296:=by omega
    rw[UG,e]at h
    simp only[TR,TU,T2,XC,XD,TT,T0,TW,TX,XH,XE,T3,hlt,e2,XI,XJ,hp,c1,aX (a:=0) (by omega)]
    exact h
   ·have hne:x.take j≠[]:=λe=>by
     have:=congrArg V5 e
     rw[UY,Uv]at this;omega
    have e:fX (x.take (j+1))=fX (x.take j)++TZ #[32]++t:=by
     rw[ht,y7,y7]
     unfold fX;rw[DW _ _ hne,dC,dC]
    have e2:((j:Int)>0):=by omega
    have hz:(TZ #[32]).size=1:=rfl
    have c1:(fX (x.take j)).size+1<=4294967296:=by omega
    have c2:(fX (x.take j)++TZ #[32]).size+t.size<=4294967296:=by rw[y7,lT,Uc,bR,bR,hz];omega
    rw[e]at h
    simp only[TR,TU,T2,XC,XD,TT,T0,TW,TX,XH,XE,T3,hlt,e2,XI,hz,c1,c2,hp,aX (a:=j) (by omega)]
    exact h
 have h:=go _ 0 rfl (Vs _)
 have h:mj (x,TZ #[],0,())=some (fX x,()):=h
 rw[Ng]
 simp only[h,TR,TU,XC,XD,TT,T1,TY]
def tr:List Item->List Nat->Nat->List (List BA)->List Item×List Nat
 |it,oth,_,[]=>(it,oth)
 |it,oth,k,p::r=>match j7 it p with
  |some x=>tr (it++[x]) oth (k+1) r
  |none=>tr it (oth++[k]) (k+1) r
theorem Lu:∀(ps:List (List BA)) (it:List Item) (oth:List Nat) (k:Nat),eL it->it.length+ps.length<=100000->(∀x∈ps,x.length<=10000)->(∀n∈oth,n<k)->
 eL (tr it oth k ps).1/\(tr it oth k ps).1.length+(tr it oth k ps).2.length=it.length+oth.length+ps.length/\∀n∈(tr it oth k ps).2,n<k+ps.length
 |[],it,oth,k,hi,_,_,ho=>⟨hi,by simp[tr],by simpa[tr]using ho⟩
 |p::r,it,oth,k,hi,hl,hr,ho=>by
  rw[Ue]at hl⊢
  have hp:=hr p T_
  have hr':=λx hx=>hr x (T6 p hx)
  rw[tr]
  cases h:j7 it p with
  |some x=>
   obtain⟨a,b,c⟩:=Lu r (it++[x]) oth (k+1) (hi.add (by omega) h (by omega)) (by rw[Uc,T5];omega) hr' λn hn=>by have:=ho n hn;omega
   simp only
   refine⟨a,by rw[Uc,T5]at b;omega,λn hn=>by have:=c n hn;omega⟩
  |none=>
   obtain⟨a,b,c⟩:=Lu r it (oth++[k]) (k+1) hi (by omega) hr' λn hn=>by
    rcases Uk.1 hn with hn|hn
    ·have:=ho n hn;omega
    ·rw[UP.1 hn];omega
   simp only
   refine⟨a,by rw[Uc,T5]at b;omega,λn hn=>by have:=c n hn;omega⟩
def kT(l:List Nat):List Int:=l.map λ(n:Nat)=>(n:Int)
theorem eL.nil:eL []:=⟨by simp,by simp,by simp,by simp,by simp⟩
theorem Sk(ps:List (List BA))(hp:Pcs ps)(Z:List Item):∀(m j:Nat) (it:List Item) (oth:List Nat),ps.length-j=m->eL it->it.length+m<=10000->oth.length+m<=10000->
 me (ps,(ps.length:Int),(j:Int),Z,kT oth,it,())=some (Z,kT (tr it oth j (ps.drop j)).2,(tr it oth j (ps.drop j)).1,()):=by
 intro m
 have hpl:=hp.len
 induction m with
 |zero=>
  intro j it oth hm hi h1 h2
  have hlt:¬j<ps.length:=by omega
  rw[me]
  simp only[TR,TU,T2,XC,XD,TT,T0,TW,TX,XH,XE,T3,hlt,XJ,dk hlt,tr]
 |succ m ih=>
  intro j it oth hm hi h1 h2
  have hlt:j<ps.length:=by omega
  obtain⟨x,hx,hxm,hd,g1,g2⟩:=dW hlt
  have hxl:=hp.row x hxm
  have h68:=f68 it hi x (hp.good hxm) (by omega)
  unfold rW at h68
  rw[hd,tr,me]
  cases h:j7 it x with
  |some y=>
   rw[h]at h68
   have hi2:=ih (j+1) (it++[y]) oth (by omega) (hi.add (by omega) h (by omega)) (by rw[Uc,T5];omega) (by omega)
   have ht:it.length+1<=4294967296:=by omega
   simp only[TR,TU,XC,XD,TT,T1,TY,T3,TX,TW,hlt,XI,hx,h68,T5,ht,aX (a:=j) (by omega)]
   exact hi2
  |none=>
   rw[h]at h68
   have hi2:=ih (j+1) it (oth++[j]) (by omega) hi (by omega) (by rw[Uc,T5];omega)
   have ht:(kT oth).length+1<=4294967296:=by unfold kT;rw[Ub];omega
   have hc:kT oth++[(j:Int)]=kT (oth++[j]):=by unfold kT;rw[UV];rfl
   simp only[TR,TU,XC,XD,TT,T1,TY,T3,TX,TW,hlt,XI,hx,h68,T5,ht,hc,aX (a:=j) (by omega)]
   exact hi2
def trS(ps:List (List BA)):List Item×List Nat:=tr [] [] 0 ps
theorem f35(ps:List (List BA))(hp:Pcs ps):Oi (ps,())=some (kT (trS ps).2,(trS ps).1,()):=by
 have hpl:=hp.len
 have h:=Sk ps hp [] _ 0 [] [] rfl eL.nil (by simp;omega) (by simp;omega)
 have h:me (ps,(ps.length:Int),0,[],[],[],())=some ([],kT (trS ps).2,(trS ps).1,()):=h
 rw[Oi]
 simp only[TR,TU,XC,XD,TT,T1,TY,h,mm]
def jl(ps:List (List BA))(k:Nat):ku:=ku.mk ((k:Int)+1) (fX (ps.getD k []))
theorem Sl(P:List (List aH))(ps:List (List BA))(hP:txt P=ps)(hp:Pcs ps):∀(m j:Nat) (it:List Item) (oth:List Nat),ps.length-j=m->eL it->it.length+m<=10000->oth.length+m<=10000->
 mf (P,(j:Int),it,oth.map (jl ps),())=some ((tr it oth j (ps.drop j)).1,(tr it oth j (ps.drop j)).2.map (jl ps),()):=by
 intro m
 have hpl:=hp.len
 have hPl:P.length=ps.length:=by rw[<-hP];unfold txt;rw[Ub]
 induction m with
 |zero=>
  intro j it oth hm hi h1 h2
  have hlt:¬j<ps.length:=by omega
  rw[mf]
  simp only[TR,TU,T2,XC,XD,TT,T0,TW,TX,XH,XE,T3,hPl,hlt,XJ,dk hlt,tr]
 |succ m ih=>
  intro j it oth hm hi h1 h2
  have hlt:j<ps.length:=by omega
  obtain⟨x,hx,hxm,hd,g1,g2⟩:=dW hlt
  have hltP:j<P.length:=by omega
  have hPx:∃X,P[j]?=some X/\X.map aH.text=x:=by
   refine⟨P[j],T8 hltP,?_⟩
   rw[<-hP]at hx
   unfold txt at hx
   rw[Ua,T8 hltP]at hx
   injection hx
  obtain⟨X,hX,hXt⟩:=hPx
  have hXl:X.length=x.length:=by rw[<-hXt,Ub]
  have hxl:=hp.row x hxm
  have h51:=f51 X (by omega)
  rw[hXt]at h51
  have h70:=f70 it hi x (hp.good hxm) (by omega)
  unfold rW at h70
  rw[hd,tr,mf]
  cases h:j7 it x with
  |some y=>
   rw[h]at h70
   have hi2:=ih (j+1) (it++[y]) oth (by omega) (hi.add (by omega) h (by omega)) (by rw[Uc,T5];omega) (by omega)
   have ht:it.length+1<=4294967296:=by omega
   simp only[TR,TU,XC,XD,TT,T1,TY,T3,TX,TW,hPl,hlt,XI,hX,h51,h70,T5,ht,aX (a:=j) (by omega)]
   exact hi2
  |none=>
   rw[h]at h70
   have hi2:=ih (j+1) it (oth++[j]) (by omega) hi (by omega) (by rw[Uc,T5];omega)
   have ht:(oth.map (jl ps)).length+1<=4294967296:=by rw[Ub];omega
   have hxd:ps.getD j []=x:=by rw[Um,hx];rfl
   have hc:oth.map (jl ps)++[ku.mk ((j+1:Nat):Int) (fX x)]=(oth++[j]).map (jl ps):=by
    rw[UV,Wv,jl,hxd];rfl
   have h50:=f50 x (by omega) (by have:=hp.wt x hxm;omega)
   simp only[TR,TU,XC,XD,TT,T1,TY,T3,TX,TW,hPl,hlt,XI,hX,h51,h70,h50,T5,ht,aX (a:=j) (by omega)]
   rw[hc];exact hi2
theorem f38(s:BA)(hs:s.size<=4096):Ol (s,())=some ((trS (aP s.data.toList)).1,(trS (aP s.data.toList)).2.map (jl (aP s.data.toList)),()):=by
 have hp:=zK hs
 have hpl:=hp.len
 obtain⟨P,h49,hP⟩:=f49 s (by omega)
 have h:=Sl P _ hP hp _ 0 [] [] rfl eL.nil (by simp;omega) (by simp;omega)
 have h:mf (P,0,[],[],())=some ((trS (aP s.data.toList)).1,(trS (aP s.data.toList)).2.map (jl (aP s.data.toList)),()):=h
 rw[Ol]
 simp only[h49,h,TR,TU,XC,XD,TT,T1,TY]
theorem F3{ps:List (List BA)}(hp:Pcs ps):eL (trS ps).1/\(trS ps).1.length+(trS ps).2.length=ps.length/\∀n∈(trS ps).2,n<ps.length:=by
 have hpl:=hp.len
 obtain⟨a,b,c⟩:=Lu ps [] [] 0 eL.nil (by simp;omega) (λx hx=>by have:=hp.row x hx;omega) (by simp)
 exact⟨a,by simp only[Uv]at b;show(tr [] [] 0 ps).1.length+(tr [] [] 0 ps).2.length=_;omega,λn hn=>by have:=c n hn;simpa using this⟩
def H3(ps:List (List BA))(oth:List Nat):List BA:=oth.map λk=>fX (ps.getD k [])
theorem R_(ps:List (List BA))(hp:Pcs ps)(it:List Item)(oth:List Nat)(ho:∀n∈oth,n<ps.length)(hol:oth.length<=10000):∀(m j:Nat),oth.length-j=m->j<=oth.length->
 lU (ps,it,kT oth,(oth.length:Int),(j:Int),(H3 ps oth).take j,())=some (it,H3 ps oth,()):=by
 intro m
 induction m with
 |zero=>
  intro j hm hj
  have hlt:¬j<oth.length:=by omega
  rw[lU]
  simp only[TR,TU,T2,XC,XD,TT,T0,TW,TX,XH,XE,T3,hlt,XJ,UU (show(H3 ps oth).length<=j by unfold H3;rw[Ub];omega)]
 |succ m ih=>
  intro j hm hj
  have hlt:j<oth.length:=by omega
  obtain⟨k,hk,hkm,hd,g1,g2⟩:=dW hlt
  have hkl:=ho k hkm
  have hx:ps[k]?=some (ps.getD k []):=by rw[Um,T8 hkl];rfl
  have hxm:ps.getD k []∈ps:=Ui hx
  have h36:=f36 (ps.getD k []) (by have:=hp.row _ hxm;omega) (by have:=hp.wt _ hxm;omega)
  have hc:(kT oth)[j]?=some (k:Int):=by unfold kT;rw[Ua,hk];rfl
  have ht:(H3 ps oth).take (j+1)=(H3 ps oth).take j++[fX (ps.getD k [])]:=by
   rw[V2];unfold H3;rw[Ua,hk];rfl
  have h:=ih (j+1) (by omega) (by omega)
  rw[ht]at h
  have hl:((H3 ps oth).take j).length+1<=4294967296:=by rw[UY];omega
  rw[lU]
  simp only[TR,TU,XC,XD,TT,T1,TY,T3,TX,TW,hlt,XI,hc,hx,h36,T5,hl,aX (a:=j) (by omega)]
  exact h
theorem Dt(l:List Nat):(kT l).length=l.length:=by unfold kT;rw[Ub]
def H4(s:BA):List Item×List BA:=((trS (aP s.data.toList)).1,H3 (aP s.data.toList) (trS (aP s.data.toList)).2)
theorem f11(s:BA):Ee (s,())=some (if s.size<=4096 then((H4 s).1,(H4 s).2,0,())else([],[],3,())):=by
 rw[Ee]
 by_cases hs:s.size<=4096
 ·have hs':¬((s.size:Int)>4096):=by omega
  have hp:=zK hs
  obtain⟨a,b,c⟩:=F3 hp
  have hpl:=hp.len
  have h:=R_ _ hp (trS (aP s.data.toList)).1 (trS (aP s.data.toList)).2 c (by omega) _ 0 rfl (Vs _)
  rw[Wx]at h
  have h:lU (aP s.data.toList,(trS (aP s.data.toList)).1,kT (trS (aP s.data.toList)).2,((trS (aP s.data.toList)).2.length:Int),0,[],())=_:=h
  simp only[hs',hs,XJ,TR,TU,XC,XD,TT,T1,TY,f34 s (by omega),f35 _ hp,Dt,h];rfl
 ·have hs':((s.size:Int)>4096):=by omega
  simp only[hs',hs,XI,TR,TU,XC,XD,TT,T1,TY]
theorem Sd(it:List Item)(qs:List ku)(hl:qs.length<=10000):∀(m j:Nat),qs.length-j=m->j<=qs.length->
 lV (it,qs,(j:Int),(qs.map ku.text).take j,())=some (it,qs.map ku.text,()):=by
 intro m
 induction m with
 |zero=>
  intro j hm hj
  have hlt:¬j<qs.length:=by omega
  rw[lV]
  simp only[TR,TU,T2,XC,XD,TT,T0,TW,TX,XH,XE,T3,hlt,XJ,UU (show(qs.map ku.text).length<=j by rw[Ub];omega)]
 |succ m ih=>
  intro j hm hj
  have hlt:j<qs.length:=by omega
  obtain⟨q,hk,hkm,hd,g1,g2⟩:=dW hlt
  have ht:(qs.map ku.text).take (j+1)=(qs.map ku.text).take j++[q.text]:=by
   rw[V2,Ua,hk];rfl
  have h:=ih (j+1) (by omega) (by omega)
  rw[ht]at h
  have hl:((qs.map ku.text).take j).length+1<=4294967296:=by rw[UY];omega
  rw[lV]
  simp only[TR,TU,XC,XD,TT,T1,TY,T3,TX,TW,hlt,XI,hk,T5,hl,aX (a:=j) (by omega)]
  exact h
theorem f37(s:BA):PN (s,())=some (decide ((s.size:Int)>4096),()):=rfl
theorem f12(s:BA):Kp (s,())=some (if s.size<=4096 then((H4 s).1,(H4 s).2,0,())else([],[],3,())):=by
 rw[Kp]
 by_cases hs:s.size<=4096
 ·have hs':¬((s.size:Int)>4096):=by omega
  have hp:=zK hs
  obtain⟨a,b,c⟩:=F3 hp
  have hpl:=hp.len
  have h:=Sd (trS (aP s.data.toList)).1 ((trS (aP s.data.toList)).2.map (jl (aP s.data.toList))) (by rw[Ub];omega) _ 0 rfl (Vs _)
  have e:((trS (aP s.data.toList)).2.map (jl (aP s.data.toList))).map ku.text=(H4 s).2:=by rw[UC];rfl
  rw[Wx,e]at h
  have h:lV ((trS (aP s.data.toList)).1,(trS (aP s.data.toList)).2.map (jl (aP s.data.toList)),0,[],())=_:=h
  simp only[f37,hs',hs,XJ,TR,TU,XC,XD,TT,T1,TY,f38 s hs,h];rfl
 ·have hs':((s.size:Int)>4096):=by omega
  simp only[f37,hs',hs,XI,TR,TU,XC,XD,TT,T1,TY]
end Go.Proofs.YtpelkenpapfadaaGreatDoor
end
section
namespace Go.Proofs.YtpelkenpapfadaaGreatDoor
set_option maxRecDepth 20000
open Go.Lib
end Go.Proofs.YtpelkenpapfadaaGreatDoor
end
section
namespace Go.Proofs.YtpelkenpapfadaaGreatDoor
open Go.Tx
open IntKind (i64)
set_option maxRecDepth 100000
theorem Sr(it:List Item)(hl:it.length<=1000000000)(k:Int)(name:BA):mo (it,k,name,())=some (ly it (kn k name),k,name,()):=by
 have h:=dm (λj=>cJ (it,(it.length:Int),(j:Int),k,name,())) it (kn k name) (λj=>((j:Int),k,name,())) (k,name,()) (λj x hj hx=>by
  rw[cJ]
  simp only[TR,TU,T2,XC,XD,TT,T0,TW,TX,XH,XE,T3,hj,XI,hx,f84,aX (a:=j) (by omega)]) (by
  rw[cJ]
  simp only[TR,TU,T2,XC,XD,TT,T0,TW,TX,XH,XE,T3,Vy,XJ])
 have h:cJ (it,(it.length:Int),0,k,name,())=_:=h
 rw[mo]
 simp only[h,TR,TU,T2,XC,XD,TT,T0,TW,TX,XH,XE,T3,ly]
 cases it.findIdx? (kn k name)<;>rfl
theorem RL(it:List Item)(hl:it.length<=1000000000)(k:Int)(name:BA):LL (it,k,name,())=some (eJ it k name,fG it k name,()):=by
 rw[LL]
 simp only[Sr it hl,TR,TU,XC,XD,TT,T1,TY]
 unfold eJ fG
 rw[<-eP,g9]
 unfold ly
 cases h:it.findIdx? (kn k name)with
 |none=>rfl
 |some i=>
  have hi:i<it.length:=(VJ.1 h).1
  have c1:¬((i:Int)<0):=by omega
  have c2:(0:Int)<=(i:Int):=by omega
  have c3:(i:Int)>=0:=by omega
  simp only[c1,c2,c3,XJ,XI,XC,TW,T8 hi,TU,Vr,TT,XD]
def CD:Nat->Nat->List UInt8->List (Nat×List UInt8)
 |0,_,_=>[]
 |_,_,[]=>[]
 |n+1,i,c::r=>if isW c then CD n (i+1) r else(i,(c::r).take (eT (c::r)))::CD n (i+eT (c::r)) ((c::r).drop (eT (c::r)))
theorem F2:∀(n i:Nat) (l:List UInt8),l.length<=n->lz i l=CD n i l
 |0,i,[],_=>by rw[dE];rfl
 |n+1,i,[],_=>by rw[dE];rfl
 |n+1,i,c::r,h=>by
  rw[Ue]at h
  cases hw:isW c with
  |true=>rw[iL hw,CD,XG hw,F2 n (i+1) r (by omega)]
  |false=>
   have h3:=eC c r
   rw[iK hw,CD,XF (by rw[hw];exact Ul),F2 n _ _ (by rw[UR,Ue];omega)]
def OI(l:List UInt8):List BA:=(CD l.length 0 l).map λp=>mkB p.2
def Kl(st:List (List BA)×Int×Int)(l:List UInt8):List (List BA)×Int×Int:=
 if hsh l then(st.1++[OI l],st.2)else(OI l).foldl (cW id) st
theorem Hg:aZ=Kl:=by
 funext st l
 have:qZ l=OI l:=by unfold qZ OI;rw[F2 l.length 0 l (Up _)]
 unfold aZ Kl
 rw[this]
def Jp(s:List UInt8):List (List BA):=((lines s).foldl Kl ([],-1,0)).1
theorem vy(s:List UInt8):aP s=Jp s:=by unfold aP Jp;rw[Hg]
def s1:BA:=TZ #[115,116,114,117,99,116,32,83,32,123,32,99,104,97,114,32,97,59,32,105,110,116,32,98,59,32,125,59]
def s2:BA:=TZ #[35,100,101,102,105,110,101,32,78,32,49,48,10,35,100,101,102,105,110,101,32,70,40,120,41,32,120,10]
def L1:aa:=aa.mk 6 0 false [aa.mk 2 8 true [],aa.mk 2 32 true []]
def i1:Item:=Item.mk 2 (TZ #[83]) 0 [TZ #[97],TZ #[98]] L1
def i2:Item:=Item.mk 0 (TZ #[78]) 10 [] z0
def p1:List (List BA):=[[bF,TZ #[83],oB,ff,TZ #[97],sB,ra,TZ #[98],sB,cB,sB]]
def p2:List (List BA):=[[q_,gq,TZ #[78],TZ #[49,48]],[q_,gq,TZ #[70],yV,TZ #[120],du,TZ #[120]]]
theorem k1:aP s1.data.toList=p1:=by rw[vy];kernel_rfl
theorem k2:aP s2.data.toList=p2:=by rw[vy];kernel_rfl
theorem v1:jv L1=0:=by
 simp[jv,L1,aa.large,aa.all,aa.allL,aa.depth,aa.depthL,aa.big,aa.big1,aa.cells,aa.cellsL,aa.right,aa.isS,pS,Nl]
def q1:List BA:=[bF,TZ #[83],oB,ff,TZ #[97],sB,ra,TZ #[98],sB,cB,sB]
def q2:List BA:=[q_,gq,TZ #[78],TZ #[49,48]]
def q3:List BA:=[q_,gq,TZ #[70],yV,TZ #[120],du,TZ #[120]]
theorem jU{it:List Item}{k:Nat}{l:List BA}(h:form it 1000 k l=none):eK it 1000 k l=none:=by unfold eK;rw[h]
theorem t1:j7 [] q1=some i1:=by
 have h2:eK [] 1000 2 q1=some i1:=by
  have h:form [] 1000 2 q1=some (i1,[]):=by kernel_rfl
  unfold eK;rw[h]
  simp only
  rw[XF (by decide),XF (λh=>h.2 v1)]
 unfold j7
 rw[jU (k:=0) (l:=q1) (by kernel_rfl),jU (k:=1) (l:=q1) (by kernel_rfl),h2];rfl
theorem t2:j7 [] q2=some i2:=by
 have h2:eK [] 1000 0 q2=some i2:=by
  have h:form [] 1000 0 q2=some (i2,[]):=by kernel_rfl
  unfold eK;rw[h]
  simp only
  rw[XF (by decide),XF (λh=>by omega)]
 unfold j7
 rw[h2];rfl
theorem t3:j7 [i2] q3=none:=by
 unfold j7
 rw[jU (k:=0) (l:=q3) (by kernel_rfl),jU (k:=1) (l:=q3) (by kernel_rfl),jU (k:=2) (l:=q3) (by kernel_rfl),jU (k:=3) (l:=q3) (by kernel_rfl)];rfl
theorem tr1:trS p1=([i1],[]):=by
 show tr [] [] 0 [q1]=_
 rw[tr,t1];rfl
theorem tr2:trS p2=([i2],[1]):=by
 show tr [] [] 0 [q2,q3]=_
 rw[tr,t2]
 show tr [i2] [] 1 [q3]=_
 rw[tr,t3];rfl
def T4:aE:=aE.mk 4 false
theorem m1:n_80 (aa.mk 2 8 true [],T4,())=some (a_.mk 1 1,()):=by
 have h:sS (8,())=some (1,()):=by
  rw[sS,ic];rfl
 rw[n_80]
 simp[h,T4];rfl
theorem m2:n_80 (aa.mk 2 32 true [],T4,())=some (a_.mk 4 4,()):=by
 have h:sS (32,())=some (4,()):=by
  rw[sS,ic]
  simp only[show i64.wrap (8 *1)=8 by rfl,show i64.wrap (1 *2)=2 by rfl]
  rw[ic]
  simp only[show i64.wrap (8 *2)=16 by rfl,show i64.wrap (2 *2)=4 by rfl]
  rw[ic];rfl
 rw[n_80]
 simp[h,T4]
theorem m3:n_79 (L1,T4,())=some ([0,4],a_.mk 8 4,()):=by
 have e1:mV (0,1,())=some (0,()):=by rw[mV];rfl
 have e2:mV (1,4,())=some (4,()):=by rw[mV];rfl
 have e3:mV (8,4,())=some (8,()):=by rw[mV];rfl
 have e4:=LU (a:=0) (b:=1) (by omega) (by omega)
 have e5:=LU (a:=4) (b:=4) (by omega) (by omega)
 rw[n_79]
 have l3:ed (8,4,L1.parts,2,2,T4,a_.mk 0 0,[0,4],())=some (8,4,a_.mk 0 0,[0,4],()):=by rw[ed];rfl
 have l2:ed (1,1,L1.parts,2,1,T4,a_.mk 0 0,[0],())=some (8,4,a_.mk 0 0,[0,4],()):=by
  rw[ed]
  have g:L1.parts[U1 1]?=some (aa.mk 2 32 true []):=rfl
  simp only[show decide ((1:Int)<2)=true by rfl,show(0:Int)<=1 by omega,g,m2,e2,e5,TR,TU,XC,XD,TT,T1,TY,T5,show(1+1<=4294967296)=True by simp,show min far (4+4)=8 by rfl,show max (1:Int) 4=4 by rfl,show i64.wrap (1+1)=2 by rfl]
  exact l3
 have l1:ed (0,1,L1.parts,2,0,T4,a_.mk 0 0,[],())=some (8,4,a_.mk 0 0,[0,4],()):=by
  rw[ed]
  have g:L1.parts[U1 0]?=some (aa.mk 2 8 true []):=rfl
  simp only[show decide ((0:Int)<2)=true by rfl,WQ,g,m1,e1,e4,TR,TU,XC,XD,TT,T1,TY,Uv,T5,show(0+1<=4294967296)=True by simp,show min far (0+1)=1 by rfl,show max (1:Int) 1=1 by rfl,show i64.wrap (0+1)=1 by rfl,UK]
  exact l2
 have l1:ed (0,1,L1.parts,(L1.parts.length:Int),0,T4,a_.mk 0 0,[],())=some (8,4,a_.mk 0 0,[0,4],()):=l1
 simp only[l1,e3,TR,TU,XC,XD,TT,T1,TY]
theorem m4:On (L1,T4,1,())=some (4,0,()):=by
 have f:L1.Fits:=xw (by omega) (by omega) (by simp) (by
  intro p hp
  rcases Uh.1 hp with rfl|hp
  ·exact ja (by omega) (by omega)
  ·rw[UP.1 hp];exact ja (by omega) (by omega))
 have h99:EK (L1,())=some (0,()):=by
  have:=y20 L1 f (by simp[L1,aa.all,aa.allL]) (by simp[L1,aa.depth,aa.depthL])
  rw[v1]at this;exact this
 have h71:KQ (T4,())=some (0,()):=by rw[KQ];rfl
 have h72:Ov (L1,T4,())=some (0,()):=by rw[Ov];simp only[h99,h71,TR,TU,XC,XD,TT,T1,TY];rfl
 have h78:Ox (L1,())=some (2,()):=by rw[Ox];rfl
 have h80:n_80 (L1,T4,())=some (a_.mk 8 4,()):=by
  rw[n_80]
  simp only[show(L1.kind==1)=false by rfl,show(L1.kind==2)=false by rfl,show(L1.kind==3)=false by rfl,show(L1.kind==4)=false by rfl,show(L1.kind==5)=false by rfl,show(L1.kind==6)=true by rfl,m3,TR,TU,XC,XD,TT,T1,TY]
 have h73:Ow (L1,T4,())=some (0,a_.mk 8 4,()):=by rw[Ow];simp only[h80,TR,TU,XC,XD,TT,T1,TY];rfl
 rw[On]
 simp only[h72,h78,show((0:Int) !=0)=false by rfl,show decide ((2:Int)<0)=false by rfl,show decide ((1:Int)<0)=false by rfl,show decide ((1:Int)>=2)=false by rfl,show(L1.kind==6)=true by rfl,h73,m3,TR,TU,XC,XD,TT,T1,TY]
 rfl
theorem m5:Ee (s1,())=some ([i1],[],0,()):=by
 rw[f11,XG (by decide)]
 unfold H4
 rw[k1,tr1];rfl
theorem m6:Ee (s2,())=some ([i2],[fX q3],0,()):=by
 rw[f11,XG (by decide)]
 unfold H4
 rw[k2,tr2];rfl
theorem m7:Og (s1,TZ #[83],TZ #[98],T4,())=some (4,0,()):=by
 have h71:KQ (T4,())=some (0,()):=by rw[KQ];rfl
 have h47:LL ([i1],2,TZ #[83],())=some (true,i1,()):=by
  rw[RL [i1] (by simp)];rfl
 have h40:Om (s1,TZ #[83],T4,())=some (0,i1,()):=by rw[Om];simp only[m5,h71,h47,TR,TU,XC,XD,TT,T1,TY];rfl
 have h44:KF (i1.names,TZ #[98],())=some (1,()):=by rw[f44 _ (by simp[i1])];rfl
 have hL:aa.mk i1.layout.kind i1.layout.n i1.layout.flag i1.layout.parts=L1:=rfl
 rw[Og]
 simp only[h40,TR,TU,XC,XD,TT,T1,TY,h44,hL,m4];rfl
theorem mS:M8 ()=some (true,()):=by
 have z1:TZ #[115,116,114,117,99,116,32,83,32,123,32,99,104,97,114,32,97,59,32,105,110,116,32,98,59,32,125,59]=s1:=rfl
 have z2:TZ #[35,100,101,102,105,110,101,32,78,32,49,48,10,35,100,101,102,105,110,101,32,70,40,120,41,32,120,10]=s2:=rfl
 have z3:aE.mk 4 false=T4:=rfl
 rw[M8]
 simp only[z1,z2,z3,m6,m7,TR,TU,XC,XD,TT,T1,TY]
 have hj:fX q3=TZ #[35,32,100,101,102,105,110,101,32,70,32,40,32,120,32,41,32,120]:=by kernel_rfl
 have hn:i2.n=10:=rfl
 simp[hj,hn]
end Go.Proofs.YtpelkenpapfadaaGreatDoor
end
section
namespace Go.Proofs.YtpelkenpapfadaaGreatDoor
open Go.Tx
set_option maxRecDepth 20000
open Go.Lib
theorem eL.it{it:List Item}(h:eL it):∀x∈it,x.Fits:=λx hx=>⟨by have:=h.names x hx;omega,h.fits x hx⟩
theorem Sm(it:List Item)(hl:it.length<=1000000000)(k:Int)(name:BA):Oo (it,k,name,())=some (eJ it k name,fG it k name,()):=by
 have h:=dm (λj=>mi (it,k,name,(j:Int),zI,())) it (kn k name) (λj=>(true,it.getD j zI,())) (zI,()) (λj x hj hx=>by
  have hgd:it.getD j zI=x:=by rw[Um,hx];rfl
  rw[mi]
  have hk:(if(x.kind==k)=true then some ((it,k,name,(j:Int),x.name0.toList==name.toList,zI,()):List Item×Int×BA×Int×Bool×Item×Unit)else some (it,k,name,(j:Int),false,zI,()))=some (it,k,name,(j:Int),kn k name x,zI,()):=by
   unfold kn;cases (x.kind==k)<;>simp[aI]
  simp only[TR,TU,XC,T3,TW,TX,hj,XI,hx,hk,hgd]
  cases kn k name x<;>simp[aX (a:=j) (by omega)]) (by
  rw[mi]
  simp only[TR,TU,T2,XC,XD,TT,T0,TW,TX,XH,XE,T3,Vy,XJ])
 have h:mi (it,k,name,0,zI,())=_:=h
 have hz:Item.mk 0 (TZ #[]) 0 [] (aa.mk 0 0 false [])=zI:=rfl
 rw[Oo]
 simp only[hz,h,TR,TU,T2,XC,XD,TT,T0,TW,TX,XH,XE,T3]
 unfold eJ fG
 rw[<-eP,g9]
 unfold ly
 cases h2:it.findIdx? (kn k name)with
 |none=>rfl
 |some i=>
  have hi:i<it.length:=(VJ.1 h2).1
  have c3:(i:Int)>=0:=by omega
  simp only[c3,XI,Um,T8 hi,Vr,TU]
def mv(name:BA)(x:Item):Int×Bool×Int×Unit:=if kn 0 name x=true then(x.n,true,0,())else(ly x.names λs=>decide (name=s),true,0,())
def zB(it:List Item)(name:BA):Int×Bool×Int×Unit:=match it.findIdx? (λx=>kn 0 name x||inE name x)with
 |some j=>mv name (it.getD j zI)
 |none=>(0,false,0,())
theorem Si(it:List Item)(hl:it.length<=1000000000)(hn:iQ it)(name:BA):ma (name,it,(it.length:Int),0,())=some (match it.findIdx? (λx=>kn 0 name x||inE name x)with|some j=> .inl (mv name (it.getD j zI))|none=> .inr ()):=by
 have h:=dm (λj=>ma (name,it,(it.length:Int),(j:Int),())) it (λx=>kn 0 name x||inE name x) (λj=>mv name (it.getD j zI)) () (λj x hj hx=>by
  have hgd:it.getD j zI=x:=by rw[Um,hx];rfl
  have h44:=f44 x.names (hn x (Ui hx)) name
  rw[ma]
  have hk:(if(x.kind==0)=true then some ((name,ly x.names (λs=>decide (name=s)),it,(it.length:Int),(j:Int),x.name0.toList==name.toList,x,()):BA×Int×List Item×Int×Int×Bool×Item×Unit)else some (name,ly x.names (λs=>decide (name=s)),it,(it.length:Int),(j:Int),false,x,()))=some (name,ly x.names (λs=>decide (name=s)),it,(it.length:Int),(j:Int),kn 0 name x,x,()):=by
   unfold kn;cases (x.kind==0)<;>simp[aI]
  simp only[TR,TU,XC,T3,TW,TX,hj,XI,hx,h44,hk,hgd]
  cases h0:kn 0 name x with
  |true=>simp[mv,h0]
  |false=>
   have hk2:(if(x.kind==1)=true then some ((name,ly x.names (λs=>decide (name=s)),it,(it.length:Int),(j:Int),decide (ly x.names (λs=>decide (name=s))>=0),()):BA×Int×List Item×Int×Int×Bool×Unit)else some (name,ly x.names (λs=>decide (name=s)),it,(it.length:Int),(j:Int),false,()))=some (name,ly x.names (λs=>decide (name=s)),it,(it.length:Int),(j:Int),inE name x,()):=by
    unfold inE;rw[<-eP];cases (x.kind==1)<;>simp
   simp only[TT,XD,hk2,TU,Ux]
   cases inE name x<;>simp[mv,h0,aX (a:=j) (by omega)]) (by
  rw[ma]
  simp only[TR,TU,T2,XC,XD,TT,T0,TW,TX,XH,XE,T3,Vy,XJ])
 exact h
theorem Sj(it:List Item)(hl:it.length<=1000000000)(hn:iQ it)(name:BA):mb (name,it,0,())=some (match it.findIdx? (λx=>kn 0 name x||inE name x)with|some j=> .inl (mv name (it.getD j zI))|none=> .inr ()):=by
 have inner (j:Nat) (x:Item) (hj:j<it.length) (hx:it[j]?=some x):fO (name,it,(j:Int),0,())=some (if inE name x=true then .inl (ly x.names (λs=>decide (name=s)),true,0,())else .inr (name,it,(j:Int),())):=by
  have hnx:=hn x (Ui hx)
  unfold inE
  cases hk:(x.kind==1)with
  |false=>
   rw[fO]
   by_cases h0:(0:Int)<(x.names.length:Int)
   ·simp only[TX,TW,hx,TR,TU,XC,XD,TT,T1,TY,h0,XI,hk,Vh]
   ·simp only[TX,TW,hx,TR,TU,XC,XD,TT,T1,TY,h0,XJ,hk,Vh]
  |true=>
   have h:=dm (λk=>fO (name,it,(j:Int),(k:Int),())) x.names (λs=>decide (name=s)) (λk=>((k:Int),true,0,())) (name,it,(j:Int),()) (λk s hks hs=>by
    rw[fO]
    simp only[TX,TW,hx,TR,TU,XC,XD,TT,T1,TY,T3,hks,XI,hk,hs,aI,aX (a:=k) (by omega),eq_comm (a:=s) (b:=name)]) (by
    rw[fO]
    simp only[TX,TW,hx,TR,TU,XC,XD,TT,T1,TY,T3,Vy,XJ])
   have h:fO (name,it,(j:Int),0,())=_:=h
   rw[h,U9,<-eP]
   unfold ly
   cases x.names.findIdx? _ with
   |none=>rfl
   |some i=>rw[decide_eq_true (show(i:Int)>=0 by omega)];rfl
 have h:=dm (λj=>mb (name,it,(j:Int),())) it (λx=>kn 0 name x||inE name x) (λj=>mv name (it.getD j zI)) () (λj x hj hx=>by
  have hgd:it.getD j zI=x:=by rw[Um,hx];rfl
  rw[mb]
  have hk:(if(x.kind==0)=true then some ((name,it,(j:Int),x.name0.toList==name.toList,()):BA×List Item×Int×Bool×Unit)else some (name,it,(j:Int),false,()))=some (name,it,(j:Int),kn 0 name x,()):=by
   unfold kn;cases (x.kind==0)<;>simp[aI]
  simp only[TX,TW,TR,TU,XC,XD,TT,T1,TY,T3,hj,XI,hx,hk,hgd]
  cases h0:kn 0 name x with
  |true=>simp[mv,h0,hx]
  |false=>
   simp only[TR,TU,XC,XD,TT,T1,TY,inner j x hj hx,Ux]
   cases inE name x<;>simp[mv,h0,aX (a:=j) (by omega)]) (by
  rw[mb]
  simp only[TR,TU,T2,XC,XD,TT,T0,TW,TX,XH,XE,T3,Vy,XJ])
 exact h
theorem Ss(s:BA)(k:Int)(name:BA):n_5 (s,k,name,())=some (true,()):=by
 rw[n_5]
 by_cases h6:s.size>6000
 ·have h6':((s.size:Int)>6000):=by omega
  simp only[h6',XI,TR,TU,XC,XD,TT,T1,TY,mS]
 have h6':¬((s.size:Int)>6000):=by omega
 have z:Item.mk 0 (TZ #[]) 0 [] (aa.mk 0 0 false [])=zI:=rfl
 have zf:zI.Fits:=⟨by simp[zI],yW⟩
 have one (x:Item) (hx:x.Fits):Na ([x],[x],())=some (true,()):=by
  rw[f14 [x] [x] (by simpa using hx) (by simpa using hx) (by simp)];simp
 by_cases hs:s.size<=4096
 ·have hp:=zK hs
  obtain⟨a,b,c⟩:=F3 hp
  have hl:=a.len
  have e11:Ee (s,())=some ((trS (aP s.data.toList)).1,(H4 s).2,0,()):=by rw[f11,XG hs];rfl
  have e12:Kp (s,())=some ((trS (aP s.data.toList)).1,(H4 s).2,0,()):=by rw[f12,XG hs];rfl
  generalize (trS (aP s.data.toList)).1=it at a hl e11 e12
  have b0:((0:Int) !=0)=false:=rfl
  have e20:LH (s,k,name,())=some (eJ it k name,0,fG it k name,()):=by
   rw[LH];simp only[e11,TR,TU,XC,XD,TT,T1,TY,b0,RL it (show it.length<=1000000000 by omega)]
  have e21:LI (s,k,name,())=some (eJ it k name,0,fG it k name,()):=by
   rw[LI];simp only[e12,TR,TU,XC,XD,TT,T1,TY,b0,Sm it (show it.length<=1000000000 by omega)]
  have e22:LJ (s,name,())=some (zB it name):=by
   rw[LJ]
   simp only[e11,TR,TU,XC,XD,TT,T1,TY,b0,Si it (show it.length<=1000000000 by omega) a.nm name]
   unfold zB
   cases it.findIdx? _<;>rfl
  have e23:LK (s,name,())=some (zB it name):=by
   rw[LK]
   simp only[e12,TR,TU,XC,XD,TT,T1,TY,b0,Sj it (show it.length<=1000000000 by omega) a.nm name]
   unfold zB
   cases it.findIdx? _<;>rfl
  have hx:(fG it k name).Fits:=by
   rcases og it k name with⟨e,_⟩|⟨e,_,_⟩
   ·rw[e];exact zf
   ·exact a.it _ e
  simp only[h6',XJ,TR,TU,XC,XD,TT,T1,TY,e20,e21,e22,e23,Nd,one _ hx,beq_self_eq_true,mS]
 ·have b3:((3:Int) !=0)=true:=rfl
  have e11:Ee (s,())=some ([],[],3,()):=by rw[f11,XF hs]
  have e12:Kp (s,())=some ([],[],3,()):=by rw[f12,XF hs]
  have e20:LH (s,k,name,())=some (false,3,zI,()):=by rw[LH];simp only[e11,TR,TU,XC,XD,TT,T1,TY,b3];rfl
  have e21:LI (s,k,name,())=some (false,3,zI,()):=by rw[LI];simp only[e12,TR,TU,XC,XD,TT,T1,TY,b3];rfl
  have e22:LJ (s,name,())=some (0,false,3,()):=by rw[LJ];simp only[e11,TR,TU,XC,XD,TT,T1,TY,b3]
  have e23:LK (s,name,())=some (0,false,3,()):=by rw[LK];simp only[e12,TR,TU,XC,XD,TT,T1,TY,b3]
  simp only[h6',XJ,TR,TU,XC,XD,TT,T1,TY,e20,e21,e22,e23,Nd,one _ zf,beq_self_eq_true,mS]
end Go.Proofs.YtpelkenpapfadaaGreatDoor
end
section
namespace Go.Proofs.YtpelkenpapfadaaGreatDoor
open Go.Tx
theorem qD(s:ByteArray)(k:Int)(name:ByteArray)(h0:Ok vw .str s)(h1:Ok vw (.int .i64) k)(h2:Ok vw .str name):n_5 (s,k,name,())=some (true,()):=Ss s k name
end Go.Proofs.YtpelkenpapfadaaGreatDoor
end
section
namespace Go.Proofs.YtpelkenpapfadaaGreatDoor.headFinds
open Go.ChangeShapes Go.WideShapes Go.ChangeAt Go.RowKit Go.Awp Go.Tx
open Go.Proofs.Tryz (prog)
theorem xM:laidOutB prog=true:=by kernel_rfl
theorem own:ownKnob prog.godebug=none:=by kernel_rfl
theorem G1(x0:ByteArray)(x1:Int)(x2:ByteArray)(h0:Ok vw .str x0)(h1:Ok vw (.int .i64) x1)(h2:Ok vw .str x2):iA prog 5 [.d (aN szN GL .str x0), .d (aN szN GL (.int .i64) x1), .d (aN szN GL .str x2)] [] (.d (.v (.bool true))) []:=
 bj (by kernel_rfl) (Ni (x0,x1,x2,()) (true,()) (.lf .bool true) (qD x0 x1 x2 h0 h1 h2) rfl)
set_option maxRecDepth 100000 in
theorem M4(os:Os)(started:os.Started)(H:Type)(enc:TypeId×Value->H):
 ReturnsInHanded {} Tryz.checked os 5 .any (λw args=>(Rows.headFindsSpec.pre enc prog Tryz.f5 Rows.headFindsRow.domain false w args/\laidMetH prog Rows.headFindsRow.laid w)/\sizedMet enc prog Tryz.f5 (OpenSpec.ofChange Rows.headFindsSpec) false w args)
  (Rows.headFindsSpec.post enc prog Tryz.f5 false true false false):=by
 refine returnsInHanded_of_change_and (C:=Tryz.checked) (X:=λw _=>laidMetH prog Rows.headFindsRow.laid w) (λ_ _ _ hh h=>h.of_heap hh) own started (by kernel_rfl) Tryz.func5
  (ChangeSpec.witness_shaped (enc:=enc) (C:=Tryz.checked) (os:=os) (X:=λw _=>laidMetH prog Rows.headFindsRow.laid w) false (World.laidAll prog os Rows.headFindsRow.laid) #[.string VG, .int .i64 0, .string VG] 8 (World.laidAll_os _ _ _)
    (World.shaped_of_ZipB (by kernel_rfl) (by kernel_rfl)) (by kernel_rfl) (by kernel_rfl) (by kernel_rfl)
    (by rw[MakeChecks.laidMetH_plain _ _ _ (by kernel_rfl)];exact laidMet_laidAll _ (by kernel_rfl) (by kernel_rfl))) ?_
 intro W base args ds gs before hval0 hW hcnd _ hL _
 have hval:∀(j:Nat) t v,Tryz.f5.params[j]?=some t->args[j]?=some v->Value.okWide prog W .any base t v:=hval0
 have hW':=hW
 obtain⟨p,q,hA0,hV,rfl,hfz,hnd⟩:=hW'
 have hA:DataW.TrodAll enc prog W 0 (λ_=>true) true Tryz.f5.params.toList args.toList ds p:=hA0
 rw[Tryz.params5]at hA hval
 obtain⟨v0,vs0,d0,ds0,p0,q0,ha0,rfl,rfl,h0,r0⟩:=trodAll_cons hA
 obtain⟨v1,vs1,d1,ds1,p1,q1,ha1,rfl,rfl,h1,r1⟩:=trodAll_cons r0
 subst ha1
 obtain⟨v2,vs2,d2,ds2,p2,q2,ha2,rfl,rfl,h2,r2⟩:=trodAll_cons r1
 subst ha2
 obtain⟨rfl,rfl,rfl⟩:=trodAll_nil r2
 obtain rfl:args= #[v0,v1,v2]:=by cases args;simp_all
 obtain⟨rfl,rfl⟩:=trodVars_none hV
 have hlt0:∀x∈p0,x.block<W.heap.size:=λx hx=>by simpa using hW.lt x (by simp[hx])
 have hlt1:∀x∈p1,x.block<W.heap.size:=λx hx=>by simpa using hW.lt x (by simp[hx])
 have hlt2:∀x∈p2,x.block<W.heap.size:=λx hx=>by simpa using hW.lt x (by simp[hx])
 obtain⟨x0,ok0,hr0⟩:=ti facts (τ:= .str) rfl (hval 0 9 v0 rfl rfl) h0
 obtain⟨x1,ok1,hr1⟩:=ti facts (τ:=(.int .i64)) rfl (hval 1 3 v1 rfl rfl) h1
 obtain⟨x2,ok2,hr2⟩:=ti facts (τ:= .str) rfl (hval 2 9 v2 rfl rfl) h2
 refine((G1 x0 x1 x2 ok0 ok1 ok2).closed (W:=W) (vs:= #[v0,v1,v2]) (DL hL) ⟨rfl,λi c x hc hx=> ?_⟩).mono λe W' ⟨he,hb⟩=> ?_
 ·match i with
  |0=>simp at hc hx;subst hc;subst hx;exact .d hr0
  |1=>simp at hc hx;subst hc;subst hx;exact .d hr1
  |2=>simp at hc hx;subst hc;subst hx;exact .d hr2
  |i+3=>simp at hc
 subst he
 exact⟨_,rfl,_,_,_,[],_,[],hW,trodAll_cons_mk (shut_bool Tryz.underlying4 _) trodAll_mk0,
  (trodAll_cons_mk (Below.trod xM (by kernel_rfl) (of_decide_eq_true (by kernel_rfl)) h0 hb hlt0) (trodAll_cons_mk (Below.trod xM (by kernel_rfl) (of_decide_eq_true (by kernel_rfl)) h1 hb hlt1) (trodAll_cons_mk (Below.trod xM (by kernel_rfl) (of_decide_eq_true (by kernel_rfl)) h2 hb hlt2) trodAll_mk0))),rfl,hb.frame _,(λh=>by cases h)⟩
theorem row:Rows.HeadFindsSaid:=
 OpenClaim.holds_of_wide 5 Tryz.f5 rfl rfl rfl rfl rfl rfl rfl ⟨rfl,rfl,rfl,rfl,rfl⟩ rfl rfl rfl rfl rfl (by kernel_rfl) Tryz.func5 (by kernel_rfl)
  (of_decide_eq_true (by kernel_rfl)) (by unfold Func.isWrapper;first|(rw[XG (by decide+kernel)];kernel_rfl)|(rw[XF (by decide+kernel)];exact⟨rfl,rfl⟩))
  (λos started H enc _=>M4 os started H enc)
theorem proved:Rows.HeadFindsCardSaid:=
 Claim7.holds_tied_plain_at .later [] [.data, .data, .data, .data, .sentinel, .sentinel, .pinned] true (true, "916f158e77d004ae93d5d2cc5423fa60a285d3b19f506b9995d5e7b77cb84306") true row (λ_ h=>by cases h) (by kernel_rfl) (λ_ h=>by cases h) headFinds_row_tie rfl ⟨rfl,rfl⟩ (by kernel_rfl) rfl
  (λf fn hf hfn=>by
    obtain rfl:f=5:=VX ((show prog.funcNamed "mandrel/mandrellaw24.HeadFinds" =some 5 by kernel_rfl).symm.trans hf)|>.symm
    obtain rfl:fn=Tryz.f5:=(VX (Tryz.func5.symm.trans hfn)).symm
    exact⟨by kernel_rfl,λj t ht=>by
     rw[Tryz.params5]at ht
     have hm:t∈([9,3,9]:List TypeId):=by simpa using Array.mem_of_getElem? ht
     have hall:(([9,3,9]:List TypeId).all λu=> !prog.wantsStandIn u)=true:=by kernel_rfl
     exact(show prog.wantsStandIn t=false by simpa using Uj.1 hall t hm)⟩)
  (by kernel_rfl)
end Go.Proofs.YtpelkenpapfadaaGreatDoor.headFinds
end
