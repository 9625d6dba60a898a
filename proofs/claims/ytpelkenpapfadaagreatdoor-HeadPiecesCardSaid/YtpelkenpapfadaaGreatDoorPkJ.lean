/-
  Texts of this claim, joined by a program of mine: what the theorem uses.
-/
import Derived.Test.YtpelkenpapfadaaGreatDoorPkI
import Derived.Test.YtpelkenpapfadaaGreatDoorPkH
import Derived.KernelRfl
import Derived.Test.YtpelkenpapfadaaGreatDoorPkE
import Derived.Test.YtpelkenpapfadaaGreatDoorCards
import Derived.Test.YtpelkenpapfadaaGreatDoorTie
import Derived.ProofKit
import Derived.OpenShut
import Derived.LaidMore
import Derived.Lay
import Derived.SevenTiedAt
import Derived.Stop.Joined
open Bool renaming eq_false_iff→W6,false_eq_true→TZ,false_ne_true→Up,not_false→T5,not_true→T7,or_eq_false_iff→UY,or_eq_true→UI,true_eq_false→T6,true_or→UJ
open ByteArray renaming empty→VR,mk→T3
open Decidable renaming byContradiction→W8
open Int renaming le_refl→WY,natCast_nonneg→T2,natCast_zero→Vr,ofNat_eq_natCast→Vf,ofNat_lt→T9,toNat→U6,toNat_natCast→T1
open List renaming all_eq_true→Uo,any_eq_true→Vu,append_assoc→UQ,append_nil→U0,cons_append→Ut,drop_drop→VY,drop_zero→UT,findIdx?_eq_some_iff_findIdx_eq→V6,foldl_cons→Vd,getD_eq_getElem?_getD→Uu,getElem?_eq_getElem→Ub,getElem?_map→Ue,length→Wd,length_append→Uh,length_cons→Ui,length_drop→UV,length_map→Ug,length_nil→Uw,length_singleton→T_,length_take→UU,map_append→UZ,map_congr_left→U7,map_cons→Uj,map_map→UH,map_nil→UM,map_singleton→WD,mem_append→Ur,mem_append_left→Vy,mem_append_right→VN,mem_cons→Um,mem_cons_of_mem→Ua,mem_cons_self→Uf,mem_of_getElem?→Un,mem_of_mem_take→VH,mem_singleton→UX,nil_append→UN,singleton_append→WL,takeWhile_cons→Vv,takeWhile_nil→V5,take_add_one→VK,take_append_drop→VE,take_of_length_le→UP,take_zero→V2
open Nat renaming add_assoc→Vh,add_zero→UF,eq_zero_or_pos→WC,le_refl→Us,le_trans→U4,lt_irrefl→V0,reduceAdd→V9,reduceEqDiff→VV,strongRecOn→WP,succ_mul→U_,zero_add→UK,zero_le→Vp
open Option renaming bind_eq_bind→TY,bind_none→T8,bind_some→T0,getD_some→VF,or_eq_some_iff→WK
open Option.some renaming inj→VZ
noncomputable section
set_option linter.unusedSimpArgs false
set_option linter.unusedVariables false
section
namespace Go.Proofs.YtpelkenpapfadaaGreatDoor
open Go.Tx
set_option maxRecDepth 20000
open Go.Lib
def Bdd(t:aa):Prop:=t.Fits/\t.all.length<=61
theorem je{k n:Int}{f:Bool}(hk:0<=k/\k<=100)(hn: -9223372036854775808<=n/\n<=9223372036854775807):(aa.mk k n f []).Fits:=by
 intro q hq
 have:q=aa.mk k n f []:=by rw[aa.all_eq]at hq;simpa[aa.allL]using hq
 rw[this];exact⟨by simp only;omega,hn,by simp⟩
theorem t7{q:aa}:∀{ps:List aa},q∈aa.allL ps->∃p∈ps,q∈p.all
 |p::r,h=>by
  rw[aa.allL,Ur]at h
  rcases h with h|h
  ·exact⟨p,Uf,h⟩
  ·obtain⟨p',a,b⟩:=t7 h;exact⟨p',Ua _ a,b⟩
theorem xI{k n:Int}{f:Bool}{ps:List aa}(hk:0<=k/\k<=100)(hn: -9223372036854775808<=n/\n<=9223372036854775807)(hl:ps.length<=9223372036854775807)(hp:∀p∈ps,p.Fits):(aa.mk k n f ps).Fits:=by
 intro q hq
 rw[aa.all_eq]at hq
 rcases Um.1 hq with rfl|hq
 ·exact⟨by simp only;omega,hn,hl⟩
 ·obtain⟨p,a,b⟩:=t7 hq
  exact hp p a q b
theorem C_{B:Nat}:∀{ps:List aa},(∀p∈ps,p.all.length<=B)->(aa.allL ps).length<=ps.length *B
 |[],_=>by simp[aa.allL]
 |p::r,h=>by
  rw[aa.allL,Uh,Ui,U_]
  have:=h p Uf
  have:=C_ (B:=B) λq hq=>h q (Ua p hq)
  omega
theorem Ha{l:List UInt8}{n:Int}(h:Lib.atoiAll l= .ok n): -9223372036854775808<=n/\n<=9223372036854775807:=by
 unfold Lib.atoiAll at h
 split at h
 ·cases h
 ·simp only[]at h
  split at h
  ·cases h
  ·cases h
  ·rename_i u hu
   split at h
   ·cases h
   ·split at h
    ·cases h
    ·cases h
     split<;>omega
theorem Id(s:BA): -9223372036854775808<=pV s/\pV s<=9223372036854775807:=by
 unfold pV
 cases h:Lib.atoiAll s.data.toList with
 |ok n=>exact Ha h
 |range=>simp only;unfold Lib.atoiSat;split<;>omega
 |_=>simp only;omega
theorem Kc{it:List Item}(hi:eN it){l:List BA}{t:aa}{r:List BA}(h:pY it l=some (t,r)):t.Fits/\t.all.length<=60:=by
 rw[eF]at h
 obtain⟨u,r1,_,h⟩:=ap h
 obtain⟨s,r2,_,h⟩:=ap h
 unfold dA at h
 have leaf (k n:Int) (f:Bool) (hk:0<=k/\k<=100) (hn:0<=n/\n<=100):(aa.mk k n f []).Fits/\(aa.mk k n f []).all.length<=60:=⟨je hk (by omega),by rw[aa.all_eq];simp[aa.allL]⟩
 split at h
 ·cases h;exact leaf 2 8 _ (by omega) (by omega)
 split at h
 ·cases h;exact leaf 2 16 _ (by omega) (by omega)
 split at h
 ·cases h;exact leaf 2 32 _ (by omega) (by omega)
 obtain⟨_,r3,_,h⟩:=ap h
 split at h
 ·cases h;exact leaf 3 0 _ (by omega) (by omega)
 split at h
 ·cases h;exact leaf 0 0 _ (by omega) (by omega)
 split at h
 ·obtain⟨n,r4,_,h⟩:=ap h
  obtain⟨_,r5,hn,h⟩:=ap h
  cases h
  rcases sJ it 2 n with⟨e,_⟩|⟨e,_,_⟩
  ·rw[e];exact leaf 0 0 false (by omega) (by omega)
  ·exact⟨hi.fits _ e,(Gx (hi.val _ e)).1⟩
 split at h
 ·obtain⟨n,r4,_,h⟩:=ap h
  obtain⟨_,r5,hn,h⟩:=ap h
  cases h;exact leaf 2 32 _ (by omega) (by omega)
 ·obtain⟨_,r5,hn,h⟩:=ap h
  cases h;exact leaf 0 0 _ (by omega) (by omega)
theorem Aa:∀(l:List BA) (t:aa),t.Fits/\t.all.length<=60->(stars t l).1.Fits/\(stars t l).1.all.length<=60
 |[],t,h=>h
 |s::r,t,h=>by
  unfold stars;split
  ·exact Aa r _ ⟨je (by omega) (by omega),by rw[aa.all_eq];simp[aa.allL]⟩
  ·exact h
theorem pm{it:List Item}(hi:eN it){b:Bool}{l:List BA}{t:aa}{r:List BA}(h:qZ it b l=some (t,r)):t.Fits/\t.all.length<=60:=by
 obtain⟨t0,r1,h1,h⟩:=ap h
 obtain⟨t1,r2,h2,h⟩:=ap h
 obtain⟨_,r3,_,h⟩:=ap h
 have h2:some (stars t0 r1)=some (t1,r2):=h2
 injection h2 with h2
 have:=Aa r1 t0 (Kc hi h1)
 rw[h2]at this
 cases h;exact this
theorem Lr{it:List Item}(hi:eN it){mx:Int}{l:List BA}{p:aa×BA}{r:List BA}(h:j9 it mx l=some (p,r)):Bdd p.1:=by
 obtain⟨t,r1,h1,h⟩:=ap h
 obtain⟨n,r2,_,h⟩:=ap h
 obtain⟨b,r3,_,h⟩:=ap h
 obtain⟨t',r4,h4,h⟩:=ap h
 obtain⟨_,r5,_,h⟩:=ap h
 cases h
 obtain⟨k1,k2⟩:=pm hi h1
 unfold wI at h4
 split at h4
 ·obtain⟨v,r6,hv,h4⟩:=ap h4
  obtain⟨_,r7,_,h4⟩:=ap h4
  obtain⟨_,r8,_,h4⟩:=ap h4
  cases h4
  have hvb: -9223372036854775808<=v/\v<=9223372036854775807:=by
   cases hr3:r3 with
   |nil=>rw[hr3]at hv;cases hv
   |cons s z=>
    rw[hr3]at hv
    have hv:(if eS s=true then some (pV s,z)else none)=some (v,r6):=hv
    split at hv
    ·cases hv;exact Id s
    ·cases hv
  refine⟨xI (by omega) hvb (by simp) (by simpa using k1),?_⟩
  show(aa.mk 5 v false [t]).all.length<=61
  rw[aa.all_eq,Ui]
  simp only[aa.allL,U0];omega
 ·cases h4;exact⟨k1,U4 k2 (by omega)⟩
structure Oq (l:List BA) (ns0:List BA) (ps0:List aa) (q:List BA×List aa):Prop where
 sub:∀p∈ps0,p∈q.2
 len:ns0.length=ps0.length->q.1.length=q.2.length
 bnd:q.2.length<=ps0.length+l.length
 bd:(∀p∈ps0,Bdd p)->∀p∈q.2,Bdd p
theorem tB{it:List Item}(hi:eN it){mx:Int}:∀(k:Nat) (ns0:List BA) (ps0:List aa) (l:List BA) (q:List BA×List aa) (r:List BA),bK it mx k ns0 ps0 l=some (q,r)->Oq l ns0 ps0 q
 |0,ns0,ps0,l,q,r,h=>by cases h
 |k+1,ns0,ps0,l,q,r,h=>by
  unfold bK at h
  split at h
  ·cases h;exact⟨λp hp=>hp,λh=>h,by simp,λh=>h⟩
  ·obtain⟨a,r1,e1,e2⟩:=ap h
   have ih:=tB hi k _ _ _ _ _ e2
   have hlt:=Ltp.part it mx _ _ _ e1
   have hb:=Lr hi e1
   refine⟨λp hp=>ih.sub p (Vy _ hp),λh=>ih.len (by rw[Uh,Uh,h];rfl),?_,λh=>ih.bd λp hp=> ?_⟩
   ·have:=ih.bnd;rw[Uh,T_]at this;omega
   ·rcases Ur.1 hp with hp|hp
    ·exact h p hp
    ·rw[UX.1 hp];exact hb
theorem Dd{it:List Item}(hi:eN it):∀(k:Nat) (ns0:List BA) (ps0:List aa) (l:List BA) (q:List BA×List aa) (r:List BA),Fs it k ns0 ps0 l=some (q,r)->Oq l ns0 ps0 q
 |0,ns0,ps0,l,q,r,h=>by cases h
 |k+1,ns0,ps0,l,q,r,h=>by
  obtain⟨t,r1,e1,h⟩:=ap h
  obtain⟨n,r2,e2,h⟩:=ap h
  obtain⟨c,r3,e3,h⟩:=ap h
  have l1:=Ltp.kind it false _ _ _ e1
  have l2:=Ltp.name _ _ _ e2
  have l3:=Lep.may _ _ _ _ e3
  have hb:Bdd t:=⟨(pm hi e1).1,by have:=(pm hi e1).2;omega⟩
  have key:Oq r3 (ns0++[n]) (ps0++[t]) q:=by
   split at h
   ·exact Dd hi k _ _ _ _ _ h
   ·cases h;exact⟨λp hp=>hp,λh=>h,by simp,λh=>h⟩
  refine⟨λp hp=>key.sub p (Vy _ hp),λh=>key.len (by rw[Uh,Uh,h];rfl),?_,λh=>key.bd λp hp=> ?_⟩
  ·have:=key.bnd;rw[Uh,T_]at this;omega
  ·rcases Ur.1 hp with hp|hp
   ·exact h p hp
   ·rw[UX.1 hp];exact hb
def form(it:List Item)(mx:Int):Nat->Ps Item
 |0=>oZ it
 |1=>xG it
 |2=>dK it mx
 |_=>xH it
structure C6 (l:List BA) (k:Nat) (x:Item):Prop where
 kind:x.kind=(k:Int)
 names:x.names.length<=l.length+1
 fits:x.layout.Fits
 all:x.layout.all.length<=62 *(l.length+2)
 lay:k<2->x.layout=z0
 str:2<=k->x.layout.kind=6
 par:2<=k->x.names.length<=x.layout.parts.length
theorem vy:∀(k:Nat) (acc:List BA) (l:List BA) (ns:List BA) (r:List BA),mr k acc l=some (ns,r)->ns.length<=acc.length+l.length
 |0,acc,l,ns,r,h=>by cases h
 |k+1,acc,l,ns,r,h=>by
  obtain⟨n,r2,e2,h⟩:=ap h
  obtain⟨c,r3,e3,h⟩:=ap h
  have l2:=Ltp.name _ _ _ e2
  have l3:=Lep.may _ _ _ _ e3
  split at h
  ·have:=vy k _ _ _ _ h;rw[Uh,T_]at this;omega
  ·cases h;rw[Uh,T_];omega
theorem G3:z0.Fits:=je (by omega) (by omega)
theorem J0:z0.all.length=1:=by rw[aa.all_eq];simp[aa.allL,z0]
theorem J1:jx z0=0:=by
 simp[jx,z0,aa.large,aa.all,aa.allL,aa.depth,aa.depthL,aa.big,aa.big1,aa.cells,aa.cellsL,aa.right,aa.isS,p5,NB]
theorem Eb{ps:List aa}(h:∀p∈ps,Bdd p):(aa.mk 6 0 false ps).Fits/\(ps.length<=9223372036854775807->True)/\(aa.mk 6 0 false ps).all.length<=62 *(ps.length+1)\/9223372036854775807<ps.length:=by
 by_cases hl:ps.length<=9223372036854775807
 ·left
  refine⟨xI (by omega) (by omega) hl λp hp=>(h p hp).1,λ_=>trivial,?_⟩
  rw[aa.all_eq,Ui]
  have:=C_ (B:=61) λp hp=>(h p hp).2
  simp only;omega
 ·right;omega
theorem xM{it:List Item}(hi:eN it){mx:Int}{k:Nat}(hk:k<4){l:List BA}(hl:l.length<=1000000){x:Item}{r:List BA}(h:form it mx k l=some (x,r)):C6 l k x:=by
 match k,hk with
 |0,_=>
  obtain⟨_,r1,_,h⟩:=ap h
  obtain⟨n,r2,_,h⟩:=ap h
  obtain⟨m,r3,_,h⟩:=ap h
  obtain⟨v,r4,_,h⟩:=ap h
  obtain⟨_,r5,_,h⟩:=ap h
  cases h
  exact⟨rfl,by simp,G3,by rw[J0];omega,λ_=>rfl,λh=>by omega,λh=>by omega⟩
 |1,_=>
  obtain⟨_,r1,e1,h⟩:=ap h
  obtain⟨n,r2,e2,h⟩:=ap h
  obtain⟨_,r3,e3,h⟩:=ap h
  obtain⟨ns,r4,e4,h⟩:=ap h
  obtain⟨_,r5,_,h⟩:=ap h
  obtain⟨_,r6,_,h⟩:=ap h
  cases h
  have a1:=Lep.wants _ _ _ _ e1
  have a2:=Ltp.name _ _ _ e2
  have a3:=Lep.wants _ _ _ _ e3
  have a4:=vy _ _ _ _ _ e4
  rw[Uw]at a4
  exact⟨rfl,by simp only;omega,G3,by rw[J0];omega,λ_=>rfl,λh=>by omega,λh=>by omega⟩
 |2,_=>
  obtain⟨_,r1,e1,h⟩:=ap h
  obtain⟨n,r2,e2,h⟩:=ap h
  obtain⟨_,r3,e3,h⟩:=ap h
  obtain⟨q,r4,e4,h⟩:=ap h
  obtain⟨_,r5,_,h⟩:=ap h
  obtain⟨_,r6,_,h⟩:=ap h
  cases h
  have a1:=Lep.wants _ _ _ _ e1
  have a2:=Ltp.name _ _ _ e2
  have a3:=Lep.wants _ _ _ _ e3
  have ok:=tB hi _ _ _ _ _ _ e4
  have b1:=ok.len rfl
  have b2:=ok.bnd
  rw[Uw]at b2
  rcases Eb (ok.bd (by simp))with⟨c1,_,c2⟩|c
  ·exact⟨rfl,by simp only;omega,c1,by simp only;omega,λh=>by omega,λ_=>rfl,λ_=>by simp only;omega⟩
  ·omega
 |3,_=>
  obtain⟨t,r1,e1,h⟩:=ap h
  obtain⟨n,r2,e2,h⟩:=ap h
  obtain⟨_,r3,e3,h⟩:=ap h
  obtain⟨q,r4,e4,h⟩:=ap h
  obtain⟨_,r5,_,h⟩:=ap h
  obtain⟨_,r6,_,h⟩:=ap h
  cases h
  have a1:=Ltp.kind it true _ _ _ e1
  have a2:=Ltp.name _ _ _ e2
  have a3:=Lep.wants _ _ _ _ e3
  have hb:Bdd t:=⟨(pm hi e1).1,by have:=(pm hi e1).2;omega⟩
  have ok:Oq r3 [] [] q:=by
   unfold ko at e4
   split at e4
   ·cases e4;exact⟨by simp,λ_=>rfl,by simp,by simp⟩
   ·exact Dd hi _ _ _ _ _ _ e4
  have b1:=ok.len rfl
  have b2:=ok.bnd
  rw[Uw]at b2
  have hps:∀p∈q.2++[t],Bdd p:=λp hp=>by
   rcases Ur.1 hp with hp|hp
   ·exact ok.bd (by simp) p hp
   ·rw[UX.1 hp];exact hb
  rcases Eb hps with⟨c1,_,c2⟩|c
  ·rw[Uh,T_]at c2
   exact⟨rfl,by simp only;omega,c1,by simp only;omega,λh=>by omega,λ_=>rfl,λ_=>by simp only[Uh,T_];omega⟩
  ·rw[Uh,T_]at c;omega
def Rv(ps:List aa):Prop:=∃p∈ps,p.kind=5/\p.n>1000
theorem Mg(t:aa)(b:Bool)(l:List BA):(∀t' r,wI iO t b l=some (t',r)->wI 1000 t b l=some (t',r)\/wI 1000 t b l=none/\t'.kind=5/\t'.n>1000)/\(wI iO t b l=none->wI 1000 t b l=none):=by
 unfold wI
 cases b with
 |false=>simp only[TZ,XH];exact⟨λt' r h=> .inl h,λh=>h⟩
 |true=>
  simp only[XG]
  unfold bnd nay
  cases Lq l with
  |none=>exact⟨λt' r h=> .inl h,λh=>h⟩
  |some y=>
   obtain⟨v,r⟩:=y
   simp only
   by_cases h1:v<1
   ·simp[h1]
   ·by_cases h2:v>iO
    ·have h3:v>1000:=by unfold iO at h2;omega
     simp[h1,h2,h3]
    ·by_cases h3:v>1000
     ·have e1:(decide (v<1)||decide (v>iO))=false:=by simp[h1,h2]
      have e2:(decide (v<1)||decide (v>1000))=true:=by simp[h3]
      simp only[e1,e2,XG,TZ,XH]
      refine⟨λt' r' h=> .inr ⟨by trivial,?_⟩,λ_=>by trivial⟩
      cases hw:cy [L9] r with
      |none=>rw[hw]at h;cases h
      |some z=>rw[hw]at h;cases h;exact⟨rfl,h3⟩
     ·have e1:(decide (v<1)||decide (v>iO))=false:=by simp[h1,h2]
      have e2:(decide (v<1)||decide (v>1000))=false:=by simp[h1,h3]
      simp only[e1,e2]
      exact⟨λt' r h=> .inl h,λh=>h⟩
theorem Ls(it:List Item)(l:List BA):(∀p r,j9 it iO l=some (p,r)->j9 it 1000 l=some (p,r)\/j9 it 1000 l=none/\p.1.kind=5/\p.1.n>1000)/\(j9 it iO l=none->j9 it 1000 l=none):=by
 unfold j9
 unfold bnd
 cases qZ it false l with
 |none=>exact⟨λt' r h=> .inl h,λh=>h⟩
 |some y=>
  obtain⟨t,r1⟩:=y
  simp only
  cases dM r1 with
  |none=>exact⟨λt' r h=> .inl h,λh=>h⟩
  |some y=>
   obtain⟨n,r2⟩:=y
   simp only
   cases vH tV r2 with
   |none=>exact⟨λt' r h=> .inl h,λh=>h⟩
   |some y=>
    obtain⟨b,r3⟩:=y
    simp only
    obtain⟨m1,m2⟩:=Mg t b r3
    cases hb:wI iO t b r3 with
    |none=>rw[m2 hb];exact⟨λt' r h=> .inl h,λh=>h⟩
    |some y=>
     obtain⟨t',r4⟩:=y
     rcases m1 t' r4 hb with e|⟨e,e2⟩
     ·rw[e];exact⟨λt' r h=> .inl h,λh=>h⟩
     ·rw[e]
      simp only
      refine⟨λp r h=> .inr ⟨by trivial,?_⟩,λ_=>by trivial⟩
      cases hw:cy [sB] r4 with
      |none=>rw[hw]at h;cases h
      |some z=>rw[hw]at h;cases h;exact e2
theorem zW{it:List Item}(hi:eN it):∀(k:Nat) (ns:List BA) (ps:List aa) (l:List BA),(∀q r,bK it iO k ns ps l=some (q,r)->bK it 1000 k ns ps l=some (q,r)\/bK it 1000 k ns ps l=none/\Rv q.2)/\(bK it iO k ns ps l=none->bK it 1000 k ns ps l=none)
 |0,ns,ps,l=>⟨λq r h=>(by cases h),λ_=>rfl⟩
 |k+1,ns,ps,l=>by
  unfold bK
  cases hc:dF cB l with
  |true=>rw[XK rfl];exact⟨λq r h=> .inl h,λh=>h⟩
  |false=>
   rw[XJ Up]
   obtain⟨m1,m2⟩:=Ls it l
   unfold bnd
   cases hb:j9 it iO l with
   |none=>rw[m2 hb];exact⟨λq r h=>(by cases h),λ_=>rfl⟩
   |some y=>
    obtain⟨p,r1⟩:=y
    rcases m1 p r1 hb with e|⟨e,e2⟩
    ·rw[e];exact zW hi k _ _ r1
    ·rw[e]
     refine⟨λq r h=> .inr ⟨by trivial,p.1,?_,e2⟩,λ_=>by trivial⟩
     exact(tB hi k _ _ _ _ _ h).sub p.1 (VN _ (UX.2 rfl))
theorem Hy{x:aa}(h:Rv x.parts):¬jx x=0:=by
 obtain⟨p,hp,h1,h2⟩:=h
 have hb:p.big=true:=by unfold aa.big aa.big1;rw[h1,decide_eq_true h2];simp
 have hl:x.large=true:=by
  unfold aa.large
  have:x.all.any aa.big=true:=Vu.2 ⟨p,by rw[x.all_eq];exact Ua _ (aa.allL_mem hp p.mem_self),hb⟩
  rw[this];simp
 unfold jx
 rw[hl,UJ,XK rfl];decide
theorem Ga{it:List Item}(hi:eN it)(l:List BA):(∀x r,dK it iO l=some (x,r)->dK it 1000 l=some (x,r)\/dK it 1000 l=none/\¬jx x.layout=0)/\(dK it iO l=none->dK it 1000 l=none):=by
 unfold dK
 unfold bnd
 cases cy [bH] l with
 |none=>exact⟨λt' r h=> .inl h,λh=>h⟩
 |some y=>
  obtain⟨_,r1⟩:=y
  simp only
  cases dM r1 with
  |none=>exact⟨λt' r h=> .inl h,λh=>h⟩
  |some y=>
   obtain⟨n,r2⟩:=y
   simp only
   cases cy [oB] r2 with
   |none=>exact⟨λt' r h=> .inl h,λh=>h⟩
   |some y=>
    obtain⟨_,r3⟩:=y
    simp only
    obtain⟨m1,m2⟩:=zW hi (r3.length+1) [] [] r3
    have e1:lv it iO r3=bK it iO (r3.length+1) [] [] r3:=rfl
    have e2:lv it 1000 r3=bK it 1000 (r3.length+1) [] [] r3:=rfl
    rw[e1,e2]
    cases hb:bK it iO (r3.length+1) [] [] r3 with
    |none=>rw[m2 hb];exact⟨λt' r h=> .inl h,λh=>h⟩
    |some y=>
     obtain⟨q,r4⟩:=y
     rcases m1 q r4 hb with e|⟨e,e3⟩
     ·rw[e];exact⟨λt' r h=> .inl h,λh=>h⟩
     ·rw[e]
      simp only
      refine⟨λx r h=> .inr ⟨by trivial,?_⟩,λ_=>by trivial⟩
      cases hw:cy [cB,sB] r4 with
      |none=>rw[hw]at h;cases h
      |some z=>
       rw[hw]at h
       simp only at h
       cases hz:nay (q.1.isEmpty||jC q.1) z.2 with
       |none=>rw[hz]at h;cases h
       |some z2=>rw[hz]at h;cases h;exact Hy e3
def eM(it:List Item)(mx:Int)(k:Nat)(l:List BA):Option Item:=match form it mx k l with
 |some (x,[])=>if fm it k x.name0=true then none else if 1<k/\¬jx x.layout=0 then none else some x
 |_=>none
theorem Hv(it:List Item)(mx:Int):form it mx 0=oZ it:=rfl
theorem Nc(it:List Item)(mx:Int):form it mx 1=xG it:=rfl
theorem Nd(it:List Item)(mx:Int):form it mx 2=dK it mx:=rfl
theorem Nf(it:List Item)(mx:Int)(k:Nat):form it mx (k+3)=xH it:=rfl
theorem Gn{it:List Item}(hi:eN it)(k:Nat)(l:List BA):eM it iO k l=eM it 1000 k l:=by
 unfold eM
 match k with
 |0=>rw[Hv,Hv]
 |1=>rw[Nc,Nc]
 |k+3=>rw[Nf,Nf]
 |2=>
  obtain⟨m1,m2⟩:=Ga hi l
  rw[Nd,Nd]
  cases hb:dK it iO l with
  |none=>rw[m2 hb]
  |some y=>
   obtain⟨x,r⟩:=y
   rcases m1 x r hb with e|⟨e,e2⟩
   ·rw[e]
   ·rw[e]
    cases r with
    |nil=>
     simp only
     split
     ·rfl
     ·rw[XK ⟨by omega,e2⟩]
    |cons z w=>rfl
def j8(it:List Item)(l:List BA):Option Item:=(((eM it 1000 0 l).or (eM it 1000 1 l)).or (eM it 1000 2 l)).or (eM it 1000 3 l)
theorem LL{it:List Item}(hi:eN it){k:Nat}(hk:k<4){l:List BA}(hl:l.length<=1000000){x:Item}(h:eM it 1000 k l=some x):C6 l k x/\jx x.layout=0:=by
 unfold eM at h
 split at h
 ·rename_i y hf
  split at h
  ·cases h
  ·split at h
   ·cases h
   ·rename_i h2
    cases h
    have ok:=xM hi hk hl hf
    refine⟨ok,?_⟩
    by_cases hk2:1<k
    ·exact W8 λh=>h2 ⟨hk2,h⟩
    ·rw[ok.lay (by omega)];exact J1
 ·cases h
theorem Hz{it:List Item}(hi:eN it){l:List BA}(hl:l.length<=1000000){x:Item}(h:j8 it l=some x):x.names.length<=l.length+1/\x.layout.Fits/\jx x.layout=0/\(x.kind=2->x.layout.kind=6):=by
 have:∃k,k<4/\eM it 1000 k l=some x:=by
  unfold j8 at h
  rcases WK.1 h with h|⟨_,h⟩
  ·rcases WK.1 h with h|⟨_,h⟩
   ·rcases WK.1 h with h|⟨_,h⟩
    ·exact⟨0,by omega,h⟩
    ·exact⟨1,by omega,h⟩
   ·exact⟨2,by omega,h⟩
  ·exact⟨3,by omega,h⟩
 obtain⟨k,hk,h⟩:=this
 obtain⟨ok,hv⟩:=LL hi hk hl h
 refine⟨ok.names,ok.fits,hv,λh2=>ok.str ?_⟩
 have:=ok.kind;rw[h2]at this;omega
theorem eN.add{it:List Item}(hi:eN it){l:List BA}(hl:l.length<=900000){x:Item}(h:j8 it l=some x)(hn:it.length<1000000):eN (it++[x]):=by
 obtain⟨a1,a2,a3,a4⟩:=Hz hi (by omega) h
 have mem {P:Item->Prop} (h1:∀y∈it,P y) (h2:P x):∀y∈it++[x],P y:=λy hy=>by
  rcases Ur.1 hy with hy|hy
  ·exact h1 y hy
  ·rw[UX.1 hy];exact h2
 exact⟨by rw[Uh,T_];omega,mem hi.names (by omega),mem hi.fits a2,mem hi.val a3,mem (P:=λy=>y.kind=2->y.layout.kind=6) hi.str a4⟩
end Go.Proofs.YtpelkenpapfadaaGreatDoor
end
section
namespace Go.Proofs.YtpelkenpapfadaaGreatDoor
open Go.Tx
set_option maxRecDepth 20000
open Go.Lib
theorem Bf{it:List Item}{k:Int}{y x:Item}{l r:List BA}(h:fresh it k y l=some (x,r)):x=y/\r=l/\fm it k y.name0=false:=by
 obtain⟨_,r1,e1,h⟩:=ap h
 unfold nay at e1
 split at e1
 ·cases e1
 ·rename_i hh
  cases e1;cases h
  exact⟨rfl,rfl,W6.2 hh⟩
theorem Hc{α β:Type}{p:Ps α}{q:α->Ps β}{l:List BA}(h:bnd p q l=none):p l=none\/∃a r,p l=some (a,r)/\q a r=none:=by
 unfold bnd at h
 cases hp:p l with
 |none=>exact .inl rfl
 |some x=>obtain⟨a,r⟩:=x;rw[hp]at h;exact .inr ⟨a,r,rfl,h⟩
theorem LT{x:Item}{l:List BA}{k:Nat}(ok:C6 l k x)(hl:l.length<=10000):E3 (x.layout,())=some (jx x.layout,())/\Bo (x.layout,())=some (jx x.layout,()):=by
 have h1:=ok.all
 have h2:x.layout.depth<=x.layout.all.length:=by
  refine aa.ind (P:=λl=>l.depth<=l.all.length) (λl ih=> ?_) x.layout
  rw[l.depth_eq,l.all_eq,Ui]
  have:∀ps:List aa,(∀p∈ps,p.depth<=(aa.allL l.parts).length)->aa.depthL ps<=(aa.allL l.parts).length:=by
   intro ps
   induction ps with
   |nil=>intro _;simp[aa.depthL]
   |cons p r ihr=>
    intro h
    rw[aa.depthL]
    have:=h p Uf
    have:=ihr λq hq=>h q (Ua p hq)
    omega
  have:=this l.parts λp hp=>U4 (ih p hp) (sr hp)
  omega
 exact⟨y20 _ ok.fits (by omega) (by omega),y21 _ ok.fits (by omega) (by omega)⟩
structure sq (it:List Item) (mx:Int) (k:Nat) (l:List BA) (P:Ps Item):Prop where
 yes:∀y r,P l=some (y,r)->form it mx k l=some (y,r)/\fm it k y.name0=false
 no:P l=none->∀y r,form it mx k l=some (y,r)->fm it k y.name0=true
abbrev J5(it:List Item)(mx:Int)(k:Nat)(l:List BA)(x:Item)(l':List BA)(w':Bool):Prop:=
 (eM it mx k l=none/\(w'=true\/w'=false/\l'≠[]\/w'=false/\l'=[]/\x.kind=(k:Int)/\2<=k/\C6 l k x/\¬jx x.layout=0))\/
   (eM it mx k l=some x/\w'=false/\l'=[]/\x.kind=(k:Int)/\C6 l k x/\jx x.layout=0)
theorem oi{it:List Item}(hi:eN it){mx:Int}{k:Nat}(hk:k<4){l:List BA}(hl:l.length<=10000){x:Item}{l':List BA}{w':Bool}{P:Ps Item}(hP:sq it mx k l P)
 (hm:Sim P l false x l' w'):J5 it mx k l x l' w':=by
 have key:(w'=true/\∀y r,form it mx k l=some (y,r)->fm it k y.name0=true)\/(w'=false/\form it mx k l=some (x,l')/\fm it k x.name0=false):=by
  cases hf:P l with
  |none=>exact .inl ⟨hm.no rfl hf,hP.no hf⟩
  |some z=>
   obtain⟨y,r⟩:=z
   obtain⟨a,b,c⟩:=hm.ok rfl y r hf
   obtain⟨d,e⟩:=hP.yes y r hf
   subst b c
   exact .inr ⟨a,d,e⟩
 rcases key with⟨hw,hh⟩|⟨hw,hf,hh⟩
 ·refine .inl ⟨?_, .inl hw⟩
  unfold eM
  cases hf:form it mx k l with
  |none=>rfl
  |some z=>
   obtain⟨y,r⟩:=z
   cases r with
   |nil=>simp only;rw[hh y [] hf,XK rfl]
   |cons a b=>rfl
 ·have ok:=xM hi hk (by omega) hf
  cases l' with
  |cons a b=>exact .inl ⟨by unfold eM;rw[hf], .inr (.inl ⟨hw,by simp⟩)⟩
  |nil=>
   have hb:(fm it (k:Int) x.name0=true)=False:=by rw[hh];simp
   by_cases hv:1<k/\¬jx x.layout=0
   ·exact .inl ⟨by unfold eM;rw[hf];simp only[hb,XH];rw[XK hv], .inr (.inr ⟨hw,rfl,ok.kind,by omega,ok,hv.2⟩)⟩
   ·refine .inr ⟨by unfold eM;rw[hf];simp only[hb,XH];rw[XJ hv],hw,rfl,ok.kind,ok,?_⟩
    by_cases hk2:1<k
    ·exact W8 λh=>hv ⟨hk2,h⟩
    ·rw[ok.lay (by omega)];exact J1
theorem sq.fresh(it:List Item)(mx:Int)(k:Nat)(l:List BA):sq it mx k l (bnd (form it mx k) (fresh it k)):=by
 refine⟨λy r h=> ?_,λh y r hy=> ?_⟩
 ·obtain⟨y',r',e1,e2⟩:=ap h
  obtain⟨e3,e4,e5⟩:=Bf e2
  subst e3 e4
  exact⟨e1,e5⟩
 ·rcases Hc h with e|⟨a,r',e,e2⟩
  ·rw[e]at hy;cases hy
  ·rw[e]at hy
   injection hy with hy;injection hy with h1 h2
   subst h1 h2
   cases hh:fm it k a.name0 with
   |true=>rfl
   |false=>
    unfold Proofs.YtpelkenpapfadaaGreatDoor.fresh Proofs.YtpelkenpapfadaaGreatDoor.bnd nay at e2
    rw[hh,XJ Up]at e2
    cases e2
theorem AZ{it:List Item}{mx:Int}{l:List BA}{y:Item}{r:List BA}(h:form it mx 0 l=some (y,r)):fm it 0 y.name0=false:=by
 rw[Hv]at h
 obtain⟨_,r1,_,h⟩:=ap h
 obtain⟨n,r2,_,h⟩:=ap h
 obtain⟨m,r3,_,h⟩:=ap h
 obtain⟨v,r4,_,h⟩:=ap h
 obtain⟨_,r5,e,h⟩:=ap h
 cases h
 unfold nay at e
 split at e
 ·cases e
 ·rename_i hh
  unfold gi at hh
  simp only[UI,not_or,Bool.not_eq_true]at hh
  exact hh.1
abbrev Fm:List Nat:=[122,123,124,125]
theorem lL{it:List Item}(hi:eN it){k:Nat}(hk:k<4){l:List BA}(hl:l.length<=10000)(X:Item){x:Item}{l':List BA}{w':Bool}
 (ht:J5 it iO k l x l' w')
 (h:(k=0/\fp (l,false,it,())=some (l',w',it,x,()))\/(k=1/\fq (l,false,it,())=some (l',w',it,x,()))\/(k=2/\ft (l,false,it,())=some (l',w',it,x,()))\/(k=3/\dS (l,false,it,())=some (l',w',it,x,()))):
 aU (l,Fm,4,(k:Int),X,it,())=match eM it 1000 k l with|some y=>some (.inl (true,it,y,()))|none=>aU (l,Fm,4,((k+1:Nat):Int),X,it,()):=by
 have hlt:((k:Int)<4):=by omega
 have hge:(0:Int)<=(k:Int):=by omega
 have hwr:=aR (a:=k) (by omega)
 have hlen0:(([]:List BA).length:Int)>0↔False:=by simp
 have ht:J5 it 1000 k l x l' w':=by
  rcases ht with⟨e,h⟩|⟨e,h⟩
  ·exact .inl ⟨by rw[<-Gn hi];exact e,h⟩
  ·exact .inr ⟨by rw[<-Gn hi];exact e,h⟩
 conv=>lhs;rw[aU]
 have tail (h':l'≠[]):((l'.length:Int)>0)=True:=by
  cases l' with
  |nil=>exact(h' rfl).elim
  |cons a b=>simp only[Ui,eq_iff_iff,iff_true];omega
 have small (hk2:k<2):((k:Int)<2)=True:=by simp;omega
 have great (hk2:2<=k):((k:Int)<2)=False:=by simp;omega
 have get:Fm[k]?=some (122+k):=by
  match k,hk with
  |0,_=>rfl
  |1,_=>rfl
  |2,_=>rfl
  |3,_=>rfl
 rcases ht with⟨e,ht⟩|⟨e,hw,hl0,hkd,ok,hv⟩
 ·rw[e]
  rcases ht with hw|⟨hw,hne⟩|⟨hw,hl0,hkd,hk2,ok,hv⟩
  ·rcases h with⟨rfl,h⟩|⟨rfl,h⟩|⟨rfl,h⟩|⟨rfl,h⟩<;>
    simp only[hlt,hge,XM,TY,T0,XG,XH,TZ,T7,T5,T1,get,h,hw,hwr,UF,V9,VV]
  ·have:=tail hne
   rcases h with⟨rfl,h⟩|⟨rfl,h⟩|⟨rfl,h⟩|⟨rfl,h⟩<;>
    simp only[hlt,hge,XM,TY,T0,XG,XH,TZ,T7,T5,T1,get,h,hw,this,hwr,UF,V9,VV]
  ·have hg:=great hk2
   have h99:=(LT ok hl).1
   have hv':(jx x.layout==0)=false:=beq_eq_false_iff_ne.2 hv
   subst hl0
   rcases h with⟨rfl,h⟩|⟨rfl,h⟩|⟨rfl,h⟩|⟨rfl,h⟩
   ·omega
   ·omega
   ·simp only[hlt,hge,XM,TY,T0,XG,XH,TZ,T7,T5,T1,get,h,hw,hkd,hg,hlen0,XN,eta,h99,hv',hwr,UF,V9,VV]
   ·simp only[hlt,hge,XM,TY,T0,XG,XH,TZ,T7,T5,T1,get,h,hw,hkd,hg,hlen0,XN,eta,h99,hv',hwr,UF,V9,VV]
 ·rw[e]
  subst hl0
  by_cases hk2:k<2
  ·have hs:=small hk2
   rcases h with⟨rfl,h⟩|⟨rfl,h⟩|⟨rfl,h⟩|⟨rfl,h⟩
   ·simp only[hlt,hge,XM,TY,T0,XG,XH,TZ,T7,T5,T1,get,h,hw,hkd,hs,hlen0,XN,UF,V9,VV]
   ·simp only[hlt,hge,XM,TY,T0,XG,XH,TZ,T7,T5,T1,get,h,hw,hkd,hs,hlen0,XN,UF,V9,VV]
   ·omega
   ·omega
  ·have hg:=great (by omega)
   have h99:=(LT ok hl).1
   have hv':(jx x.layout==0)=true:=by rw[hv];rfl
   rcases h with⟨rfl,h⟩|⟨rfl,h⟩|⟨rfl,h⟩|⟨rfl,h⟩
   ·omega
   ·omega
   ·simp only[hlt,hge,XM,TY,T0,XG,XH,TZ,T7,T5,T1,get,h,hw,hkd,hg,hlen0,XN,eta,h99,hv',UF,V9,VV]
   ·simp only[hlt,hge,XM,TY,T0,XG,XH,TZ,T7,T5,T1,get,h,hw,hkd,hg,hlen0,XN,eta,h99,hv',UF,V9,VV]
def sa(l:List BA)(it:List Item):Bool×List Item×Item×Unit:=match j8 it l with|some y=>(true,it,y,())|none=>(false,it,zI,())
theorem f68(it:List Item)(hi:eN it)(l:List BA)(hg:tU l)(hl:l.length<=10000):mj (l,it,())=some (sa l it):=by
 obtain⟨l0,w0,x0,e0',m0⟩:=Sl it hi l hg false
 obtain⟨l1,w1,x1,e1,m1⟩:=f123 it hi l (by omega) false
 obtain⟨l2,w2,x2,e2,m2⟩:=f124 it hi l hg (by omega) false
 obtain⟨l3,w3,x3,e3,m3⟩:=f125 it hi l (by omega) false
 have g0:sq it iO 0 l (oZ it):=⟨λy r h=>⟨h,AZ (mx:=iO) h⟩,λh y r hy=>by rw[Hv,h]at hy;cases hy⟩
 have t0:=oi hi (k:=0) (by omega) hl g0 m0
 have t1:=oi hi (k:=1) (by omega) hl (.fresh it iO 1 l) m1
 have t2:=oi hi (k:=2) (by omega) hl (.fresh it iO 2 l) m2
 have t3:=oi hi (k:=3) (by omega) hl (.fresh it iO 3 l) m3
 have s0:=lL hi (k:=0) (by omega) hl zI t0 (.inl ⟨rfl,e0'⟩)
 have s1:=lL hi (k:=1) (by omega) hl zI t1 (.inr (.inl ⟨rfl,e1⟩))
 have s2:=lL hi (k:=2) (by omega) hl zI t2 (.inr (.inr (.inl ⟨rfl,e2⟩)))
 have s3:=lL hi (k:=3) (by omega) hl zI t3 (.inr (.inr (.inr ⟨rfl,e3⟩)))
 have s0:aU (l,Fm,4,0,zI,it,())=match eM it 1000 0 l with|some y=>some (.inl (true,it,y,()))|none=>aU (l,Fm,4,1,zI,it,()):=s0
 have s1:aU (l,Fm,4,1,zI,it,())=match eM it 1000 1 l with|some y=>some (.inl (true,it,y,()))|none=>aU (l,Fm,4,2,zI,it,()):=s1
 have s2:aU (l,Fm,4,2,zI,it,())=match eM it 1000 2 l with|some y=>some (.inl (true,it,y,()))|none=>aU (l,Fm,4,3,zI,it,()):=s2
 have s3:aU (l,Fm,4,3,zI,it,())=match eM it 1000 3 l with|some y=>some (.inl (true,it,y,()))|none=>aU (l,Fm,4,4,zI,it,()):=s3
 have s4:aU (l,Fm,4,4,zI,it,())=some (.inr (zI,it,())):=by
  rw[aU];rfl
 have hz:Item.mk 0 (T3 #[]) 0 [] (aa.mk 0 0 false [])=zI:=rfl
 have hF:([122,123,124,125]:List Nat)=Fm:=rfl
 have hFl:((Fm.length:Nat):Int)=4:=rfl
 rw[mj,OO]
 simp only[TY,T0,XG,XH,TZ,T7,T5,hz,hF,hFl,s0,s1,s2,s3,s4]
 unfold sa j8
 cases eM it 1000 0 l with
 |some y=>rfl
 |none=>
  cases eM it 1000 1 l with
  |some y=>rfl
  |none=>
   cases eM it 1000 2 l with
   |some y=>rfl
   |none=>cases eM it 1000 3 l<;>rfl
theorem ow{it:List Item}(hi:eN it){k:Nat}(hk:k<4){l:List BA}(hl:l.length<=10000)(X:Item){x:Item}{l':List BA}{w':Bool}(hm:Sim (form it 1000 k) l false x l' w')
 (h:(k=0/\gM (l,false,it,())=some (l',w',it,x,()))\/(k=1/\gN (l,false,it,())=some (l',w',it,x,()))\/(k=2/\gO (l,false,it,())=some (l',w',it,x,()))\/(k=3/\ew (l,false,it,())=some (l',w',it,x,()))):
 aE (l,(k:Int),it,X,())=match eM it 1000 k l with|some y=>some (.inl (true,it,y,()))|none=>aE (l,((k+1:Nat):Int),it,X,()):=by
 have hilen:=hi.len
 have hlt:((k:Int)<4):=by omega
 have hwr:=aR (a:=k) (by omega)
 have h48:=f48 it (by omega) k x.name0
 have tail (h':l'≠[]):((l'.length:Int)>0)=True:=by
  cases l' with
  |nil=>exact(h' rfl).elim
  |cons a b=>simp only[Ui,eq_iff_iff,iff_true];omega
 have hlen0:(([]:List BA).length:Int)>0↔False:=by simp
 have q0:((0:Int)==0)=true:=rfl
 have q1:((1:Int)==0)=false:=rfl
 have q2:((1:Int)==1)=true:=rfl
 have q3:((2:Int)==0)=false:=rfl
 have q4:((2:Int)==1)=false:=rfl
 have q5:((2:Int)==2)=true:=rfl
 have q6:((3:Int)==0)=false:=rfl
 have q7:((3:Int)==1)=false:=rfl
 have q8:((3:Int)==2)=false:=rfl
 have q9:((3:Int)==3)=true:=rfl
 have c0:(((0:Nat):Int))=0:=rfl
 have c1:(((1:Nat):Int))=1:=rfl
 have c2:(((2:Nat):Int))=2:=rfl
 have c3:(((3:Nat):Int))=3:=rfl
 have body:aE (l,(k:Int),it,X,())=(some ((l,(k:Int),it,X,l',w',x,()):List BA×Int×List Item×Item×List BA×Bool×Item×Unit)).bind λx1=>
  (fP (x1.2.1,x1.2.2.2.2.2.2.1.name0,x1.2.2.1,())).bind λx2=>if x2.2.1.length=x1.2.2.1.length then
    (if x1.2.2.2.2.2.1=true then some ((x1.1,x1.2.1,true,x2.2.1,x1.2.2.2.1,x1.2.2.2.2.2.2.1,()):List BA×Int×Bool×List Item×Item×Item×Unit)
      else if decide ((x1.2.2.2.2.1.length:Int)>0)=true then some (x1.1,x1.2.1,true,x2.2.1,x1.2.2.2.1,x1.2.2.2.2.2.2.1,())
      else if x2.1=true then some (x1.1,x1.2.1,true,x2.2.1,x1.2.2.2.1,x1.2.2.2.2.2.2.1,())
      else if decide (x1.2.1>1)=true then if decide ((x1.2.2.2.2.2.2.1.names.length:Int)>12)=true then some (x1.1,x1.2.1,true,x2.2.1,x1.2.2.2.1,x1.2.2.2.2.2.2.1,())
       else(Bo (aa.mk x1.2.2.2.2.2.2.1.layout.kind x1.2.2.2.2.2.2.1.layout.n x1.2.2.2.2.2.2.1.layout.flag x1.2.2.2.2.2.2.1.layout.parts,())).bind λx3=>some (x1.1,x1.2.1,x3.1 !=0,x2.2.1,x1.2.2.2.1,x1.2.2.2.2.2.2.1,())
      else some (x1.1,x1.2.1,false,x2.2.1,x1.2.2.2.1,x1.2.2.2.2.2.2.1,())).bind λx3=>if x3.2.2.1=true then aE (x3.1,IntKind.i64.wrap (x3.2.1+1),x3.2.2.2.1,x3.2.2.2.2.1,())else some (.inl (true,x3.2.2.2.1,x3.2.2.2.2.2.1,()))
    else none:=by
  conv=>lhs;rw[aE]
  rcases h with⟨rfl,h⟩|⟨rfl,h⟩|⟨rfl,h⟩|⟨rfl,h⟩
  ·simp only[c0,q0,hlt,XM,TY,T0,XG,XH,TZ,T7,T5,h];rfl
  ·simp only[c1,q1,q2,hlt,XM,TY,T0,XG,XH,TZ,T7,T5,h];rfl
  ·simp only[c2,q3,q4,q5,hlt,XM,TY,T0,XG,XH,TZ,T7,T5,h];rfl
  ·simp only[c3,q6,q7,q8,q9,hlt,XM,TY,T0,XG,XH,TZ,T7,T5,h];rfl
 rw[body]
 simp only[TY,T0,XG,XH,TZ,T7,T5,h48,hwr]
 cases w' with
 |true=>
  have hn:eM it 1000 k l=none:=by
   unfold eM
   cases hf:form it 1000 k l with
   |none=>rfl
   |some z=>obtain⟨y,r⟩:=z;have:=(hm.ok rfl y r hf).1;cases this
  simp only[TY,T0,XG,XH,TZ,T7,T5,hn]
  exact congrArg (λi=>aE (l,i,it,X,())) hwr
 |false=>
  cases hf:form it 1000 k l with
  |none=>have:=hm.no rfl hf;cases this
  |some z=>
   obtain⟨y,r⟩:=z
   obtain⟨_,b,c⟩:=hm.ok rfl y r hf
   subst b c
   have ok:=xM hi hk (by omega) hf
   cases l' with
   |cons a b=>
    have hn:eM it 1000 k l=none:=by unfold eM;rw[hf]
    have:=tail (by simp)
    simp only[TY,T0,XG,XH,TZ,T7,T5,this,XM,hn]
    exact congrArg (λi=>aE (l,i,it,X,())) hwr
   |nil=>
    simp only[TY,T0,XG,XH,TZ,T7,T5,hlen0,XN]
    cases hh:fm it k x.name0 with
    |true=>
     have hn:eM it 1000 k l=none:=by unfold eM;rw[hf];simp only;rw[hh,XK rfl]
     simp only[TY,T0,XG,XH,TZ,T7,T5,hn]
     exact congrArg (λi=>aE (l,i,it,X,())) hwr
    |false=>
     have hb:(fm it (k:Int) x.name0=true)=False:=by rw[hh];simp
     by_cases hk2:1<k
     ·have hgt:((k:Int)>1):=by omega
      have h105:=(LT ok hl).2
      by_cases hv:jx x.layout=0
      ·have hn:eM it 1000 k l=some x:=by unfold eM;rw[hf];simp only[hb,XH];rw[XJ (λh=>h.2 hv)]
       have hnames:¬((x.names.length:Int)>12):=by
        have:=ok.par (by omega)
        have hbig:x.layout.big=false:=by
         cases hbg:x.layout.big with
         |false=>rfl
         |true=>
          have:x.layout.large=true:=by
           unfold aa.large
           have:x.layout.all.any aa.big=true:=Vu.2 ⟨x.layout,x.layout.mem_self,hbg⟩
           rw[this];simp
          unfold jx at hv
          rw[this,UJ,XK rfl]at hv;cases hv
        unfold aa.big at hbig
        rw[UY,decide_eq_false_iff_not]at hbig
        omega
       have hv':(jx x.layout !=0)=false:=by rw[hv];rfl
       simp only[TY,T0,XG,XH,TZ,T7,T5,hgt,XM,hnames,XN,eta,h105,hv',hn]
      ·have hn:eM it 1000 k l=none:=by unfold eM;rw[hf];simp only[hb,XH];rw[XK ⟨hk2,hv⟩]
       have hv':(jx x.layout !=0)=true:=bne_iff_ne.2 hv
       by_cases hnm:(x.names.length:Int)>12
       ·simp only[TY,T0,XG,XH,TZ,T7,T5,hgt,XM,hnm,hn]
        exact congrArg (λi=>aE (l,i,it,X,())) hwr
       ·simp only[TY,T0,XG,XH,TZ,T7,T5,hgt,XM,hnm,XN,eta,h105,hv',hn]
        exact congrArg (λi=>aE (l,i,it,X,())) hwr
     ·have hgt:¬((k:Int)>1):=by omega
      have hn:eM it 1000 k l=some x:=by unfold eM;rw[hf];simp only[hb,XH];rw[XJ (λh=>hk2 h.1)]
      simp only[TY,T0,XG,XH,TZ,T7,T5,hgt,XN,hn]
theorem f70(it:List Item)(hi:eN it)(l:List BA)(hg:tU l)(hl:l.length<=10000):jm (l,it,())=some (sa l it):=by
 obtain⟨l0,w0,x0,e0',m0⟩:=Sh it hi l hg false
 obtain⟨l1,w1,x1,e1,m1⟩:=f102 it hi l (by omega) false
 obtain⟨l2,w2,x2,e2,m2⟩:=f103 it hi l hg (by omega) false
 obtain⟨l3,w3,x3,e3,m3⟩:=f104 it hi l (by omega) false
 have s0:=ow hi (k:=0) (by omega) hl zI m0 (.inl ⟨rfl,e0'⟩)
 have s1:=ow hi (k:=1) (by omega) hl zI m1 (.inr (.inl ⟨rfl,e1⟩))
 have s2:=ow hi (k:=2) (by omega) hl zI m2 (.inr (.inr (.inl ⟨rfl,e2⟩)))
 have s3:=ow hi (k:=3) (by omega) hl zI m3 (.inr (.inr (.inr ⟨rfl,e3⟩)))
 have s0:aE (l,0,it,zI,())=match eM it 1000 0 l with|some y=>some (.inl (true,it,y,()))|none=>aE (l,1,it,zI,()):=s0
 have s1:aE (l,1,it,zI,())=match eM it 1000 1 l with|some y=>some (.inl (true,it,y,()))|none=>aE (l,2,it,zI,()):=s1
 have s2:aE (l,2,it,zI,())=match eM it 1000 2 l with|some y=>some (.inl (true,it,y,()))|none=>aE (l,3,it,zI,()):=s2
 have s3:aE (l,3,it,zI,())=match eM it 1000 3 l with|some y=>some (.inl (true,it,y,()))|none=>aE (l,4,it,zI,()):=s3
 have s4:aE (l,4,it,zI,())=some (.inr (it,zI,())):=by
  rw[aE];rfl
 have hz:Item.mk 0 (T3 #[]) 0 [] (aa.mk 0 0 false [])=zI:=rfl
 rw[jm]
 simp only[TY,T0,XG,XH,TZ,T7,T5,hz,s0,s1,s2,s3,s4]
 unfold sa j8
 cases eM it 1000 0 l with
 |some y=>rfl
 |none=>
  cases eM it 1000 1 l with
  |some y=>rfl
  |none=>
   cases eM it 1000 2 l with
   |some y=>rfl
   |none=>cases eM it 1000 3 l<;>rfl
end Go.Proofs.YtpelkenpapfadaaGreatDoor
end
section
namespace Go.Proofs.YtpelkenpapfadaaGreatDoor
open Go.Tx
set_option maxRecDepth 20000
open Classical
theorem f15(a b:List ByteArray)(hn:a.length<=9223372036854775807):LX (a,b,())=some (decide (a=b),()):=by
 have loop:∀(m k:Nat),a.length=b.length->a.length-k=m->nG (a,b,k,())=some (if a.drop k=b.drop k then .inr ()else .inl (false,())):=by
  intro m
  induction m with
  |zero=>
   intro k he hm
   have hlt:¬k<a.length:=by omega
   have hlt':¬k<b.length:=by omega
   rw[nG]
   simp only[TY,T0,T8,XG,XH,TZ,T6,T1,T2,XL,XI,T9,hlt,eX hlt,eX hlt']
  |succ m ihm=>
   intro k he hm
   have hlt:k<a.length:=by omega
   obtain⟨p,hp1,hpm,hd,g1,g2⟩:=eg hlt
   obtain⟨q,hq1,hqm,hd',_,_⟩:=eg (xs:=b) (k:=k) (by omega)
   have hih:=ihm (k+1) he (by omega)
   rw[nG]
   simp only[TY,T0,T8,XG,XH,TZ,T6,T1,T2,XL,XI,T9,hlt,hp1,hq1,aI,bC hlt hn,hih]
   rw[hd,hd']
   by_cases hpq:p=q
   ·simp[hpq]
   ·simp[hpq]
 rw[LX]
 by_cases he:a.length=b.length
 ·have h:=loop _ 0 he rfl
  simp only[Vr,Vf,UT]at h
  have he':((a.length:Int) !=(b.length:Int))=false:=by simp[he]
  simp only[he',TY,T0,T8,XG,XH,TZ,T6,T1,T2,XL,XI,T9,h]
  by_cases hp:a=b
  ·simp[hp]
  ·simp[hp]
 ·have he':((a.length:Int) !=(b.length:Int))=true:=by simp;omega
  have hp:¬a=b:=λh=>he (by rw[h])
  simp only[he',TY,T0,T8,XG,XH,TZ,T6,T1,T2,XL,XI,T9,hp,XN]
structure Item.Fits (x:Item):Prop where
 names:x.names.length<=9223372036854775807
 layout:x.layout.Fits
end Go.Proofs.YtpelkenpapfadaaGreatDoor
end
section
namespace Go.Proofs.YtpelkenpapfadaaGreatDoor
open Go.Tx
set_option maxRecDepth 20000
open Go.Lib
def wtp(x:List BA):Nat:=(x.map λt=>t.size+1).sum
def wtw(out:List (List BA)):Nat:=(out.map wtp).sum
theorem GF(a b:List BA):wtp (a++b)=wtp a+wtp b:=by simp[wtp]
theorem GG{x:List BA}{t:BA}(h:t∈x):t.size+1<=wtp x:=by
 induction x with
 |nil=>cases h
 |cons y r ih=>
  have e:wtp (y::r)=y.size+1+wtp r:=by simp[wtp]
  rcases Um.1 h with rfl|h
  ·omega
  ·have:=ih h;omega
theorem LV{out:List (List BA)}{x:List BA}(h:x∈out):wtp x<=wtw out:=by
 induction out with
 |nil=>cases h
 |cons y r ih=>
  have e:wtw (y::r)=wtp y+wtw r:=by simp[wtw]
  rcases Um.1 h with rfl|h
  ·omega
  ·have:=ih h;omega
theorem GH:∀(out:List (List BA)) (k:Nat) (t:BA),k<out.length->wtw (out.set k (out.getD k []++[t]))=wtw out+(t.size+1)
 |[],k,t,h=>by simp at h
 |x::r,0,t,h=>by
  show wtw ((x++[t])::r)=_
  have e (z:List BA):wtw (z::r)=wtp z+wtw r:=by simp[wtw]
  rw[e,e,GF,show wtp [t]=t.size+1 from by simp[wtp]];omega
 |x::r,k+1,t,h=>by
  have e (z:List (List BA)):wtw (x::z)=wtp x+wtw z:=by simp[wtw]
  have ih:=GH r k t (by simpa using h)
  show wtw (x::r.set k (r.getD k []++[t]))=_
  rw[e,e,ih];omega
theorem LW(out:List (List BA))(op:Int):wtw (opn out op).1=wtw out:=by
 unfold opn;split
 ·simp[wtw,wtp]
 ·rfl
theorem I3{B:Nat}{out:List (List BA)}{op dp:Int}(h:Inv B out op dp)(t:BA):wtw (cZ id (out,op,dp) t).1=wtw out+(t.size+1):=by
 obtain⟨k,out1,e,hk,_⟩:=h.opn
 have h2:=LW out op
 unfold cZ add
 simp only[e,T1]at h2⊢
 rw[GH _ _ _ hk,h2]
theorem wn:∀(ts:List BA) (B:Nat) (out:List (List BA)) (op dp:Int),Inv B out op dp->wtw (ts.foldl (cZ id) (out,op,dp)).1=wtw out+wtp ts
 |[],B,out,op,dp,h=>rfl
 |t::r,B,out,op,dp,h=>by
  have e:wtp (t::r)=t.size+1+wtp r:=by simp[wtp]
  have ih:=wn r (B+1) _ _ _ (h.step (f:=id) t)
  have h1:=I3 h t
  rw[Vd,e]
  have ih:wtw (r.foldl (cZ id) (cZ id (out,op,dp) t)).1=_:=ih
  omega
theorem zd:∀(n:Nat) (l:List UInt8) (i:Nat),l.length<=n->wtp ((j_ i l).map λp=>mkB p.2)<=2 *l.length
 |n,[],i,_=>by simp[da,wtp]
 |0,c::r,i,h=>by simp at h
 |n+1,c::r,i,h=>by
  rw[Ui]at h
  cases hw:isW c with
  |true=>rw[gY hw,Ui];have:=zd n r (i+1) (by omega);omega
  |false=>
   rw[gX hw,Uj]
   have h3:=ef c r
   have h2:=nb (c::r)
   have ih:=zd n ((c::r).drop (dH (c::r))) (i+dH (c::r)) (by rw[UV,Ui];omega)
   have e (t:BA) (z:List BA):wtp (t::z)=t.size+1+wtp z:=by simp[wtp]
   rw[e,c8,UU]
   rw[UV]at ih
   omega
theorem I2{B:Nat}{st:List (List BA)×Int×Int}(h:Inv B st.1 st.2.1 st.2.2)(l:List UInt8):wtw (aZ st l).1<=wtw st.1+2 *l.length:=by
 have ht:wtp (rf l)<=2 *l.length:=zd _ l 0 (Us _)
 unfold aZ;split
 ·have:wtw (st.1++[rf l])=wtw st.1+wtp (rf l):=by simp[wtw]
  simp only[this];omega
 ·have:=wn (rf l) B st.1 st.2.1 st.2.2 h
  have e:(st.1,st.2.1,st.2.2)=st:=rfl
  rw[e]at this;omega
theorem wm:∀(ls:List (List UInt8)) (B:Nat) (st:List (List BA)×Int×Int),Inv B st.1 st.2.1 st.2.2->wtw (ls.foldl aZ st).1<=wtw st.1+2 *C2 ls
 |[],B,st,h=>by simp[C2]
 |l::r,B,st,h=>by
  have ih:=wm r _ _ (h.line l)
  have h1:=I2 h l
  rw[Vd,fW];omega
theorem Fw(s:List UInt8):wtw (aN s)<=2 *s.length+2:=by
 have:=wm (lines s) 0 ([],-1,0) Inv.zero
 rw[jW]at this
 have h0:wtw ([]:List (List BA))=0:=rfl
 unfold aN
 simp only[h0]at this
 omega
structure Pcs (ps:List (List BA)):Prop where
 len:ps.length<=4097
 row:∀x∈ps,x.length<=4097
 wt:∀x∈ps,wtp x<=8194
 tok:∀x∈ps,∀t∈x,qG t
theorem p6{s:BA}(h:s.size<=4096):Pcs (aN s.data.toList):=by
 have h1:=BP s.data.toList
 have h2:=Fw s.data.toList
 rw[br]at h1 h2
 exact⟨by omega,λx hx=>by have:=h1.2 x hx;omega,λx hx=>by have:=LV hx;omega,Fv _⟩
theorem Pcs.good{ps:List (List BA)}(h:Pcs ps){x:List BA}(hx:x∈ps):tU x:=λt ht=>⟨h.tok x hx t ht,by have:=GG ht;have:=h.wt x hx;omega⟩
def pj(x:List BA):List UInt8:=Lib.join (x.map λt=>t.data.toList) [32]
def cu(x:List BA):BA:=mkB (pj x)
theorem D_(x:List BA)(t:BA)(h:x≠[]):pj (x++[t])=pj x++[32]++t.data.toList:=by
 cases x with
 |nil=>exact(h rfl).elim
 |cons y r=>
  unfold pj
  rw[Ut,Uj,Uj,Lib.join_cons,Lib.join_cons,UZ]
  simp[Lib.joinTail]
theorem D9(t:BA):pj [t]=t.data.toList:=by unfold pj;rw[WD,Lib.join_one]
theorem pk:∀x:List BA,(pj x).length<=wtp x
 |[]=>by simp[pj,Lib.join_nil]
 |y::r=>by
  have lens:∀z:List BA,Lib.lens (z.map λt=>t.data.toList)+z.length=wtp z:=by
   intro z
   induction z with
   |nil=>simp[Lib.lens,wtp]
   |cons a b ih=>
    have e:wtp (a::b)=a.size+1+wtp b:=by simp[wtp]
    have e2:Lib.lens ((a::b).map λt=>t.data.toList)=a.size+Lib.lens (b.map λt=>t.data.toList):=by
     unfold Lib.lens;rw[Uj,Uj,List.sum_cons,br]
    rw[e,e2,Ui];omega
  have:=lens (y::r)
  unfold pj
  rw[Uj,Lib.join_length,Ug]
  rw[Ui,Uj]at this
  simp only[T_,Nat.one_mul];omega
theorem f36(x:List BA)(hl:x.length<=100000)(hw:wtp x<=1000000):LZ (x,())=some (cu x,()):=by
 have hj:=pk x
 rw[LZ,OJ]
 have hb:(T3 #[32]).data.toList=[32]:=rfl
 have hc:x.length<=140737488355328/\(Lib.join (x.map (·.data.toList)) [32]).length<=140737488355328:=⟨by omega,by show(pj x).length<=_;omega⟩
 simp only[hb,hc,and_self,TY,T0,XG,XH,TZ,T7,T5];rfl
theorem kb(a b:BA):a++b=mkB (a.data.toList++b.data.toList):=by
 apply zn;rw[bM,ByteArray.data_append,Array.toList_append]
theorem f50(x:List BA)(hl:x.length<=100000)(hw:wtp x<=1000000):L3 (x,())=some (cu x,()):=by
 have sz (j:Nat):(cu (x.take j)).size<=wtp x:=by
  have h1:=pk (x.take j)
  have h2:wtp (x.take j)<=wtp x:=by
   conv=>rhs;rw[<-VE j x,GF]
   omega
  unfold cu;rw[c8];omega
 have go:∀(m j:Nat),x.length-j=m->j<=x.length->mf (x,cu (x.take j),(j:Int),())=some (cu x,()):=by
  intro m
  induction m with
  |zero=>
   intro j hm hj
   have hlt:¬j<x.length:=by omega
   rw[mf]
   simp only[TY,T0,T8,XG,XH,TZ,T6,T1,T2,XL,XI,T9,hlt,XN,UP (show x.length<=j by omega)]
  |succ m ih=>
   intro j hm hj
   have hlt:j<x.length:=by omega
   obtain⟨t,hp,hpm,hd,g1,g2⟩:=eg hlt
   have h:=ih (j+1) (by omega) (by omega)
   have ht:x.take (j+1)=x.take j++[t]:=by rw[VK,hp];rfl
   have hts:=GG hpm
   have s1:=sz j
   rw[mf]
   rcases WC j with h0|h0
   ·subst h0
    have e:cu (x.take 1)=cu (x.take 0)++t:=by
     rw[show(1:Nat)=0+1 from rfl,ht,kb]
     unfold cu;rw[V2,UN,D9,bM];rfl
    have e2:¬(((0:Nat):Int)>0):=by omega
    have c1:(cu (x.take 0)).size+t.size<=4294967296:=by omega
    rw[UK,e]at h
    simp only[TY,T0,T8,XG,XH,TZ,T6,T1,T2,XL,XI,T9,hlt,e2,XM,XN,hp,c1,aR (a:=0) (by omega)]
    exact h
   ·have hne:x.take j≠[]:=λe=>by
     have:=congrArg Wd e
     rw[UU,Uw]at this;omega
    have e:cu (x.take (j+1))=cu (x.take j)++T3 #[32]++t:=by
     rw[ht,kb,kb]
     unfold cu;rw[D_ _ _ hne,bM,bM]
    have e2:((j:Int)>0):=by omega
    have hz:(T3 #[32]).size=1:=rfl
    have c1:(cu (x.take j)).size+1<=4294967296:=by omega
    have c2:(cu (x.take j)++T3 #[32]).size+t.size<=4294967296:=by rw[kb,c8,Uh,br,br,hz];omega
    rw[e]at h
    simp only[TY,T0,T8,XG,XH,TZ,T6,T1,T2,XL,XI,T9,hlt,e2,XM,hz,c1,c2,hp,aR (a:=j) (by omega)]
    exact h
 have h:=go _ 0 rfl (Vp _)
 have h:mf (x,T3 #[],0,())=some (cu x,()):=h
 rw[L3]
 simp only[h,TY,T0,XG,XH,TZ,T7,T5]
def tr:List Item->List Nat->Nat->List (List BA)->List Item×List Nat
 |it,oth,_,[]=>(it,oth)
 |it,oth,k,p::r=>match j8 it p with
  |some x=>tr (it++[x]) oth (k+1) r
  |none=>tr it (oth++[k]) (k+1) r
theorem LK:∀(ps:List (List BA)) (it:List Item) (oth:List Nat) (k:Nat),eN it->it.length+ps.length<=100000->(∀x∈ps,x.length<=10000)->(∀n∈oth,n<k)->
 eN (tr it oth k ps).1/\(tr it oth k ps).1.length+(tr it oth k ps).2.length=it.length+oth.length+ps.length/\∀n∈(tr it oth k ps).2,n<k+ps.length
 |[],it,oth,k,hi,_,_,ho=>⟨hi,by simp[tr],by simpa[tr]using ho⟩
 |p::r,it,oth,k,hi,hl,hr,ho=>by
  rw[Ui]at hl⊢
  have hp:=hr p Uf
  have hr':=λx hx=>hr x (Ua p hx)
  rw[tr]
  cases h:j8 it p with
  |some x=>
   obtain⟨a,b,c⟩:=LK r (it++[x]) oth (k+1) (hi.add (by omega) h (by omega)) (by rw[Uh,T_];omega) hr' λn hn=>by have:=ho n hn;omega
   simp only
   refine⟨a,by rw[Uh,T_]at b;omega,λn hn=>by have:=c n hn;omega⟩
  |none=>
   obtain⟨a,b,c⟩:=LK r it (oth++[k]) (k+1) hi (by omega) hr' λn hn=>by
    rcases Ur.1 hn with hn|hn
    ·have:=ho n hn;omega
    ·rw[UX.1 hn];omega
   simp only
   refine⟨a,by rw[Uh,T_]at b;omega,λn hn=>by have:=c n hn;omega⟩
def g7(l:List Nat):List Int:=l.map λ(n:Nat)=>(n:Int)
theorem eN.nil:eN []:=⟨by simp,by simp,by simp,by simp,by simp⟩
theorem Sr(ps:List (List BA))(hp:Pcs ps)(Z:List Item):∀(m j:Nat) (it:List Item) (oth:List Nat),ps.length-j=m->eN it->it.length+m<=10000->oth.length+m<=10000->
 mb (ps,(ps.length:Int),(j:Int),Z,g7 oth,it,())=some (Z,g7 (tr it oth j (ps.drop j)).2,(tr it oth j (ps.drop j)).1,()):=by
 intro m
 have hpl:=hp.len
 induction m with
 |zero=>
  intro j it oth hm hi h1 h2
  have hlt:¬j<ps.length:=by omega
  rw[mb]
  simp only[TY,T0,T8,XG,XH,TZ,T6,T1,T2,XL,XI,T9,hlt,XN,eX hlt,tr]
 |succ m ih=>
  intro j it oth hm hi h1 h2
  have hlt:j<ps.length:=by omega
  obtain⟨x,hx,hxm,hd,g1,g2⟩:=eg hlt
  have hxl:=hp.row x hxm
  have h68:=f68 it hi x (hp.good hxm) (by omega)
  unfold sa at h68
  rw[hd,tr,mb]
  cases h:j8 it x with
  |some y=>
   rw[h]at h68
   have hi2:=ih (j+1) (it++[y]) oth (by omega) (hi.add (by omega) h (by omega)) (by rw[Uh,T_];omega) (by omega)
   have ht:it.length+1<=4294967296:=by omega
   simp only[TY,T0,XG,XH,TZ,T7,T5,T9,T2,T1,hlt,XM,hx,h68,T_,ht,aR (a:=j) (by omega)]
   exact hi2
  |none=>
   rw[h]at h68
   have hi2:=ih (j+1) it (oth++[j]) (by omega) hi (by omega) (by rw[Uh,T_];omega)
   have ht:(g7 oth).length+1<=4294967296:=by unfold g7;rw[Ug];omega
   have hc:g7 oth++[(j:Int)]=g7 (oth++[j]):=by unfold g7;rw[UZ];rfl
   simp only[TY,T0,XG,XH,TZ,T7,T5,T9,T2,T1,hlt,XM,hx,h68,T_,ht,hc,aR (a:=j) (by omega)]
   exact hi2
def trS(ps:List (List BA)):List Item×List Nat:=tr [] [] 0 ps
theorem f35(ps:List (List BA))(hp:Pcs ps):Nu (ps,())=some (g7 (trS ps).2,(trS ps).1,()):=by
 have hpl:=hp.len
 have h:=Sr ps hp [] _ 0 [] [] rfl eN.nil (by simp;omega) (by simp;omega)
 have h:mb (ps,(ps.length:Int),0,[],[],[],())=some ([],g7 (trS ps).2,(trS ps).1,()):=h
 rw[Nu]
 simp only[TY,T0,XG,XH,TZ,T7,T5,h,mi]
def iH(ps:List (List BA))(k:Nat):od:=od.mk ((k:Int)+1) (cu (ps.getD k []))
theorem Ss(P:List (List aD))(ps:List (List BA))(hP:txt P=ps)(hp:Pcs ps):∀(m j:Nat) (it:List Item) (oth:List Nat),ps.length-j=m->eN it->it.length+m<=10000->oth.length+m<=10000->
 mc (P,(j:Int),it,oth.map (iH ps),())=some ((tr it oth j (ps.drop j)).1,(tr it oth j (ps.drop j)).2.map (iH ps),()):=by
 intro m
 have hpl:=hp.len
 have hPl:P.length=ps.length:=by rw[<-hP];unfold txt;rw[Ug]
 induction m with
 |zero=>
  intro j it oth hm hi h1 h2
  have hlt:¬j<ps.length:=by omega
  rw[mc]
  simp only[TY,T0,T8,XG,XH,TZ,T6,T1,T2,XL,XI,T9,hPl,hlt,XN,eX hlt,tr]
 |succ m ih=>
  intro j it oth hm hi h1 h2
  have hlt:j<ps.length:=by omega
  obtain⟨x,hx,hxm,hd,g1,g2⟩:=eg hlt
  have hltP:j<P.length:=by omega
  have hPx:∃X,P[j]?=some X/\X.map aD.text=x:=by
   refine⟨P[j],Ub hltP,?_⟩
   rw[<-hP]at hx
   unfold txt at hx
   rw[Ue,Ub hltP]at hx
   injection hx
  obtain⟨X,hX,hXt⟩:=hPx
  have hXl:X.length=x.length:=by rw[<-hXt,Ug]
  have hxl:=hp.row x hxm
  have h51:=f51 X (by omega)
  rw[hXt]at h51
  have h70:=f70 it hi x (hp.good hxm) (by omega)
  unfold sa at h70
  rw[hd,tr,mc]
  cases h:j8 it x with
  |some y=>
   rw[h]at h70
   have hi2:=ih (j+1) (it++[y]) oth (by omega) (hi.add (by omega) h (by omega)) (by rw[Uh,T_];omega) (by omega)
   have ht:it.length+1<=4294967296:=by omega
   simp only[TY,T0,XG,XH,TZ,T7,T5,T9,T2,T1,hPl,hlt,XM,hX,h51,h70,T_,ht,aR (a:=j) (by omega)]
   exact hi2
  |none=>
   rw[h]at h70
   have hi2:=ih (j+1) it (oth++[j]) (by omega) hi (by omega) (by rw[Uh,T_];omega)
   have ht:(oth.map (iH ps)).length+1<=4294967296:=by rw[Ug];omega
   have hxd:ps.getD j []=x:=by rw[Uu,hx];rfl
   have hc:oth.map (iH ps)++[od.mk ((j+1:Nat):Int) (cu x)]=(oth++[j]).map (iH ps):=by
    rw[UZ,WD,iH,hxd];rfl
   have h50:=f50 x (by omega) (by have:=hp.wt x hxm;omega)
   simp only[TY,T0,XG,XH,TZ,T7,T5,T9,T2,T1,hPl,hlt,XM,hX,h51,h70,h50,T_,ht,aR (a:=j) (by omega)]
   rw[hc];exact hi2
theorem f38(s:BA)(hs:s.size<=4096):OC (s,())=some ((trS (aN s.data.toList)).1,(trS (aN s.data.toList)).2.map (iH (aN s.data.toList)),()):=by
 have hp:=p6 hs
 have hpl:=hp.len
 obtain⟨P,h49,hP⟩:=f49 s (by omega)
 have h:=Ss P _ hP hp _ 0 [] [] rfl eN.nil (by simp;omega) (by simp;omega)
 have h:mc (P,0,[],[],())=some ((trS (aN s.data.toList)).1,(trS (aN s.data.toList)).2.map (iH (aN s.data.toList)),()):=h
 rw[OC]
 simp only[h49,h,TY,T0,XG,XH,TZ,T7,T5]
theorem Gm{ps:List (List BA)}(hp:Pcs ps):eN (trS ps).1/\(trS ps).1.length+(trS ps).2.length=ps.length/\∀n∈(trS ps).2,n<ps.length:=by
 have hpl:=hp.len
 obtain⟨a,b,c⟩:=LK ps [] [] 0 eN.nil (by simp;omega) (λx hx=>by have:=hp.row x hx;omega) (by simp)
 exact⟨a,by simp only[Uw]at b;show(tr [] [] 0 ps).1.length+(tr [] [] 0 ps).2.length=_;omega,λn hn=>by have:=c n hn;simpa using this⟩
def Ir(ps:List (List BA))(oth:List Nat):List BA:=oth.map λk=>cu (ps.getD k [])
theorem Si(ps:List (List BA))(hp:Pcs ps)(it:List Item)(oth:List Nat)(ho:∀n∈oth,n<ps.length)(hol:oth.length<=10000):∀(m j:Nat),oth.length-j=m->j<=oth.length->
 lR (ps,it,g7 oth,(oth.length:Int),(j:Int),(Ir ps oth).take j,())=some (it,Ir ps oth,()):=by
 intro m
 induction m with
 |zero=>
  intro j hm hj
  have hlt:¬j<oth.length:=by omega
  rw[lR]
  simp only[TY,T0,T8,XG,XH,TZ,T6,T1,T2,XL,XI,T9,hlt,XN,UP (show(Ir ps oth).length<=j by unfold Ir;rw[Ug];omega)]
 |succ m ih=>
  intro j hm hj
  have hlt:j<oth.length:=by omega
  obtain⟨k,hk,hkm,hd,g1,g2⟩:=eg hlt
  have hkl:=ho k hkm
  have hx:ps[k]?=some (ps.getD k []):=by rw[Uu,Ub hkl];rfl
  have hxm:ps.getD k []∈ps:=Un hx
  have h36:=f36 (ps.getD k []) (by have:=hp.row _ hxm;omega) (by have:=hp.wt _ hxm;omega)
  have hc:(g7 oth)[j]?=some (k:Int):=by unfold g7;rw[Ue,hk];rfl
  have ht:(Ir ps oth).take (j+1)=(Ir ps oth).take j++[cu (ps.getD k [])]:=by
   rw[VK];unfold Ir;rw[Ue,hk];rfl
  have h:=ih (j+1) (by omega) (by omega)
  rw[ht]at h
  have hl:((Ir ps oth).take j).length+1<=4294967296:=by rw[UU];omega
  rw[lR]
  simp only[TY,T0,XG,XH,TZ,T7,T5,T9,T2,T1,hlt,XM,hc,hx,h36,T_,hl,aR (a:=j) (by omega)]
  exact h
theorem uF(l:List Nat):(g7 l).length=l.length:=by unfold g7;rw[Ug]
def OR(s:BA):List Item×List BA:=((trS (aN s.data.toList)).1,Ir (aN s.data.toList) (trS (aN s.data.toList)).2)
theorem f11(s:BA):KO (s,())=some (if s.size<=4096 then((OR s).1,(OR s).2,0,())else([],[],3,())):=by
 rw[KO]
 by_cases hs:s.size<=4096
 ·have hs':¬((s.size:Int)>4096):=by omega
  have hp:=p6 hs
  obtain⟨a,b,c⟩:=Gm hp
  have hpl:=hp.len
  have h:=Si _ hp (trS (aN s.data.toList)).1 (trS (aN s.data.toList)).2 c (by omega) _ 0 rfl (Vp _)
  rw[V2]at h
  have h:lR (aN s.data.toList,(trS (aN s.data.toList)).1,g7 (trS (aN s.data.toList)).2,((trS (aN s.data.toList)).2.length:Int),0,[],())=_:=h
  simp only[hs',hs,XN,TY,T0,XG,XH,TZ,T7,T5,f34 s (by omega),f35 _ hp,uF,h];rfl
 ·have hs':((s.size:Int)>4096):=by omega
  simp only[hs',hs,XM,TY,T0,XG,XH,TZ,T7,T5]
theorem f37(s:BA):Nv (s,())=some (decide ((s.size:Int)>4096),()):=rfl
end Go.Proofs.YtpelkenpapfadaaGreatDoor
end
section
namespace Go.Proofs.YtpelkenpapfadaaGreatDoor
set_option maxRecDepth 20000
open Go.Lib
theorem PV(s:ByteArray)(hs:s.size<=1000000000)(a:Nat)(out:List ByteArray):∀(m n:Nat),s.size-(a+n)=m->a+n<=s.size->
 mh (s,a,n,out,())=some (s,(a:Int),((n+((s.data.toList.drop (a+n)).takeWhile mA).length:Nat):Int),out,()):=by
 intro m
 induction m with
 |zero=>
  intro n hm hl
  have hlt:¬a+n<s.size:=by omega
  rw[mh]
  simp only[iT (a:=a) (n:=n) (by omega),TY,T0,T8,XG,XH,TZ,T6,T1,T2,XL,XI,T9,hlt,XN,en hlt,V5,Uw,UF]
 |succ m ih=>
  intro n hm hl
  have hlt:a+n<s.size:=by omega
  have h:=ih (n+1) (by omega) (by omega)
  rw[<-Vh]at h
  rw[mh,dZ hlt,Vv]
  cases h1:xW ((s.data.toList.getD (a+n) 0).toNat:Int)with
  |true=>
   have e:mA (s.data.toList.getD (a+n) 0)=true:=by unfold mA isL;rw[h1];rfl
   simp only[iT (a:=a) (n:=n) (by omega),TY,T0,T8,XG,XH,TZ,T6,T1,T2,XL,XI,T9,hlt,XM,ba hlt,f86,h1,aR (a:=n) (by omega),h,e,Ui]
   congr 4;omega
  |false=>
   cases h2:rW ((s.data.toList.getD (a+n) 0).toNat:Int)with
   |true=>
    have e:mA (s.data.toList.getD (a+n) 0)=true:=by unfold mA isL isD;rw[h1,h2];rfl
    simp only[iT (a:=a) (n:=n) (by omega),TY,T0,T8,XG,XH,TZ,T6,T1,T2,XL,XI,T9,hlt,XM,ba hlt,f86,f87,h1,h2,aR (a:=n) (by omega),h,e,Ui]
    congr 4;omega
   |false=>
    have e:mA (s.data.toList.getD (a+n) 0)=false:=by unfold mA isL isD;rw[h1,h2];rfl
    simp only[iT (a:=a) (n:=n) (by omega),TY,T0,T8,XG,XH,TZ,T6,T1,T2,XL,XI,T9,hlt,XM,ba hlt,f86,f87,h1,h2,e,Uw,UF]
theorem Ng(s:ByteArray)(hs:s.size<=1000000000)(a:Nat)(out:List ByteArray):∀(m n:Nat),s.size-(a+n)=m->a+n<=s.size->
 iu (s,a,n,out,())=some (s,(a:Int),((n+((s.data.toList.drop (a+n)).takeWhile isD).length:Nat):Int),out,()):=by
 intro m
 induction m with
 |zero=>
  intro n hm hl
  have hlt:¬a+n<s.size:=by omega
  rw[iu]
  simp only[iT (a:=a) (n:=n) (by omega),TY,T0,T8,XG,XH,TZ,T6,T1,T2,XL,XI,T9,hlt,XN,en hlt,V5,Uw,UF]
 |succ m ih=>
  intro n hm hl
  have hlt:a+n<s.size:=by omega
  have h:=ih (n+1) (by omega) (by omega)
  rw[<-Vh]at h
  rw[iu,dZ hlt,Vv]
  cases h2:rW ((s.data.toList.getD (a+n) 0).toNat:Int)with
  |true=>
   have e:isD (s.data.toList.getD (a+n) 0)=true:=h2
   simp only[iT (a:=a) (n:=n) (by omega),TY,T0,T8,XG,XH,TZ,T6,T1,T2,XL,XI,T9,hlt,XM,ba hlt,f87,h2,aR (a:=n) (by omega),h,e,Ui]
   congr 4;omega
  |false=>
   have e:isD (s.data.toList.getD (a+n) 0)=false:=h2
   simp only[iT (a:=a) (n:=n) (by omega),TY,T0,T8,XG,XH,TZ,T6,T1,T2,XL,XI,T9,hlt,XM,ba hlt,f87,h2,e,Uw,UF]
theorem PU(s:ByteArray)(hs:s.size<=1000000000):∀(m a:Nat) (out:List ByteArray),s.size-a<=m->a<=s.size->out.length<=a->
 jh (s,a,out,())=some (out++(j_ a (s.data.toList.drop a)).map (λp=>mkB p.2),()):=by
 intro m
 induction m with
 |zero=>
  intro a out hm hl ho
  have hlt:¬a<s.size:=by omega
  rw[jh]
  simp only[TY,T0,T8,XG,XH,TZ,T6,T1,T2,XL,XI,T9,hlt,XN,en hlt,da,UM,U0]
 |succ m ih=>
  intro a out hm hl ho
  by_cases hlt:a<s.size
  ·have hg:=dZ hlt
   have hl0:s.data.toList.drop a=s.data.toList.drop (a+0):=rfl
   rw[jh]
   cases hw:isW (s.data.toList.getD a 0)with
   |true=>
    have h:=ih (a+1) out (by omega) (by omega) (by omega)
    rw[hg,gY hw,<-h]
    have hw':((((s.data.toList.getD a 0).toNat:Int)==32)=true)\/((((s.data.toList.getD a 0).toNat:Int)==32)=false)/\((((s.data.toList.getD a 0).toNat:Int)==9)=true)\/
     ((((s.data.toList.getD a 0).toNat:Int)==32)=false)/\((((s.data.toList.getD a 0).toNat:Int)==9)=false)/\((((s.data.toList.getD a 0).toNat:Int)==10)=true):=by
     unfold isW at hw
     revert hw
     cases (((s.data.toList.getD a 0).toNat:Int)==32)<;>cases (((s.data.toList.getD a 0).toNat:Int)==9)<;>simp
    rcases hw' with e1|⟨e1,e2⟩|⟨e1,e2,e3⟩
    ·simp only[hlt,XM,XG,T2,T1,T9,ba hlt,e1,TY,T0,aR (a:=a) (by omega)]
    ·simp only[hlt,XM,XG,T2,T1,T9,ba hlt,e1,e2,TZ,XH,TY,T0,aR (a:=a) (by omega)]
    ·simp only[hlt,XM,XG,T2,T1,T9,ba hlt,e1,e2,e3,TZ,XH,TY,T0,aR (a:=a) (by omega)]
   |false=>
    have hw':((((s.data.toList.getD a 0).toNat:Int)==32)=false)/\((((s.data.toList.getD a 0).toNat:Int)==9)=false)/\((((s.data.toList.getD a 0).toNat:Int)==10)=false):=by
     unfold isW at hw
     revert hw
     cases (((s.data.toList.getD a 0).toNat:Int)==32)<;>cases (((s.data.toList.getD a 0).toNat:Int)==9)<;>simp
    obtain⟨e1,e2,e3⟩:=hw'
    have htl:=nb (s.data.toList.drop a)
    rw[UV,br]at htl
    have htp:=ef (s.data.toList.getD a 0) (s.data.toList.drop (a+1))
    rw[<-hg]at htp
    have h:=ih (a+dH (s.data.toList.drop a)) (out++[s.extract a (a+dH (s.data.toList.drop a))]) (by omega) (by omega) (by rw[Uh,T_];omega)
    have hx:out++(j_ a (s.data.toList.drop a)).map (λp=>mkB p.2)=(out++[s.extract a (a+dH (s.data.toList.drop a))])++(j_ (a+dH (s.data.toList.drop a)) (s.data.toList.drop (a+dH (s.data.toList.drop a)))).map (λp=>mkB p.2):=by
     rw[fG,UQ,WL]
     conv=>lhs;rw[hg,gX hw,<-hg,Uj,VY]
    rw[hx,<-h]
    have hout:(out.length+1<=4294967296):=by omega
    have hbd:(a:Int)<=((a+dH (s.data.toList.drop a):Nat):Int)/\((a+dH (s.data.toList.drop a):Nat):Int)<=(s.size:Int):=by omega
    cases h1:xW ((s.data.toList.getD a 0).toNat:Int)with
    |true=>
     have ht:dH (s.data.toList.drop a)=1+((s.data.toList.drop (a+1)).takeWhile mA).length:=by
      rw[hg,bS,XK (show isL _=true from h1)]
     have h9:=PV s hs a out _ 1 rfl (by omega)
     rw[<-ht]at h9
     have h9:mh (s,a,1,out,())=some (s,(a:Int),(dH (s.data.toList.drop a):Int),out,()):=h9
     simp only[hlt,XM,XG,T2,T1,T9,ba hlt,e1,e2,e3,TZ,XH,TY,T0,f86,h1,h9,iT (a:=a) (n:=dH (s.data.toList.drop a)) (by omega),hbd,true_and,and_self,T_,hout]
    |false=>
     cases h2:rW ((s.data.toList.getD a 0).toNat:Int)with
     |true=>
      have ht:dH (s.data.toList.drop a)=1+((s.data.toList.drop (a+1)).takeWhile isD).length:=by
       rw[hg,bS,XJ (by rw[show isL _=false from h1];exact Up),XK (show isD _=true from h2)]
      have h9:=Ng s hs a out _ 1 rfl (by omega)
      rw[<-ht]at h9
      have h9:iu (s,a,1,out,())=some (s,(a:Int),(dH (s.data.toList.drop a):Int),out,()):=h9
      simp only[hlt,XM,XG,T2,T1,T9,ba hlt,e1,e2,e3,TZ,XH,TY,T0,f86,f87,h1,h2,h9,iT (a:=a) (n:=dH (s.data.toList.drop a)) (by omega),hbd,true_and,and_self,T_,hout]
     |false=>
      have ht:dH (s.data.toList.drop a)=1:=by
       rw[hg,bS,XJ (by rw[show isL _=false from h1];exact Up),XJ (by rw[show isD _=false from h2];exact Up)]
      rw[ht]at hbd⊢
      have hw1:IntKind.i64.wrap ((a:Int)+1)=((a+1:Nat):Int):=aR (by omega)
      simp only[hlt,XM,XG,T2,T1,T9,ba hlt,e1,e2,e3,TZ,XH,TY,T0,f86,f87,h1,h2,hw1,hbd,true_and,and_self,T_,hout]
  ·rw[jh]
   simp only[TY,T0,T8,XG,XH,TZ,T6,T1,T2,XL,XI,T9,hlt,XN,en hlt,da,UM,U0]
theorem g52(s:ByteArray)(hs:s.size<=1000000000):OG (s,())=some (CP s,()):=by
 have h:=PU s hs s.size 0 [] (by omega) (by omega) (by simp)
 rw[OG]
 have h:jh (s,0,[],())=some (CP s,()):=h
 simp only[h,TY,T0,T8,XG,XH,TZ,T6,T1,T2,XL,XI,T9]
end Go.Proofs.YtpelkenpapfadaaGreatDoor
end
section
namespace Go.Proofs.YtpelkenpapfadaaGreatDoor
open Go.Tx
open IntKind (i64)
set_option maxRecDepth 100000
theorem Sy(it:List Item)(hl:it.length<=1000000000)(k:Int)(name:BA):ml (it,k,name,())=some (sM it (kn k name),k,name,()):=by
 have h:=e_ (λj=>cN (it,(it.length:Int),(j:Int),k,name,())) it (kn k name) (λj=>((j:Int),k,name,())) (k,name,()) (λj x hj hx=>by
  rw[cN]
  simp only[TY,T0,T8,XG,XH,TZ,T6,T1,T2,XL,XI,T9,hj,XM,hx,f84,aR (a:=j) (by omega)]) (by
  rw[cN]
  simp only[TY,T0,T8,XG,XH,TZ,T6,T1,T2,XL,XI,T9,V0,XN])
 have h:cN (it,(it.length:Int),0,k,name,())=_:=h
 rw[ml]
 simp only[h,TY,T0,T8,XG,XH,TZ,T6,T1,T2,XL,XI,T9,sM]
 cases it.findIdx? (kn k name)<;>rfl
theorem St(it:List Item)(hl:it.length<=1000000000)(k:Int)(name:BA):Nw (it,k,name,())=some (fm it k name,iP it k name,()):=by
 rw[Nw]
 simp only[Sy it hl,TY,T0,XG,XH,TZ,T7,T5]
 unfold fm iP
 rw[<-hO,kW]
 unfold sM
 cases h:it.findIdx? (kn k name)with
 |none=>rfl
 |some i=>
  have hi:i<it.length:=(V6.1 h).1
  have c1:¬((i:Int)<0):=by omega
  have c2:(0:Int)<=(i:Int):=by omega
  have c3:(i:Int)>=0:=by omega
  simp only[c1,c2,c3,XN,XM,XG,T1,Ub hi,T0,VF,TZ,XH]
def CQ:Nat->Nat->List UInt8->List (Nat×List UInt8)
 |0,_,_=>[]
 |_,_,[]=>[]
 |n+1,i,c::r=>if isW c then CQ n (i+1) r else(i,(c::r).take (dH (c::r)))::CQ n (i+dH (c::r)) ((c::r).drop (dH (c::r)))
theorem Gl:∀(n i:Nat) (l:List UInt8),l.length<=n->j_ i l=CQ n i l
 |0,i,[],_=>by rw[da];rfl
 |n+1,i,[],_=>by rw[da];rfl
 |n+1,i,c::r,h=>by
  rw[Ui]at h
  cases hw:isW c with
  |true=>rw[gY hw,CQ,XK hw,Gl n (i+1) r (by omega)]
  |false=>
   have h3:=ef c r
   rw[gX hw,CQ,XJ (by rw[hw];exact Up),Gl n _ _ (by rw[UV,Ui];omega)]
def OW(l:List UInt8):List BA:=(CQ l.length 0 l).map λp=>mkB p.2
def KL(st:List (List BA)×Int×Int)(l:List UInt8):List (List BA)×Int×Int:=
 if hsh l then(st.1++[OW l],st.2)else(OW l).foldl (cZ id) st
theorem HC:aZ=KL:=by
 funext st l
 have:rf l=OW l:=by unfold rf OW;rw[Gl l.length 0 l (Us _)]
 unfold aZ KL
 rw[this]
def JO(s:List UInt8):List (List BA):=((lines s).foldl KL ([],-1,0)).1
theorem vK(s:List UInt8):aN s=JO s:=by unfold aN JO;rw[HC]
def s1:BA:=T3 #[115,116,114,117,99,116,32,83,32,123,32,99,104,97,114,32,97,59,32,105,110,116,32,98,59,32,125,59]
def s2:BA:=T3 #[35,100,101,102,105,110,101,32,78,32,49,48,10,35,100,101,102,105,110,101,32,70,40,120,41,32,120,10]
def L1:aa:=aa.mk 6 0 false [aa.mk 2 8 true [],aa.mk 2 32 true []]
def i1:Item:=Item.mk 2 (T3 #[83]) 0 [T3 #[97],T3 #[98]] L1
def i2:Item:=Item.mk 0 (T3 #[78]) 10 [] z0
def p1:List (List BA):=[[bH,T3 #[83],oB,fh,T3 #[97],sB,rh,T3 #[98],sB,cB,sB]]
def p2:List (List BA):=[[rg,gp,T3 #[78],T3 #[49,48]],[rg,gp,T3 #[70],zh,T3 #[120],dz,T3 #[120]]]
theorem k1:aN s1.data.toList=p1:=by rw[vK];kernel_rfl
theorem k2:aN s2.data.toList=p2:=by rw[vK];kernel_rfl
theorem v1:jx L1=0:=by
 simp[jx,L1,aa.large,aa.all,aa.allL,aa.depth,aa.depthL,aa.big,aa.big1,aa.cells,aa.cellsL,aa.right,aa.isS,p5,NB]
def q1:List BA:=[bH,T3 #[83],oB,fh,T3 #[97],sB,rh,T3 #[98],sB,cB,sB]
def q2:List BA:=[rg,gp,T3 #[78],T3 #[49,48]]
def q3:List BA:=[rg,gp,T3 #[70],zh,T3 #[120],dz,T3 #[120]]
theorem jV{it:List Item}{k:Nat}{l:List BA}(h:form it 1000 k l=none):eM it 1000 k l=none:=by unfold eM;rw[h]
theorem t1:j8 [] q1=some i1:=by
 have h2:eM [] 1000 2 q1=some i1:=by
  have h:form [] 1000 2 q1=some (i1,[]):=by kernel_rfl
  unfold eM;rw[h]
  simp only
  rw[XJ (by decide),XJ (λh=>h.2 v1)]
 unfold j8
 rw[jV (k:=0) (l:=q1) (by kernel_rfl),jV (k:=1) (l:=q1) (by kernel_rfl),h2];rfl
theorem t2:j8 [] q2=some i2:=by
 have h2:eM [] 1000 0 q2=some i2:=by
  have h:form [] 1000 0 q2=some (i2,[]):=by kernel_rfl
  unfold eM;rw[h]
  simp only
  rw[XJ (by decide),XJ (λh=>by omega)]
 unfold j8
 rw[h2];rfl
theorem t3:j8 [i2] q3=none:=by
 unfold j8
 rw[jV (k:=0) (l:=q3) (by kernel_rfl),jV (k:=1) (l:=q3) (by kernel_rfl),jV (k:=2) (l:=q3) (by kernel_rfl),jV (k:=3) (l:=q3) (by kernel_rfl)];rfl
theorem tr1:trS p1=([i1],[]):=by
 show tr [] [] 0 [q1]=_
 rw[tr,t1];rfl
theorem tr2:trS p2=([i2],[1]):=by
 show tr [] [] 0 [q2,q3]=_
 rw[tr,t2]
 show tr [i2] [] 1 [q3]=_
 rw[tr,t3];rfl
def T4:aF:=aF.mk 4 false
theorem m1:n_80 (aa.mk 2 8 true [],T4,())=some (a_.mk 1 1,()):=by
 have h:s6 (8,())=some (1,()):=by
  rw[s6,ij];rfl
 rw[n_80]
 simp[h,T4];rfl
theorem m2:n_80 (aa.mk 2 32 true [],T4,())=some (a_.mk 4 4,()):=by
 have h:s6 (32,())=some (4,()):=by
  rw[s6,ij]
  simp only[show i64.wrap (8 *1)=8 by rfl,show i64.wrap (1 *2)=2 by rfl]
  rw[ij]
  simp only[show i64.wrap (8 *2)=16 by rfl,show i64.wrap (2 *2)=4 by rfl]
  rw[ij];rfl
 rw[n_80]
 simp[h,T4]
theorem m3:n_79 (L1,T4,())=some ([0,4],a_.mk 8 4,()):=by
 have e1:mT (0,1,())=some (0,()):=by rw[mT];rfl
 have e2:mT (1,4,())=some (4,()):=by rw[mT];rfl
 have e3:mT (8,4,())=some (8,()):=by rw[mT];rfl
 have e4:=Mb (a:=0) (b:=1) (by omega) (by omega)
 have e5:=Mb (a:=4) (b:=4) (by omega) (by omega)
 rw[n_79]
 have l3:ej (8,4,L1.parts,2,2,T4,a_.mk 0 0,[0,4],())=some (8,4,a_.mk 0 0,[0,4],()):=by rw[ej];rfl
 have l2:ej (1,1,L1.parts,2,1,T4,a_.mk 0 0,[0],())=some (8,4,a_.mk 0 0,[0,4],()):=by
  rw[ej]
  have g:L1.parts[U6 1]?=some (aa.mk 2 32 true []):=rfl
  simp only[show decide ((1:Int)<2)=true by rfl,show(0:Int)<=1 by omega,g,m2,e2,e5,TY,T0,XG,XH,TZ,T7,T5,T_,show(1+1<=4294967296)=True by simp,show min far (4+4)=8 by rfl,show max (1:Int) 4=4 by rfl,show i64.wrap (1+1)=2 by rfl]
  exact l3
 have l1:ej (0,1,L1.parts,2,0,T4,a_.mk 0 0,[],())=some (8,4,a_.mk 0 0,[0,4],()):=by
  rw[ej]
  have g:L1.parts[U6 0]?=some (aa.mk 2 8 true []):=rfl
  simp only[show decide ((0:Int)<2)=true by rfl,WY,g,m1,e1,e4,TY,T0,XG,XH,TZ,T7,T5,Uw,T_,show(0+1<=4294967296)=True by simp,show min far (0+1)=1 by rfl,show max (1:Int) 1=1 by rfl,show i64.wrap (0+1)=1 by rfl,UN]
  exact l2
 have l1:ej (0,1,L1.parts,(L1.parts.length:Int),0,T4,a_.mk 0 0,[],())=some (8,4,a_.mk 0 0,[0,4],()):=l1
 simp only[l1,e3,TY,T0,XG,XH,TZ,T7,T5]
theorem m4:OE (L1,T4,1,())=some (4,0,()):=by
 have f:L1.Fits:=xI (by omega) (by omega) (by simp) (by
  intro p hp
  rcases Um.1 hp with rfl|hp
  ·exact je (by omega) (by omega)
  ·rw[UX.1 hp];exact je (by omega) (by omega))
 have h99:E3 (L1,())=some (0,()):=by
  have:=y20 L1 f (by simp[L1,aa.all,aa.allL]) (by simp[L1,aa.depth,aa.depthL])
  rw[v1]at this;exact this
 have h71:K8 (T4,())=some (0,()):=by rw[K8];rfl
 have h72:OK (L1,T4,())=some (0,()):=by rw[OK];simp only[h99,h71,TY,T0,XG,XH,TZ,T7,T5];rfl
 have h78:OM (L1,())=some (2,()):=by rw[OM];rfl
 have h80:n_80 (L1,T4,())=some (a_.mk 8 4,()):=by
  rw[n_80]
  simp only[show(L1.kind==1)=false by rfl,show(L1.kind==2)=false by rfl,show(L1.kind==3)=false by rfl,show(L1.kind==4)=false by rfl,show(L1.kind==5)=false by rfl,show(L1.kind==6)=true by rfl,m3,TY,T0,XG,XH,TZ,T7,T5]
 have h73:OL (L1,T4,())=some (0,a_.mk 8 4,()):=by rw[OL];simp only[h80,TY,T0,XG,XH,TZ,T7,T5];rfl
 rw[OE]
 simp only[h72,h78,show((0:Int) !=0)=false by rfl,show decide ((2:Int)<0)=false by rfl,show decide ((1:Int)<0)=false by rfl,show decide ((1:Int)>=2)=false by rfl,show(L1.kind==6)=true by rfl,h73,m3,TY,T0,XG,XH,TZ,T7,T5]
 rfl
theorem m5:KO (s1,())=some ([i1],[],0,()):=by
 rw[f11,XK (by decide)]
 unfold OR
 rw[k1,tr1];rfl
theorem m6:KO (s2,())=some ([i2],[cu q3],0,()):=by
 rw[f11,XK (by decide)]
 unfold OR
 rw[k2,tr2];rfl
theorem m7:Ow (s1,T3 #[83],T3 #[98],T4,())=some (4,0,()):=by
 have h71:K8 (T4,())=some (0,()):=by rw[K8];rfl
 have h47:Nw ([i1],2,T3 #[83],())=some (true,i1,()):=by
  rw[St [i1] (by simp)];rfl
 have h40:OD (s1,T3 #[83],T4,())=some (0,i1,()):=by rw[OD];simp only[m5,h71,h47,TY,T0,XG,XH,TZ,T7,T5];rfl
 have h44:L0 (i1.names,T3 #[98],())=some (1,()):=by rw[f44 _ (by simp[i1])];rfl
 have hL:aa.mk i1.layout.kind i1.layout.n i1.layout.flag i1.layout.parts=L1:=rfl
 rw[Ow]
 simp only[h40,TY,T0,XG,XH,TZ,T7,T5,h44,hL,m4];rfl
theorem mR:Nq ()=some (true,()):=by
 have z1:T3 #[115,116,114,117,99,116,32,83,32,123,32,99,104,97,114,32,97,59,32,105,110,116,32,98,59,32,125,59]=s1:=rfl
 have z2:T3 #[35,100,101,102,105,110,101,32,78,32,49,48,10,35,100,101,102,105,110,101,32,70,40,120,41,32,120,10]=s2:=rfl
 have z3:aF.mk 4 false=T4:=rfl
 rw[Nq]
 simp only[z1,z2,z3,m6,m7,TY,T0,XG,XH,TZ,T7,T5]
 have hj:cu q3=T3 #[35,32,100,101,102,105,110,101,32,70,32,40,32,120,32,41,32,120]:=by kernel_rfl
 have hn:i2.n=10:=rfl
 simp[hj,hn]
end Go.Proofs.YtpelkenpapfadaaGreatDoor
end
section
namespace Go.Proofs.YtpelkenpapfadaaGreatDoor
open Go.Tx
set_option maxRecDepth 20000
open Go.Lib
def C0(s:BA):List BA:=(aN s.data.toList).map cu
theorem Sm(ps:List (List BA))(hp:Pcs ps):∀(m j:Nat),ps.length-j=m->j<=ps.length->lU (ps,(ps.length:Int),(j:Int),(ps.map cu).take j,())=some (ps.map cu,()):=by
 intro m
 have hpl:=hp.len
 induction m with
 |zero=>
  intro j hm hj
  have hlt:¬j<ps.length:=by omega
  rw[lU]
  simp only[TY,T0,T8,XG,XH,TZ,T6,T1,T2,XL,XI,T9,hlt,XN,UP (show(ps.map cu).length<=j by rw[Ug];omega)]
 |succ m ih=>
  intro j hm hj
  have hlt:j<ps.length:=by omega
  obtain⟨x,hk,hkm,hd,g1,g2⟩:=eg hlt
  have h36:=f36 x (by have:=hp.row _ hkm;omega) (by have:=hp.wt _ hkm;omega)
  have ht:(ps.map cu).take (j+1)=(ps.map cu).take j++[cu x]:=by rw[VK,Ue,hk];rfl
  have h:=ih (j+1) (by omega) (by omega)
  rw[ht]at h
  have hl:((ps.map cu).take j).length+1<=4294967296:=by rw[UU];omega
  rw[lU]
  simp only[TY,T0,XG,XH,TZ,T7,T5,T9,T2,T1,hlt,XM,hk,h36,T_,hl,aR (a:=j) (by omega)]
  exact h
theorem f13(s:BA):Ov (s,())=some (if s.size<=4096 then(C0 s,0,())else([],3,())):=by
 rw[Ov]
 by_cases hs:s.size<=4096
 ·have hs':¬((s.size:Int)>4096):=by omega
  have hp:=p6 hs
  have h:=Sm _ hp _ 0 rfl (Vp _)
  rw[V2]at h
  have h:lU (aN s.data.toList,((aN s.data.toList).length:Int),0,[],())=_:=h
  simp only[hs',hs,XN,TY,T0,XG,XH,TZ,T7,T5,f34 s (by omega),h];rfl
 ·have hs':((s.size:Int)>4096):=by omega
  simp only[hs',hs,XM,TY,T0,XG,XH,TZ,T7,T5]
theorem eN.it{it:List Item}(h:eN it):∀x∈it,x.Fits:=λx hx=>⟨by have:=h.names x hx;omega,h.fits x hx⟩
theorem yA(l:List BA)(h:l.length<=100000):LX (l,l,())=some (true,()):=by
 rw[f15 l l (by omega),decide_eq_true rfl]
theorem f25(s:BA):Ox (s,())=some (if s.size<=4096 then(C0 s,0,())else([],3,())):=by
 rw[Ox]
 by_cases hs:s.size<=4096
 ·have hs':¬((s.size:Int)>4096):=by omega
  have hp:=p6 hs
  have hpl:=hp.len
  obtain⟨P,h49,hP⟩:=f49 s (by omega)
  have hPl:P.length=(aN s.data.toList).length:=by rw[<-hP];unfold txt;rw[Ug]
  have go:∀(m j:Nat),P.length-j=m->j<=P.length->lZ (P,(j:Int),(C0 s).take j,())=some (C0 s,()):=by
   intro m
   induction m with
   |zero=>
    intro j hm hj
    have hlt:¬j<P.length:=by omega
    rw[lZ]
    simp only[TY,T0,T8,XG,XH,TZ,T6,T1,T2,XL,XI,T9,hlt,XN,UP (show(C0 s).length<=j by unfold C0;rw[Ug];omega)]
   |succ m ih=>
    intro j hm hj
    have hlt:j<P.length:=by omega
    obtain⟨X,hX,hXm,_,_,_⟩:=eg hlt
    have hx:(aN s.data.toList)[j]?=some (X.map aD.text):=by rw[<-hP];unfold txt;rw[Ue,hX];rfl
    have hxm:=Un hx
    have hrow:=hp.row _ hxm
    rw[Ug]at hrow
    have h50:=f50 (X.map aD.text) (by rw[Ug];omega) (by have:=hp.wt _ hxm;omega)
    have ht:(C0 s).take (j+1)=(C0 s).take j++[cu (X.map aD.text)]:=by unfold C0;rw[VK,Ue,hx];rfl
    have h:=ih (j+1) (by omega) (by omega)
    rw[ht]at h
    have hl:((C0 s).take j).length+1<=4294967296:=by rw[UU];omega
    rw[lZ]
    simp only[TY,T0,XG,XH,TZ,T7,T5,T9,T2,T1,hlt,XM,hX,f51 X (by omega),h50,T_,hl,aR (a:=j) (by omega)]
    exact h
  have h:=go _ 0 rfl (Vp _)
  rw[V2]at h
  have h:lZ (P,0,[],())=_:=h
  simp only[f37,hs',hs,XN,TY,T0,XG,XH,TZ,T7,T5,h49,h]
 ·have hs':((s.size:Int)>4096):=by omega
  simp only[f37,hs',hs,XM,TY,T0,XG,XH,TZ,T7,T5]
theorem f26(s:BA):Oy (s,())=some (if s.size<=4096 then(CP s,0,())else([],3,())):=by
 rw[Oy]
 by_cases hs:s.size<=4096
 ·have hs':¬((s.size:Int)>4096):=by omega
  simp only[hs',hs,XN,TY,T0,XG,XH,TZ,T7,T5,g52 s (by omega)]
 ·have hs':((s.size:Int)>4096):=by omega
  simp only[hs',hs,XM,TY,T0,XG,XH,TZ,T7,T5]
theorem f27(s:BA):Oz (s,())=some (if s.size<=4096 then(CP s,0,())else([],3,())):=by
 rw[Oz]
 by_cases hs:s.size<=4096
 ·have hs':¬((s.size:Int)>4096):=by omega
  have hl:=gj _ s.data.toList 0 (Us _)
  rw[br]at hl
  have h51:=f51 (T 0 s.data.toList) (by unfold T;rw[Ug];omega)
  rw[show(T 0 s.data.toList).map aD.text=CP s from by unfold T CP;rw[UH];rfl]at h51
  simp only[f37,hs',hs,XN,TY,T0,XG,XH,TZ,T7,T5,f53 s (by omega),h51]
 ·have hs':((s.size:Int)>4096):=by omega
  simp only[f37,hs',hs,XM,TY,T0,XG,XH,TZ,T7,T5]
def nY(ps:List (List BA))(k:Nat):List UInt8:=Lib.itoa ((k:Int)+1)++[58,32]++pj (ps.getD k [])++[10]
def m8(ps:List (List BA))(oth:List Nat):List UInt8:=(oth.map (nY ps)).flatten
theorem vQ(ps:List (List BA))(a:List Nat)(k:Nat):m8 ps (a++[k])=m8 ps a++nY ps k:=by simp[m8]
theorem Ky(n:Nat):(Lib.decDigits n).length<=n+1:=by
 induction n using WP with
 |ind n ih=>
  rw[Lib.decDigits]
  split
  ·simp
  ·rw[Uh,T_]
   have:=ih (n/10) (by omega);omega
theorem sO(k:Nat):(Lib.itoa ((k:Int)+1)).length<=k+2:=by
 unfold Lib.itoa
 rw[XJ (by omega)]
 have:=Ky ((k:Int)+1).toNat
 omega
theorem pn{ps:List (List BA)}(hp:Pcs ps){k:Nat}(hk:k<ps.length):(nY ps k).length<=13000:=by
 have h1:=sO k
 have hx:ps[k]?=some (ps.getD k []):=by rw[Uu,Ub hk];rfl
 have h2:=pk (ps.getD k [])
 have h3:=hp.wt _ (Un hx)
 have h4:=hp.len
 unfold nY
 simp only[Uh,Ui,Uw];omega
theorem oy{ps:List (List BA)}(hp:Pcs ps):∀(oth:List Nat),(∀n∈oth,n<ps.length)->(m8 ps oth).length<=13000 *oth.length
 |[],_=>by simp[m8]
 |k::r,h=>by
  have h1:=pn hp (h k Uf)
  have h2:=oy hp r λn hn=>h n (Ua _ hn)
  have e:m8 ps (k::r)=nY ps k++m8 ps r:=by simp[m8]
  rw[e,Uh,Ui];omega
theorem f55(k:Nat)(hk:k<=100000):L4 ((k:Int)+1,())=some (mkB (Lib.itoa ((k:Int)+1)),()):=by
 rw[L4,XK ⟨by omega,by omega⟩];rfl
theorem Ee(ps:List (List BA))(k:Nat):mkB (Lib.itoa ((k:Int)+1))++T3 #[58,32]++cu (ps.getD k [])++T3 #[10]=mkB (nY ps k):=by
 rw[kb,kb,kb,bM,bM,bM,cu,bM];rfl
def kZ(l:List UInt8):List Int:=l.map λb=>(b.toNat:Int)
theorem AK(l:List UInt8):Bs.bytes (kZ l)=mkB l:=by
 unfold Bs.bytes kZ mkB
 rw[UH]
 congr 2
 conv=>rhs;rw[<-List.map_id l]
 apply U7
 intro b _
 simp
theorem f28(s:BA):OA (s,())=some (if s.size<=4096 then(mkB (m8 (aN s.data.toList) (trS (aN s.data.toList)).2),0,())else(T3 #[],3,())):=by
 rw[OA]
 by_cases hs:s.size<=4096
 ·have hs':¬((s.size:Int)>4096):=by omega
  have hp:=p6 hs
  obtain⟨a,b,c⟩:=Gm hp
  have hpl:=hp.len
  have e34:=f34 s (by omega)
  have e35:=f35 _ hp
  generalize aN s.data.toList=ps at *
  generalize (trS ps).2=oth at *
  have go:∀(m j:Nat) (fl:Bool),oth.length-j=m->j<=oth.length->∃fl',l8 (ps,g7 oth,(oth.length:Int),(j:Int),fl,kZ (m8 ps (oth.take j)),())=some (fl',kZ (m8 ps oth),()):=by
   intro m
   induction m with
   |zero=>
    intro j fl hm hj
    have hlt:¬j<oth.length:=by omega
    refine⟨fl,?_⟩
    rw[l8]
    simp only[TY,T0,T8,XG,XH,TZ,T6,T1,T2,XL,XI,T9,hlt,XN,UP (show oth.length<=j by omega)]
   |succ m ih=>
    intro j fl hm hj
    have hlt:j<oth.length:=by omega
    obtain⟨k,hk,hkm,_,_,_⟩:=eg hlt
    have hkl:=c k hkm
    have hx:ps[k]?=some (ps.getD k []):=by rw[Uu,Ub hkl];rfl
    have hxm:=Un hx
    have hwt:=hp.wt _ hxm
    have h36:=f36 (ps.getD k []) (by have:=hp.row _ hxm;omega) (by omega)
    have hjs:(cu (ps.getD k [])).size<=8194:=by unfold cu;rw[c8];have:=pk (ps.getD k []);omega
    have his:(mkB (Lib.itoa ((k:Int)+1))).size<=5000:=by rw[c8];have:=sO k;omega
    have hc:(g7 oth)[j]?=some (k:Int):=by unfold g7;rw[Ue,hk];rfl
    have hwk:IntKind.i64.wrap ((k:Int)+1)=(k:Int)+1:=cV (by omega) (by omega)
    have z2:(T3 #[58,32]).size=2:=rfl
    have z1:(T3 #[10]).size=1:=rfl
    have c1:(mkB (Lib.itoa ((k:Int)+1))).size+2<=4294967296:=by omega
    have sz (a b:BA):(a++b).size=a.size+b.size:=by rw[kb,c8,Uh,br,br]
    have c2:(mkB (Lib.itoa ((k:Int)+1))++T3 #[58,32]).size+(cu (ps.getD k [])).size<=4294967296:=by rw[sz,z2];omega
    have c3:(mkB (Lib.itoa ((k:Int)+1))++T3 #[58,32]++cu (ps.getD k [])).size+1<=4294967296:=by rw[sz,sz,z2];omega
    have hrl:=oy hp (oth.take j) λn hn=>c n (VH hn)
    have hlr:=pn hp hkl
    have htl:(oth.take j).length<=4097:=by rw[UU];omega
    have c4:(kZ (m8 ps (oth.take j))).length+(mkB (nY ps k)).size<=4294967296:=by unfold kZ;rw[Ug,c8];omega
    have ht:oth.take (j+1)=oth.take j++[k]:=by rw[VK,hk];rfl
    obtain⟨fl',h⟩:=ih (j+1) true (by omega) (by omega)
    rw[ht,vQ]at h
    have hi:kZ (m8 ps (oth.take j))++Bs.ints (mkB (nY ps k))=kZ (m8 ps (oth.take j)++nY ps k):=by unfold kZ Bs.ints;rw[bM,UZ]
    refine⟨fl',?_⟩
    rw[l8]
    simp only[TY,T0,XG,XH,TZ,T7,T5,T9,T2,T1,hlt,XM,hc,hwk,f55 k (show k<=100000 by omega),z2,z1,c1,hx,h36,c2,c3,Ee,pO,pQ,c4,hi,aR (a:=j) (by omega)]
    exact h
  obtain⟨fl',h⟩:=go _ 0 false rfl (Vp _)
  rw[V2,show m8 ps []=[]from rfl,show kZ []=[]from rfl]at h
  have h:l8 (ps,g7 oth,(oth.length:Int),0,false,[],())=some (fl',kZ (m8 ps oth),()):=h
  have hrl:=oy hp oth c
  have c5:((kZ (m8 ps oth)).length:Int)=((kZ (m8 ps oth)).length:Int)/\(kZ (m8 ps oth)).length<=4294967296:=⟨rfl,by unfold kZ;rw[Ug];omega⟩
  simp only[hs',hs,XN,TY,T0,XG,XH,TZ,T7,T5,e34,e35,uF,h,pP,c5,and_self,AK]
 ·have hs':((s.size:Int)>4096):=by omega
  simp only[hs',hs,XM,TY,T0,XG,XH,TZ,T7,T5]
theorem f29(s:BA):OB (s,())=some (if s.size<=4096 then(mkB (m8 (aN s.data.toList) (trS (aN s.data.toList)).2),0,())else(T3 #[],3,())):=by
 rw[OB]
 by_cases hs:s.size<=4096
 ·have hs':¬((s.size:Int)>4096):=by omega
  have hp:=p6 hs
  obtain⟨a,b,c⟩:=Gm hp
  have hpl:=hp.len
  have e38:=f38 s hs
  generalize aN s.data.toList=ps at *
  generalize (trS ps).2=oth at *
  have go:∀(m j:Nat),oth.length-j=m->j<=oth.length->l9 (oth.map (iH ps),mkB (m8 ps (oth.take j)),(j:Int),())=some (mkB (m8 ps oth),()):=by
   intro m
   induction m with
   |zero=>
    intro j hm hj
    have hlt:¬j<oth.length:=by omega
    rw[l9]
    simp only[TY,T0,T8,XG,XH,TZ,T6,T1,T2,XL,XI,T9,Ug,hlt,XN,UP (show oth.length<=j by omega)]
   |succ m ih=>
    intro j hm hj
    have hlt:j<oth.length:=by omega
    obtain⟨k,hk,hkm,_,_,_⟩:=eg hlt
    have hkl:=c k hkm
    have hx:ps[k]?=some (ps.getD k []):=by rw[Uu,Ub hkl];rfl
    have hwt:=hp.wt _ (Un hx)
    have hjs:(cu (ps.getD k [])).size<=8194:=by unfold cu;rw[c8];have:=pk (ps.getD k []);omega
    have his:(mkB (Lib.itoa ((k:Int)+1))).size<=5000:=by rw[c8];have:=sO k;omega
    obtain⟨q,hc,hq1,hq2⟩:∃q:od,(oth.map (iH ps))[j]?=some q/\q.number=(k:Int)+1/\q.text=cu (ps.getD k []):=⟨iH ps k,by rw[Ue,hk];rfl,rfl,rfl⟩
    have z2:(T3 #[58,32]).size=2:=rfl
    have z1:(T3 #[10]).size=1:=rfl
    have c1:(mkB (Lib.itoa ((k:Int)+1))).size+2<=4294967296:=by omega
    have sz (a b:BA):(a++b).size=a.size+b.size:=by rw[kb,c8,Uh,br,br]
    have c2:(mkB (Lib.itoa ((k:Int)+1))++T3 #[58,32]).size+(cu (ps.getD k [])).size<=4294967296:=by rw[sz,z2];omega
    have c3:(mkB (Lib.itoa ((k:Int)+1))++T3 #[58,32]++cu (ps.getD k [])).size+1<=4294967296:=by rw[sz,sz,z2];omega
    have hrl:=oy hp (oth.take j) λn hn=>c n (VH hn)
    have hlr:=pn hp hkl
    have htl:(oth.take j).length<=4097:=by rw[UU];omega
    have c4:(mkB (m8 ps (oth.take j))).size+(mkB (nY ps k)).size<=4294967296:=by rw[c8,c8];omega
    have ht:oth.take (j+1)=oth.take j++[k]:=by rw[VK,hk];rfl
    have h:=ih (j+1) (by omega) (by omega)
    rw[ht,vQ]at h
    have hi:mkB (m8 ps (oth.take j))++mkB (nY ps k)=mkB (m8 ps (oth.take j)++nY ps k):=by rw[kb,bM,bM]
    rw[l9]
    simp only[TY,T0,XG,XH,TZ,T7,T5,Ug,T9,T2,T1,hlt,XM,hc,hq1,hq2,f55 k (show k<=100000 by omega),z2,z1,c1,c2,c3,Ee,c4,hi,aR (a:=j) (by omega)]
    exact h
  have h:=go _ 0 rfl (Vp _)
  rw[V2,show mkB (m8 ps [])=T3 #[]from rfl]at h
  have h:l9 (oth.map (iH ps),T3 #[],0,())=some (mkB (m8 ps oth),()):=h
  simp only[f37,hs',hs,XN,TY,T0,XG,XH,TZ,T7,T5,e38,h]
 ·have hs':((s.size:Int)>4096):=by omega
  simp only[f37,hs',hs,XM,TY,T0,XG,XH,TZ,T7,T5]
theorem Sz(s:BA):n_6 (s,())=some (true,()):=by
 rw[n_6]
 by_cases h6:s.size>6000
 ·have h6':((s.size:Int)>6000):=by omega
  simp only[h6',XM,TY,T0,XG,XH,TZ,T7,T5,mR]
 have h6':¬((s.size:Int)>6000):=by omega
 simp only[h6',XN,TY,T0,XG,XH,TZ,T7,T5,f13,f25,f26,f27,f28,f29]
 by_cases hs:s.size<=4096
 ·have hp:=p6 hs
  have hpl:=hp.len
  have htl:=IO s
  have h1:=yA (C0 s) (by unfold C0;rw[Ug];omega)
  have h2:=yA (CP s) (by omega)
  simp only[hs,TY,T0,XG,XH,TZ,T7,T5,h1,h2,beq_self_eq_true,mR]
 ·have h2:=yA [] (by simp)
  simp only[hs,TY,T0,XG,XH,TZ,T7,T5,h2,beq_self_eq_true,mR]
end Go.Proofs.YtpelkenpapfadaaGreatDoor
end
section
namespace Go.Proofs.YtpelkenpapfadaaGreatDoor
open Go.Tx
theorem pd(s:ByteArray)(h0:Ok vw .str s):n_6 (s,())=some (true,()):=Sz s
end Go.Proofs.YtpelkenpapfadaaGreatDoor
end
section
namespace Go.Proofs.YtpelkenpapfadaaGreatDoor.headPieces
open Go.ChangeShapes Go.WideShapes Go.ChangeAt Go.RowKit Go.Awp Go.Tx
open Go.Proofs.Tryz (prog)
theorem KK:laidOutB prog=true:=by kernel_rfl
theorem own:ownKnob prog.godebug=none:=by kernel_rfl
theorem Hl(x0:ByteArray)(h0:Ok vw .str x0):gr prog 6 [.d (aO szN Hn .str x0)] [] (.d (.v (.bool true))) []:=
 bj (by kernel_rfl) (Ny (x0,()) (true,()) (.lf .bool true) (pd x0 h0) rfl)
set_option maxRecDepth 100000 in
theorem Np(os:Os)(started:os.Started)(H:Type)(enc:TypeId×Value->H):
 ReturnsInHanded {} Tryz.checked os 6 .any (λw args=>(Rows.headPiecesSpec.pre enc prog Tryz.f6 Rows.headPiecesRow.domain false w args/\laidMetH prog Rows.headPiecesRow.laid w)/\sizedMet enc prog Tryz.f6 (OpenSpec.ofChange Rows.headPiecesSpec) false w args)
  (Rows.headPiecesSpec.post enc prog Tryz.f6 false true false false):=by
 refine returnsInHanded_of_change_and (C:=Tryz.checked) (X:=λw _=>laidMetH prog Rows.headPiecesRow.laid w) (λ_ _ _ hh h=>h.of_heap hh) own started (by kernel_rfl) Tryz.func6
  (ChangeSpec.witness_shaped (enc:=enc) (C:=Tryz.checked) (os:=os) (X:=λw _=>laidMetH prog Rows.headPiecesRow.laid w) false (World.laidAll prog os Rows.headPiecesRow.laid) #[.string VR] 8 (World.laidAll_os _ _ _)
    (World.shaped_of_ZipB (by kernel_rfl) (by kernel_rfl)) (by kernel_rfl) (by kernel_rfl) (by kernel_rfl)
    (by rw[MakeChecks.laidMetH_plain _ _ _ (by kernel_rfl)];exact laidMet_laidAll _ (by kernel_rfl) (by kernel_rfl))) ?_
 intro W base args ds gs before hval0 hW hcnd _ hL _
 have hval:∀(j:Nat) t v,Tryz.f6.params[j]?=some t->args[j]?=some v->Value.okWide prog W .any base t v:=hval0
 have hW':=hW
 obtain⟨p,q,hA0,hV,rfl,hfz,hnd⟩:=hW'
 have hA:DataW.TrodAll enc prog W 0 (λ_=>true) true Tryz.f6.params.toList args.toList ds p:=hA0
 rw[Tryz.params6]at hA hval
 obtain⟨v0,vs0,d0,ds0,p0,q0,ha0,rfl,rfl,h0,r0⟩:=trodAll_cons hA
 obtain⟨rfl,rfl,rfl⟩:=trodAll_nil r0
 obtain rfl:args= #[v0]:=by cases args;simp_all
 obtain⟨rfl,rfl⟩:=trodVars_none hV
 have hlt0:∀x∈p0,x.block<W.heap.size:=λx hx=>by simpa using hW.lt x (by simp[hx])
 obtain⟨x0,ok0,hr0⟩:=Ip facts (τ:= .str) rfl (hval 0 9 v0 rfl rfl) h0
 refine((Hl x0 ok0).closed (W:=W) (vs:= #[v0]) (DZ hL) ⟨rfl,λi c x hc hx=> ?_⟩).mono λe W' ⟨he,hb⟩=> ?_
 ·match i with
  |0=>simp at hc hx;subst hc;subst hx;exact .d hr0
  |i+1=>simp at hc
 subst he
 exact⟨_,rfl,_,_,_,[],_,[],hW,trodAll_cons_mk (shut_bool Tryz.underlying4 _) trodAll_mk0,
  (trodAll_cons_mk (Below.trod KK (by kernel_rfl) (of_decide_eq_true (by kernel_rfl)) h0 hb hlt0) trodAll_mk0),rfl,hb.frame _,(λh=>by cases h)⟩
theorem row:Rows.HeadPiecesSaid:=
 OpenClaim.holds_of_wide 6 Tryz.f6 rfl rfl rfl rfl rfl rfl rfl ⟨rfl,rfl,rfl,rfl,rfl⟩ rfl rfl rfl rfl rfl (by kernel_rfl) Tryz.func6 (by kernel_rfl)
  (of_decide_eq_true (by kernel_rfl)) (by unfold Func.isWrapper;first|(rw[XK (by decide+kernel)];kernel_rfl)|(rw[XJ (by decide+kernel)];exact⟨rfl,rfl⟩))
  (λos started H enc _=>Np os started H enc)
theorem proved:Rows.HeadPiecesCardSaid:=
 Claim7.holds_tied_plain_at .later [] [.data, .data, .data, .data, .sentinel, .sentinel, .pinned] true (true, "916f158e77d004ae93d5d2cc5423fa60a285d3b19f506b9995d5e7b77cb84306") true row (λ_ h=>by cases h) (by kernel_rfl) (λ_ h=>by cases h) headPieces_row_tie rfl ⟨rfl,rfl⟩ (by kernel_rfl) rfl
  (λf fn hf hfn=>by
    obtain rfl:f=6:=VZ ((show prog.funcNamed "mandrel/mandrellaw24.HeadPieces" =some 6 by kernel_rfl).symm.trans hf)|>.symm
    obtain rfl:fn=Tryz.f6:=(VZ (Tryz.func6.symm.trans hfn)).symm
    exact⟨by kernel_rfl,λj t ht=>by
     rw[Tryz.params6]at ht
     have hm:t∈([9]:List TypeId):=by simpa using Array.mem_of_getElem? ht
     have hall:(([9]:List TypeId).all λu=> !prog.wantsStandIn u)=true:=by kernel_rfl
     exact(show prog.wantsStandIn t=false by simpa using Uo.1 hall t hm)⟩)
  (by kernel_rfl)
end Go.Proofs.YtpelkenpapfadaaGreatDoor.headPieces
end
