/-
  Texts of this claim, joined by a program of mine: what the theorem uses.
-/
import Derived.Test.YtpndmanbfleadaaGreatDoorPkF
import Derived.Test.YtpndmanbfleadaaGreatDoorPkC
import Derived.RangeFuncBox
import Derived.RangeFuncLeaves
import Derived.Shelf.Abstract
import Derived.WalkKit
import Derived.OwnWalkIn
import Derived.TacticsInMore
import Derived.LoopNIn
import Derived.LoopIn
import Derived.Maps.AppendAt
import Derived.Sort.OwnSorted
open Array renaming getElem?_eq_some_iff→OC,replicate_succ→QA,replicate_zero→Qz
open ByteArray renaming empty→O7
open List renaming append_toArray→QC,cons_append→OG,eq_nil_of_length_eq_zero→OL,getElem?_eq_getElem→Ou,length_cons→O_,length_map→On,length_nil→Pv,map_map→OQ,nil_append→OM,push_toArray→QI,range→P9,size_toArray→P3
open Nat renaming le_refl→OO,mul_one→Qn,reduceAdd→QV,reduceSub→QU,zero_le→Pu
noncomputable section
set_option linter.unusedVariables false
set_option linter.unusedSimpArgs false
section
namespace Go.Proofs
open Go.RowKit Go.Shelf Go.Sort
open Go.Proofs.Tryz (prog)
attribute [local go_sem] Oper.semAt_some
def Tryz.upto{α:Type}(f:Nat->α)(k:Nat):List α:=(P9 k).map f
theorem Tryz.upto_succ{α:Type}(f:Nat->α)(k:Nat):Tryz.upto f (k+1)=Tryz.upto f k++[f k]:=by simp[Tryz.upto,List.range_succ]
theorem Tryz.upto_length{α:Type}(f:Nat->α)(k:Nat):(Tryz.upto f k).length=k:=by simp[Tryz.upto]
theorem Tryz.upto_all(zs:List ByteArray):Tryz.upto (λj=>zs[j]?.getD O7) zs.length=zs:=by
 apply List.ext_getElem
 ·simp[Tryz.upto]
 ·intro i h1 h2
  simp[Tryz.upto,h2]
theorem Tryz.upto_take(zs:List ByteArray){k:Nat}(hk:k<=zs.length):Tryz.upto (λj=>zs[j]?.getD O7) k=zs.take k:=by
 apply List.ext_getElem
 ·simp[Tryz.upto,hk]
 ·intro i h1 h2
  have:i<zs.length:=by simp[Tryz.upto]at h1;omega
  simp[Tryz.upto,this]
set_option maxRecDepth 100000 in
set_option maxHeartbeats 2000000 in
theorem Tryz.values1_in(F:Fence)(n:Nat)(h7:F.fn 84)(hro:F.round=none)(hn:1<=n)(l Bs n₀ b off len cap:Nat)(zs:List ByteArray)(hreach:len *16<=140737488351232)(hb:b<n₀)(J Jx:List ByteArray->World->Prop)
 (hY:∀pre x W,J pre W->pre.length<len->YieldAt F (n-1) prog l #[.string x] W λe W'=>
   (e= .returned (.bool true)/\J (pre++[x]) W'/\Below n₀ W W')\/(e= .returned (.bool false)/\Jx (pre++[x]) W'))
 (W:World)(hBs:W.cell? ⟨Bs,0,none⟩=some (.slice (some ⟨b,off,none⟩) len cap))(hc:∀j,j<len->W.cell? ⟨b,off+j,none⟩=some (.string (zs[j]?.getD O7)))(h0:J [] W):
 CallsIn F n prog 84 #[.func (.yield l) #[] #[], .pointer (some ⟨Bs,0,none⟩)] W λe W'=>(∃v,e= .returned v)/\
  ((∃ys,ys=Tryz.upto (λj=>zs[j]?.getD O7) len/\J ys W')\/(∃pre,(∃k,k<=len/\pre=Tryz.upto (λj=>zs[j]?.getD O7) k)/\Jx pre W')):=by
 refine callsIn_of_wp Tryz.func84 rfl h7 ?_ hro
 simp only[Tryz.ntmps84,P3,O_,Pv,QV,QU,QA,Qz,QI,QC,OM,OG]
 gi_wp2
 gi_loopw [7] (λi wr=>∃k:Nat,k<=len/\i= .int .i64 k/\J (Tryz.upto (λj=>zs[j]?.getD O7) k) wr/\Below n₀ W wr)
  (λi _=>len-(intOf i).toNat)
 case atStart=>exact⟨0,Pu _,rfl,h0,Below.refl _ _⟩
 case round=>
  obtain⟨k,hk,rfl,hJs,hnx⟩:=hrel
  have hcx:k<len->wr.cell? ⟨b,off+k,none⟩=some (.string (zs[k]?.getD O7)):=λh=>(hnx.cell (p:=⟨b,off+k,none⟩) hb).trans (hc k h)
  by_cases hlt:k<len
  ·obtain⟨fn,tmps,assign,body,hy,hR⟩:=hY _ (zs[k]?.getD O7) wr hJs (by rw[Tryz.upto_length];exact hlt)
   have hcx':=hcx hlt
   gi_wp2
   refine hR.mono ?_
   rintro e W3 (⟨rfl,hJ3,hk3⟩|⟨rfl,hJx3⟩)
   ·gi_wp2
    go_roundw
    case rel=>exact⟨k+1,by omega,by simp,by rw[Tryz.upto_succ];exact hJ3,hnx.trans hk3⟩
    case measure=>simp[intOf];omega
   ·gi_wp2
    refine bodyPost_ret (results_none rfl _ _ _) rfl ?_
    exact⟨⟨_,rfl⟩, .inr ⟨_,⟨k+1,by omega,(Tryz.upto_succ _ _).symm⟩,hJx3⟩⟩
  ·obtain rfl:k=len:=by omega
   gi_wp2
   go_end0
   exact⟨⟨_,rfl⟩, .inl ⟨_,rfl,hJs⟩⟩
def Tryz.Strs(n₀:Nat)(W:World)(sv:Value)(zs:List ByteArray):Prop:=
 (zs=[]/\∃a c,sv= .slice a 0 c)\/∃b off cap,sv= .slice (some ⟨b,off,none⟩) zs.length cap/\b<n₀/\∀j,j<zs.length->W.cell? ⟨b,off+j,none⟩=some (.string (zs[j]?.getD O7))
theorem Tryz.Strs.below{n₀:Nat}{A B:World}(h:Below n₀ A B){sv:Value}{zs:List ByteArray}:Tryz.Strs n₀ A sv zs->Tryz.Strs n₀ B sv zs
 | .inl e=> .inl e
 | .inr ⟨b,off,cap,e,hb,hc⟩=> .inr ⟨b,off,cap,e,hb,λj hj=>(h.cell (p:=⟨b,off+j,none⟩) hb).trans (hc j hj)⟩
set_option maxRecDepth 100000 in
set_option maxHeartbeats 1000000 in
theorem Tryz.values1_nil_in(F:Fence)(n:Nat)(h7:F.fn 84)(hro:F.round=none)(l Bs:Nat)(a:Option Addr)(c:Nat)(J:List ByteArray->World->Prop)(W:World)(hBs:W.cell? ⟨Bs,0,none⟩=some (.slice a 0 c))(h0:J [] W):
 CallsIn F n prog 84 #[.func (.yield l) #[] #[], .pointer (some ⟨Bs,0,none⟩)] W λe W'=>(∃v,e= .returned v)/\J [] W':=by
 refine callsIn_of_wp Tryz.func84 rfl h7 ?_ hro
 simp only[Tryz.ntmps84,P3,O_,Pv,QV,QU,QA,Qz,QI,QC,OM,OG]
 gi_wp2
 gi_loopw [7] (λi wr=>i= .int .i64 0/\J [] wr) (λ_ _=>0)
 case atStart=>exact⟨rfl,h0⟩
 case round=>
  obtain⟨rfl,hJs⟩:=hrel
  gi_wp2
  go_end0
  exact⟨⟨_,rfl⟩,hJs⟩
theorem Tryz.values_stops(F:Fence)(n:Nat)(h7:F.fn 84)(hro:F.round=none)(hn:1<=n)(Bs n₀:Nat)(sv:Value)(zs:List ByteArray)(hreach:zs.length *16<=140737488351232)(w:World)(hBs:Bs<w.heap.size)(hn₀:n₀<=w.heap.size)
 (hc:w.cell? ⟨Bs,0,none⟩=some sv)(hI:Tryz.Strs n₀ w sv zs):
 SeqStopsK F n prog 84 #[.pointer (some ⟨Bs,0,none⟩)] (λx:ByteArray=> #[Value.string x]) (Below n₀) (λys=>ys=zs) (λpre=>pre<+:zs) zs.length w:=λl J Jx W hW _ _ hY h0=>by
 have hc':=(hW.cell (p:=⟨Bs,0,none⟩) hBs).trans hc
 rcases hI.below (hW.mono hn₀)with⟨rfl,a,c,rfl⟩|⟨b,off,cap,rfl,hb,hcs⟩
 ·exact(Tryz.values1_nil_in F n h7 hro l Bs a c J W hc' h0).mono λe W' ⟨he,hj⟩=>⟨he, .inl ⟨_,rfl,hj⟩⟩
 ·refine(Tryz.values1_in F n h7 hro hn l Bs n₀ b off zs.length cap zs hreach hb J Jx hY W hc' hcs h0).mono ?_
  rintro e W' ⟨he,⟨ys,rfl,hj⟩|⟨pre,⟨k,hk,rfl⟩,hj⟩⟩
  ·exact⟨he, .inl ⟨_,Tryz.upto_all zs,hj⟩⟩
  ·exact⟨he, .inr ⟨_,by rw[Tryz.upto_take zs hk];exact List.take_prefix _ _,hj⟩⟩
theorem Tryz.info9s:(prog.info? 9).map (λi=>(i.zero,i.size,i.bytes))=some (some (.string O7),1,16):=by kernel_rfl
set_option maxRecDepth 100000 in
set_option maxHeartbeats 2000000 in
theorem Tryz.appendSeq_in(F:Fence)(n:Nat)(h111:F.fn 111)(h84:F.fn 84)(hro:F.round=none)(hn:3<=n)(Bs:Nat)(sv:Value)(zs:List ByteArray)(hreach:zs.length *16<=140737488351232)(w:World)(hBs:Bs<w.heap.size)
 (hcell:w.cell? ⟨Bs,0,none⟩=some sv)(hI:Tryz.Strs w.heap.size w sv zs):
 CallsIn F n prog 111 #[.slice none 0 0, .func (.func 84) #[] #[.pointer (some ⟨Bs,0,none⟩)]] w λe W'=>∃v,e= .returned v/\W'.ownsRow w.heap.size 9 1 v zs.length (zs.map Value.string)/\Below w.heap.size w W':=by
 have h1:1<=n:=by omega
 have hlen:zs.length<=maxLen:=by unfold maxLen;omega
 have hbytes:zs.length *16<=140737488355328:=by omega
 obtain⟨i0,hi,hz0,hz1,hz2⟩:=info_parts Tryz.info9s
 refine callsIn_of_wp_marks Tryz.func111 rfl h111 ?_ hro
 simp only[Tryz.ntmps111,P3,O_,Pv,QV,QU,QA,Qz,QI,QC,OM,OG]
 gi_wp2
 have bO:=Boxed.new w 22 (.slice none 0 0)
 have hB0:Below w.heap.size w (w.alloc (.cells #[.slice none 0 0] 22)):=(Below.refl _ w).alloc (OO _) _
 refine wpIn_rangeFunc_ownG hro h1 (gf:=84) (lb:= #[.pointer (some ⟨Bs,0,none⟩)]) rfl h84 (enters_of Tryz.func84 (by kernel_rfl) rfl)
  (Tryz.values_stops F (n-1) h84 hro (by omega) Bs w.heap.size sv zs hreach _ (by simp;omega) (by simp) ((hB0.cell (p:=⟨Bs,0,none⟩) hBs).trans hcell) (hI.below hB0)) belowK_t (belowK_b (by simp)) (Below.refl _ _) (λ_=>rfl)
  (λpre W=>(∃v,Boxed W w.heap.size 22 v/\W.ownsRow w.heap.size 9 1 v pre.length (pre.map Value.string)/\(v= .slice none 0 0↔pre=[]))/\Below w.heap.size w W)
  (λ_ _ _=>False)
  (OwnFrom.and (Own.from (holdsRow_own w.heap.size w.heap.size 22 9 1 (λpre=>pre.length) (λpre=>pre.map Value.string) (λpre v=>v= .slice none 0 0↔pre=[])) _) (ownFrom_below (OO _) (by simp)))
  (λ_ _ _ _ _ hs _ _=>hs)
  ⟨⟨_,bO,World.ownsRow_nil _ _ _ _,by simp⟩,hB0⟩
  (λx=>{tmps:= #[.slice none 0 0, .func (.func 84) #[] #[.pointer (some ⟨Bs,0,none⟩)], .pointer (some ⟨w.heap.size,0,none⟩),undef, .slice none 0 0, .string x, .func (.func 84) #[] #[.pointer (some ⟨Bs,0,none⟩)], .string x,undef,undef,undef,undef,undef],defers:=[]}) ?assign ?body ?done ?stop
 case assign=>
  intro l x W K hK
  gi_wp2
  exact hK
 case body=>
  rintro l pre x W ⟨⟨v,hv,hrow,hnil⟩,hB⟩ hlt
  have hc:=hv.cell
  gi_wp2_with (gi_at_builtin;refine wpListIn_append_own _ rfl _ _ 22 rfl w.heap.size 9 i0 (.string O7) 1 16 Tryz.underlying22 hi hz0 hz1 hz2 rfl (by decide) _ _ _ rfl (hrow.alloc _) ⟨W.heap.size,0,none⟩ 1 1 [.string x] rfl rfl (cell_one_new _ _ _) (by simp[Value.oneCell']) (by omega) (by omega) (by have:=hB.size;simp;omega) ?_;intro v' w1 hown' hgrow _;obtain⟨g',cap',rfl⟩:=ownsRow_succ hown';obtain⟨hv1,hv2,hr2,hk2,hb2⟩:=hv.appended (by decide) hrow hB.size (OO _) hown' hgrow;have hc1:=hv1.cell;have hf1:=hv1.frozen)
  exact⟨hk2.from _,hb2,⟨_,hv2,by simpa using hr2,by simp⟩,hB.trans hb2⟩
 case done=>
  rintro D ys W hD rfl ⟨⟨v,hv,hrow,hnil⟩,hB⟩ hK
  have hc:=hv.cell
  gi_wp2
  refine⟨by simp, .inl ⟨_,_,rfl,run_takeDeferred hK,?_⟩⟩
  exact⟨_,results_tmp rfl _ _ _,v,rfl,ownsRow_putObj hrow _ hK rfl,hB.trans (belowK_b (w:=w) (OO _) W D _ _ (by simp at hD;omega) hK rfl rfl)⟩
 case stop=>
  rintro D c pre W _ _ h _
  exact h.elim
set_option maxRecDepth 100000 in
set_option maxHeartbeats 2000000 in
theorem Tryz.collect_in(F:Fence)(n:Nat)(h83:F.fn 83)(h111:F.fn 111)(h84:F.fn 84)(hro:F.round=none)(hn:4<=n)(Bs:Nat)(sv:Value)(zs:List ByteArray)(hreach:zs.length *16<=140737488351232)(w:World)(hBs:Bs<w.heap.size)
 (hcell:w.cell? ⟨Bs,0,none⟩=some sv)(hI:Tryz.Strs w.heap.size w sv zs):
 CallsIn F n prog 83 #[.func (.func 84) #[] #[.pointer (some ⟨Bs,0,none⟩)]] w λe W'=>∃v,e= .returned v/\W'.ownsRow w.heap.size 9 1 v zs.length (zs.map Value.string)/\Below w.heap.size w W':=by
 have h1:1<=n:=by omega
 have hA:=Tryz.appendSeq_in F (n-1) h111 h84 hro (by omega) Bs sv zs hreach w hBs hcell hI
 refine callsIn_of_wp Tryz.func83 rfl h83 ?_ hro
 simp only[Tryz.ntmps83,P3,O_,Pv,QV,QU,QA,Qz,QI,QC,OM,OG]
 gi_wp2_with (gi_at_call 111;refine hA.mono ?_;rintro e w' ⟨v,rfl,hrow,hb⟩)
 go_ret
 exact⟨v,rfl,hrow,hb⟩
set_option maxRecDepth 100000 in
set_option maxHeartbeats 2000000 in
theorem Tryz.sortedVals:Go.Tx.p_ prog 63 84:=by
 intro Bs sv xs w hl hcell hs
 refine(callsIn_wide (n:=6)).1 ?_
 have hBs:Bs<w.heap.size:=World.block_lt_of_cell? w (a:=⟨Bs,0,none⟩) hcell
 have hI:Tryz.Strs w.heap.size w sv xs:=by
  rcases hs with h|⟨b2,off,c,h,hc⟩
  ·exact .inl h
  ·by_cases hx:xs=[]
   ·exact .inl ⟨hx,_,_,by rw[h,hx];rfl⟩
   ·refine .inr ⟨b2,off,c,h,?_,λj hj=> ?_⟩
    ·obtain⟨x,hx0⟩:∃x,xs[0]?=some x:=by
      match xs,hx with
      |x::r,_=>exact⟨x,rfl⟩
     exact World.block_lt_of_cell? w (a:=⟨b2,off+0,none⟩) (hc 0 x hx0)
    ·rw[hc j xs[j] (Ou hj),Ou hj];rfl
 have hC:=Tryz.collect_in Fence.wide 5 trivial trivial trivial rfl (by omega) Bs sv xs (by omega) w hBs hcell hI
 have hf1:Fence.wide.fn 83:=trivial
 have hf2:Fence.wide.fn 46:=trivial
 refine callsIn_of_wp Tryz.func63 rfl trivial ?_ rfl
 simp only[Tryz.ntmps63,P3,O_,Pv,QV,QU,QA,Qz,QI,QC,OM,OG]
 gi_wp2_with (gi_at_call 83;refine hC.mono ?_;rintro e W ⟨v,rfl,hrow,hb⟩)
 rcases hrow.2 with⟨rfl,hz⟩|⟨gb,cap,cur,rfl,hbase,hgb,r1,r2,r3,r4⟩
 ·have hss:xs=[]:=OL hz
  subst hss
  gi_wp2_with (gi_at_call 46;refine(callsIn_wide.2 (Tryz.slices_Sort_string_none none 0 W)).mono ?_;rintro e w' ⟨rfl,rfl⟩)
  go_ret
  exact⟨.slice none 0 0,9,rfl,by simpa using hrow,hb⟩
 ·have hH:Holds encStr W gb 0 (xs.map λs=>s.data.toList).toArray:=holds_of_block hgb (by
   rw[On,OQ]
   rw[Qn]at r4
   exact r4)
  have hgl:gb<W.heap.size:=(OC.1 hgb).1
  have cS:=Tryz.slices_Sort_string gb 0 cap (xs.map λs=>s.data.toList) W hH hgl (by rw[On];omega)
  rw[On]at cS
  gi_wp2_with (gi_at_call 46;refine(callsIn_wide.2 cS).mono ?_;rintro e w' ⟨rfl,nn,os,rfl⟩)
  go_ret
  refine⟨_,9,rfl,?_,hb.grown (grownBy_sorted _) hb.size (λj hj=>by cases hj;exact hbase)⟩
  have h9:=ownsRow_sorted (ss:=xs.map λs:ByteArray=>s.data.toList) (ts:=(xs.map λs:ByteArray=>s.data.toList).mergeSort λx y=>decide (x<=y)) (n:=nn) (os:=os) (by simp) hbase hgb (by rw[On];exact r1) r2 r3
  rw[On]at h9
  exact h9
end Go.Proofs
end
