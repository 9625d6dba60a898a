/-
  Texts of this claim, joined by a program of mine: what the theorem uses.
-/
import Derived.Test.YtpelkenpapfadaaGreatDoorPkC
import Derived.Scope
open Array renaming getElem?_append_left→Wa,getElem?_eq_getElem→UO,replicate→VM,toList_inj→VO
open Bool renaming and_eq_true→Uk,eq_false_iff→W6,not_eq_true'→VP,or_eq_false_iff→UY,or_eq_true→UI
open Function renaming comp→W4
open Int renaming le_refl→WY
open List renaming all_cons→Vq,all_eq_true→Uo,all_map→VJ,any_eq_true→Vu,append_assoc→UQ,append_nil→U0,cons_append→Ut,drop_drop→VY,drop_zero→UT,eq_nil_of_length_eq_zero→UE,eraseIdx_cons_succ→Xg,ext_getElem?→Vm,filterMap_cons→VD,getElem?_eq_getElem→Ub,getElem?_eq_some_iff→Uc,getElem?_map→Ue,getElem_of_mem→Ww,length→Wd,length_append→Uh,length_cons→Ui,length_drop→UV,length_map→Ug,length_nil→Uw,length_replicate→WM,length_set→Vk,length_take→UU,map→VI,map_append→UZ,map_congr_left→U7,map_cons→Uj,map_drop→VU,map_map→UH,map_nil→UM,map_set→Wh,map_take→VT,mem_append_left→Vy,mem_append_right→VN,mem_cons→Um,mem_cons_of_mem→Ua,mem_cons_self→Uf,mem_filter→Wz,mem_map→Uy,mem_map_of_mem→Uv,mem_of_getElem?→Un,nil_append→UN,nodup_cons→Vi,range→V3,replicate→U5,take_of_length_le→UP,take_zero→V2
open List.cons renaming injEq→VQ
open Nat renaming add_zero→UF,beq→Vb,beq_refl→Wg,ble→V7,blt→VA,blt_eq→VG,eq_of_beq_eq_true→US,le_of_ble_eq_true→Vn,le_refl→Us,min_eq_left→Xi,mul_le_mul→WV,sub_zero→W9,zero_add→UK
open Ne renaming symm→UG
open Option renaming bind_eq_some_iff→Vw,bind_some→T0,getD_some→VF,map_eq_some_iff→Ul,map_map→Xl,map_none→Wx,map_some→UB
open Option.some renaming injEq→Ud
open Prod.mk renaming injEq→UC
noncomputable section
set_option linter.unusedSectionVars false
set_option linter.unusedSimpArgs false
section
namespace Go.Tx
open Go.Awp
variable [Inhabited GMem]
section
variable {V:mz} {P:Program} {nm:Nat->Nat} {call:bz V} {A:Type} {S:TS V.N} {k:TE V.N->Option A} {r:A} {o:Oper} {ex:Bool}
theorem lQ(l:List H):H.le (cU l) (.agg l):=λE M v h=>by
 unfold cU at h
 split at h
 ·rename_i ds hds
  obtain⟨cs,rfl,h1,h2⟩:=h.dagg
  obtain⟨g1,g2⟩:=f7 hds
  refine .agg cs l (by omega) λi c x hc hx=> ?_
  rw[g2]at hx
  cases hd:ds[i]? with
  |none=>rw[hd]at hx;cases hx
  |some d=>rw[hd]at hx;simp at hx;subst hx;exact .d (h2 i c d hc hd)
 ·exact h
theorem sV(l:List H):H.le (.agg l) (cU l):=λE M v h=>by
 obtain⟨cs,rfl,h1,h2⟩:=h.hagg
 exact aL.mk_agg h1 h2
theorem Jd{l l':List H}(hl:l.length=l'.length)(h:∀(i:Nat) (x:H),l'[i]?=some x->∃y,l[i]?=some y/\H.le y x):H.le (.agg l) (.agg l'):=λE M v hv=>by
 obtain⟨cs,rfl,h1,h2⟩:=hv.hagg
 refine .agg cs l' (by omega) λi c x hc hx=> ?_
 obtain⟨y,hy,hle⟩:=h i x hx
 exact hle E M c (h2 i c y hc hy)
theorem wb{l l':List H}(hl:l.length=l'.length)(h:∀(i:Nat) (x:H),l'[i]?=some x->∃y,l[i]?=some y/\H.le y x):H.le (.tup l) (.tup l'):=λE M v hv=>by
 obtain⟨cs,rfl,h1,h2⟩:=hv.htup
 refine .tup cs l' (by omega) λi c x hc hx=> ?_
 obtain⟨y,hy,hle⟩:=h i x hx
 exact hle E M c (h2 i c y hc hy)
theorem OLe.vec{te:TypeId}{sz:Nat}{a b:List (List D)}(h:D.Rows a b):OLe (.vec te sz a) (.vec te sz b):=by
 refine⟨?_,λ_ _ _ _ _ _ h=>h⟩
 rintro E M w n ⟨xs,h1,h2,h3,h4⟩
 refine⟨xs,by rw[<-h.len];exact h1,λr hr=> ?_,λi j r c x hr hx hc=> ?_,h4⟩
 ·obtain⟨i,hi,rfl⟩:=Ww hr
  obtain⟨y,hy,hyr⟩:=h.get i _ (Ub hi)
  rw[<-hyr.len];exact h2 y (Un hy)
 ·obtain⟨y,hy,hyr⟩:=h.get i r hr
  obtain⟨z,hz,hzx⟩:=hyr.get j x hx
  exact hzx M c (h3 i j y c z hy hz hc)
theorem Gq{x:Operand}(ho:o.op= .move x\/o.op= .assign x)(h:tx V P nm call ex o S k=some r):OpS ex P nm o S k r:=by
 have hk:k {val:=tev S x}=some r:=by rcases ho with ho|ho<;>simpa only[tx,ho]using h
 refine aA hk λK hK=> ?_
 rcases ho with ho|ho<;>(simp only[aV,ho,au];exact hK)
theorem LP{c x y:Operand}(ho:o.op= .pick c x y)(h:tx V P nm call ex o S k=some r):OpS ex P nm o S k r:=by
 simp only[tx,ho]at h
 split at h
 ·rename_i b hb
  cases b with
  |true=>
   refine aA (by simpa using h) λK hK=> ?_
   simp only[aV,ho,au,hb,an,aO];exact hK
  |false=>
   refine aA (by simpa using h) λK hK=> ?_
   simp only[aV,ho,au,hb,an,aO];exact hK
 ·cases h
theorem jY{ω:Nat->Nat}{z:List Value}(hz:z.all d7=true):encL V ω (z.map tvc)=z.map λx=> .d (.v x):=by
 rw[encL_map,UH]
 rw[Uo]at hz
 refine U7 λx hx=> ?_
 have:=hz x hx
 simp only[W4,LS]
 cases x<;>first|(simp[d7]at this;done)|rfl
theorem IP{t:TypeId}(ho:o.op= .alloc t)(h:tx V P nm call ex o S k=some r):OpS ex P nm o S k r:=by
 simp only[tx,ho]at h
 split at h
 ·rename_i z d hz hd
  obtain⟨hz1,h⟩:=ao h
  refine Fr (d:=d) (λω=>rfl) h (rS λx hx=> ?_) λK hK=> ?_
  ·obtain⟨v,_,rfl⟩:=Uy.1 hx
   cases v<;>simp[tvc,TV.has]
  ·simp only[aV,ho,hz,hd]
   rw[jY hz1]at hK;exact hK
 ·cases h
theorem Oj{t:TypeId}{x:Operand}(ho:o.op= .box t x)(hf:∀te,k te=some r->∀d∈te.new,S.fresh d=true)(h:tx V P nm call ex o S k=some r):OpS ex P nm o S k r:=by
 simp only[tx,ho]at h
 split at h
 ·rename_i cs d hcs hd
  have hfr:=hf _ h (nm d) (by simp)
  refine Fr (d:=d) (oty:=HA V t cs) (λω=>vN hcs) h (xz hcs (Gg hfr x)) λK hK=> ?_
  simp only[aV,ho,au,dh (ω:=S.len) hcs,hd]
  refine⟨HA V t cs,?_,hK⟩
  unfold HA
  split
  ·exact .inr rfl
  ·exact .inl rfl
 ·cases h
theorem LN{t:TypeId}{x:Operand}(ho:o.op= .load t x)(h:tx V P nm call ex o S k=some r):OpS ex P nm o S k r:=by
 simp only[tx,ho]at h
 split at h
 ·rename_i ag sz ht
  split at h
  ·rename_i n off hx
   split at h
   ·rename_i v hw
    unfold Ai at hw
    split at hw
    ·rename_i i y hn
     have hw':=ao hw;clear hw
     obtain⟨⟨e1,e2,e3,hot⟩,hw⟩:=hw'
     subst e1;subst e2;subst e3
     simp only[Ud]at hw;subst hw
     have hb:Hd V (S.own? n)=some ((V.cells i y).map λl=> .lf l.t l.x):=by rw[hn];rfl
     refine aA h λK hK=> ?_
     simp only[aV,ho,ht,au,hx,ix hb,kB,gH,UT]
     rw[sF]at hK
     simp only[an,ix hb,kB,Ug,UT]
     have hl:(V.enc i y).length=V.sz i:=by rw[V.enc_cells,Ug,V.len_cells]
     rw[XK (by omega),UP (by rw[Ug];omega),cU,eV]
     exact hK
    ·cases hw
   ·split at h
    ·rename_i cells hc
     split at h
     ·rename_i v hv
      obtain⟨y,h1,h2,h3⟩:=lg (ω:=S.len) hv
      rw[jc]at h1
      refine nM h λK hK=> ?_
      simp only[aV,ho,ht,au,hx,an,ix hc,h1]
      exact hK y h2 h3
     ·cases h
    ·cases h
  ·rename_i n s i off hx
   split at h
   ·rename_i te e xs hc
    obtain⟨hs,h⟩:=ao h
    obtain⟨y,hy,h⟩:=bB h
    split at h
    ·rename_i v hv
     obtain⟨d,h1,h2⟩:=ld (ω:=S.len) hv
     refine aA h λK hK=> ?_
     simp only[aV,ho,ht,au,hx,an,fR hc,Ue,hy,UB,h1]
     refine⟨hs,?_⟩
     rw[<-h2];exact hK
    ·cases h
   ·cases h
  ·rename_i t' y off hx
   split at h
   ·rename_i v hv
    obtain⟨d,h1,h2⟩:=ld (ω:=S.len) hv
    refine aA h λK hK=> ?_
    simp only[aV,ho,ht,au,hx,an,h1]
    rw[<-h2];exact hK
   ·cases h
  ·cases h
 ·cases h
theorem IZ{t:TypeId}{x y:Operand}(ho:o.op= .store t x y)(h:tx V P nm call ex o S k=some r):OpS ex P nm o S k r:=by
 simp only[tx,ho]at h
 split at h
 ·rename_i ag sz ht
  split at h
  ·rename_i n off cs hx hy
   split at h
   ·rename_i cells hc
    have h':=ao h;clear h
    obtain⟨⟨h1,h2,h3⟩,h⟩:=h'
    split at h
    ·rename_i hwh
     obtain⟨e0,hsz⟩:=hwh
     subst e0
     refine tz h (by rw[zo hc];exact FH) λK hK=> ?_
     simp only[aV,ho,ht,au,hx,an,ix hc,dh (ω:=S.len) hy,aG]
     refine⟨⟨h1,eW h2,h3⟩,?_⟩
     rw[vN hy]at hK
     simp only[fU,aG,V2,UN,UK]
     rw[List.drop_of_length_le (by rw[aG];omega),U0]
     exact hK
    ·refine tz h (by rw[zo hc];rfl) λK hK=> ?_
     simp only[aV,ho,ht,au,hx,an,ix hc,dh (ω:=S.len) hy,aG]
     refine⟨⟨h1,eW h2,h3⟩,?_⟩
     simp only[bg,g8,uK,jc]at hK
     simp only[fU,aG]
     exact hK
   ·cases h
  ·rename_i n s i off cs hx hy
   split at h
   ·rename_i te e xs hc
    obtain⟨⟨h0,h1,h2,h3⟩,h⟩:=ao h
    obtain⟨x',hx',h⟩:=bB h
    split at h
    ·rename_i y' hy'
     obtain⟨ds,e1,_,e3⟩:=iw (ω:=S.len) hy'
     have e3:=e3 rfl
     subst e3
     have hcs:∃es,gk (encL V S.len cs)=some es/\dc V.sz V.enc e y'=(dc V.sz V.enc e x').take off++es++(dc V.sz V.enc e x').drop (off+es.length)/\es.length=cs.length:=by
      have hm:∀l:List (dm V.N),encL V S.len (l.map λl=>TV.lf l.t l.x)=(l.map λl=>aO V.sz V.enc l.t l.x).map H.d:=by
       intro l
       rw[encL_map,UH,UH]
       exact U7 λl _=>by simp[an]
      rw[g8,g8,hm,hm,VT,VU,<-dR]at e1
      have hall:∃es:List D,encL V S.len cs=es.map H.d:=by
       have:∀(a b c:List H) (l:List D),a++b++c=l.map H.d->∃es:List D,b=es.map H.d:=by
        intro a b c l hl
        refine⟨(l.drop a.length).take b.length,?_⟩
        rw[VT,VU,<-hl]
        simp
       exact this _ _ _ _ e1
      obtain⟨es,hes⟩:=hall
      have hlen:es.length=cs.length:=by have:=congrArg Wd hes;simpa[aG]using this.symm
      refine⟨es,by rw[hes,eV],?_,hlen⟩
      rw[hes,<-UZ,<-UZ]at e1
      have inj:∀(a b:List D),a.map H.d=b.map H.d->a=b:=λa b hab=>by
       have:=congrArg gk hab
       rw[eV,eV]at this
       simpa using this
      rw[hlen]
      exact(inj _ _ e1).symm
     obtain⟨es,he1,he2,he3⟩:=hcs
     refine tz h (by rw[hY hc];simp[TO.len]) λK hK=> ?_
     simp only[aV,ho,ht,au,hx,an,fR hc,dh (ω:=S.len) hy,aG,Ue,hx',UB,he1]
     refine⟨⟨h0,h1,eW h2,by rw[<-h0];exact h3⟩,?_⟩
     simp only[bg,Wh,he2]at hK
     exact hK
    ·cases h
   ·cases h
  ·cases h
 ·cases h
theorem zf{x:Operand}(ho:o.op= .nilCheck x)(h:tx V P nm call ex o S k=some r):OpS ex P nm o S k r:=by
 simp only[tx,ho]at h
 split at h
 ·rename_i n off hx
  refine aA h λK hK=> ?_
  simp only[aV,ho,au,hx,an]at hK⊢;exact hK
 ·rename_i n s i off hx
  refine aA h λK hK=> ?_
  simp only[aV,ho,au,hx,an]at hK⊢;exact hK
 ·rename_i t x off hx
  refine aA h λK hK=> ?_
  simp only[aV,ho,au,hx,an]at hK⊢;exact hK
 ·rename_i n b hx
  obtain⟨hb,h⟩:=ao h
  subst hb
  refine aA h λK hK=> ?_
  simp only[aV,ho,au,hx,an]at hK⊢;exact hK
 ·cases h
theorem D7{y:Operand}(h:D6 y=true):y= .const .nilIface:=by
 unfold D6 at h
 split at h
 ·rfl
 ·cases h
theorem IQ{op:BinOp}{t t':TypeId}{x y:Operand}(ho:o.op= .binOp op t x y t')(h:tx V P nm call ex o S k=some r):OpS ex P nm o S k r:=by
 simp only[tx,ho]at h
 split at h
 ·rename_i kx a ky b hx hy
  split at h
  ·rename_i hs
   obtain⟨hb,h⟩:=ao h
   cases op<;>simp only[yB,reduceCtorEq,Ud]at hs
   refine aA h λK hK=> ?_
   simp only[aV,ho,au,hx,hy,an,aO,ph]at hK⊢;exact⟨hb,hK⟩
  ·rename_i hs
   obtain⟨hb,h⟩:=ao h
   cases op<;>simp only[yB,reduceCtorEq,Ud]at hs
   refine aA h λK hK=> ?_
   simp only[aV,ho,au,hx,hy,an,aO,ph]at hK⊢;exact⟨hb,hK⟩
  rename_i hs
  obtain⟨hk,h⟩:=ao h
  subst hk
  cases op<;>simp only[]at h<;>first
   |(cases h;done)
   |(obtain⟨hb,h⟩:b≠0/\_:=by
      split at h
      ·cases h
      ·exact⟨‹_›,h⟩
     refine aA h λK hK=> ?_
     simp only[aV,ho,au,hx,hy,an,aO,ph]at hK⊢;exact⟨⟨trivial,hb⟩,hK⟩)
   |(refine aA h λK hK=> ?_
     simp only[aV,ho,au,hx,hy,an,aO,ph]at hK⊢;exact⟨trivial,hK⟩)
 ·rename_i a b hx hy
  split at h
  ·rename_i hu
   refine aA h λK hK=> ?_
   simp only[aV,ho,au,hx,hy,an,aO]at hK⊢;exact⟨hu,hK⟩
  ·rename_i hu
   refine aA h λK hK=> ?_
   simp only[aV,ho,au,hx,hy,an,aO]at hK⊢;exact⟨hu,hK⟩
  ·cases h
 ·rename_i a b hx hy
  split at h
  ·refine aA h λK hK=> ?_
   simp only[aV,ho,au,hx,hy,an,aO]at hK⊢;exact hK
  ·refine aA h λK hK=> ?_
   simp only[aV,ho,au,hx,hy,an,aO]at hK⊢;exact hK
  ·obtain⟨hl,h⟩:=ao h
   refine aA h λK hK=> ?_
   simp only[aV,ho,au,hx,hy,an,aO]at hK⊢;exact⟨by unfold most at hl;omega,hK⟩
  ·cases h
 ·rename_i a n c hx hy
  split at h
  ·rename_i hu
   refine aA h λK hK=> ?_
   simp only[aV,ho,au,hx,hy,an,bF,aO]at hK⊢;exact⟨hu,hK⟩
  ·rename_i hu
   refine aA h λK hK=> ?_
   simp only[aV,ho,au,hx,hy,an,bF,aO]at hK⊢;exact⟨hu,hK⟩
  ·cases h
 ·rename_i e y ys hx hy
  split at h
  ·rename_i hu
   refine aA h λK hK=> ?_
   simp only[aV,ho,au,hx,hy,an,bF,aO,Uj]at hK⊢;exact⟨hu,hK⟩
  ·rename_i hu
   refine aA h λK hK=> ?_
   simp only[aV,ho,au,hx,hy,an,bF,aO,Uj]at hK⊢;exact⟨hu,hK⟩
  ·cases h
 ·rename_i n b hx hy
  split at h
  ·rename_i hu
   refine aA h λK hK=> ?_
   simp only[aV,ho,au,hx,hy,an,bF,aO]at hK⊢;exact⟨hu,hK⟩
  ·rename_i hu
   refine aA h λK hK=> ?_
   simp only[aV,ho,au,hx,hy,an,bF,aO]at hK⊢;exact⟨hu,hK⟩
  ·cases h
 ·rename_i b hx hy
  obtain⟨⟨hu,hn⟩,h⟩:=ao h
  have hyc:=D7 hn
  split at h
  ·refine aA h λK hK=> ?_
   simp only[aV,ho,au,hx,hy,an,bF,aO]at hK⊢;exact⟨⟨hu,hyc⟩,hK⟩
  ·refine aA h λK hK=> ?_
   simp only[aV,ho,au,hx,hy,an,bF,aO]at hK⊢;exact⟨⟨hu,hyc⟩,hK⟩
  ·cases h
 ·cases h
theorem LQ{op:UnOp}{t:TypeId}{x:Operand}(ho:o.op= .unOp op t x)(h:tx V P nm call ex o S k=some r):OpS ex P nm o S k r:=by
 simp only[tx,ho]at h
 split at h
 ·rename_i b hx
  refine aA h λK hK=> ?_
  simp only[aV,ho,au,hx,an,aO]at hK⊢;exact hK
 ·rename_i ki n hx
  refine aA h λK hK=> ?_
  simp only[aV,ho,au,hx,an,aO]at hK⊢;exact hK
 ·cases h
theorem oa{t:TypeId}{x:Operand}(ho:o.op= .makeInterface t x)(h:tx V P nm call ex o S k=some r):OpS ex P nm o S k r:=by
 simp only[tx,ho]at h
 split at h
 ·rename_i hn
  refine aA h λK hK=> ?_
  simp only[aV,ho,an,aO]at hK⊢
  exact⟨hn,hK⟩
 ·cases h
theorem CS{s t:TypeId}{x:Operand}(ho:o.op= .convert s t x)(h:tx V P nm call ex o S k=some r):OpS ex P nm o S k r:=by
 simp only[tx,ho]at h
 split at h
 ·rename_i d ki kk n h1 h2 hx
  refine aA h λK hK=> ?_
  simp only[aV,ho,h1,h2,au,hx,an,aO]at hK⊢;exact hK
 ·rename_i d kk n h1 h2 hx
  refine aA h λK hK=> ?_
  simp only[aV,ho,h1,h2,au,hx,an,aO]at hK⊢;exact hK
 ·rename_i e x h1 h2 hx
  split at h
  ·rename_i d hu hd
   obtain⟨hl,h⟩:=ao h
   refine pW (d:=d) (e:= .int .i32) (old:=[]) (λp hp=>by cases hp) h λK hK=> ?_
   simp only[aV,ho,h1,h2,au,hx,an,aO,hu,hd]at hK⊢
   exact⟨by have:=FM x;unfold most at hl;omega,hK⟩
  ·rename_i hu
   refine aA h λK hK=> ?_
   simp only[aV,ho,h1,h2,au,hx,an,aO,dc,tsz,hu]at hK⊢
   exact hK
  ·cases h
 ·rename_i e ik xs h1 h2 hx
  split at h
  ·rename_i hu
   refine aA h λK hK=> ?_
   simp only[aV,ho,h1,h2,au,hx,an,aO,hu]at hK⊢
   erw[pi]
   exact⟨rfl,hK⟩
  ·rename_i hu
   refine aA h λK hK=> ?_
   simp only[aV,ho,h1,h2,au,hx,an,aO,hu]at hK⊢
   erw[pi]
   exact⟨rfl,hK⟩
  ·cases h
 ·rename_i e h1 h2 hx
  split at h
  ·rename_i hu
   refine aA h λK hK=> ?_
   simp only[aV,ho,h1,h2,au,hx,an,aO,bF,hu]at hK⊢;exact hK
  ·rename_i hu
   refine aA h λK hK=> ?_
   simp only[aV,ho,h1,h2,au,hx,an,aO,bF,hu]at hK⊢;exact hK
  ·cases h
 ·cases h
theorem IX{t:TypeId}{x:Operand}(ho:o.op= .range t x)(h:tx V P nm call ex o S k=some r):OpS ex P nm o S k r:=by
 simp only[tx,ho]at h
 split at h
 ·rename_i s d ht hx hd
  refine yp h λK hK=> ?_
  simp only[aV,ho,ht,hd,au,hx,an,aO]
  exact hK
 ·rename_i kt et m d ht hx hd
  split at h
  ·rename_i tk tv es hown
   refine⟨_,h,λm' o hm=> ?_,?_⟩
   ·simp only[ah]at hm
    split at hm
    ·rename_i e;left;simp[e]
    ·split at hm
     ·rename_i e;right;simp at hm;subst hm;subst e;simp[TO.len,Ed hown]
     ·simp[gt]at hm
   ·simp only[aV,ho,ht,hd,au,hx,an,pX hown]
    exact bU (by simp[an]) rfl (by simp[bg]) rfl
  ·cases h
 ·cases h
theorem IU{x:Operand}(ho:o.op= .entry x)(h:tx V P nm call ex o S k=some r):OpS ex P nm o S k r:=by
 simp only[tx,ho]at h
 split at h
 ·rename_i n hx
  split at h
  ·rename_i m tk tv es rest p hown
   obtain⟨hk,h⟩:=ao h
   refine aA h λK hK=> ?_
   simp only[aV,ho,au,hx,an,encL,vF hown,UB]at hK⊢
   rw[Ea hk]at hK
   exact⟨trivial,hK⟩
  ·cases h
 ·cases h
theorem LO{x:Operand}{b:Bool}(ho:o.op= .next x b)(h:tx V P nm call ex o S k=some r):OpS ex P nm o S k r:=by
 cases b with
 |false=>simp only[tx,ho]at h;cases h
 |true=>
 simp only[tx,ho]at h
 split at h
 ·rename_i n hx
  split at h
  ·rename_i s p hown
   obtain⟨h0,h⟩:=ao h
   split at h
   ·rename_i hlt
    have hl:(VA p.toNat s.size)=true:=by rw[VG];omega
    refine⟨_,h,λm o hm=> ?_,?_⟩
    ·simp only[ah]at hm
     split at hm
     ·rename_i e;right;simp at hm;subst hm;subst e;simp[TO.len,HB hown]
     ·simp[gt]at hm
    ·have hp:((p.toNat:Nat):Int)=p:=by omega
     have hw:(p+Bs.wid s p).toNat=p.toNat+(Utf8.decode s p.toNat).2:=by unfold Bs.wid;omega
     simp only[aV,ho,au,hx,an,zT hown,hl]
     refine⟨trivial,bU (by simp only[an,encL,aO,Bs.dec,hp]) rfl (by simp[bg,hw]) rfl⟩
   ·rename_i hlt
    have hl:(VA p.toNat s.size)=false:=by rw[W6];intro h;rw[VG]at h;omega
    refine aA h λK hK=> ?_
    simp only[aV,ho,au,hx,an,encL,aO,zT hown,hl]at hK⊢
    exact⟨trivial,hK⟩
  ·cases h
 ·cases h
theorem IR{t:TypeId}{parts:Array (Nat×Operand)}(ho:o.op= .build t parts)(h:tx V P nm call ex o S k=some r):OpS ex P nm o S k r:=by
 simp only[tx,ho]at h
 split at h
 ·rename_i z pl hz hp
  obtain⟨hz1,h⟩:=ao h
  split at h
  ·rename_i cs hcs
   have hf:=o7 (ω:=S.len) hcs
   rw[jY hz1]at hf
   split at h
   ·refine nM h λK hK=> ?_
    simp only[aV,ho,hz,hp,Ei,hf]
    exact hK _ (by rw[an];exact H.le.refl _) (λ_=>by rw[an])
   ·refine nM h λK hK=> ?_
    simp only[aV,ho,hz,hp,Ei,hf]
    exact hK _ jf.1 jf.2
  ·cases h
 ·cases h
theorem xZ(S:TS V.N)(l:List (Nat×Operand)):(l.map λp=>(p.1,fnD (Go.Awp.ev (aH V S) p.2)))=(l.map λp=>(p.1,fnT (tev S p.2))).map λp=>(p.1,an V S.len p.2):=by
 rw[UH]
 exact U7 λp _=>by simp only[W4,au,KF]
theorem tP{t:TypeId}{len:Nat}{parts:Array (Nat×Operand)}(ho:o.op= .buildSlice t len parts)(h:tx V P nm call ex o S k=some r):OpS ex P nm o S k r:=by
 simp only[tx,ho]at h
 split at h
 ·rename_i te sz by_ e ht hty
  obtain⟨hsz,h⟩:=ao h
  subst hsz
  split at h
  ·rename_i ys hys
   obtain⟨rows,f1,f2,f3,f4⟩:=qa (ω:=S.len) hys
   simp only[Ug]at f2
   obtain⟨⟨hl,hs⟩,h⟩:=ao h
   have hl':rows.length=len/\len *tsz V.sz e<=16777216:=⟨by omega,hs⟩
   cases hd:o.dst with
   |none=>
    simp only[hd]at h
    refine nM h λK hK=> ?_
    simp only[aV,ho,ht,xZ,f1,hd]
    refine⟨hl',hK _ ?_ λhx=> ?_⟩
    ·simp only[an,aO]
     exact H.le.d (D.le.sl f3)
    ·simp only[an,aO]
     rw[f4 hx]
   |some d=>
    simp only[hd]at h
    by_cases hn:nm d=d
    ·rw[XK hn]at h
     refine nM h λK hK=> ?_
     simp only[aV,ho,ht,xZ,f1,hd]
     refine⟨hl',?_⟩
     rw[XK hn]
     refine hK _ ?_ λhx=> ?_
     ·simp only[an,aO]
      exact H.le.d (D.le.sl f3)
     ·simp only[an,aO]
      rw[f4 hx]
    ·rw[XJ hn]at h
     refine⟨_,h,λm o hm=> ?_,?_⟩
     ·simp only[ah]at hm
      split at hm
      ·rename_i e;left;simp[e]
      ·simp[gt]at hm
     ·simp only[aV,ho,ht,xZ,f1,hd]
      refine⟨hl',?_⟩
      rw[XJ hn]
      refine{val:= ?_,new:=rfl,none:=λn hg=> ?_,some:=λn o' hg=> ?_,eq:=λhx=> ?_}
      ·simp only[gl,an]
       rw[cH]
       simp only[ah,XG,TO.len]
       rw[f3.len,Ug]
       exact H.le.refl _
      ·simp only[gl,Uj,UM,ah]at hg⊢
       split at hg
       ·simp at hg
       ·rename_i hne;rw[XJ hne];rfl
      ·simp only[gl,Uj,UM,ah]at hg⊢
       split at hg
       ·rename_i hne
        simp only[bg,Ud]at hg
        subst hg
        exact⟨_,by rw[XK hne],OLe.vec f3⟩
       ·simp[gt]at hg
      ·simp only[gl,an,Uj,UM,bg]
       rw[cH]
       simp only[ah,XG,TO.len]
       rw[f4 hx,Ug]
       first|exact⟨rfl,rfl,rfl⟩|exact⟨rfl,trivial⟩|simp
  ·cases h
 ·cases h
theorem FO{l c:Operand}(h:FN l c=true):l=c:=by
 cases l<;>cases c<;>simp_all [FN]
theorem vR{e:Ty V.ι}{y:den V.N e}{ds:List D}(h1:D.Les ds (dc V.sz V.enc e y)):∀N:Nat,D.Rows (U5 N ds) ((U5 N y).map λx=>dc V.sz V.enc e x)
 |0=> .nil
 |N+1=> .cons h1 (vR h1 N)
theorem wa{d:Nat}{te:TypeId}{e:Ty V.ι}{y:den V.N e}{ds:List D}{N:Nat}(_:o.dst=some d)(h1:D.Les ds (dc V.sz V.enc e y))(h2:ex=true->ds=dc V.sz V.enc e y)
 (h:k {val:= .vh (nm d),upd:=[(nm d, .vec te e (U5 N y))],new:=[nm d]}=some r)
 (hv:∀K:Eff->Prop,K {val:= .vh (nm d) N,acc:=[],upd:=[(nm d,some (.vec te (tsz V.sz e) (U5 N ds)))],new:=[nm d]}->aV P nm o (ev (aH V S)) (aH V S).own? K):OpS ex P nm o S k r:=by
 refine⟨_,h,λm o hm=> ?_,hv _ ?_⟩
 ·simp only[ah]at hm
  split at hm
  ·rename_i e;left;simp[e]
  ·simp[gt]at hm
 ·have f3:=vR h1 N
  refine{val:= ?_,new:=rfl,none:=λn hg=> ?_,some:=λn o' hg=> ?_,eq:=λhx=> ?_}
  ·simp only[gl,an]
   rw[cH]
   simp only[ah,XG,TO.len,WM]
   exact H.le.refl _
  ·simp only[gl,Uj,UM,ah]at hg⊢
   split at hg
   ·simp[bg]at hg
   ·rename_i hne;rw[XJ hne];rfl
  ·simp only[gl,Uj,UM,ah]at hg⊢
   split at hg
   ·rename_i hne
    simp only[bg,Ud]at hg
    subst hg
    exact⟨_,by rw[XK hne],OLe.vec f3⟩
   ·simp[gt]at hg
  ·simp only[gl,an,Uj,UM,bg]
   rw[cH]
   simp only[ah,XG,TO.len,WM,List.map_replicate,h2 hx]
   first|exact⟨rfl,rfl,rfl⟩|exact⟨rfl,trivial⟩|simp
theorem pu:∀{ds:List D} {z:List Value},(z.map λx=>H.d (.v x))=ds.map H.d->ds=z.map .v
 |[],[],_=>rfl
 |[],_::_,h=>by simp at h
 |_::_,[],h=>by simp at h
 |d::ds,x::z,h=>by
  simp only[Uj,VQ,H.d.injEq]at h
  rw[<-h.1,pu h.2];rfl
theorem v_{t:TypeId}{l c:Operand}(ho:o.op= .makeSlice t l c)(h:tx V P nm call ex o S k=some r):OpS ex P nm o S k r:=by
 simp only[tx,ho]at h
 split at h
 ·rename_i te sz by_ e d ht hty hd
  split at h
  ·rename_i z kl n kc m hz hl hc
   split at h
   ·rename_i y hy
    have h':=ao h;clear h
    obtain⟨⟨hsz,hby,hzc⟩,h⟩:=h'
    subst hsz
    obtain⟨ds,e1,e2,e3⟩:=iw (ω:=S.len) hy
    rw[jY hzc]at e1
    have hds:=pu e1
    subst hds
    split at h
    ·rename_i hs
     have hs:=FO hs
     subst hs
     obtain⟨h0,h⟩:=ao h
     obtain⟨h1,h⟩:=ao h
     have hnm:n=m:=by rw[hl]at hc;cases hc;rfl
     subst hnm
     refine wa hd e2 e3 h λK hK=> ?_
     simp only[aV,ho,ht,hd,hz,au,hl,hc,an,aO]
     exact⟨⟨.inl trivial,h0,h0,h1,hby⟩,hK⟩
    ·have h':=ao h;clear h
     obtain⟨h2,h⟩:=h'
     subst h2
     have h':=ao h;clear h
     obtain⟨h0,h⟩:=h'
     have h':=ao h;clear h
     obtain⟨h1,h⟩:=h'
     refine wa (N:=0) (y:=y) hd e2 e3 h λK hK=> ?_
     simp only[aV,ho,ht,hd,hz,au,hl,hc,an,aO]
     exact⟨⟨.inr trivial,WY _,h0,h1,hby⟩,hK⟩
   ·cases h
  ·cases h
 ·cases h
theorem Fe{t:Ty V.ι}{d:D}{z:den V.N t}(h:ofZ V ex t d=some z):D.le d (aO V.sz V.enc t z)/\(ex=true->d=aO V.sz V.enc t z):=by
 unfold ofZ at h
 split at h
 ·obtain⟨hk,h⟩:=ao h
  subst hk
  have h:=‹some _=some z›
  simp only[Ud]at h;subst h
  exact⟨D.le.refl _,λ_=>rfl⟩
 ·cases h;exact⟨D.le.refl _,λ_=>rfl⟩
 ·cases h;exact⟨D.le.refl _,λ_=>rfl⟩
 ·split at h
  ·cases h
  ·cases h;exact⟨by simp only[aO,UM];exact D.le.nil _,λh=>by cases h⟩
 ·split at h
  ·rename_i z' hz
   obtain⟨hc,h⟩:=ao h
   obtain⟨ds',e1,e2,e3⟩:=iw (ω:=λ_=>0) h
   rw[jY hc]at e1
   have:=pu e1
   subst this
   rw[qy hz]
   exact⟨D.le.agg e2,λhx=>by rw[e3 hx];rfl⟩
  ·cases h
 ·cases h
theorem CU{t:TypeId}{hint:Option Operand}(ho:o.op= .makeMap t hint)(h:tx V P nm call ex o S k=some r):OpS ex P nm o S k r:=by
 simp only[tx,ho]at h
 split at h
 ·rename_i kt et d ht hd
  split at h
  ·obtain⟨hh,h⟩:=ao h
   refine BN h λK hK=> ?_
   have hx:pf (ev (aH V S)) hint=true:=by
    cases hint with
    |none=>rfl
    |some x=>
     simp only[Ni]at hh
     simp only[pf,au]
     split at hh
     ·rename_i hx;rw[hx];simp[an,aO]
     ·cases hh
   simp only[aV,ho,ht,hd]
   exact⟨hx,hK⟩
  ·cases h
 ·cases h
theorem Gp{t:TypeId}{x i:Operand}{c:Bool}(ho:o.op= .lookup t x i c)(h:tx V P nm call ex o S k=some r):OpS ex P nm o S k r:=by
 simp only[tx,ho]at h
 split at h
 ·rename_i kt et n tk key ht hx hi
  split at h
  ·rename_i tk' tv es d hown hz
   split at h
   ·rename_i z hzz
    obtain⟨z1,z2⟩:=Fe hzz
    split at h
    ·rename_i htk
     subst htk
     obtain⟨hk,h⟩:=ao h
     cases hkt:P.underlying kt with
     |none=>rw[hkt]at hk;simp[gF]at hk
     |some kind=>
      rw[hkt]at hk
      have hf:=zz (tv:=tv) hk key es
      have hle:H.le (.d (((Mp.get (keq tk) key es).map (aO V.sz V.enc tv)).getD d)) (an V S.len (.lf tv ((Mp.get (keq tk) key es).getD z)))/\
       (ex=true->H.d (((Mp.get (keq tk) key es).map (aO V.sz V.enc tv)).getD d)=an V S.len (.lf tv ((Mp.get (keq tk) key es).getD z))):=by
       cases Mp.get (keq tk) key es with
       |none=>simp only[Wx,Option.getD_none,an];exact⟨H.le.d z1,λhx=>by rw[z2 hx]⟩
       |some y=>simp only[UB,VF,an];exact⟨H.le.refl _,λ_=>trivial⟩
      cases c with
      |true=>
       refine nM h λK hK=> ?_
       simp only[aV,ho,ht,hkt,hz,au,hx,hi,an,xX hk,pX hown,hf]
       refine⟨⟨mQ hk,na hk key es⟩,hK _ ?_ λhx=> ?_⟩
       ·simp only[an,encL]
        refine wb rfl λi x hx=> ?_
        match i with
        |0=>simp at hx;subst hx;exact⟨_,rfl,by simpa only[an]using hle.1⟩
        |1=>
         simp at hx;subst hx
         refine⟨_,rfl,?_⟩
         simp only[aO,Option.isSome_map]
         exact H.le.refl _
        |i+2=>simp at hx
       ·simp only[an,encL]
        have:=hle.2 hx
        simp only[an]at this
        rw[this]
        simp only[aO,Option.isSome_map]
      |false=>
       refine nM h λK hK=> ?_
       simp only[aV,ho,ht,hkt,hz,au,hx,hi,an,xX hk,pX hown,hf]
       exact⟨⟨mQ hk,na hk key es⟩,hK _ hle.1 hle.2⟩
    ·cases h
   ·cases h
  ·cases h
 ·cases h
theorem JV{t:TypeId}{x i y:Operand}(hop:∀(ρ:Operand->H) (ω:Nat->Option Own) (K:Eff->Prop),I1 P ρ ω t x i y K->aV P nm o ρ ω K)(h:OX V P t x i y S k=some r):OpS ex P nm o S k r:=by
 simp only[OX]at h
 split at h
 ·rename_i kt et n tk key tv z ht hx hi hy
  split at h
  ·rename_i tk' tv' es hown
   split at h
   ·rename_i htk
    subst htk
    split at h
    ·rename_i htv
     subst htv
     obtain⟨hk,h⟩:=ao h
     cases hkt:P.underlying kt with
     |none=>rw[hkt]at hk;simp[gF]at hk
     |some kind=>
      rw[hkt]at hk
      refine tz h (by rw[Ed hown];rfl) λK hK=>hop _ _ _ ?_
      simp only[I1,ht,hkt,au,hx,hi,hy,an,xX hk,pX hown,FR hk]
      exact⟨⟨mQ hk,na hk key es⟩,_,(Mp.set_perm _ _ _ _ _).map _,hK⟩
    ·cases h
   ·cases h
  ·cases h
 ·cases h
theorem v7{s:TypeId}{x:Operand}{f:Nat}(ho:o.op= .fieldAddr s x f)(h:tx V P nm call ex o S k=some r):OpS ex P nm o S k r:=by
 simp only[tx,ho]at h
 split at h
 ·rename_i fo hfo
  split at h
  ·rename_i n off hx
   refine aA h λK hK=> ?_
   simp only[aV,ho,hfo,au,hx,an]at hK⊢;exact hK
  ·rename_i n sz i off hx
   refine aA h λK hK=> ?_
   simp only[aV,ho,hfo,au,hx,an]at hK⊢;exact hK
  ·rename_i t x off hx
   obtain⟨hl,h⟩:=ao h
   refine aA h λK hK=> ?_
   simp only[aV,ho,hfo,au,hx,an,VY]at hK⊢
   refine⟨?_,hK⟩
   rw[fx]at hl
   rw[UV,og];omega
  ·cases h
 ·cases h
theorem IV{s:TypeId}{x:Operand}{f:Nat}(ho:o.op= .field s x f)(h:tx V P nm call ex o S k=some r):OpS ex P nm o S k r:=by
 simp only[tx,ho]at h
 split at h
 ·rename_i off ag sz t y hft hx
  obtain⟨hc,h⟩:=ao h
  split at h
  ·rename_i v hv
   obtain⟨d,h1,h2⟩:=ld (ω:=S.len) hv
   have he:an V S.len (.lf t y)= .d (.agg (dc V.sz V.enc t y)):=by
    cases t<;>first|(simp[Ty.cell]at hc;done)|simp[an,aO,dc]
   refine aA h λK hK=> ?_
   simp only[aV,ho,hft,au,hx,he,h1]
   rw[<-h2];exact hK
  ·cases h
 ·rename_i off ag sz cs hft hx
  split at h
  ·rename_i v hv
   obtain⟨y,h1,h2,h3⟩:=lg (ω:=S.len) hv
   rw[jc]at h1
   refine nM h λK hK=> ?_
   simp only[aV,ho,hft,au,hx,an,cU]
   cases ha:gk (encL V S.len cs)with
   |none=>simp only[h1];exact hK y h2 h3
   |some ds=>
    have hds:encL V S.len cs=ds.map H.d:=by
     obtain⟨g1,g2⟩:=f7 ha
     apply Vm
     intro i;rw[g2,Ue]
    rw[hds,<-VU]at h1
    have:∃d,mS ag sz (ds.drop off)=some d/\y= .d d:=by
     cases ag with
     |false=>
      simp only[gH,mS]at h1⊢
      cases hdr:ds.drop off with
      |nil=>rw[hdr]at h1;cases h1
      |cons c rr=>rw[hdr]at h1;simp at h1;exact⟨c,rfl,h1.symm⟩
     |true=>
      simp only[gH,mS,Ug]at h1⊢
      split at h1
      ·rename_i hle
       rw[XK hle]
       rw[<-VT,cU,eV]at h1
       simp at h1
       exact⟨_,rfl,h1.symm⟩
      ·cases h1
    obtain⟨d,hd1,rfl⟩:=this
    simp only[hd1]
    exact hK _ h2 h3
  ·cases h
 ·cases h
theorem v8{t:TypeId}{x i:Operand}(ho:o.op= .indexAddr t x i)(h:tx V P nm call ex o S k=some r):OpS ex P nm o S k r:=by
 simp only[tx,ho]at h
 split at h
 ·rename_i te sz by_ ht
  split at h
  ·rename_i e xs kk n hx hi
   obtain⟨hsz,h⟩:=ao h
   obtain⟨hn,h⟩:=ao h
   obtain⟨y,hy,h⟩:=bB h
   refine aA h λK hK=> ?_
   simp only[aV,ho,ht,au,hx,hi,an,aO,Ue,hy,UB,UT]at hK⊢
   exact⟨⟨hsz,hn⟩,hK⟩
  ·rename_i m kk n hx hi
   split at h
   ·rename_i te2 e xs hc
    obtain⟨⟨h1,h2⟩,h⟩:=ao h
    refine aA h λK hK=> ?_
    simp only[aV,ho,ht,au,hx,hi,an,aO,fR hc,hY hc]at hK⊢
    exact⟨⟨h1,by exact_mod_cast h2⟩,hK⟩
   ·cases h
  ·cases h
 ·cases h
theorem IW{t:TypeId}{x i:Operand}(ho:o.op= .index t x i)(h:tx V P nm call ex o S k=some r):OpS ex P nm o S k r:=by
 simp only[tx,ho]at h
 split at h
 ·rename_i s kk n ht hx hi
  obtain⟨hn,h⟩:=ao h
  obtain⟨b,hb,h⟩:=bB h
  refine aA h λK hK=> ?_
  simp only[aV,ho,ht,au,hx,hi,an,aO,hb]at hK⊢
  exact⟨hn,hK⟩
 ·cases h
theorem IY{t:TypeId}{x:Operand}{lo hi mx:Option Operand}(ho:o.op= .slice t x lo hi mx)(h:tx V P nm call ex o S k=some r):OpS ex P nm o S k r:=by
 cases mx with
 |some m=>simp only[tx,ho]at h;cases h
 |none=>
 simp only[tx,ho]at h
 split at h
 ·rename_i s ht hx
  split at h
  ·rename_i l hh hl hh'
   obtain⟨hc,h⟩:=ao h
   refine aA h λK hK=> ?_
   simp only[aV,ho,ht,au,hx,an,aO,gv hl,gv hh']at hK⊢
   exact⟨hc,hK⟩
  ·cases h
 ·rename_i te e xs ht hx
  split at h
  ·rename_i te2 sz' by_ l hh hel hl hh'
   obtain⟨hsz,h⟩:=ao h
   obtain⟨hc,h⟩:=ao h
   refine aA h λK hK=> ?_
   simp only[aV,ho,ht,au,hx,an,aO,gv hl,gv hh',hel,Ug,VU,VT]at hK⊢
   exact⟨⟨hsz,hc⟩,hK⟩
  ·cases h
 ·cases h
theorem CT{x:Operand}{i:Nat}(ho:o.op= .extract x i)(h:tx V P nm call ex o S k=some r):OpS ex P nm o S k r:=by
 simp only[tx,ho]at h
 split at h
 ·rename_i vs hx
  split at h
  ·rename_i v hv
   refine aA h λK hK=> ?_
   simp only[aV,ho,au,hx,an,encL_map,Ue,hv,UB]at hK⊢
   exact hK
  ·cases h
 ·cases h
theorem ze{fn:Fn}{first captured:Array Operand}(ho:o.op= .makeFunc fn first captured)(h:tx V P nm call ex o S k=some r):OpS ex P nm o S k r:=by
 cases fn with
 |func f=>
  simp only[tx,ho]at h
  refine aA h λK hK=> ?_
  simp only[aV,ho,an,fI]at hK⊢;exact hK
 |_=>simp only[tx,ho]at h;cases h
theorem LM{c:Call}{f:Operand}(hcall:ay P call)(ho:o.op= .call c)(hc:c.callee= .value f)(h:tx V P nm call ex o S k=some r):OpS ex P nm o S k r:=by
 simp only[tx,ho,hc]at h
 split at h
 ·rename_i fid first captured hf
  obtain⟨te,h1,h2,h3⟩:=hcall A fid _ S o.dst k r h
  refine⟨te,h1,h2,?_⟩
  simp only[aV,ho,hc,au,hf,an,fI]
  rw[g8,g8]at h3
  obtain⟨own,rr,own',q1,q2,q3⟩:=h3
  exact⟨own,rr,own',q1,q2,{q3 with eq:=λ_=>q3.eq rfl}⟩
 ·rename_i fid hf
  obtain⟨te,h1,h2,h3⟩:=hcall A fid _ S o.dst k r h
  refine⟨te,h1,h2,?_⟩
  simp only[aV,ho,hc,au,hf,an,aO,fI]
  obtain⟨own,rr,own',q1,q2,q3⟩:=h3
  exact⟨own,rr,own',q1,q2,{q3 with eq:=λ_=>q3.eq rfl}⟩
 ·cases h
theorem CR{c:Call}{b:Builtin}(ho:o.op= .call c)(hc:c.callee= .builtin b)(h:tx V P nm call ex o S k=some r):OpS ex P nm o S k r:=by
 simp only[tx,ho,hc,Ad]at h
 split at h
 ·rename_i e xs harg
  obtain⟨hk,h⟩:=ao h
  refine aA h λK hK=> ?_
  simp only[aV,ho,hc,fI,harg,encL,an,aO,Ug]at hK⊢;exact⟨hk,hK⟩
 ·rename_i n harg
  obtain⟨hk,h⟩:=ao h
  refine aA h λK hK=> ?_
  simp only[aV,ho,hc,fI,harg,encL,an,aO]at hK⊢;exact⟨hk,hK⟩
 ·rename_i n harg
  split at h
  ·rename_i tk tv es hown
   obtain⟨hk,h⟩:=ao h
   refine aA h λK hK=> ?_
   simp only[aV,ho,hc,fI,harg,encL,an,aO,pX hown,Ug]at hK⊢;exact⟨hk,hK⟩
  ·cases h
 ·rename_i s harg
  obtain⟨hk,h⟩:=ao h
  refine aA h λK hK=> ?_
  simp only[aV,ho,hc,fI,harg,encL,an,aO]at hK⊢;exact⟨hk,hK⟩
 ·rename_i kx a ky b harg
  refine aA h λK hK=> ?_
  simp only[aV,ho,hc,fI,harg,encL,an,aO]at hK⊢;exact hK
 ·rename_i kx a ky b harg
  refine aA h λK hK=> ?_
  simp only[aV,ho,hc,fI,harg,encL,an,aO]at hK⊢;exact hK
 ·rename_i x e' news harg
  split at h
  ·rename_i d t t' hd htys
   split at h
   ·rename_i te sz bytes hel
    have hone:∀l:List (den V.N e'),((l.map λx=>dc V.sz V.enc e' x).all λr=>r.all D.one)=true:=by
     intro l
     rw[VJ,Uo]
     exactλx _=>FG
    have hby:∀n:Nat,bytes<=32768->n<=most->n *bytes<=140737488355328:=by
     intro n h1 h2
     have:n *bytes<=most *32768:=WV h2 h1
     unfold most at this
     omega
    split at h
    ·rename_i n
     split at h
     ·rename_i te2 e xs hc'
      split at h
      ·rename_i hee
       subst hee
       obtain⟨⟨h1,h2,h3,h4,h5⟩,h⟩:=ao h
       obtain⟨h6,h⟩:=ao h
       refine pW (d:=d) (old:=[(n,xs.length)]) (λp hp=>by simp at hp;subst hp;exact hY hc') h λK hK=> ?_
       simp only[aV,ho,hc,fI,harg,encL,an,aO,hd,htys,hel,fR hc',Ug,hY hc']at hK⊢
       refine⟨⟨h1,h2,h3,h3,trivial,hone news,hby _ h4 h6,by unfold most at h6;omega⟩,?_⟩
       have:=hK
       simp only[UZ,Uh]at this
       exact h3▸this
      ·cases h
     ·cases h
    ·obtain⟨⟨h1,h2,h3⟩,h⟩:=ao h
     obtain⟨h4,h⟩:=ao h
     refine pW (d:=d) (old:=[]) (λp hp=>by cases hp) h λK hK=> ?_
     simp only[aV,ho,hc,fI,harg,encL,an,aO,bF,hd,htys,hel,Ug]at hK⊢
     refine⟨⟨h1,h2,hone news,hby _ h3 h4,by unfold most at h4;omega⟩,?_⟩
     exact h2▸hK
    ·cases h
   ·cases h
  ·cases h
 ·rename_i x s harg
  split at h
  ·rename_i d t t' hd htys
   split at h
   ·rename_i te sz bytes hel
    obtain⟨⟨g1,g2,g3,g4⟩,h⟩:=ao h
    have hs:P.underlying t'=some .string:=by
     unfold Nl at g1
     split at g1
     ·assumption
     ·cases g1
    have hz:rj P te=some (.v (.int .u8 0)):=by
     unfold J2 at g4
     split at g4
     ·rename_i n hn;have:n=0:=by simpa using g4
      rw[this]at hn;exact hn
     ·cases g4
    split at h
    ·rename_i n _
     split at h
     ·rename_i te2 xs hc'
      obtain⟨⟨h1,h2⟩,h⟩:=ao h
      obtain⟨h6,h⟩:=ao h
      refine pW (d:=d) (e:= .int .u8) (old:=[(n,xs.length)]) (λp hp=>by simp at hp;subst hp;exact hY hc') h λK hK=> ?_
      simp only[aV,ho,hc,fI,harg,encL,an,aO,hd,htys,hel,fR hc',Ug,hY hc']at hK⊢
      refine⟨⟨hs,hz,h1,g2,rfl,g3,trivial,by unfold most at h6;omega⟩,?_⟩
      have:=hK
      simp only[UZ,Uh]at this
      exact this
     ·cases h
    ·obtain⟨h4,h⟩:=ao h
     refine pW (d:=d) (e:= .int .u8) (old:=[]) (λp hp=>by cases hp) h λK hK=> ?_
     simp only[aV,ho,hc,fI,harg,encL,an,aO,bF,hd,htys,hel,Ug]at hK⊢
     exact⟨⟨hs,hz,g2,g3,by unfold most at h4;omega⟩,hK⟩
    ·cases h
   ·cases h
  ·cases h
 ·rename_i n harg
  split at h
  ·rename_i te e xs hown
   obtain⟨hk,h⟩:=ao h
   refine aA h λK hK=> ?_
   simp only[aV,ho,hc,fI,harg,encL,an,aO,fR hown]at hK⊢
   exact⟨hk,hK⟩
  ·cases h
 ·rename_i n ki l harg
  split at h
  ·rename_i te xs pt it hown htys
   obtain⟨⟨h1,h2,h3⟩,h⟩:=ao h
   obtain⟨⟨h4,h5⟩,h⟩:=ao h
   have hp:P.underlying pt=some (.pointer te):=by
    unfold D8 at h1
    split at h1
    ·rename_i e' he;rw[US h1]at he;exact he
    ·cases h1
   refine Iq (λ_ _=>by simp[an]) h (hY hown) λK hK=> ?_
   simp only[aV,ho,hc,fI,harg,encL,an,aO,fR hown,htys,Ug]at hK⊢
   erw[pi]
   exact⟨⟨hp,h2,rfl,h3,h4,by unfold most at h5;subst h4;show(xs.length:Int)<=1000000000000;omega⟩,hK⟩
  ·cases h
 ·cases h
theorem Ag(hcall:ay P call)(hf:∀te,k te=some r->∀d∈te.new,S.fresh d=true)(h:tx V P nm call ex o S k=some r):OpS ex P nm o S k r:=by
 cases ho:o.op with
 |move x=>exact Gq (.inl ho) h
 |assign x=>exact Gq (.inr ho) h
 |pick c x y=>exact LP ho h
 |alloc t=>exact IP ho h
 |box t x=>exact Oj ho hf h
 |load t x=>exact LN ho h
 |store t x y=>exact IZ ho h
 |nilCheck x=>exact zf ho h
 |binOp op t x y t'=>exact IQ ho h
 |unOp op t x=>exact LQ ho h
 |convert s t x=>exact CS ho h
 |build t ps=>exact IR ho h
 |buildSlice t n ps=>exact tP ho h
 |fieldAddr s x f=>exact v7 ho h
 |field s x f=>exact IV ho h
 |indexAddr t x i=>exact v8 ho h
 |index t x i=>exact IW ho h
 |slice t x lo hi mx=>exact IY ho h
 |extract x i=>exact CT ho h
 |makeFunc fn a b=>exact ze ho h
 |makeInterface t x=>exact oa ho h
 |makeSlice t l c=>exact v_ ho h
 |makeMap t c=>exact CU ho h
 |range t x=>exact IX ho h
 |next x b=>exact LO ho h
 |entry x=>exact IU ho h
 |lookup t x i c=>exact Gp ho h
 |mapUpdate t x i y=>exact JV (λρ ω K hh=>by simpa only[aV,ho]using hh) (by simpa only[tx,ho]using h)
 |insert t x i y=>exact JV (λρ ω K hh=>by simpa only[aV,ho]using hh) (by simpa only[tx,ho]using h)
 |call c=>
  cases hc:c.callee with
  |value f=>exact LM hcall ho hc h
  |builtin b=>exact CR ho hc h
  |invoke x m=>simp only[tx,ho,hc]at h;cases h
 |_=>simp only[tx,ho]at h;cases h
end
end Go.Tx
end
section
namespace Go.Tx
open Go.Awp
variable [Inhabited GMem]
inductive Pt (ι:Type)where
 |dat (t:Ty ι)
 |bp (c off:Nat)
 |vh (c:Nat)
 |mp (c:Nat)
 |np (c:Nat)
 /-- the nil of an interface -/
 |nif
 |fn (f:Nat) (a b:List Nat)
 /-- a struct, some of its cells owned slices -/
 |ag (cs:List (Ty ι⊕Nat))
inductive OPt (ι:Type)where
 |box (o:Option TypeId) (cells:List (Pt ι))
 |st (i:ι)
 |vec (te:TypeId) (e:Ty ι)
 /-- a slice whose elements own what they hold: all of them are there, or some are out -/
 |dvec (te:TypeId) (e:Ty ι) (out:Bool)
 |map (k v:Ty ι)
 |iter
 |miter (m:Nat) (k v:Ty ι)
structure Cut (ι:Type)where
 slots:List (Nat×Pt ι)
 objs:List (Nat×OPt ι)
section
variable {ι:Type}
def J9:List (Ty ι⊕Nat)->List (Ty ι)
 |[]=>[]
 | .inl t::r=>t::J9 r
 | .inr _::r=>J9 r
def Pt.tys:Pt ι->List (Ty ι)
 | .dat t=>[t]
 | .ag cs=>J9 cs
 | .np _=>[.bool]
 |_=>[]
def FB:List (Pt ι)->List (Ty ι)
 |[]=>[]
 |p::r=>p.tys++FB r
def F8:List (Nat×Pt ι)->List (Ty ι)
 |[]=>[]
 |p::r=>p.2.tys++F8 r
def OPt.tys:OPt ι->List (Ty ι)
 | .box _ cells=>FB cells
 | .st i=>[.st i]
 | .vec _ e=>[.sl e]
 | .dvec _ e out=>match out with
  |true=>[.sl (.op e)]
  |false=>[.sl e]
 | .map k v=>[.mp k v]
 | .iter=>[.str, .int .i64]
 | .miter _ k v=>[.mp k v, .mp k v]
def Fc:List (Nat×OPt ι)->List (Ty ι)
 |[]=>[]
 |p::r=>p.2.tys++Fc r
def Cut.tys(c:Cut ι):List (Ty ι):=F8 c.slots++Fc c.objs
def Db{α:Type}:List (Option α)->Option (List α)
 |[]=>some []
 |x::r=>match x with
  |none=>none
  |some y=>match Db r with
   |some l=>some (y::l)
   |none=>none
theorem Dc{α:Type}:∀{l:List (Option α)} {r:List α},Db l=some r->l=r.map some
 |[],r,h=>by simp[Db]at h;subst h;rfl
 |x::l,r,h=>by
  simp only[Db]at h
  split at h
  ·cases h
  ·split at h
   ·rename_i l' hl
    cases h
    rw[Dc hl];rfl
   ·cases h
@[reducible] def HL (N:ι->Type):List (Ty ι)->Type
 |[]=>Unit
 |t::r=>den N t×HL N r
def NC{N:ι->Type}:(ts:List (Ty ι))->HL N ts->List (dm N)
 |[],_=>[]
 |t::r,v=>⟨t,v.1⟩::NC r v.2
def JU[DecidableEq ι]{N:ι->Type}:(ts:List (Ty ι))->List (dm N)->Option (HL N ts)
 |[],[]=>some ()
 |t::r,l::ls=>if h:l.t=t then match JU r ls with
  |some v=>some (h▸l.x,v)
  |none=>none
  else none
 |_,_=>none
theorem qt[DecidableEq ι]{N:ι->Type}:∀{ts:List (Ty ι)} {ls:List (dm N)} {v:HL N ts},JU ts ls=some v->NC ts v=ls
 |[],[],v,_=>rfl
 |[],_::_,v,h=>by simp[JU]at h
 |_::_,[],v,h=>by simp[JU]at h
 |t::r,l::ls,v,h=>by
  simp only[JU]at h
  split at h
  ·rename_i ht
   split at h
   ·rename_i w hw
    obtain⟨lt,lx⟩:=l
    simp only at ht
    subst ht
    simp at h;subst h
    simp[NC,qt hw]
   ·cases h
  ·cases h
abbrev cG:=List (Nat×Nat)
def qI(σ:cG)(c n:Nat):Option cG:=match gt σ c with
 |some m=>if m=n then some σ else none
 |none=>if σ.any (λp=>Vb p.2 n)=true then none else some ((c,n)::σ)
def ub{N:ι->Type}(σ:cG):List Nat->List (TV N)->Option cG
 |[],[]=>some σ
 |c::r, .bp n 0::s=>match qI σ c n with
  |some σ'=>ub σ' r s
  |none=>none
 |_,_=>none
end
section
variable (V:mz)
def mtC(σ:cG):List (Ty V.ι⊕Nat)->List (TV V.N)->Option (cG×List (dm V.N))
 |[],[]=>some (σ,[])
 | .inl t::r,x::s=>match nF V false t x with
  |some l=>match mtC σ r s with
   |some (σ',ls)=>some (σ',l::ls)
   |none=>none
  |none=>none
 | .inr c::r, .vh n::s=>match qI σ c n with
  |some σ'=>mtC σ' r s
  |none=>none
 |_,_=>none
def mt1(σ:cG):Pt V.ι->TV V.N->Option (cG×List (dm V.N))
 | .dat t, .lf t' x=>if t'=t then some (σ,[⟨t',x⟩])else none
 | .dat (.sl e), .raw (.slice none 0 0)=>some (σ,[⟨.sl e,[]⟩])
 | .dat .er, .raw .nilIface=>some (σ,[⟨.er,false⟩])
 | .dat (.st i), .agg cs=>match mkV V false (some (.st i)) cs with
  | .lf t x=>some (σ,[⟨t,x⟩])
  |_=>none
 | .bp c off, .bp n off'=>if off=off' then(qI σ c n).map λσ'=>(σ',[])else none
 | .vh c, .vh n=>(qI σ c n).map λσ'=>(σ',[])
 | .mp c, .mp n=>(qI σ c n).map λσ'=>(σ',[])
 | .np c, .np n b=>(qI σ c n).map λσ'=>(σ',[⟨.bool,b⟩])
 | .np c, .bp n 0=>(qI σ c n).map λσ'=>(σ',[⟨.bool,true⟩])
 | .np _, .raw (.pointer none)=>some (σ,[⟨.bool,false⟩])
 | .nif, .raw .nilIface=>some (σ,[])
 | .fn f a b, .fn f' a' b'=>if f=f' then match ub σ a a' with
   |some σ'=>(ub σ' b b').map λσ''=>(σ'',[])
   |none=>none
  else none
 | .ag cs, .agg vs=>mtC V σ cs vs
 |_,_=>none
def mtL(σ:cG):List (Pt V.ι)->List (TV V.N)->Option (cG×List (dm V.N))
 |[],[]=>some (σ,[])
 |p::r,x::s=>match mt1 V σ p x with
  |some (σ',l)=>match mtL σ' r s with
   |some (σ'',l')=>some (σ'',l++l')
   |none=>none
  |none=>none
 |_,_=>none
def mtO(S:TS V.N)(σ:cG):List (Nat×OPt V.ι)->Option (cG×List (dm V.N))
 |[]=>some (σ,[])
 |(c,p)::r=>match gt σ c with
  |some n=>match p,S.own? n with
   | .box o ps,some (.box o' cells)=>if o=none\/o=o' then match mtL V σ ps cells with
    |some (σ',l)=>match mtO S σ' r with
     |some (σ'',l')=>some (σ'',l++l')
     |none=>none
    |none=>none
    else none
   | .st i,some (.box _ cells)=>match mkV V false (some (.st i)) cells with
    | .lf (.st j) x=>match mtO S σ r with
     |some (σ'',l')=>some (σ'',⟨.st j,x⟩::l')
     |none=>none
    |_=>none
   | .st i,some (.bst j x)=>if i=j then match mtO S σ r with
     |some (σ'',l')=>some (σ'',⟨.st j,x⟩::l')
     |none=>none
    else none
   | .box none ps,some (.bst j x)=>match mtL V σ ps ((V.cells j x).map λl=> .lf l.t l.x)with
    |some (σ',l)=>match mtO S σ' r with
     |some (σ'',l')=>some (σ'',l++l')
     |none=>none
    |none=>none
   | .vec te e,some (.vec te' e' xs)=>if te=te'/\e=e' then match mtO S σ r with
     |some (σ'',l')=>some (σ'',⟨.sl e',xs⟩::l')
     |none=>none
    else none
   | .dvec te e true,some (.pvec te' e' xs)=>if te=te'/\e=e' then match mtO S σ r with
     |some (σ'',l')=>some (σ'',⟨.sl (.op e'),xs⟩::l')
     |none=>none
    else none
   | .dvec te e true,some (.dvec te' e' xs)=>if te=te'/\e=e' then match mtO S σ r with
     |some (σ'',l')=>some (σ'',⟨.sl (.op e'),xs.map some⟩::l')
     |none=>none
    else none
   | .dvec te e false,some (.dvec te' e' xs)=>if te=te'/\e=e' then match mtO S σ r with
     |some (σ'',l')=>some (σ'',⟨.sl e',xs⟩::l')
     |none=>none
    else none
   | .iter,some (.iter s p)=>match mtO S σ r with
     |some (σ'',l')=>some (σ'',⟨.str,s⟩::⟨.int .i64,p⟩::l')
     |none=>none
   | .miter cm tk tv,some (.miter m tk' tv' es rest _)=>if tk=tk'/\tv=tv' then match qI σ cm m with
     |some σ'=>match mtO S σ' r with
      |some (σ'',l')=>some (σ'',⟨.mp tk' tv',es⟩::⟨.mp tk' tv',rest⟩::l')
      |none=>none
     |none=>none
    else none
   | .map tk tv,some (.map tk' tv' es)=>if tk=tk'/\tv=tv' then match mtO S σ r with
     |some (σ'',l')=>some (σ'',⟨.mp tk' tv',es⟩::l')
     |none=>none
    else none
   |_,_=>none
  |none=>none
def bdC:List (Ty V.ι⊕Nat)->List (dm V.N)->Option (List (TV V.N)×List (dm V.N))
 |[],ls=>some ([],ls)
 | .inl _::r,l::ls=>match bdC r ls with
  |some (vs,ls')=>some (.lf l.t l.x::vs,ls')
  |none=>none
 | .inl _::_,[]=>none
 | .inr c::r,ls=>match bdC r ls with
  |some (vs,ls')=>some (.vh c::vs,ls')
  |none=>none
def bd1:(p:Pt V.ι)->List (dm V.N)->Option (TV V.N×List (dm V.N))
 | .dat _,l::ls=>some (.lf l.t l.x,ls)
 | .dat _,[]=>none
 | .bp c off,ls=>some (.bp c off,ls)
 | .vh c,ls=>some (.vh c,ls)
 | .mp c,ls=>some (.mp c,ls)
 | .np c,⟨.bool,b⟩::ls=>some (.np c b,ls)
 | .np _,_=>none
 | .nif,ls=>some (.raw .nilIface,ls)
 | .fn f a b,ls=>some (.fn f (a.map λc=> .bp c 0) (b.map λc=> .bp c 0),ls)
 | .ag cs,ls=>match bdC V cs ls with
  |some (vs,ls')=>some (.agg vs,ls')
  |none=>none
def bdL:List (Pt V.ι)->List (dm V.N)->Option (List (TV V.N)×List (dm V.N))
 |[],ls=>some ([],ls)
 |p::r,ls=>match bd1 V p ls with
  |some (x,ls')=>match bdL r ls' with
   |some (xs,ls'')=>some (x::xs,ls'')
   |none=>none
  |none=>none
def bdO:List (Nat×OPt V.ι)->List (dm V.N)->Option (List (Nat×TO V.N))
 |[],[]=>some []
 |[],_::_=>none
 |(c, .box o ps)::r,ls=>match bdL V ps ls with
  |some (xs,ls')=>match bdO r ls' with
   |some os=>some ((c, .box o xs)::os)
   |none=>none
  |none=>none
 |(c, .st i)::r,⟨.st j,x⟩::ls=>if j=i then match bdO r ls with
    |some os=>some ((c, .bst j x)::os)
    |none=>none
  else none
 |(c, .vec te e)::r,⟨.sl e',xs⟩::ls=>if e'=e then match bdO r ls with
    |some os=>some ((c, .vec te e' xs)::os)
    |none=>none
  else none
 |(c, .dvec te e true)::r,⟨.sl (.op e'),xs⟩::ls=>if e'=e then match bdO r ls with
    |some os=>some ((c, .pvec te e' xs)::os)
    |none=>none
  else none
 |(c, .dvec te e false)::r,⟨.sl e',xs⟩::ls=>if e'=e then match bdO r ls with
    |some os=>some ((c, .dvec te e' xs)::os)
    |none=>none
  else none
 |(c, .iter)::r,⟨.str,s⟩::⟨.int .i64,p⟩::ls=>match bdO r ls with
    |some os=>some ((c, .iter s p)::os)
    |none=>none
 |(c, .miter cm tk tv)::r,⟨.mp tk' tv',es⟩::⟨.mp tk2 tv2,rest⟩::ls=>if h:(tk2=tk'/\tv2=tv')/\tk'=tk/\tv'=tv then match bdO r ls with
    |some os=>some ((c, .miter cm tk' tv' es (h.1.1▸h.1.2▸rest) none)::os)
    |none=>none
  else none
 |(c, .map tk tv)::r,⟨.mp tk' tv',es⟩::ls=>if tk'=tk/\tv'=tv then match bdO r ls with
    |some os=>some ((c, .map tk' tv' es)::os)
    |none=>none
  else none
 |_,_=>none
def build(c:Cut V.ι)(ls:List (dm V.N)):TS V.N:=match bdL V (c.slots.map (·.2)) ls with
 |some (xs,ls')=>match bdO V c.objs ls' with
  |some os=>{tmps:=(c.slots.map (·.1)).zip xs,own:=os}
  |none=>{tmps:=[],own:=[]}
 |none=>{tmps:=[],own:=[]}
def bV(c:Cut V.ι)(v:HL V.N c.tys):TS V.N:=build V c (NC c.tys v)
def JH(n:Nat)(e:Ty V.ι)(xs:List (den V.N e))(v:TV V.N):TV V.N:=match v with
 | .vh m=>if m=n then .lf (.sl e) xs else .vh m
 |v=>if TV.has n v=true then .junk else v
def PS(n:Nat)(e:Ty V.ι)(xs:List (den V.N e))(v:TV V.N):TV V.N:=match v with
 | .agg cs=> .agg (cs.map (JH V n e xs))
 |v=>JH V n e xs v
def Bg(n:Nat)(e:Ty V.ι)(xs:List (den V.N e)):TO V.N->TO V.N
 | .box o cells=> .box o (cells.map (JH V n e xs))
 |o=>o
def TS.frz(S:TS V.N)(n:Nat)(e:Ty V.ι)(xs:List (den V.N e)):TS V.N:=
 {tmps:=S.tmps.map λp=>(p.1,PS V n e xs p.2),own:=(n, .gone xs.length)::S.own.map λp=>(p.1,Bg V n e xs p.2)}
def KG(S:TS V.N)(v:TV V.N):TS V.N:=match v with
 | .vh n=>match S.own? n with
  |some (.vec _ e xs)=>S.frz V n e xs
  |some (.dvec te e ys)=>TS.frz V {S with own:=(n, .vec te e ys)::S.own} n e ys
  |_=>S
 |_=>S
def frzL(S:TS V.N):List (TV V.N)->TS V.N
 |[]=>S
 |v::r=>frzL (KG V S v) r
def Gz:List (Ty V.ι⊕Nat)->List (TV V.N)->List (TV V.N)
 | .inl _::r,v::s=>v::Gz r s
 | .inr _::r,_::s=>Gz r s
 |_,_=>[]
def wants:Pt V.ι->TV V.N->List (TV V.N)
 | .dat _, .vh n=>[.vh n]
 | .dat _, .agg cs=>cs
 | .ag cs, .agg vs=>Gz V cs vs
 |_,_=>[]
def L6(dv:Bool)(te:TypeId)(e:Ty V.ι):TO V.N:=match dv with
 |true=> .dvec te e []
 |false=> .vec te e []
def BI(dv:Bool)(te:TypeId)(e:Ty V.ι)(S:TS V.N)(t:Nat):TS V.N:=match gt S.tmps t with
 |some (.raw (.slice none 0 0))=>if S.fresh (60000+t)=true/\VA (60000+t) given=true then{tmps:=(t, .vh (60000+t))::S.tmps,own:=(60000+t,L6 V dv te e)::S.own}else S
 |_=>S
def r9(dv:Bool)(te:TypeId)(e:Ty V.ι)(S:TS V.N)(b i:Nat):TS V.N:=match S.own? b with
 |some (.box o cells)=>match cells[i]? with
  |some (.raw (.slice none 0 0))=>if S.fresh (70000+S.own.length)=true/\VA (70000+S.own.length) given=true then
   {tmps:=S.tmps,own:=(b, .box o (cells.set i (.vh (70000+S.own.length))))::(70000+S.own.length,L6 V dv te e)::S.own}else S
  |_=>S
 |_=>S
def cellAt(S:TS V.N)(b i:Nat):TV V.N:=match S.own? b with
 |some (.box _ cells)=>(cells[i]?).getD .junk
 |_=> .junk
def fS(objs:List (Nat×OPt V.ι))(b:Nat):Nat->List (Pt V.ι)->TS V.N->TS V.N
 |_,[],S=>S
 |i, .vh c::r,S=>match gt objs c with
  |some (.vec te e)=>fS objs b (i+1) r (r9 V false te e S b i)
  |some (.dvec te e _)=>fS objs b (i+1) r (r9 V true te e S b i)
  |_=>fS objs b (i+1) r S
 |i, .dat ty::r,S=>fS objs b (i+1) r (frzL V S (wants V (.dat ty) (cellAt V S b i)))
 |i,_::r,S=>fS objs b (i+1) r S
def Fy(objs:List (Nat×OPt V.ι))(c b:Nat)(S:TS V.N):TS V.N:=match gt objs c with
 |some (.box _ ps)=>fS V objs b 0 ps S
 |some (.st _)=>match S.own? b with
  |some (.box _ cells)=>frzL V S cells
  |_=>S
 |_=>S
def JM:Pt V.ι->TV V.N->List (Nat×Nat)
 | .bp c _, .bp n _=>[(c,n)]
 | .mp c, .mp n=>[(c,n)]
 | .fn _ a b, .fn _ a' b'=>(a++b).zip ((a'++b').map λv=>match v with
  | .bp n _=>n
  |_=>0)
 |_,_=>[]
def JN:List (Pt V.ι)->List (TV V.N)->List (Nat×Nat)
 |p::ps,v::vs=>JM V p v++JN ps vs
 |_,_=>[]
def NE(objs:List (Nat×OPt V.ι))(S:TS V.N)(c b:Nat):List (Nat×Nat):=match gt objs c,S.own? b with
 |some (.box _ ps),some (.box _ cells)=>JN V ps cells
 |_,_=>[]
def L7(objs:List (Nat×OPt V.ι)):Nat->List (Nat×Nat)->TS V.N->TS V.N
 |0,_,S=>S
 |_,[],S=>S
 |m+1,(c,b)::r,S=>L7 objs m (r++NE V objs S c b) (Fy V objs c b S)
def vM(objs:List (Nat×OPt V.ι))(S:TS V.N):List (Nat×Pt V.ι)->TS V.N
 |[]=>S
 |(t, .vh c)::r=>match gt objs c with
  |some (.vec te e)=>vM objs (BI V false te e S t) r
  |some (.dvec te e _)=>vM objs (BI V true te e S t) r
  |_=>vM objs S r
 |(t, .dat ty)::r=>vM objs (frzL V S (wants V (.dat ty) (S.get t))) r
 |(t, .ag cs)::r=>vM objs (frzL V S (wants V (.ag cs) (S.get t))) r
 |_::r=>vM objs S r
def P5(objs:List (Nat×OPt V.ι))(S:TS V.N)(slots:List (Nat×Pt V.ι)):TS V.N:=match objs with
 |[]=>vM V objs S slots
 |_=>L7 V objs (4 *objs.length) (slots.flatMap λp=>JM V p.2 (S.get p.1)) (vM V objs S slots)
def KB(c:Cut V.ι)(S:TS V.N):Option (cG×List (dm V.N)):=match mtL V [] (c.slots.map (·.2)) (c.slots.map λp=>S.get p.1)with
 |some (σ,l)=>match mtO V S σ c.objs with
  |some (σ',l')=>some (σ',l++l')
  |none=>none
 |none=>none
def wg(objs:List (Nat×OPt V.ι)):Pt V.ι->Bool
 | .vh c=>objs.any λp=>Vb p.1 c
 | .ag cs=>cs.all λx=>match x with
  | .inr c=>objs.any λp=>Vb p.1 c
  | .inl _=>true
 |_=>true
def Fd(c:Cut V.ι)(σ:cG):Bool:=σ.all (λp=>VA p.1 given||Vb p.1 p.2)&&c.slots.all (λp=>wg V c.objs p.2)&&c.objs.all (λp=>match p.2 with
 | .box _ ps=>ps.all (wg V c.objs)
 |_=>true)
def A9(c:Cut V.ι)(S:TS V.N):Option (HL V.N c.tys):=match KB V c (P5 V c.objs S c.slots)with
 |some (σ,ls)=>if Fd V c σ=true then JU c.tys ls else none
 |none=>none
end
end Go.Tx
end
section
namespace Go.Tx
open Go.Awp
variable [Inhabited GMem]
def Sub(σ σ':cG):Prop:=∀c n,gt σ c=some n->gt σ' c=some n
theorem Sub.refl(σ:cG):Sub σ σ:=λ_ _ h=>h
theorem Sub.trans{a b c:cG}(h:Sub a b)(k:Sub b c):Sub a c:=λx n hx=>k x n (h x n hx)
def Inj(σ:cG):Prop:=∀c c' n,gt σ c=some n->gt σ c'=some n->c=c'
theorem df{σ σ':cG}{c n:Nat}(h:qI σ c n=some σ'):Sub σ σ'/\gt σ' c=some n/\(Inj σ->Inj σ'):=by
 unfold qI at h
 split at h
 ·rename_i m hm
  split at h
  ·rename_i e;cases h;subst e;exact⟨Sub.refl _,hm,id⟩
  ·cases h
 ·rename_i hc
  split at h
  ·cases h
  ·rename_i hn
   cases h
   have hn':∀x,gt σ x≠some n:=λx hx=>by
    apply hn
    rw[Vu]
    exact⟨(x,n),bc hx,by simp⟩
   refine⟨λx m hx=> ?_,by simp[ah],λhi x y m hx hy=> ?_⟩
   ·rw[ah]
    by_cases e:c=x
    ·subst e;rw[hc]at hx;cases hx
    ·rw[XJ e];exact hx
   ·rw[ah]at hx hy
    by_cases e:c=x<;>by_cases e':c=y
    ·rw[<-e,<-e']
    ·rw[XK e]at hx;rw[XJ e']at hy;cases hx;exact(hn' _ hy).elim
    ·rw[XK e']at hy;rw[XJ e]at hx;cases hy;exact(hn' _ hx).elim
    ·rw[XJ e]at hx;rw[XJ e']at hy;exact hi x y m hx hy
section
variable {V:mz}
theorem H.le.nil(sz:Nat):H.le (.d (.v (.slice none 0 0))) (.d (.sl sz [])):=H.le.d (D.le.nil sz)
structure Tr (σ:cG) (objs:List (Nat×OPt V.ι)) (E E':Env) (ω ω':Nat->Nat):Prop where
 env:∀c n,gt σ c=some n->E' c=E n
 len:∀c n,(objs.any λp=>Vb p.1 c)=true->gt σ c=some n->ω' c=ω n
theorem kA:∀{l:List Nat} {vs:List (TV V.N)} {σ σ':cG},ub σ l vs=some σ'->Sub σ σ'/\(Inj σ->Inj σ')/\l.length=vs.length/\
 ∀(i:Nat) (c:Nat) (v:TV V.N),l[i]?=some c->vs[i]?=some v->∃n,v= .bp n 0/\gt σ' c=some n
 |[],[],σ,σ',h=>by simp[ub]at h;subst h;exact⟨Sub.refl _,id,rfl,λi c v hc=>by simp at hc⟩
 |[],_::_,σ,σ',h=>by simp[ub]at h
 |_::_,[],σ,σ',h=>by simp[ub]at h
 |c::r,v::s,σ,σ',h=>by
  unfold ub at h
  split at h
  ·rename_i heq1 heq2;cases heq1
  ·rename_i c' r' n s' heq1 heq2
   simp only[VQ]at heq1 heq2
   obtain⟨rfl,rfl⟩:=heq1
   obtain⟨rfl,rfl⟩:=heq2
   split at h
   ·rename_i σ1 h1
    obtain⟨a1,a2,a3⟩:=df h1
    obtain⟨b1,b2,b3,b4⟩:=kA h
    refine⟨a1.trans b1,λhi=>b2 (a3 hi),by simp[b3],λi x w hx hw=> ?_⟩
    cases i with
    |zero=>simp at hx hw;subst hx;subst hw;exact⟨n,rfl,b1 _ _ a2⟩
    |succ i=>exact b4 i x w (by simpa using hx) (by simpa using hw)
   ·cases h
  ·cases h
theorem Dk{E E':Env}{M:Mem}{σ:cG}{ω ω':Nat->Nat}(hE:∀c n,gt σ c=some n->E' c=E n){l:List Nat}{vs:List (TV V.N)}(hl:l.length=vs.length)
 (h:∀(i:Nat) (c:Nat) (v:TV V.N),l[i]?=some c->vs[i]?=some v->∃n,v= .bp n 0/\gt σ c=some n){av:Array Value}
 (hs:av.size=(encL V ω vs).length)(hr:∀(i:Nat) (c:Value) (x:H),av[i]?=some c->(encL V ω vs)[i]?=some x->aL E M c x):
 av.size=(encL V ω' (l.map λc=>(.bp c 0:TV V.N))).length/\∀(i:Nat) (c:Value) (x:H),av[i]?=some c->(encL V ω' (l.map λc=>(.bp c 0:TV V.N)))[i]?=some x->aL E' M c x:=by
 rw[aG]at hs
 refine⟨by rw[aG,Ug];omega,λi c x hc hx=> ?_⟩
 simp only[encL_map,Ue,Xl]at hx
 cases hli:l[i]? with
 |none=>rw[hli]at hx;cases hx
 |some k=>
  rw[hli]at hx
  simp[an]at hx;subst hx
  have hi:i<vs.length:=by rw[<-hl];exact(Uc.1 hli).1
  obtain⟨n,hv,hn⟩:=h i k _ hli (Ub hi)
  have:=hr i c (.bp n 0) hc (by rw[encL_map,Ue,Ub hi,hv];simp[an])
  cases this with
  |bp _ off b hb=>exact .bp k 0 b (by rw[hE k n hn];exact hb)
theorem py:∀{cs:List (Ty V.ι⊕Nat)} {vs:List (TV V.N)} {σ σ1:cG} {l:List (dm V.N)},mtC V σ cs vs=some (σ1,l)->Sub σ σ1/\(Inj σ->Inj σ1)/\
 ∃vs':List (TV V.N),vs'.length=vs.length/\(∀rest,bdC V cs (l++rest)=some (vs',rest))/\∀(i:Nat) (v v':TV V.N),vs[i]?=some v->vs'[i]?=some v'->
  ∀(τ:cG) (objs:List (Nat×OPt V.ι)) (E E':Env) (M:Mem) (ω ω':Nat->Nat) (a:Value),Sub σ1 τ->wg V objs (.ag cs)=true->Tr τ objs E E' ω ω'->aL E M a (an V ω v)->aL E' M a (an V ω' v')
 |[],[],σ,σ1,l,h=>by
  simp[mtC]at h;obtain⟨rfl,rfl⟩:=h
  exact⟨Sub.refl _,id,[],rfl,λrest=>rfl,λi v v' hv=>by simp at hv⟩
 |[],_::_,σ,σ1,l,h=>by simp[mtC]at h
 |_::_,[],σ,σ1,l,h=>by unfold mtC at h;split at h<;>first|(cases h;done)|contradiction
 | .inl t::r,x::s,σ,σ1,l,h=>by
  simp only[mtC]at h
  split at h
  ·rename_i l0 hl
   split at h
   ·rename_i σ' ls h2
    simp at h;obtain⟨rfl,rfl⟩:=h
    obtain⟨b1,b2,vs',b4,b5,b6⟩:=py h2
    refine⟨b1,b2, .lf l0.t l0.x::vs',by simp[b4],λrest=> ?_,λi w w' hw hw' τ objs E E' M ω ω' a hs hv ht hr=> ?_⟩
    ·simp only[Ut,bdC,b5]
    ·cases i with
     |zero=>
      simp at hw hw';subst hw;subst hw'
      have hls:cJ V false [t] [x]=some [l0]:=by simp[cJ,hl]
      obtain⟨ds,e1,e2,_⟩:=cp (ω:=ω) hls
      simp only[encL]at e1
      obtain⟨d,hd⟩:∃d,ds=[d]:=by
       match ds,e1 with
       |[d],_=>exact⟨d,rfl⟩
       |[],e1=>simp at e1
       |_::_::_,e1=>simp at e1
      subst hd
      simp only[Uj,UM,VQ,and_true]at e1
      rw[e1]at hr
      simp only[an]
      obtain⟨d0,g1,g2⟩:=e2.get 0 (aO V.sz V.enc l0.t l0.x) rfl
      simp at g1;subst g1
      cases hr with
      |d q=>exact .d (g2 M a q)
     |succ i=>
      refine b6 i w w' (by simpa using hw) (by simpa using hw') τ objs E E' M ω ω' a hs ?_ ht hr
      simp only[wg,Vq,Uk]at hv⊢;exact hv.2
   ·cases h
  ·cases h
 | .inr c::r,x::s,σ,σ1,l,h=>by
  unfold mtC at h
  split at h
  ·rename_i heq _;cases heq
  ·rename_i heq _;simp at heq
  ·rename_i c' r' n s' heq1 heq2
   simp only[VQ,Sum.inr.injEq]at heq1 heq2
   obtain⟨rfl,rfl⟩:=heq1
   obtain⟨rfl,rfl⟩:=heq2
   split at h
   ·rename_i σ' hb
    obtain⟨a1,a2,a3⟩:=df hb
    obtain⟨b1,b2,vs',b4,b5,b6⟩:=py h
    refine⟨a1.trans b1,λhi=>b2 (a3 hi), .vh c::vs',by simp[b4],λrest=> ?_,λi w w' hw hw' τ objs E E' M ω ω' a hs hv ht hr=> ?_⟩
    ·simp only[bdC,b5]
    ·simp only[wg,Vq,Uk]at hv
     cases i with
     |zero=>
      simp at hw hw';subst hw;subst hw'
      simp only[an]at hr⊢
      rw[ht.len c n hv.1 (hs _ _ (b1 _ _ a2))]
      cases hr with
      |vh _ len l cc ad hE hl=>exact .vh c _ l cc ad (by rw[ht.env c n (hs _ _ (b1 _ _ a2))];exact hE) hl
     |succ i=>
      refine b6 i w w' (by simpa using hw) (by simpa using hw') τ objs E E' M ω ω' a hs ?_ ht hr
      simp only[wg];exact hv.2
   ·cases h
  ·cases h
theorem px{σ σ1:cG}{p:Pt V.ι}{v:TV V.N}{l:List (dm V.N)}(h:mt1 V σ p v=some (σ1,l)):Sub σ σ1/\(Inj σ->Inj σ1)/\v≠ .junk/\
 ∃v',(∀rest,bd1 V p (l++rest)=some (v',rest))/\∀(τ:cG) (objs:List (Nat×OPt V.ι)) (E E':Env) (M:Mem) (ω ω':Nat->Nat) (a:Value),Sub σ1 τ->wg V objs p=true->Tr τ objs E E' ω ω'->
  aL E M a (an V ω v)->aL E' M a (an V ω' v'):=by
 unfold mt1 at h
 split at h
 ·rename_i t t' x
  obtain⟨rfl,h⟩:=ao h
  simp at h;obtain⟨rfl,rfl⟩:=h
  refine⟨Sub.refl _,id,by simp, .lf t' x,λrest=>rfl,λτ objs E E' M ω ω' a _ _ _ hr=> ?_⟩
  simp only[an]at hr⊢
  exact hr.mono (Mem.le_refl _) λn hn=>by simp[H.has]at hn
 ·rename_i e
  simp at h;obtain⟨rfl,rfl⟩:=h
  refine⟨Sub.refl _,id,by simp, .lf (.sl e) [],λrest=>rfl,λτ objs E E' M ω ω' a _ _ _ hr=> ?_⟩
  simp only[an,bF,aO,UM]at hr⊢
  exact H.le.nil _ E' M a (hr.mono (Mem.le_refl _) λn hn=>by simp[H.has]at hn)
 ·simp at h;obtain⟨rfl,rfl⟩:=h
  refine⟨Sub.refl _,id,by simp, .lf .er false,λrest=>rfl,λτ objs E E' M ω ω' a _ _ _ hr=> ?_⟩
  simp only[an,bF,aO]at hr⊢
  exact H.le.d D.le.ern E' M a (hr.mono (Mem.le_refl _) λn hn=>by simp[H.has]at hn)
 ·rename_i i cs
  split at h
  ·rename_i t x hx
   simp at h;obtain⟨rfl,rfl⟩:=h
   refine⟨Sub.refl _,id,by simp, .lf t x,λrest=>rfl,λτ objs E E' M ω ω' a _ _ _ hr=> ?_⟩
   have hm:=(jf (V:=V) (ω:=ω) (ex:=false) (ot:=some (.st i)) (cs:=cs)).1
   rw[hx]at hm
   simp only[an]at hr hm⊢
   exact(hm E M a hr).mono (Mem.le_refl _) λn hn=>by simp[H.has]at hn
  ·cases h
 ·rename_i c off n off'
  have h':=ao h;clear h
  obtain⟨e,h⟩:=h'
  subst e
  rw[Ul]at h
  obtain⟨σ',hb,h⟩:=h
  simp at h;obtain⟨rfl,rfl⟩:=h
  obtain⟨h1,h2,h3⟩:=df hb
  refine⟨h1,h3,by simp, .bp c off,λrest=>rfl,λτ objs E E' M ω ω' a hs _ ht hr=> ?_⟩
  simp only[an]at hr⊢
  cases hr with
  |bp _ _ b hb=>exact .bp c off b (by rw[ht.env c n (hs _ _ h2)];exact hb)
 ·rename_i c n
  rw[Ul]at h
  obtain⟨σ',hb,h⟩:=h
  simp at h;obtain⟨rfl,rfl⟩:=h
  obtain⟨h1,h2,h3⟩:=df hb
  refine⟨h1,h3,by simp, .vh c,λrest=>rfl,λτ objs E E' M ω ω' a hs hv ht hr=> ?_⟩
  simp only[an]at hr⊢
  rw[ht.len c n (by simpa[wg]using hv) (hs _ _ h2)]
  cases hr with
  |vh _ len l cc ad hE hl=>exact .vh c _ l cc ad (by rw[ht.env c n (hs _ _ h2)];exact hE) hl
 ·rename_i c n
  rw[Ul]at h
  obtain⟨σ',hb,h⟩:=h
  simp at h;obtain⟨rfl,rfl⟩:=h
  obtain⟨h1,h2,h3⟩:=df hb
  refine⟨h1,h3,by simp, .mp c,λrest=>rfl,λτ objs E E' M ω ω' a hs _ ht hr=> ?_⟩
  simp only[an]at hr⊢
  cases hr with
  |mp _ b hE=>exact .mp c b (by rw[ht.env c n (hs _ _ h2)];exact hE)
 ·rename_i c n b
  rw[Ul]at h
  obtain⟨σ',hb,h⟩:=h
  simp at h;obtain⟨rfl,rfl⟩:=h
  obtain⟨h1,h2,h3⟩:=df hb
  refine⟨h1,h3,by simp, .np c b,λrest=>rfl,λτ objs E E' M ω ω' a hs _ ht hr=> ?_⟩
  simp only[an]at hr⊢
  cases hr with
  |np0=>exact .np0 c
  |np1 _ b hE=>exact .np1 c b (by rw[ht.env c n (hs _ _ h2)];exact hE)
 ·rename_i c n
  rw[Ul]at h
  obtain⟨σ',hb,h⟩:=h
  simp at h;obtain⟨rfl,rfl⟩:=h
  obtain⟨h1,h2,h3⟩:=df hb
  refine⟨h1,h3,by simp, .np c true,λrest=>rfl,λτ objs E E' M ω ω' a hs _ ht hr=> ?_⟩
  simp only[an]at hr⊢
  cases hr with
  |bp _ _ b hE=>exact .np1 c b (by rw[ht.env c n (hs _ _ h2)];exact hE)
 ·rename_i c
  simp at h;obtain⟨rfl,rfl⟩:=h
  refine⟨Sub.refl _,id,by simp, .np c false,λrest=>rfl,λτ objs E E' M ω ω' a _ _ _ hr=> ?_⟩
  simp only[an,bF]at hr⊢
  rw[hr.dv]
  exact .np0 c
 ·simp at h;obtain⟨rfl,rfl⟩:=h
  refine⟨Sub.refl _,id,by simp, .raw .nilIface,λrest=>rfl,λτ objs E E' M ω ω' a _ _ _ hr=> ?_⟩
  simp only[an,bF]at hr⊢
  exact hr.mono (Mem.le_refl _) λn hn=>by simp[H.has]at hn
 ·rename_i f a b f' a' b'
  have h':=ao h;clear h
  obtain⟨e,h⟩:=h'
  subst e
  split at h
  ·rename_i σ' ha
   rw[Ul]at h
   obtain⟨σ'',hb,h⟩:=h
   simp at h;obtain⟨rfl,rfl⟩:=h
   obtain⟨a1,a2,a3,a4⟩:=kA ha
   obtain⟨b1,b2,b3,b4⟩:=kA hb
   refine⟨a1.trans b1,λhi=>b2 (a2 hi),by simp, .fn f (a.map λc=> .bp c 0) (b.map λc=> .bp c 0),λrest=>rfl,λτ objs E E' M ω ω' v hs _ ht hr=> ?_⟩
   simp only[an]at hr⊢
   cases hr with
   |fn _ first captured l l' h1 h2 h3 h4=>
    obtain⟨x1,x2⟩:=Dk (V:=V) (ω':=ω') (λc n hc=>ht.env c n hc) a3 (λi c v hc hv=>by
     obtain⟨n,q1,q2⟩:=a4 i c v hc hv
     exact⟨n,q1,hs _ _ (b1 _ _ q2)⟩) h1 h3
    obtain⟨y1,y2⟩:=Dk (V:=V) (ω':=ω') (λc n hc=>ht.env c n hc) b3 (λi c v hc hv=>by
     obtain⟨n,q1,q2⟩:=b4 i c v hc hv
     exact⟨n,q1,hs _ _ q2⟩) h2 h4
    exact .fn f first captured _ _ x1 y1 x2 y2
  ·cases h
 ·rename_i cs vs
  obtain⟨b1,b2,vs',b4,b5,b6⟩:=py h
  refine⟨b1,b2,by simp, .agg vs',λrest=>by simp only[bd1,b5],λτ objs E E' M ω ω' a hs hv ht hr=> ?_⟩
  simp only[an]at hr⊢
  have h1:=lQ _ E M a hr
  obtain⟨xs,rfl,h2,h3⟩:=h1.hagg
  refine sV _ E' M _ (.agg xs _ (by rw[aG]at h2⊢;omega) λi c x hc hx=> ?_)
  rw[encL_map,Ue,Ul]at hx
  obtain⟨v',hv',rfl⟩:=hx
  have hi:i<vs.length:=by rw[<-b4];exact(Uc.1 hv').1
  exact b6 i _ v' (Ub hi) hv' τ objs E E' M ω ω' c hs hv ht (h3 i c _ hc (by rw[encL_map,Ue,Ub hi];rfl))
 ·cases h
theorem gL:∀{ps:List (Pt V.ι)} {vs:List (TV V.N)} {σ σ1:cG} {l:List (dm V.N)},mtL V σ ps vs=some (σ1,l)->Sub σ σ1/\(Inj σ->Inj σ1)/\ps.length=vs.length/\
 ∃vs':List (TV V.N),vs'.length=vs.length/\(∀rest,bdL V ps (l++rest)=some (vs',rest))/\∀(i:Nat) (v v':TV V.N),vs[i]?=some v->vs'[i]?=some v'->v≠ .junk/\
  ∀(τ:cG) (objs:List (Nat×OPt V.ι)) (E E':Env) (M:Mem) (ω ω':Nat->Nat) (a:Value),Sub σ1 τ->ps.all (wg V objs)=true->Tr τ objs E E' ω ω'->aL E M a (an V ω v)->aL E' M a (an V ω' v')
 |[],[],σ,σ1,l,h=>by
  simp[mtL]at h;obtain⟨rfl,rfl⟩:=h
  exact⟨Sub.refl _,id,rfl,[],rfl,λrest=>rfl,λi v v' hv=>by simp at hv⟩
 |[],_::_,σ,σ1,l,h=>by simp[mtL]at h
 |_::_,[],σ,σ1,l,h=>by simp[mtL]at h
 |p::r,v::s,σ,σ1,l,h=>by
  simp only[mtL]at h
  split at h
  ·rename_i σ' l1 h1
   split at h
   ·rename_i σ'' l2 h2
    simp at h;obtain⟨rfl,rfl⟩:=h
    obtain⟨a1,a2,a3,v',a4,a5⟩:=px h1
    obtain⟨b1,b2,b3,vs',b4,b5,b6⟩:=gL h2
    refine⟨a1.trans b1,λhi=>b2 (a2 hi),by simp[b3],v'::vs',by simp[b4],λrest=> ?_,λi w w' hw hw'=> ?_⟩
    ·simp only[bdL,UQ,a4,b5]
    ·cases i with
     |zero=>
      simp at hw hw';subst hw;subst hw'
      refine⟨a3,λτ objs E E' M ω ω' a hs hv ht hr=>a5 τ objs E E' M ω ω' a (b1.trans hs) ?_ ht hr⟩
      simp only[Vq,Uk]at hv;exact hv.1
     |succ i=>
      obtain⟨c1,c2⟩:=b6 i w w' (by simpa using hw) (by simpa using hw')
      refine⟨c1,λτ objs E E' M ω ω' a hs hv ht hr=>c2 τ objs E E' M ω ω' a hs ?_ ht hr⟩
      simp only[Vq,Uk]at hv;exact hv.2
   ·cases h
  ·cases h
theorem b9{S:TS V.N}:∀{objs:List (Nat×OPt V.ι)} {σ σ1:cG} {l:List (dm V.N)},mtO V S σ objs=some (σ1,l)->Sub σ σ1/\(Inj σ->Inj σ1)/\
 ∃os:List (Nat×TO V.N),os.length=objs.length/\bdO V objs l=some os/\(∀c o',(c,o')∈os->∃n o,gt σ1 c=some n/\S.own? n=some o/\TO.len (some o')=TO.len (some o)/\
  ∃x:(Nat->Nat)->Own,(∀ω,bg V ω o=some (x ω))/\∃x':(Nat->Nat)->Own,(∀ω,bg V ω o'=some (x' ω))/\
  (∀(τ:cG) (all:List (Nat×OPt V.ι)) (E E':Env) (M:Mem) (w:World) (ω ω':Nat->Nat),Sub σ1 τ->(∀p∈objs,match p.2 with| .box _ ps=>ps.all (wg V all)=true|_=>True)->Tr τ all E E' ω ω'->
    aY E M w n (x ω)->aY E' M w c (x' ω'))/\
  ∀(E E':Env) (w:World) (ω ω':Nat->Nat) (b:Nat),E' c=E n->(x' ω').foot w (E' c) b->(x ω).foot w (E n) b)/\os.map (·.1)=objs.map (·.1)
 |[],σ,σ1,l,h=>by
  simp[mtO]at h;obtain⟨rfl,rfl⟩:=h
  exact⟨Sub.refl _,id,[],rfl,rfl,λc o' h=>by simp at h,rfl⟩
 |(c,p)::r,σ,σ1,l,h=>by
  simp only[mtO]at h
  split at h
  ·rename_i n hn
   split at h
   ·rename_i oo ps oo' cells hown
    have h':=ao h;clear h
    obtain⟨hoo,h⟩:=h'
    split at h
    ·rename_i σ' l1 h1
     split at h
     ·rename_i σ'' l2 h2
      simp at h;obtain⟨rfl,rfl⟩:=h
      obtain⟨a1,a2,a3,vs',a4,a5,a6⟩:=gL h1
      obtain⟨b1,b2,os,b3,b4,b5,b6⟩:=b9 h2
      refine⟨a1.trans b1,λhi=>b2 (a2 hi),(c, .box oo vs')::os,by simp[b3],by simp only[bdO,a5,b4],λc' o' hm=> ?_,by simp[b6]⟩
      rcases Um.1 hm with he|hm
      ·simp only[UC]at he
       obtain⟨rfl,rfl⟩:=he
       refine⟨n, .box oo' cells,b1 _ _ (a1 _ _ hn),hown,rfl,λω=> .box oo' (encL V ω cells),λω=>rfl,λω=> .box oo (encL V ω vs'),λω=>rfl,λτ all E E' M w ω ω' hs hv ht ho=> ?_,λE E' w ω ω' b he hb=>by rw[he]at hb;exact hb⟩
       have hv0:ps.all (wg V all)=true:=hv (c', .box oo ps) Uf
       obtain⟨b,cs,ty,k1,k2,k3,k4,k5,k6⟩:=ho
       rw[aG]at k3
       refine⟨b,cs,ty,by rw[ht.env c' n (hs _ _ (b1 _ _ (a1 _ _ hn)))];exact k1,k2,by rw[aG];omega,λi x y hx hy=> ?_,k5,λt htt=>by
        rcases hoo with hoo|hoo
        ·rw[hoo]at htt;cases htt
        ·rw[hoo]at htt;exact k6 t htt⟩
       simp only[encL_map,Ue]at hy
       cases hvi:vs'[i]? with
       |none=>rw[hvi]at hy;cases hy
       |some v'=>
        rw[hvi]at hy;simp at hy;subst hy
        have hi:i<cells.length:=by rw[<-a4];exact(Uc.1 hvi).1
        obtain⟨_,q⟩:=a6 i _ v' (Ub hi) hvi
        exact q τ all E E' M ω ω' x (b1.trans hs) hv0 ht (k4 i x _ hx (by rw[encL_map,Ue,Ub hi];rfl))
      ·obtain⟨n',o,q1,q2,q3,x,q4,x',q5,q6,q7⟩:=b5 c' o' hm
       exact⟨n',o,q1,q2,q3,x,q4,x',q5,λτ all E E' M w ω ω' hs hv ht ho=>q6 τ all E E' M w ω ω' hs (λp hp=>hv p (Ua _ hp)) ht ho,q7⟩
     ·cases h
    ·cases h
   ·rename_i i oty cells hown
    split at h
    ·rename_i j x hx
     split at h
     ·rename_i σ'' l2 h2
      simp at h;obtain⟨rfl,rfl⟩:=h
      obtain⟨b1,b2,os,b3,b4,b5,b6⟩:=b9 h2
      have hmk:i=j/\∃ls,cJ V false (V.tys i) cells=some ls/\∃y:V.N i,V.ofCells i ls=some y/\(TV.lf (.st i) y:TV V.N)= .lf (.st j) x:=by
       unfold mkV at hx
       simp only at hx
       split at hx
       ·rename_i ls hls
        split at hx
        ·rename_i y hy
         have:i=j:=by cases hx;rfl
         exact⟨this,ls,hls,y,hy,hx⟩
        ·cases hx
       ·cases hx
      obtain⟨rfl,ls,hls,y,hy,he⟩:=hmk
      have he:y=x:=by cases he;rfl
      subst he
      refine⟨b1,b2,(c, .bst i y)::os,by simp[b3],by simp[bdO,b4],λc' o' hm=> ?_,by simp[b6]⟩
      rcases Um.1 hm with he|hm
      ·simp only[UC]at he
       obtain⟨rfl,rfl⟩:=he
       refine⟨n, .box oty cells,b1 _ _ hn,hown,rfl,λω=> .box oty (encL V ω cells),λω=>rfl,λ_=> .box none ((V.enc i y).map .d),λω=>rfl,λτ all E E' M w ω ω' hs _ ht ho=> ?_,λE E' w ω ω' b he hb=>by rw[he]at hb;exact hb⟩
       obtain⟨ds,e1,e2,_⟩:=cp (ω:=ω) hls
       obtain⟨b,cs,ty,k1,k2,k3,k4,k5,_⟩:=ho
       have hc:=V.of_cells i ls y hy
       have hnew:(V.enc i y).map H.d=(ls.map λl=>aO V.sz V.enc l.t l.x).map H.d:=by
        rw[V.enc_cells,hc]
       refine⟨b,cs,ty,by rw[ht.env c' n (hs _ _ (b1 _ _ hn))];exact k1,k2,?_,λi' a z ha hz=> ?_,k5,λt htt=>by cases htt⟩
       ·rw[k3,hnew,e1,Ug,Ug];exact e2.len
       ·rw[hnew,Ue]at hz
        cases hd:(ls.map λl=>aO V.sz V.enc l.t l.x)[i']? with
        |none=>rw[hd]at hz;cases hz
        |some d=>
         rw[hd]at hz;simp at hz;subst hz
         obtain⟨d0,g1,g2⟩:=e2.get i' d hd
         have:=k4 i' a (.d d0) ha (by rw[e1,Ue,g1];rfl)
         cases this with
         |d q=>exact .d (g2 M a q)
      ·obtain⟨n',o,q1,q2,q3,x,q4,x',q5,q6,q7⟩:=b5 c' o' hm
       exact⟨n',o,q1,q2,q3,x,q4,x',q5,λτ all E E' M w ω ω' hs hv ht ho=>q6 τ all E E' M w ω ω' hs (λp hp=>hv p (Ua _ hp)) ht ho,q7⟩
     ·cases h
    ·cases h
   ·rename_i i j x hown
    have h':=ao h;clear h
    obtain⟨e1,h⟩:=h'
    subst e1
    split at h
    ·rename_i σ'' l2 h2
     simp at h;obtain⟨rfl,rfl⟩:=h
     obtain⟨b1,b2,os,b3,b4,b5,b6⟩:=b9 h2
     refine⟨b1,b2,(c, .bst i x)::os,by simp[b3],by simp[bdO,b4],λc' o' hm=> ?_,by simp[b6]⟩
     rcases Um.1 hm with he|hm
     ·simp only[UC]at he
      obtain⟨rfl,rfl⟩:=he
      refine⟨n, .bst i x,b1 _ _ hn,hown,rfl,λ_=> .box none ((V.enc i x).map .d),λω=>rfl,λ_=> .box none ((V.enc i x).map .d),λω=>rfl,λτ all E E' M w ω ω' hs _ ht ho=> ?_,λE E' w ω ω' b he hb=>by rw[he]at hb;exact hb⟩
      obtain⟨b,cs,ty,k1,k2,k3,k4,k5⟩:=ho
      refine⟨b,cs,ty,by rw[ht.env c' n (hs _ _ (b1 _ _ hn))];exact k1,k2,k3,λi' a z ha hz=> ?_,k5⟩
      have hq:=k4 i' a z ha hz
      rw[Ue,Ul]at hz
      obtain⟨d,_,rfl⟩:=hz
      exact hq.mono (Mem.le_refl _) λm hm=>by simp[H.has]at hm
     ·obtain⟨n',o,q1,q2,q3,x,q4,x',q5,q6,q7⟩:=b5 c' o' hm
      exact⟨n',o,q1,q2,q3,x,q4,x',q5,λτ all E E' M w ω ω' hs hv ht ho=>q6 τ all E E' M w ω ω' hs (λp hp=>hv p (Ua _ hp)) ht ho,q7⟩
    ·cases h
   ·rename_i ps j x hown
    split at h
    ·rename_i σ' l1 h1
     split at h
     ·rename_i σ'' l2 h2
      simp at h;obtain⟨rfl,rfl⟩:=h
      obtain⟨a1,a2,a3,vs',a4,a5,a6⟩:=gL h1
      obtain⟨b1,b2,os,b3,b4,b5,b6⟩:=b9 h2
      refine⟨a1.trans b1,λhi=>b2 (a2 hi),(c, .box none vs')::os,by simp[b3],by simp only[bdO,a5,b4],λc' o' hm=> ?_,by simp[b6]⟩
      rcases Um.1 hm with he|hm
      ·simp only[UC]at he
       obtain⟨rfl,rfl⟩:=he
       refine⟨n, .bst j x,b1 _ _ (a1 _ _ hn),hown,rfl,λ_=> .box none ((V.enc j x).map .d),λω=>rfl,λω=> .box none (encL V ω vs'),λω=>rfl,λτ all E E' M w ω ω' hs hv ht ho=> ?_,λE E' w ω ω' b he hb=>by rw[he]at hb;exact hb⟩
       have hv0:ps.all (wg V all)=true:=hv (c', .box none ps) Uf
       obtain⟨b,cs,ty,k1,k2,k3,k4,k5⟩:=ho
       rw[<-kB ω,aG]at k3
       refine⟨b,cs,ty,by rw[ht.env c' n (hs _ _ (b1 _ _ (a1 _ _ hn)))];exact k1,k2,by rw[aG];omega,λi x' y hx hy=> ?_,k5⟩
       simp only[encL_map,Ue]at hy
       cases hvi:vs'[i]? with
       |none=>rw[hvi]at hy;cases hy
       |some v'=>
        rw[hvi]at hy;simp at hy;subst hy
        have hi:i<((V.cells j x).map λl=>(.lf l.t l.x:TV V.N)).length:=by rw[<-a4];exact(Uc.1 hvi).1
        obtain⟨_,q⟩:=a6 i _ v' (Ub hi) hvi
        exact q τ all E E' M ω ω' x' (b1.trans hs) hv0 ht (k4 i x' _ hx (by rw[<-kB ω,encL_map,Ue,Ub hi];rfl))
      ·obtain⟨n',o,q1,q2,q3,x,q4,x',q5,q6,q7⟩:=b5 c' o' hm
       exact⟨n',o,q1,q2,q3,x,q4,x',q5,λτ all E E' M w ω ω' hs hv ht ho=>q6 τ all E E' M w ω ω' hs (λp hp=>hv p (Ua _ hp)) ht ho,q7⟩
     ·cases h
    ·cases h
   ·rename_i te e te' e' xs hown
    have h':=ao h;clear h
    obtain⟨⟨e1,e2⟩,h⟩:=h'
    subst e1;subst e2
    split at h
    ·rename_i σ'' l2 h2
     simp at h;obtain⟨rfl,rfl⟩:=h
     obtain⟨b1,b2,os,b3,b4,b5,b6⟩:=b9 h2
     refine⟨b1,b2,(c, .vec te e xs)::os,by simp[b3],by simp[bdO,b4],λc' o' hm=> ?_,by simp[b6]⟩
     rcases Um.1 hm with he|hm
     ·simp only[UC]at he
      obtain⟨rfl,rfl⟩:=he
      refine⟨n, .vec te e xs,b1 _ _ hn,hown,rfl,λ_=> .vec te (tsz V.sz e) (xs.map λx=>dc V.sz V.enc e x),λω=>rfl,λ_=> .vec te (tsz V.sz e) (xs.map λx=>dc V.sz V.enc e x),λω=>rfl,λτ all E E' M w ω ω' hs _ ht ho=> ?_,λE E' w ω ω' b he hb=>by rw[he]at hb;exact hb⟩
      obtain⟨ys,k1,k2,k3,k4⟩:=ho
      have he:=ht.env c' n (hs _ _ (b1 _ _ hn))
      exact⟨ys,by rw[he];exact k1,k2,k3,by rw[he];exact k4⟩
     ·obtain⟨n',o,q1,q2,q3,x,q4,x',q5,q6,q7⟩:=b5 c' o' hm
      exact⟨n',o,q1,q2,q3,x,q4,x',q5,λτ all E E' M w ω ω' hs hv ht ho=>q6 τ all E E' M w ω ω' hs (λp hp=>hv p (Ua _ hp)) ht ho,q7⟩
    ·cases h
   ·rename_i te e te' e' xs hown
    have h':=ao h;clear h
    obtain⟨⟨e1,e2⟩,h⟩:=h'
    subst e1;subst e2
    split at h
    ·rename_i σ'' l2 h2
     simp at h;obtain⟨rfl,rfl⟩:=h
     obtain⟨b1,b2,os,b3,b4,b5,b6⟩:=b9 h2
     refine⟨b1,b2,(c, .pvec te e xs)::os,by simp[b3],by simp[bdO,b4],λc' o' hm=> ?_,by simp[b6]⟩
     rcases Um.1 hm with he|hm
     ·simp only[UC]at he
      obtain⟨rfl,rfl⟩:=he
      refine⟨n, .pvec te e xs,b1 _ _ hn,hown,rfl,λ_=> .dvec te (tsz V.sz e) (xs.map λx=>ra V e x),λω=>rfl,λ_=> .dvec te (tsz V.sz e) (xs.map λx=>ra V e x),λω=>rfl,λτ all E E' M w ω ω' hs _ ht ho=> ?_,λE E' w ω ω' b he hb=> ?_⟩
      ·obtain⟨B,k1,k2⟩:=ho
       have he:=ht.env c' n (hs _ _ (b1 _ _ hn))
       exact⟨B,by rw[he];exact k1,k2⟩
      ·rw[he]at hb;exact hb
     ·obtain⟨n',o,q1,q2,q3,x,q4,x',q5,q6,q7⟩:=b5 c' o' hm
      exact⟨n',o,q1,q2,q3,x,q4,x',q5,λτ all E E' M w ω ω' hs hv ht ho=>q6 τ all E E' M w ω ω' hs (λp hp=>hv p (Ua _ hp)) ht ho,q7⟩
    ·cases h
   ·rename_i te e te' e' xs hown
    have h':=ao h;clear h
    obtain⟨⟨e1,e2⟩,h⟩:=h'
    subst e1;subst e2
    split at h
    ·rename_i σ'' l2 h2
     simp at h;obtain⟨rfl,rfl⟩:=h
     obtain⟨b1,b2,os,b3,b4,b5,b6⟩:=b9 h2
     refine⟨b1,b2,(c, .pvec te e (xs.map some))::os,by simp[b3],by simp[bdO,b4],λc' o' hm=> ?_,by simp[b6]⟩
     rcases Um.1 hm with he|hm
     ·simp only[UC]at he
      obtain⟨rfl,rfl⟩:=he
      refine⟨n, .dvec te e xs,b1 _ _ hn,hown,by simp[TO.len],λ_=> .dvec te (tsz V.sz e) (xs.map λx=>cD V.sz V.enc V.tid V.encd e x),λω=>rfl,λ_=> .dvec te (tsz V.sz e) ((xs.map some).map λx=>ra V e x),λω=>rfl,λτ all E E' M w ω ω' hs _ ht ho=> ?_,λE E' w ω ω' b he hb=> ?_⟩
      ·obtain⟨B,k1,k2⟩:=ho
       have he:=ht.env c' n (hs _ _ (b1 _ _ hn))
       exact⟨B,by rw[he];rw[UH];exact k1,k2⟩
      ·rw[he]at hb;rw[UH]at hb;exact hb
     ·obtain⟨n',o,q1,q2,q3,x,q4,x',q5,q6,q7⟩:=b5 c' o' hm
      exact⟨n',o,q1,q2,q3,x,q4,x',q5,λτ all E E' M w ω ω' hs hv ht ho=>q6 τ all E E' M w ω ω' hs (λp hp=>hv p (Ua _ hp)) ht ho,q7⟩
    ·cases h
   ·rename_i te e te' e' xs hown
    have h':=ao h;clear h
    obtain⟨⟨e1,e2⟩,h⟩:=h'
    subst e1;subst e2
    split at h
    ·rename_i σ'' l2 h2
     simp at h;obtain⟨rfl,rfl⟩:=h
     obtain⟨b1,b2,os,b3,b4,b5,b6⟩:=b9 h2
     refine⟨b1,b2,(c, .dvec te e xs)::os,by simp[b3],by simp[bdO,b4],λc' o' hm=> ?_,by simp[b6]⟩
     rcases Um.1 hm with he|hm
     ·simp only[UC]at he
      obtain⟨rfl,rfl⟩:=he
      refine⟨n, .dvec te e xs,b1 _ _ hn,hown,rfl,λ_=> .dvec te (tsz V.sz e) (xs.map λx=>cD V.sz V.enc V.tid V.encd e x),λω=>rfl,λ_=> .dvec te (tsz V.sz e) (xs.map λx=>cD V.sz V.enc V.tid V.encd e x),λω=>rfl,λτ all E E' M w ω ω' hs _ ht ho=> ?_,λE E' w ω ω' b he hb=> ?_⟩
      ·obtain⟨B,k1,k2⟩:=ho
       have he:=ht.env c' n (hs _ _ (b1 _ _ hn))
       exact⟨B,by rw[he];exact k1,k2⟩
      ·rw[he]at hb;exact hb
     ·obtain⟨n',o,q1,q2,q3,x,q4,x',q5,q6,q7⟩:=b5 c' o' hm
      exact⟨n',o,q1,q2,q3,x,q4,x',q5,λτ all E E' M w ω ω' hs hv ht ho=>q6 τ all E E' M w ω ω' hs (λp hp=>hv p (Ua _ hp)) ht ho,q7⟩
    ·cases h
   ·rename_i s p hown
    split at h
    ·rename_i σ'' l2 h2
     simp at h;obtain⟨rfl,rfl⟩:=h
     obtain⟨b1,b2,os,b3,b4,b5,b6⟩:=b9 h2
     refine⟨b1,b2,(c, .iter s p)::os,by simp[b3],by simp[bdO,b4],λc' o' hm=> ?_,by simp[b6]⟩
     rcases Um.1 hm with he|hm
     ·simp only[UC]at he
      obtain⟨rfl,rfl⟩:=he
      refine⟨n, .iter s p,b1 _ _ hn,hown,rfl,λ_=> .iter s p.toNat,λω=>rfl,λ_=> .iter s p.toNat,λω=>rfl,λτ all E E' M w ω ω' hs _ ht ho=> ?_,λE E' w ω ω' b he hb=>by rw[he]at hb;exact hb⟩
      obtain⟨b,k1,k2,k3⟩:=ho
      have he:=ht.env c' n (hs _ _ (b1 _ _ hn))
      exact⟨b,by rw[he];exact k1,k2,k3⟩
     ·obtain⟨n',o,q1,q2,q3,x,q4,x',q5,q6,q7⟩:=b5 c' o' hm
      exact⟨n',o,q1,q2,q3,x,q4,x',q5,λτ all E E' M w ω ω' hs hv ht ho=>q6 τ all E E' M w ω ω' hs (λp hp=>hv p (Ua _ hp)) ht ho,q7⟩
    ·cases h
   ·rename_i cm tk tv m tk' tv' es rest cur hown
    have h':=ao h;clear h
    obtain⟨⟨e1,e2⟩,h⟩:=h'
    subst e1;subst e2
    split at h
    ·rename_i σ' hb
     obtain⟨a1,a2,a3⟩:=df hb
     split at h
     ·rename_i σ'' l2 h2
      simp at h;obtain⟨rfl,rfl⟩:=h
      obtain⟨b1,b2,os,b3,b4,b5,b6⟩:=b9 h2
      refine⟨a1.trans b1,λhi=>b2 (a3 hi),(c, .miter cm tk tv es rest none)::os,by simp[b3],by simp[bdO,b4],λc' o' hm=> ?_,by simp[b6]⟩
      rcases Um.1 hm with he|hm
      ·simp only[UC]at he
       obtain⟨rfl,rfl⟩:=he
       refine⟨n, .miter m tk tv es rest cur,b1 _ _ (a1 _ _ hn),hown,rfl,λ_=> .miter m (es.map λp=>(j6 tk p.1,aO V.sz V.enc tv p.2)) (rest.map λp=>(j6 tk p.1,aO V.sz V.enc tv p.2)) (cur.map λp=>(j6 tk p.1,aO V.sz V.enc tv p.2)),λω=>rfl,
        λ_=> .miter cm (es.map λp=>(j6 tk p.1,aO V.sz V.enc tv p.2)) (rest.map λp=>(j6 tk p.1,aO V.sz V.enc tv p.2)) none,λω=>rfl,λτ all E E' M w ω ω' hs _ ht ho=> ?_,λE E' w ω ω' b he hb=>by rw[he]at hb;exact hb⟩
       obtain⟨r',b,es',clock,since,seen,last,k1,k2,k3,k4,k5,k6,k7,k8,k9,k10,_,k12⟩:=ho
       have he:=ht.env c' n (hs _ _ (b1 _ _ (a1 _ _ hn)))
       have he2:=ht.env cm m (hs _ _ (b1 _ _ a2))
       exact⟨r',b,es',clock,since,seen,last,by rw[he];exact k1,by rw[he2];exact k2,k3,k4,k5,k6,k7,k8,k9,k10,(λp hp=>by cases hp),k12⟩
      ·obtain⟨n',o,q1,q2,q3,x,q4,x',q5,q6,q7⟩:=b5 c' o' hm
       exact⟨n',o,q1,q2,q3,x,q4,x',q5,λτ all E E' M w ω ω' hs hv ht ho=>q6 τ all E E' M w ω ω' hs (λp hp=>hv p (Ua _ hp)) ht ho,q7⟩
     ·cases h
    ·cases h
   ·rename_i tk tv tk' tv' es hown
    have h':=ao h;clear h
    obtain⟨⟨e1,e2⟩,h⟩:=h'
    subst e1;subst e2
    split at h
    ·rename_i σ'' l2 h2
     simp at h;obtain⟨rfl,rfl⟩:=h
     obtain⟨b1,b2,os,b3,b4,b5,b6⟩:=b9 h2
     refine⟨b1,b2,(c, .map tk tv es)::os,by simp[b3],by simp[bdO,b4],λc' o' hm=> ?_,by simp[b6]⟩
     rcases Um.1 hm with he|hm
     ·simp only[UC]at he
      obtain⟨rfl,rfl⟩:=he
      refine⟨n, .map tk tv es,b1 _ _ hn,hown,rfl,λ_=> .map (es.map λp=>(j6 tk p.1,aO V.sz V.enc tv p.2)),λω=>rfl,λ_=> .map (es.map λp=>(j6 tk p.1,aO V.sz V.enc tv p.2)),λω=>rfl,λτ all E E' M w ω ω' hs _ ht ho=> ?_,λE E' w ω ω' b he hb=>by rw[he]at hb;exact hb⟩
      obtain⟨b,es',clock,k1,k2,k3,k4,k5⟩:=ho
      have he:=ht.env c' n (hs _ _ (b1 _ _ hn))
      exact⟨b,es',clock,by rw[he];exact k1,k2,k3,k4,k5⟩
     ·obtain⟨n',o,q1,q2,q3,x,q4,x',q5,q6,q7⟩:=b5 c' o' hm
      exact⟨n',o,q1,q2,q3,x,q4,x',q5,λτ all E E' M w ω ω' hs hv ht ho=>q6 τ all E E' M w ω ω' hs (λp hp=>hv p (Ua _ hp)) ht ho,q7⟩
    ·cases h
   ·cases h
  ·cases h
theorem JI{α:Type}:∀{ks:List Nat} {vs:List α} {t:Nat} {x:α},gt (ks.zip vs) t=some x->∃i:Nat,ks[i]?=some t/\vs[i]?=some x
 |[],_,t,x,h=>by simp[gt]at h
 |_::_,[],t,x,h=>by simp[gt]at h
 |k::ks,v::vs,t,x,h=>by
  simp only[List.zip_cons_cons,ah]at h
  by_cases hk:k=t
  ·rw[XK hk]at h;cases h;exact⟨0,by simp[hk],rfl⟩
  ·rw[XJ hk]at h
   obtain⟨i,h1,h2⟩:=JI h
   exact⟨i+1,by simpa using h1,by simpa using h2⟩
theorem Kw{S:TS V.N}{c:Cut V.ι}{σ:cG}{ls:List (dm V.N)}(h:KB V c S=some (σ,ls))(hok:Fd V c σ=true):Ent (aH V S) (aH V (build V c ls)):=by
 unfold KB at h
 split at h
 ·rename_i σ0 l0 h0
  split at h
  ·rename_i σ1 l1 h1
   simp at h;obtain⟨rfl,rfl⟩:=h
   obtain⟨a1,a2,a3,vs',a4,a5,a6⟩:=gL h0
   obtain⟨b1,b2,os,b3,b4,b5,b6⟩:=b9 h1
   have hinj:Inj σ1:=b2 (a2 λc c' n h=>by simp[gt]at h)
   simp only[Fd,Uk,Uo]at hok
   obtain⟨⟨hg,hsl⟩,hob⟩:=hok
   have hbuild:build V c (l0++l1)={tmps:=(c.slots.map (·.1)).zip vs',own:=os}:=by
    unfold build
    rw[a5 l1]
    simp only[b4]
   rw[hbuild]
   let S':TS V.N:={tmps:=(c.slots.map (·.1)).zip vs',own:=os}
   have hown:∀n o,S'.own? n=some o->(n,o)∈os:=λn o ho=>bc ho
   have hkey:∀n,(c.objs.any λp=>Vb p.1 n)=true->∃o,S'.own? n=some o:=by
    intro n hn
    rw[Vu]at hn
    obtain⟨p,hp,hpn⟩:=hn
    have hpn:p.1=n:=by simpa using hpn
    have hm:n∈os.map (·.1):=by rw[b6,<-hpn];exact Uv hp
    exact eu hm
   intro C E M a w hs
   let E':Env:=λm=>match gt σ1 m with
    |some n=>E n
    |none=>E m
   have hE:∀k n,gt σ1 k=some n->E' k=E n:=λk n hk=>by simp only[E',hk]
   have ht:Tr σ1 c.objs E E' S.len S'.len:=by
    refine⟨hE,λk n hk hkn=> ?_⟩
    obtain⟨o,ho⟩:=hkey k hk
    obtain⟨n',o',q1,q2,q3,_⟩:=b5 k o (hown k o ho)
    rw[hkn]at q1;cases q1
    unfold TS.len;rw[ho,q2];exact q3
   have hob':∀p∈c.objs,match p.2 with| .box _ ps=>ps.all (wg V c.objs)=true|_=>True:=by
    intro p hp
    have:=hob p hp
    cases hq:p.2 with
    |box oty ps=>rw[hq]at this;simpa using this
    |st i=>trivial
    |vec te e=>trivial
    |dvec te e out=>trivial
    |map tk tv=>trivial
    |iter=>trivial
    |miter m k v=>trivial
   have hfind:∀n o,(aH V S').own? n=some o->∃n0 o0,gt σ1 n=some n0/\(aH V S).own? n0=some o0/\(∀w,aY E M w n0 o0->aY E' M w n o)/\∀w b,o.foot w (E' n) b->o0.foot w (E n0) b:=by
    intro n o ho
    rw[aM,Vw]at ho
    obtain⟨o',ho',hoo⟩:=ho
    obtain⟨n0,o0,q1,q2,_,x,q4,x',q5,q6,q7⟩:=b5 n o' (hown n o' ho')
    rw[q5]at hoo
    simp only[Ud]at hoo
    subst hoo
    exact⟨n0,x S.len,q1,by rw[aM,q2];exact q4 _,λw hw=>q6 σ1 c.objs E E' M w S.len S'.len (Sub.refl _) hob' ht hw,λw b hb=>q7 E E' w S.len S'.len b (hE _ _ q1) hb⟩
   refine⟨E',M,{size:=hs.size,defers:=hs.defers,fixed:=hs.fixed,tmps:=λt x hx=> ?_,mem:=hs.mem,own:=λn o hn=> ?_,apart:=λn m o o' b hne hn hm hb=> ?_,home:=λn o b hn hb=> ?_,m0:=hs.m0,mnew:=hs.mnew,frame:=hs.frame,grows:=hs.grows,os:=hs.os,tape:=hs.tape,output:=hs.output,env:=λn hn=> ?_}⟩
   ·rw[cI,Ul]at hx
    obtain⟨v',hv',rfl⟩:=hx
    obtain⟨i,g1,g2⟩:=JI hv'
    have hi:i<(c.slots.map λp=>S.get p.1).length:=by rw[<-a4];exact(Uc.1 g2).1
    have hget:(c.slots.map λp=>S.get p.1)[i]?=some (S.get t):=by
     rw[Ue]at g1⊢
     cases hsl':c.slots[i]? with
     |none=>rw[hsl']at g1;cases g1
     |some p=>rw[hsl']at g1;simp at g1;subst g1;rfl
    obtain⟨k1,k2⟩:=a6 i _ v' hget g2
    have hgt:∃v,gt S.tmps t=some v/\S.get t=v:=by
     unfold TS.get at k1⊢
     cases hq:gt S.tmps t with
     |none=>rw[hq]at k1;exact(k1 rfl).elim
     |some v=>exact⟨v,rfl,rfl⟩
    obtain⟨v,hv1,hv2⟩:=hgt
    obtain⟨av,hav,hrep⟩:=hs.tmps t (an V S.len v) (by rw[cI,hv1];rfl)
    refine⟨av,hav,k2 σ1 c.objs E E' M S.len S'.len av b1 ?_ ht (by rw[hv2];exact hrep)⟩
    rw[VJ]
    exact Uo.2 hsl
   ·obtain⟨n0,o0,q1,q2,q3⟩:=hfind n o hn
    exact q3.1 w (hs.own n0 _ q2)
   ·obtain⟨n0,o0,q1,q2,q3⟩:=hfind n o hn
    obtain⟨m0,o1,r1,r2,r3⟩:=hfind m o' hm
    intro hb'
    exact hs.apart n0 m0 _ _ b (λe=>by subst e;exact hne (hinj n m n0 q1 r1)) q2 r2 (q3.2 w b hb) (r3.2 w b hb')
   ·obtain⟨n0,o0,q1,q2,q3⟩:=hfind n o hn
    exact hs.home n0 _ b q2 (q3.2 w b hb)
   ·cases hq:gt σ1 n with
    |none=>simp only[E',hq];exact hs.env n hn
    |some m=>
     have:=hg _ (bc hq)
     simp only[UI,VG]at this
     rcases this with h|h
     ·omega
     ·have e:n=m:=by simpa using h
      rw[hE n m hq,<-e];exact hs.env n hn
  ·cases h
 ·cases h
end
end Go.Tx
end
section
namespace Go.Tx
open Go.Awp
variable [Inhabited GMem]
theorem Ent.le{S S':ae}(ht:∀t x,gt S'.tmps t=some x->∃y,gt S.tmps t=some y/\H.le y x)(ho:∀n o,S'.own? n=some o->∃o',S.own? n=some o'/\OLe o' o):Ent S S':=
 λ_ E M _ _ hs=>⟨E,M,Sim.le hs ht ho⟩
theorem lM{a b c:H}(h:H.le a b)(k:H.le b c):H.le a c:=λE M v x=>k E M v (h E M v x)
mutual
theorem DW{n sz:Nat}{rows:List (List D)}:∀x:H,H.has n x=false->H.le (H.frz n sz rows x) x
 | .d x,_=>by simp only[H.frz];exact H.le.refl _
 | .junk,_=>by simp only[H.frz];exact H.le.refl _
 | .bp m o,_=>by simp only[H.frz];exact H.le.refl _
 | .vh m l,h=>by
  simp only[H.has]at h
  have:m≠n:=by intro e;subst e;simp at h
  simp only[H.frz]
  rw[XJ (λe=>this e.1)]
  exact H.le.refl _
 | .ep m s i o,_=>by simp only[H.frz];exact H.le.refl _
 | .sv m s i o,_=>by simp only[H.frz];exact H.le.refl _
 | .mp m,_=>by simp only[H.frz];exact H.le.refl _
 | .np m b,_=>by simp only[H.frz];exact H.le.refl _
 | .sd m,_=>by simp only[H.frz];exact H.le.refl _
 | .agg cs,h=>by
  simp only[H.frz]
  simp only[H.has]at h
  exact lM (lQ _) (Jd (H.frzL_len ..) (frzL_le cs h))
 | .tup cs,h=>by
  simp only[H.frz]
  simp only[H.has]at h
  exact wb (H.frzL_len ..) (frzL_le cs h)
 | .fn f a b,_=>by simp only[H.frz];exact H.le.refl _
theorem frzL_le{n sz:Nat}{rows:List (List D)}:∀l:List H,H.hasL n l=false->∀(i:Nat) (x:H),l[i]?=some x->∃y,(H.frzL n sz rows l)[i]?=some y/\H.le y x
 |[],_,i,x,hx=>by simp at hx
 |y::r,h,0,x,hx=>by
  rw[H.hasL,UY]at h
  simp at hx;subst hx
  exact⟨H.frz n sz rows y,by simp[H.frzL],DW y h.1⟩
 |y::r,h,i+1,x,hx=>by
  rw[H.hasL,UY]at h
  obtain⟨z,h1,h2⟩:=frzL_le r h.2 i x (by simpa using hx)
  exact⟨z,by simpa[H.frzL]using h1,h2⟩
end
section
variable {V:mz}
theorem DX{S:TS V.N}{n:Nat}{te:TypeId}{e:Ty V.ι}{xs:List (den V.N e)}(hn:S.own? n=some (.vec te e xs)):(S.frz V n e xs).len=S.len:=by
 funext m
 unfold TS.len
 unfold TS.own? at hn⊢
 unfold TS.frz
 simp only[ah]
 by_cases hm:n=m
 ·subst hm;rw[XK rfl,hn];rfl
 ·rw[XJ hm,gC (Bg V n e xs)]
  cases gt S.own m with
  |none=>rfl
  |some o=>cases o<;>rfl
theorem xN{S:TS V.N}{n:Nat}{te:TypeId}{e:Ty V.ι}{xs:List (den V.N e)}(hn:S.own? n=some (.vec te e xs))(v:TV V.N):
 H.le (H.frz n (tsz V.sz e) (xs.map λx=>dc V.sz V.enc e x) (an V S.len v)) (an V (S.frz V n e xs).len (JH V n e xs v)):=by
 have other:∀v:TV V.N,H.le (H.frz n (tsz V.sz e) (xs.map λx=>dc V.sz V.enc e x) (an V S.len v)) (an V (S.frz V n e xs).len (if TV.has n v=true then .junk else v)):=by
  intro v
  split
  ·simp only[an];exact H.le.junk _
  ·rename_i hh
   have hh:TV.has n v=false:=by simpa using hh
   rw[DX hn]
   exact DW _ (by rw[g_];exact hh)
 unfold JH
 split
 ·rename_i m
  by_cases hm:m=n
  ·subst hm
   rw[XK rfl]
   simp only[an,aO,H.frz,hY hn,Ug,and_self,XG]
   exact H.le.refl _
  ·rw[XJ hm]
   simp only[an,H.frz]
   rw[XJ (λe=>hm e.1),DX hn]
   exact H.le.refl _
 ·exact other v
theorem KH{S:TS V.N}{n:Nat}{te:TypeId}{e:Ty V.ι}{xs:List (den V.N e)}(hn:S.own? n=some (.vec te e xs))(v:TV V.N):
 H.le (H.frz n (tsz V.sz e) (xs.map λx=>dc V.sz V.enc e x) (an V S.len v)) (an V (S.frz V n e xs).len (PS V n e xs v)):=by
 unfold PS
 split
 ·rename_i cs
  simp only[an]
  refine lM ?_ (sV _)
  have hp:∀(l:List H),(∀(i:Nat) (x:H),(encL V (S.frz V n e xs).len (cs.map (JH V n e xs)))[i]?=some x->∃y,l[i]?=some y/\H.le y x)->l.length=cs.length->
   H.le (.agg l) (.agg (encL V (S.frz V n e xs).len (cs.map (JH V n e xs)))):=λl h hl=>Jd (by rw[aG,Ug];exact hl) h
  have hfrz:∀(i:Nat) (x:H),(encL V (S.frz V n e xs).len (cs.map (JH V n e xs)))[i]?=some x->
   ∃y,(encL V S.len cs)[i]?=some y/\H.le (H.frz n (tsz V.sz e) (xs.map λx=>dc V.sz V.enc e x) y) x:=by
   intro i x hx
   simp only[encL_map,Ue]at hx⊢
   cases hc:cs[i]? with
   |none=>rw[hc]at hx;cases hx
   |some c=>rw[hc]at hx;simp at hx;subst hx;exact⟨_,rfl,xN hn c⟩
  unfold cU
  split
  ·rename_i ds hds
   obtain⟨g1,g2⟩:=f7 hds
   simp only[H.frz]
   have e1:H.le (.d (.agg ds)) (.agg (encL V S.len cs)):=by
    have:=lQ (encL V S.len cs)
    unfold cU at this
    rw[hds]at this;exact this
   refine lM e1 (hp _ (λi x hx=> ?_) (aG ..))
   obtain⟨y,hy,hle⟩:=hfrz i x hx
   refine⟨y,hy,?_⟩
   rw[g2]at hy
   cases hd:ds[i]? with
   |none=>rw[hd]at hy;cases hy
   |some d=>rw[hd]at hy;simp at hy;subst hy;simpa only[H.frz]using hle
  ·simp only[H.frz]
   refine lM (lQ _) (hp _ (λi x hx=> ?_) (by rw[H.frzL_len,aG]))
   obtain⟨y,hy,hle⟩:=hfrz i x hx
   exact⟨_,by rw[H.frzL_get,hy];rfl,hle⟩
 ·exact xN hn v
theorem DV{S:TS V.N}{n:Nat}{te:TypeId}{e:Ty V.ι}{xs:List (den V.N e)}(hn:S.own? n=some (.vec te e xs)):Ent (aH V S) (aH V (S.frz V n e xs)):=by
 refine Ent.trans (Ent.freeze (fR hn)) (Ent.le (λt x hx=> ?_) λm o ho=> ?_)
 ·rw[cI]at hx
  simp only[TS.frz,gC]at hx
  cases hq:gt S.tmps t with
  |none=>rw[hq]at hx;cases hx
  |some v=>
   rw[hq]at hx;simp at hx;subst hx
   refine⟨_,by simp only[ae.frz,gC,cI,hq,UB],KH hn v⟩
 ·rw[aM,Vw]at ho
  obtain⟨o1,ho1,ho⟩:=ho
  have hown:(S.frz V n e xs).own? m=if n=m then some (.gone xs.length)else(S.own? m).map (Bg V n e xs):=by
   unfold TS.own? TS.frz
   simp only[ah]
   split
   ·rfl
   ·rw[gC (Bg V n e xs)]
  rw[hown]at ho1
  by_cases hm:n=m
  ·rw[XK hm]at ho1;simp at ho1;subst ho1;simp[bg]at ho
  ·rw[XJ hm]at ho1
   cases hq:S.own? m with
   |none=>rw[hq]at ho1;cases ho1
   |some o0=>
    rw[hq]at ho1;simp at ho1;subst ho1
    have hsrc:∀x,bg V S.len o0=some x->((aH V S).frz n (tsz V.sz e) (xs.map λx=>dc V.sz V.enc e x)).own? m=some (Own.frz n (tsz V.sz e) (xs.map λx=>dc V.sz V.enc e x) x):=by
     intro x hx
     have:=aM S m
     rw[hq]at this
     simp only[T0,hx]at this
     unfold ae.own? at this⊢
     simp only[ae.frz,ah]
     rw[XJ hm,gC (λx:Option Own=>x.map (Own.frz n (tsz V.sz e) (xs.map λx=>dc V.sz V.enc e x)))]
     cases hg:gt (aH V S).own m with
     |none=>rw[hg]at this;cases this
     |some oo=>rw[hg]at this;simp at this;subst this;rfl
    cases o0 with
    |gone l=>simp[Bg,bg]at ho
    |bst i y=>
     simp only[Bg,bg,Ud]at ho
     subst ho
     refine⟨_,hsrc _ rfl,?_⟩
     simp only[Own.frz]
     refine OLe.box (.inr rfl) (by rw[H.frzL_len]) λi' x hx=> ?_
     refine⟨_,by rw[H.frzL_get,hx];rfl,?_⟩
     rw[Ue,Ul]at hx
     obtain⟨d,_,rfl⟩:=hx
     exact DW _ (by simp[H.has])
    |vec te' e' ys=>
     simp only[Bg,bg,Ud]at ho
     subst ho
     exact⟨_,hsrc _ rfl,OLe.refl _⟩
    |dvec te' e' ys=>
     simp only[Bg,bg,Ud]at ho
     subst ho
     exact⟨_,hsrc _ rfl,OLe.refl _⟩
    |pvec te' e' ys=>
     simp only[Bg,bg,Ud]at ho
     subst ho
     exact⟨_,hsrc _ rfl,OLe.refl _⟩
    |map tk tv es=>
     simp only[Bg,bg,Ud]at ho
     subst ho
     exact⟨_,hsrc _ rfl,OLe.refl _⟩
    |iter s p=>
     simp only[Bg,bg,Ud]at ho
     subst ho
     exact⟨_,hsrc _ rfl,OLe.refl _⟩
    |miter m k v es rest cur=>
     simp only[Bg,bg,Ud]at ho
     subst ho
     exact⟨_,hsrc _ rfl,OLe.refl _⟩
    |box oty cells=>
     simp only[Bg,bg,Ud]at ho
     subst ho
     refine⟨_,hsrc _ rfl,?_⟩
     simp only[Own.frz]
     refine OLe.box (.inr rfl) (by rw[H.frzL_len,aG,aG,Ug]) λi x hx=> ?_
     simp only[encL_map,Ue]at hx
     cases hc:cells[i]? with
     |none=>rw[hc]at hx;cases hx
     |some c=>
      rw[hc]at hx;simp at hx;subst hx
      exact⟨_,by rw[H.frzL_get,encL_map,Ue,hc];rfl,xN hn c⟩
theorem Ent.tle{S S':TS V.N}(hl:S'.len=S.len)(ht:∀t v,gt S'.tmps t=some v->gt S.tmps t=some v)
 (ho:∀n o x,S'.own? n=some o->bg V S.len o=some x->∃o' x',S.own? n=some o'/\bg V S.len o'=some x'/\OLe x' x):Ent (aH V S) (aH V S'):=by
 refine Ent.le (λt x hx=> ?_) λn x hx=> ?_
 ·rw[cI,Ul]at hx
  obtain⟨v,hv,rfl⟩:=hx
  exact⟨_,by rw[cI,ht t v hv];rfl,by rw[hl];exact H.le.refl _⟩
 ·rw[aM,Vw]at hx
  obtain⟨o,ho1,ho2⟩:=hx
  rw[hl]at ho2
  obtain⟨o',x',h1,h2,h3⟩:=ho n o x ho1 ho2
  exact⟨x',by rw[aM,h1];exact h2,h3⟩
theorem iy{S:TS V.N}{n:Nat}{te:TypeId}{e:Ty V.ι}{xs:List (den V.N e)}(h:S.own? n=some (.dvec te e xs)):
 (aH V S).own? n=some (.dvec te (tsz V.sz e) (xs.map λx=>cD V.sz V.enc V.tid V.encd e x)):=by rw[aM,h];rfl
theorem ou{S:TS V.N}{n:Nat}{te:TypeId}{e:Ty V.ι}{xs:List (Option (den V.N e))}(h:S.own? n=some (.pvec te e xs)):
 (aH V S).own? n=some (.dvec te (tsz V.sz e) (xs.map λx=>ra V e x)):=by rw[aM,h];rfl
theorem zS(S:TS V.N)(n:Nat)(o:TO V.N)(m:Nat):({S with own:=(n,o)::S.own}:TS V.N).own? m=if n=m then some o else S.own? m:=by
 unfold TS.own?
 rw[ah]
theorem Kx{S:TS V.N}{n:Nat}{te:TypeId}{e:Ty V.ι}{ys:List (den V.N e)}(hn:S.own? n=some (.dvec te e ys)):
 Ent (aH V S) (aH V {S with own:=(n, .vec te e ys)::S.own}):=λC E M a w hs=>by
 obtain⟨M',h1⟩:=hs.dfrz (iy hn) (tC ys)
 refine⟨E,M',?_⟩
 have hl:({S with own:=(n, .vec te e ys)::S.own}:TS V.N).len=S.len:=by
  funext m
  unfold TS.len
  rw[zS]
  by_cases h:n=m
  ·subst h;rw[XK rfl,hn];simp[TO.len]
  ·rw[XJ h]
 have:aH V {S with own:=(n, .vec te e ys)::S.own}={aH V S with own:=(n,some (.vec te (tsz V.sz e) (ys.map λx=>dc V.sz V.enc e x)))::(aH V S).own}:=by
  unfold aH
  rw[hl]
  rfl
 rw[this]
 exact h1
theorem DU(S:TS V.N)(v:TV V.N):Ent (aH V S) (aH V (KG V S v)):=by
 unfold KG
 split
 ·rename_i n
  split
  ·rename_i te e xs hn;exact DV hn
  ·rename_i te e ys hn
   exact Ent.trans (Kx hn) (DV (by rw[zS,XK rfl]))
  ·exact Ent.refl _
 ·exact Ent.refl _
theorem Fb{S1 S2:TS V.N}{n:Nat}{te:TypeId}{e:Ty V.ι}(ht:S2.tmps=S1.tmps)(h1:S1.own? n=some (.vec te e []))(h2:S2.own? n=some (.dvec te e []))(h3:∀k,k≠n->S2.own? k=S1.own? k):Ent (aH V S1) (aH V S2):=by
 have hl:S2.len=S1.len:=by
  funext m
  unfold TS.len
  by_cases h:m=n
  ·subst h;rw[h1,h2];rfl
  ·rw[h3 m h]
 refine Ent.tle hl (λt v hv=>by rw[<-ht];exact hv) λk o x hk hx=> ?_
 by_cases h:k=n
 ·subst h
  rw[h2]at hk;cases hk
  simp only[bg,UM,Ud]at hx;subst hx
  exact⟨_,_,h1,rfl,by simpa using (OLe.v2d (e:=te) (sz:=tsz V.sz e) (rows:=[]))⟩
 ·rw[h3 k h]at hk
  exact⟨o,x,hk,hx,OLe.refl _⟩
theorem dE:∀(l:List (TV V.N)) (S:TS V.N),Ent (aH V S) (aH V (frzL V S l))
 |[],_=>Ent.refl _
 |v::r,S=>Ent.trans (DU S v) (dE r _)
theorem rZ(te:TypeId)(e:Ty V.ι)(S:TS V.N)(t:Nat):Ent (aH V S) (aH V (BI V false te e S t)):=by
 unfold BI L6
 simp only
 split
 ·rename_i ht
  split
  ·rename_i hf
   obtain⟨hf,hg⟩:=hf
   have hg:60000+t<given:=by simpa[VG]using hg
   have h1:gt (aH V S).tmps t=some (.d (.v (.slice none 0 0))):=by rw[cI,ht];simp[an,bF]
   have h2:(aH V S).fresh (60000+t)=true:=eo hf
   refine Ent.trans (Ent.nilvec (e:=te) (sz:=tsz V.sz e) h1 h2 hg) λC E M a w hs=>⟨E,M,?_⟩
   exact Sim.tapp (V:=V) (S:=S) (dst:=some t) (te:={val:= .vh (60000+t),upd:=[(60000+t, .vec te e [])],new:=[60000+t]}) (ex:=false)
    (e':={val:= .vh (60000+t) 0,upd:=[(60000+t,some (.vec te (tsz V.sz e) []))],new:=[60000+t]}) (λm o hm=>by
      simp only[ah]at hm
      split at hm
      ·rename_i e;left;simp[e]
      ·simp[gt]at hm) (λd hd=>by simp at hd;subst hd;exact hf) (bU (by
      simp only[an]
      rw[cH]
      simp[ah,TO.len]) rfl (by simp[bg]) rfl) hs
  ·exact Ent.refl _
 ·exact Ent.refl _
theorem vA(dv:Bool)(te:TypeId)(e:Ty V.ι)(S:TS V.N)(t:Nat):Ent (aH V S) (aH V (BI V dv te e S t)):=by
 cases dv with
 |false=>exact rZ te e S t
 |true=>
  refine Ent.trans (rZ te e S t) ?_
  unfold BI L6
  simp only
  split
  ·split
   ·refine Fb (n:=60000+t) (te:=te) (e:=e) rfl ?_ ?_ λk hk=> ?_<;>unfold TS.own?<;>simp only[ah]
    ·simp
    ·simp
    ·rw[XJ (UG hk),XJ (UG hk)]
   ·exact Ent.refl _
  ·exact Ent.refl _
theorem eT(objs:List (Nat×OPt V.ι)):∀(l:List (Nat×Pt V.ι)) (S:TS V.N),Ent (aH V S) (aH V (vM V objs S l))
 |[],_=>Ent.refl _
 |(t, .vh c)::r,S=>by
  simp only[vM]
  split
  ·exact Ent.trans (vA _ _ _ S t) (eT objs r _)
  ·exact Ent.trans (vA _ _ _ S t) (eT objs r _)
  ·exact eT objs r S
 |(t, .dat ty)::r,S=>by
  simp only[vM]
  exact Ent.trans (dE _ S) (eT objs r _)
 |(t, .bp c off)::r,S=>by simp only[vM];exact eT objs r S
 |(t, .mp c)::r,S=>by simp only[vM];exact eT objs r S
 |(t, .np c)::r,S=>by simp only[vM];exact eT objs r S
 |(t, .nif)::r,S=>by simp only[vM];exact eT objs r S
 |(t, .ag cs)::r,S=>by
  simp only[vM]
  exact Ent.trans (dE _ S) (eT objs r _)
 |(t, .fn f a b)::r,S=>by simp only[vM];exact eT objs r S
theorem pS(te:TypeId)(e:Ty V.ι)(S:TS V.N)(b i:Nat):Ent (aH V S) (aH V (r9 V false te e S b i)):=by
 unfold r9 L6
 simp only
 split
 ·rename_i oty cells hb
  split
  ·rename_i hc
   split
   ·rename_i hf
    obtain⟨hf,hg⟩:=hf
    generalize hn:70000+S.own.length=n at hf hg⊢
    have hg:n<given:=by simpa[VG]using hg
    have h1:(aH V S).own? b=some (.box oty (encL V S.len cells)):=by rw[aM,hb];rfl
    have h2:(encL V S.len cells)[i]?=some (.d (.v (.slice none 0 0))):=by rw[encL_map,Ue,hc];simp[an,bF]
    have hfr:=hf
    unfold TS.fresh at hfr
    simp only[Uk,Uo]at hfr
    obtain⟨⟨f1,f2⟩,f3⟩:=hfr
    have hbn:b≠n:=by
     rintro rfl
     rw[hb]at f1;cases f1
    have hcn:TV.hasL n cells=false:=by
     have:=f3 (b, .box oty cells) (bc hb)
     simpa[TO.has]using this
    refine Ent.trans (Ent.nilcell (e:=te) (sz:=tsz V.sz e) h1 h2 (eo hf) hg) λC E M a w hs=>⟨E,M,?_⟩
    refine Sim.tapp (V:=V) (S:=S) (dst:=none) (te:={val:= .junk,upd:=[(b, .box oty (cells.set i (.vh n))),(n, .vec te e [])],new:=[n]}) (ex:=false)
     (e':={val:= .junk,upd:=[(b,some (.box oty ((encL V S.len cells).set i (.vh n 0)))),(n,some (.vec te (tsz V.sz e) []))],new:=[n]}) (λm o hm=> ?_) (λd hd=>by simp at hd;subst hd;exact hf) (bU ?_ rfl ?_ rfl) hs
    ·simp only[ah]at hm
     split at hm
     ·rename_i e1
      right
      simp at hm;subst hm;subst e1
      unfold TS.len
      rw[hb];rfl
     ·split at hm
      ·rename_i e1;left;simp[e1]
      ·simp[gt]at hm
    ·simp[an]
    ·simp only[Uj,UM,bg]
     have hl:∀m,(S.app none ({val:= .junk,upd:=[(b, .box oty (cells.set i (.vh n))),(n, .vec te e [])],new:=[n]}:TE V.N)).len m=if m=n then 0 else S.len m:=by
      intro m
      rw[cH]
      simp only[ah]
      by_cases hmb:b=m
      ·subst hmb
       rw[XK rfl,XJ hbn]
       simp only[TO.len]
       unfold TS.len;rw[hb];rfl
      ·rw[XJ hmb]
       by_cases hmn:n=m
       ·subst hmn;simp[TO.len]
       ·rw[XJ hmn,XJ (λe=>hmn e.symm)];rfl
     have hcells:encL V (S.app none ({val:= .junk,upd:=[(b, .box oty (cells.set i (.vh n))),(n, .vec te e [])],new:=[n]}:TE V.N)).len (cells.set i (.vh n))=(encL V S.len cells).set i (.vh n 0):=by
      rw[encL_map,Wh,encL_map]
      congr 1
      ·rw[<-encL_map,<-encL_map]
       refine encL_congr cells λm hm=> ?_
       rw[hl,XJ]
       rintro rfl
       rw[hcn]at hm;cases hm
      ·simp only[an]
       rw[hl,XK rfl]
     rw[hcells]
   ·exact Ent.refl _
  ·exact Ent.refl _
 ·exact Ent.refl _
theorem r_(dv:Bool)(te:TypeId)(e:Ty V.ι)(S:TS V.N)(b i:Nat):Ent (aH V S) (aH V (r9 V dv te e S b i)):=by
 cases dv with
 |false=>exact pS te e S b i
 |true=>
  refine Ent.trans (pS te e S b i) ?_
  unfold r9 L6
  simp only
  split
  ·rename_i oty cells hb
   split
   ·split
    ·rename_i hf
     have hbn:b≠70000+S.own.length:=λe=>by
      have h1:=hf.1
      unfold TS.fresh at h1
      simp only[Uk]at h1
      rw[<-e,hb]at h1;exact absurd h1.1.1 (by simp)
     refine Fb (n:=70000+S.own.length) (te:=te) (e:=e) rfl ?_ ?_ λk hk=> ?_<;>unfold TS.own?<;>simp only[ah]
     ·rw[XJ hbn];simp
     ·rw[XJ hbn];simp
     ·rw[XJ (UG hk),XJ (UG hk)]
    ·exact Ent.refl _
   ·exact Ent.refl _
  ·exact Ent.refl _
theorem cz(objs:List (Nat×OPt V.ι))(b:Nat):∀(l:List (Pt V.ι)) (i:Nat) (S:TS V.N),Ent (aH V S) (aH V (fS V objs b i l S))
 |[],_,_=>Ent.refl _
 | .vh c::r,i,S=>by
  simp only[fS]
  split
  ·exact Ent.trans (r_ _ _ _ S b i) (cz objs b r _ _)
  ·exact Ent.trans (r_ _ _ _ S b i) (cz objs b r _ _)
  ·exact cz objs b r _ S
 | .dat ty::r,i,S=>by simp only[fS];exact Ent.trans (dE _ S) (cz objs b r _ _)
 | .bp c off::r,i,S=>by simp only[fS];exact cz objs b r _ S
 | .mp c::r,i,S=>by simp only[fS];exact cz objs b r _ S
 | .np c::r,i,S=>by simp only[fS];exact cz objs b r _ S
 | .nif::r,i,S=>by simp only[fS];exact cz objs b r _ S
 | .ag cs::r,i,S=>by simp only[fS];exact cz objs b r _ S
 | .fn f x y::r,i,S=>by simp only[fS];exact cz objs b r _ S
theorem BQ(objs:List (Nat×OPt V.ι))(c b:Nat)(S:TS V.N):Ent (aH V S) (aH V (Fy V objs c b S)):=by
 unfold Fy
 split
 ·exact cz objs b _ 0 S
 ·split
  ·exact dE _ S
  ·exact Ent.refl _
 ·exact Ent.refl _
theorem zZ(objs:List (Nat×OPt V.ι)):∀(m:Nat) (l:List (Nat×Nat)) (S:TS V.N),Ent (aH V S) (aH V (L7 V objs m l S))
 |0,_,_=>by simp only[L7];exact Ent.refl _
 |_+1,[],_=>by simp only[L7];exact Ent.refl _
 |m+1,(c,b)::r,S=>by simp only[L7];exact Ent.trans (BQ objs c b S) (zZ objs m _ _)
theorem Iu(objs:List (Nat×OPt V.ι))(l:List (Nat×Pt V.ι))(S:TS V.N):Ent (aH V S) (aH V (P5 V objs S l)):=by
 unfold P5
 split
 ·exact eT _ l S
 ·exact Ent.trans (eT _ l S) (zZ _ _ _ _)
theorem dD{c:Cut V.ι}{S:TS V.N}{v:HL V.N c.tys}(h:A9 V c S=some v):Ent (aH V S) (aH V (bV V c v)):=by
 unfold A9 at h
 split at h
 ·rename_i σ ls hx
  obtain⟨hok,h⟩:=ao h
  have:=qt h
  unfold bV
  rw[this]
  exact Ent.trans (Iu c.objs c.slots S) (Kw hx hok)
 ·cases h
end
end Go.Tx
end
section
namespace Go.Tx
open Go.Awp
variable [Inhabited GMem]
theorem n_(x:D):DD.toL [.d x]=some [x]:=by simp[DD.toL,DD.toD]
theorem Oh{t z:Nat}{rows:List (List DD)}{ds:List (List D)}(h:DD.toR rows=some ds):DD.toL [.sl t z rows]=some [.sl z ds]:=by simp[DD.toL,DD.toD,h]
theorem R2{r:List DD}{s:List (List DD)}{x:List D}{y:List (List D)}(h:DD.toL r=some x)(h':DD.toR s=some y):DD.toR (r::s)=some (x::y):=by simp[DD.toR,h,h']
theorem Oi{α:Type}{f:α->List DD}{g:α->List D}(h:∀x,DD.toL (f x)=some (g x)):∀l:List α,DD.toR (l.map f)=some (l.map g)
 |[]=>by simp[DD.toR]
 |x::r=>R2 (h x) (Oi h r)
section
variable (V:mz)
def OQ:Ty V.ι->Bool
 | .st i=>V.flat i
 | .sl _=>false
 |_=>true
def vI(e:Ty V.ι)(ys:List (den V.N e)):TO V.N:=match OQ V e with
 |true=> .vec (V.tid e) e ys
 |false=> .dvec (V.tid e) e ys
def gW(b:Nat):Nat->List (dm V.N)->List (TV V.N)×List (Nat×TO V.N)
 |_,[]=>([],[])
 |j,l::r=>match l with
  |⟨.sl e,ys⟩=>(.vh (Ac b j)::(gW b (j+1) r).1,(Ac b j,vI V e ys)::(gW b (j+1) r).2)
  |⟨t,x⟩=>(.lf t x::(gW b (j+1) r).1,(gW b (j+1) r).2)
def nin(n:Nat):List Nat->Bool
 |[]=>true
 |k::r=> !Vb k n&&nin n r
def xB:List Nat->Bool
 |[]=>true
 |k::r=>nin k r&&xB r
def Nj{α:Type}:List α->Bool
 |[]=>true
 |_::_=>false
def Lt(ag:Bool)(ot:Option (Ty V.ι))(vs:List (TV V.N)):Option (TV V.N):=match ag with
 |true=>some (mkV V true ot vs)
 |false=>match vs with
  |[v]=>some v
  |_=>none
variable (P:Program) (nm:Nat->Nat)
def HD{A:Type}(t:TypeId)(ag:Bool)(sz n s i off d:Nat)(te:TypeId)(e:Ty V.ι)(xs:List (Option (den V.N e)))(y:den V.N e)(k:TE V.N->Option A):Option A:=
 if s=tsz V.sz e/\off+hZ ag sz<=s then match gW V (nm d) off (((aK V e y).drop off).take (hZ ag sz))with
  |(vs,os)=>match Lt V ag (V.ty t) vs,xB (os.map (·.1))with
   |some v,true=>match Nj os with
    |true=>k {val:=v,acc:=[n]}
    |false=>k {val:=v,acc:=[n],upd:=(n, .pvec te e (xs.set i none))::os,new:=os.map (·.1)}
   |_,_=>none
 else none
def Gi{A:Type}(t:TypeId)(x:Operand)(dst:Option Tmp)(S:TS V.N)(k:TE V.N->Option A):Option A:=match cj P t,tev S x,dst with
 |some (ag,sz), .ep n s i off,some d=>match S.own? n with
  |some (.dvec te e ys)=>ys[i]?>>=λy=>HD V nm t ag sz n s i off d te e (ys.map some) y k
  |some (.pvec te e xs)=>xs[i]?>>=λox=>ox>>=λy=>HD V nm t ag sz n s i off d te e xs y k
  |_=>none
 |_,_,_=>none
def give1(S:TS V.N):Ty V.ι->TV V.N->Option (dm V.N×Option Nat)
 | .sl e, .vh n=>match S.own? n with
  |some (.vec te e' xs)=>if te=V.tid e'/\e'=e/\OQ V e'=true then some (⟨.sl e',xs⟩,some n)else none
  |some (.dvec te e' ys)=>if te=V.tid e'/\e'=e then some (⟨.sl e',ys⟩,some n)else none
  |_=>none
 | .sl e, .raw (.slice none 0 0)=>some (⟨.sl e,[]⟩,none)
 | .sl _,_=>none
 |t, .lf t' x=>if t'=t then some (⟨t',x⟩,none)else none
 |_,_=>none
def uU(S:TS V.N):List (Ty V.ι)->List (TV V.N)->Option (List (dm V.N)×List (Option Nat))
 |[],[]=>some ([],[])
 |t::ts,v::vs=>match give1 V S t v,uU S ts vs with
  |some (l,n),some (ls,ns)=>some (l::ls,n::ns)
  |_,_=>none
 |_,_=>none
def DJ:Ty V.ι->List (Ty V.ι)
 | .st i=>V.tys i
 |t=>[t]
def Ab{A:Type}(s sz n:Nat)(e:Ty V.ι)(cs:List (TV V.N))(S:TS V.N)(k:den V.N e->List Nat->Option A):Option A:=
 if s=tsz V.sz e/\sz=s/\cs.length=s/\cs.all TV.one=true then match uU V S (DJ V e) cs with
  |some (ls,ns)=>match mq V e ls with
   |some y=>match xB (fY ns)&&nin n (fY ns)with
    |true=>k y (fY ns)
    |false=>none
   |none=>none
  |none=>none
 else none
def xQ(S:TS V.N)(ns:List Nat):List (Nat×TO V.N):=ns.map λm=>(m, .gone (S.len m))
def zg{A:Type}(t:TypeId)(x y:Operand)(S:TS V.N)(k:TE V.N->Option A):Option A:=match cj P t,tev S x,TV.cells V (tev S y)with
 |some (_,sz), .ep n s i 0,some cs=>match S.own? n with
  |some (.dvec te e ys)=>ys[i]?>>=λ_=>Ab V s sz n e cs S λy ns=>k {val:= .junk,acc:=n::ns,upd:=(n, .dvec te e (ys.set i y))::xQ V S ns}
  |some (.pvec te e xs)=>xs[i]?>>=λ_=>Ab V s sz n e cs S λy ns=>Db (xs.set i (some y))>>=λys=>k {val:= .junk,acc:=n::ns,upd:=(n, .dvec te e ys)::xQ V S ns}
  |_=>none
 |_,_,_=>none
def zb{A:Type}(t:TypeId)(len:Nat)(parts:List (Nat×Operand))(dst:Option Tmp)(S:TS V.N)(k:TE V.N->Option A):Option A:=match parts,dst,bT P t,V.ty t with
 |[(0,x)],some d,some (te,sz,_),some (.sl e)=>match TV.cells V (tev S x)with
  |some cs=>if len=1/\sz=tsz V.sz e/\sz<=16777216/\cs.length=sz then match uU V S (DJ V e) cs with
   |some (ls,ns)=>match mq V e ls with
    |some y=>match xB (fY ns)with
     |true=>k {val:= .vh (nm d),acc:=fY ns,upd:=(nm d, .dvec te e [y])::xQ V S (fY ns),new:=[nm d]}
     |false=>none
    |none=>none
   |none=>none
   else none
  |none=>none
 |_,_,_,_=>none
def LD{A:Type}(args:List (TV V.N))(tys:List TypeId)(dst:Option Tmp)(S:TS V.N)(k:TE V.N->Option A):Option A:=match args,tys,dst with
 |[x, .vh n2],[t,t'],some d=>match bT P t,S.own? n2 with
  |some (te,sz,bytes),some (.dvec te2 e ys)=>if t=t'/\te=te2/\sz=tsz V.sz e/\bytes<=32768/\¬n2=nm d then match x with
   | .vh n=>if¬n=nm d/\¬n=n2 then match S.own? n with
     |some (.dvec te1 e1 xs)=>if h:e=e1 then
      if te1=te then
       if xs.length+ys.length<=most then k {val:= .vh (nm d),acc:=[n,n2],upd:=[(nm d, .dvec te e1 (xs++h▸ys)),(n, .gone (S.len n)),(n2, .gone (S.len n2))],new:=[nm d]}else none
      else none
      else none
     |some (.pvec te1 e1 xs)=>if h:e=e1 then
      if te1=te then
       if xs.length+ys.length<=most then k {val:= .vh (nm d),acc:=[n,n2],upd:=[(nm d, .pvec te e1 (xs++h▸ys.map some)),(n, .gone (S.len n)),(n2, .gone (S.len n2))],new:=[nm d]}else none
      else none
      else none
     |_=>none
    else none
   | .raw (.slice none 0 0)=>if ys.length<=most then k {val:= .vh (nm d),acc:=[n2],upd:=[(nm d, .dvec te e ys),(n2, .gone (S.len n2))],new:=[nm d]}else none
   |_=>none
   else none
  |_,_=>none
 |_,_,_=>none
def LH{A:Type}(t:TypeId)(x i:Operand)(S:TS V.N)(k:TE V.N->Option A):Option A:=match bT P t,tev S x,tev S i with
 |some (_,sz,_), .vh m, .lf (.int _) n=>match S.own? m with
  |some (.dvec _ _ xs)=>if 0<=n/\n<xs.length then k {val:= .ep m sz n.toNat 0,acc:=[m]}else none
  |some (.pvec _ _ xs)=>if 0<=n/\n<xs.length then k {val:= .ep m sz n.toNat 0,acc:=[m]}else none
  |_=>none
 |_,_,_=>none
def LF{A:Type}(t:TypeId)(x:Operand)(lo hi mx:Option Operand)(S:TS V.N)(k:TE V.N->Option A):Option A:=match mx,bT P t,tev S x with
 |none,some (_,sz,_), .vh n=>match S.own? n with
  |some (.vec _ e xs)=>match Jg V S lo 0,Jg V S hi xs.length with
   |some l,some h=>if(sz=tsz V.sz e/\0<xs.length)/\0<=l/\l<=h/\h<=xs.length then k {val:= .sv n sz l.toNat (h.toNat-l.toNat),acc:=[n]}else none
   |_,_=>none
  |_=>none
 |_,_,_=>none
def Gh{A:Type}(args:List (TV V.N))(tys:List TypeId)(dst:Option Tmp)(S:TS V.N)(k:TE V.N->Option A):Option A:=match args,tys,dst with
 |[.sv n sz lo i, .sv n2 sz2 j len],[t,t'],some d=>match bT P t,S.own? n with
  |some (te,sz',_),some (.vec te1 e xs)=>if((t=t'/\te=te1)/\(sz'=tsz V.sz e/\sz=sz')/\(sz2=sz'/\n2=n))/\(lo=0/\len=xs.length-j)/\(i<=j/\j<=xs.length)then
   k {val:= .vh (nm d),acc:=[n],upd:=[(nm d, .vec te1 e (xs.take i++xs.drop j)),(n, .gone (S.len n))],new:=[nm d]}
   else none
  |_,_=>none
 |_,_,_=>none
def mY(b:Nat):Nat->List (Ty V.ι)->List Value->List (TV V.N)×List (Nat×TO V.N)
 |j,t::ts,z::zs=>match t,z with
  | .sl e, .slice none 0 0=>(.vh (Ac b j)::(mY b (j+1) ts zs).1,(Ac b j,vI V e [])::(mY b (j+1) ts zs).2)
  |_,z=>(tvc z::(mY b (j+1) ts zs).1,(mY b (j+1) ts zs).2)
 |_,_,zs=>(zs.map tvc,[])
def Gj{A:Type}(t:TypeId)(parts:List (Nat×Operand))(dst:Option Tmp)(k:TE V.N->Option A):Option A:=match parts,qD P t,places P t with
 |[],some z,some _=>match V.ty t,dst with
  |some (.st i),some d=>match z.all d7,mY V d 0 (V.tys i) z with
   |true,(vs,os)=>match xB (os.map (·.1))with
    |true=>k {val:= .agg vs,acc:=[],upd:=os,new:=os.map (·.1)}
    |false=>none
   |false,_=>none
  |_,_=>none
 |_,_,_=>none
def isD:Option (TO V.N)->Bool
 |some (.dvec ..)=>true
 |some (.pvec ..)=>true
 |_=>false
def JG(pre:Nat->Bool)(o:Oper)(S:TS V.N):Bool:=match o.op with
 | .load _ x=>match tev S x with
  | .ep n _ _ _=>isD V (S.own? n)
  |_=>false
 | .store _ x _=>match tev S x with
  | .ep n _ _ _=>isD V (S.own? n)
  |_=>false
 | .indexAddr _ x _=>match tev S x with
  | .vh n=>isD V (S.own? n)
  |_=>false
 | .buildSlice _ _ _=>match o.dst with
  |some d=>pre (1000000+d)
  |none=>false
 | .call c=>match c.callee with
  | .builtin .append=>match c.args.toList with
   |[_,y]=>match tev S y with
    | .vh n=>isD V (S.own? n)
    | .sv .. =>true
    |_=>false
   |_=>false
  |_=>false
 | .slice _ _ _ _ _=>match o.dst with
  |some d=>pre (3000000+d)
  |none=>false
 | .build _ parts=>match parts.toList,o.dst with
  |[],some d=>pre (1000000+d)
  |_,_=>false
 |_=>false
def Gf{A:Type}(o:Oper)(S:TS V.N)(k:TE V.N->Option A):Option A:=match o.op with
 | .load t x=>Gi V P nm t x o.dst S k
 | .store t x y=>zg V P t x y S k
 | .indexAddr t x i=>LH V P t x i S k
 | .buildSlice t len parts=>zb V P nm t len parts.toList o.dst S k
 | .call c=>match c.callee with
  | .builtin .append=>match c.args.toList.map (tev S)with
   |[_, .sv ..]=>Gh V P nm (c.args.toList.map (tev S)) c.argTypes.toList o.dst S k
   |_=>LD V P nm (c.args.toList.map (tev S)) c.argTypes.toList o.dst S k
  |_=>none
 | .slice t x lo hi mx=>LF V P t x lo hi mx S k
 | .build t parts=>Gj V P t parts.toList o.dst k
 |_=>none
end
section
variable {V:mz}
theorem rQ{e:Ty V.ι}(h:OQ V e=true)(y:den V.N e):cD V.sz V.enc V.tid V.encd e y=(dc V.sz V.enc e y).map .d:=by
 cases e with
 |st i=>
  simp only[cD,dc]
  rw[V.encd_cells,V.enc_cells,UH]
  refine U7 λl hl=> ?_
  have:=V.flat_cells i y h l hl
  obtain⟨t,x⟩:=l
  cases t<;>first|rfl|simp[Ty.isSl]at this
 |sl e=>simp[OQ]at h
 |_=>rfl
theorem Is(e:Ty V.ι)(ys:List (den V.N e)):∃o,(∀ω,bg V ω (vI V e ys)=some o)/\OLe (.dvec (V.tid e) (tsz V.sz e) (ys.map λx=>cD V.sz V.enc V.tid V.encd e x)) o:=by
 unfold vI
 split
 ·rename_i h
  refine⟨_,λ_=>rfl,?_⟩
  have:(ys.map λx=>cD V.sz V.enc V.tid V.encd e x)=(ys.map λx=>dc V.sz V.enc e x).map λr=>r.map .d:=by
   rw[UH]
   exact U7 λx _=>rQ h x
  rw[this]
  exact OLe.d2v
 ·exact⟨_,λ_=>rfl,OLe.refl _⟩
theorem vJ(e:Ty V.ι)(ys:List (den V.N e)):TO.len (some (vI V e ys))=ys.length:=by
 unfold vI
 split<;>rfl
theorem g9(e:Ty V.ι)(y:den V.N e):cD V.sz V.enc V.tid V.encd e y=(aK V e y).map λl=>fE V.sz V.enc V.tid V.encd l.t l.x:=by
 cases e with
 |st i=>simp only[cD,aK];exact V.encd_cells i y
 |sl e=>rfl
 |_=>rfl
theorem qq(b:Nat):∀(ls:List (dm V.N)) (j:Nat),∃hs os os' ds,mw (Ac b) j (ls.map λl=>fE V.sz V.enc V.tid V.encd l.t l.x)=some (hs,os,ds)/\PLe os os'/\(∀ω,os'.map (λp=>(p.1,some p.2))=(gW V b j ls).2.map λp=>(p.1,bg V ω p.2))/\
 (∀ω:Nat->Nat,(∀p∈(gW V b j ls).2,ω p.1=TO.len (some p.2))->hs=encL V ω (gW V b j ls).1)/\((gW V b j ls).2=[]->os=[]/\ds=ls.map λl=>fE V.sz V.enc V.tid V.encd l.t l.x)
 |[],j=>⟨[],[],[],[],rfl, .nil,λ_=>rfl,λ_ _=>rfl,λ_=>⟨rfl,rfl⟩⟩
 |⟨t,x⟩::r,j=>by
  obtain⟨hs,os,os',ds,h1,h2,h3,h4,h5⟩:=qq b r (j+1)
  have other:∀(t:Ty V.ι) (x:den V.N t),fE V.sz V.enc V.tid V.encd t x= .d (aO V.sz V.enc t x)->gW V b j (⟨t,x⟩::r)=(.lf t x::(gW V b (j+1) r).1,(gW V b (j+1) r).2)->
   ∃hs os os' ds,mw (Ac b) j ((⟨t,x⟩::r:List (dm V.N)).map λl=>fE V.sz V.enc V.tid V.encd l.t l.x)=some (hs,os,ds)/\PLe os os'/\(∀ω,os'.map (λp=>(p.1,some p.2))=(gW V b j (⟨t,x⟩::r)).2.map λp=>(p.1,bg V ω p.2))/\
  (∀ω:Nat->Nat,(∀p∈(gW V b j (⟨t,x⟩::r)).2,ω p.1=TO.len (some p.2))->hs=encL V ω (gW V b j (⟨t,x⟩::r)).1)/\
    ((gW V b j (⟨t,x⟩::r)).2=[]->os=[]/\ds=(⟨t,x⟩::r:List (dm V.N)).map λl=>fE V.sz V.enc V.tid V.encd l.t l.x):=by
    intro t x he ht
    rw[ht]
    refine⟨.d (aO V.sz V.enc t x)::hs,os,os', .d (aO V.sz V.enc t x)::ds,?_,h2,h3,λω hω=> ?_,λhn=>⟨(h5 hn).1,?_⟩⟩
    ·simp only[Uj,mw,h1,he]
    ·simp only[encL,an]
     rw[h4 ω hω]
    ·rw[Uj,(h5 hn).2,he]
  cases t with
  |sl e=>
   obtain⟨o,o1,o2⟩:=Is (V:=V) e x
   refine⟨.vh (Ac b j) x.length::hs,(Ac b j, .dvec (V.tid e) (tsz V.sz e) (x.map λy=>cD V.sz V.enc V.tid V.encd e y))::os,(Ac b j,o)::os', .junk::ds,?_, .cons o2 h2,λω=> ?_,λω hω=> ?_,λhn=> ?_⟩
   ·simp only[Uj,mw,h1]
    simp only[fE,Ug]
   ·simp only[gW,Uj,h3 ω,o1]
   ·simp only[gW,encL,an]at hω⊢
    have:=hω _ Uf
    simp only at this
    rw[this,vJ,h4 ω λp hp=>hω p (Ua _ hp)]
   ·simp only[gW]at hn;cases hn
  |int k=>exact other _ x rfl rfl
  |bool=>exact other _ x rfl rfl
  |str=>exact other _ x rfl rfl
  |st i=>exact other _ x rfl rfl
  |mp k v=>exact other _ x rfl rfl
  |er=>exact other _ x rfl rfl
  |op e=>exact other _ x rfl rfl
  |fnc=>exact other _ x rfl rfl
theorem ym{n:Nat}:∀{l:List Nat},nin n l=true->n∉l
 |[],_=>by simp
 |k::r,h=>by
  simp only[nin,Uk,VP]at h
  intro hm
  rcases Um.1 hm with q|q
  ·subst q;simp at h
  ·exact ym h.2 q
theorem fD:∀{l:List Nat},xB l=true->l.Nodup
 |[],_=> .nil
 |a::r,h=>by
  simp only[xB,Uk]at h
  exact Vi.2 ⟨ym h.1,fD h.2⟩
theorem km{e:Ty V.ι}{ls:List (dm V.N)}{y:den V.N e}(h:mq V e ls=some y):aK V e y=ls:=by
 have single:∀(t:Ty V.ι) (y:den V.N t) (l:dm V.N),(if h:l.t=t then some (h▸l.x:den V.N t)else none)=some y->[(⟨t,y⟩:dm V.N)]=[l]:=by
  intro t y l h
  split at h
  ·rename_i ht
   obtain⟨lt,lx⟩:=l
   simp only at ht;subst ht
   simp only[Ud]at h
   subst h;rfl
  ·cases h
 cases e with
 |st i=>exact V.of_cells _ _ _ h
 |_=>
  cases ls with
  |nil=>simp[mq]at h
  |cons l r=>
   cases r with
   |nil=>exact single _ y l h
   |cons a b=>simp[mq]at h
theorem xP{S:TS V.N}{t:Ty V.ι}{v:TV V.N}{l:dm V.N}{n:Option Nat}(h:give1 V S t v=some (l,n)):kv (aH V S).own? (an V S.len v) (fE V.sz V.enc V.tid V.encd l.t l.x) n:=by
 unfold give1 at h
 split at h
 ·rename_i e n'
  split at h
  ·rename_i te e' xs hn
   have h':=ao h;clear h
   obtain⟨⟨h1,h2,hf⟩,h⟩:=h'
   subst h1;subst h2
   simp only[Ud,UC]at h
   obtain⟨rfl,rfl⟩:=h
   have:=kv.v (ω:=(aH V S).own?) n' (V.tid e') (tsz V.sz e') _ (fR hn)
   simp only[an,hY hn,fE]
   rw[Ug]at this
   have he:(xs.map λx=>cD V.sz V.enc V.tid V.encd e' x)=(xs.map λx=>dc V.sz V.enc e' x).map λr=>r.map .d:=by
    rw[UH]
    exact U7 λx _=>rQ hf x
   rw[he];exact this
  ·rename_i te e' ys hn
   have h':=ao h;clear h
   obtain⟨⟨h1,h2⟩,h⟩:=h'
   subst h1;subst h2
   simp only[Ud,UC]at h
   obtain⟨rfl,rfl⟩:=h
   have:=kv.dv (ω:=(aH V S).own?) n' (V.tid e') (tsz V.sz e') _ (iy hn)
   have hl:S.len n'=ys.length:=by unfold TS.len;rw[hn];rfl
   simp only[an,hl,fE]
   rw[Ug]at this
   exact this
  ·cases h
 ·rename_i e
  simp only[Ud,UC]at h
  obtain⟨rfl,rfl⟩:=h
  exact .nil _ _
 ·cases h
 ·rename_i t' x hne
  have h':=ao h;clear h
  obtain⟨h1,h⟩:=h'
  subst h1
  simp only[Ud,UC]at h
  obtain⟨rfl,rfl⟩:=h
  have:fE V.sz V.enc V.tid V.encd t' x= .d (aO V.sz V.enc t' x):=by
   cases t'<;>first|rfl|simp_all
  rw[this]
  exact .d _
 ·cases h
theorem kX{S:TS V.N}:∀{ts:List (Ty V.ι)} {vs:List (TV V.N)} {ls:List (dm V.N)} {ns:List (Option Nat)},uU V S ts vs=some (ls,ns)->
 ∃l:List (H×DD×Option Nat),(l.map λp=>p.1)=encL V S.len vs/\(l.map λp=>p.2.1)=(ls.map λl=>fE V.sz V.enc V.tid V.encd l.t l.x)/\(l.map λp=>p.2.2)=ns/\∀p∈l,kv (aH V S).own? p.1 p.2.1 p.2.2
 |[],[],ls,ns,h=>by
  simp only[uU,Ud,UC]at h
  obtain⟨rfl,rfl⟩:=h
  exact⟨[],rfl,rfl,rfl,λp hp=>by cases hp⟩
 |[],_::_,ls,ns,h=>by simp[uU]at h
 |_::_,[],ls,ns,h=>by simp[uU]at h
 |t::ts,v::vs,ls,ns,h=>by
  simp only[uU]at h
  split at h
  ·rename_i l n ls' ns' h1 h2
   simp only[Ud,UC]at h
   obtain⟨rfl,rfl⟩:=h
   obtain⟨L,a1,a2,a3,a4⟩:=kX h2
   refine⟨(an V S.len v,fE V.sz V.enc V.tid V.encd l.t l.x,n)::L,by simp[encL,a1],by simp[a2],by simp[a3],λp hp=> ?_⟩
   rcases Um.1 hp with q|q
   ·subst q;exact xP h1
   ·exact a4 p q
  ·cases h
theorem DP{l:dm V.N}(h:l.t.cell=true):DD.one (fE V.sz V.enc V.tid V.encd l.t l.x)=true:=by
 obtain⟨t,x⟩:=l
 have:=oW (l:=⟨t,x⟩) h
 cases t<;>first|rfl|(simp[Ty.cell]at h;done)|simpa[fE,DD.one,H.one]using this
theorem DQ(e:Ty V.ι)(y:den V.N e):(cD V.sz V.enc V.tid V.encd e y).all DD.one=true:=by
 rw[g9,VJ,Uo]
 exactλl hl=>DP (p7 e y l hl)
theorem dlen{S:TS V.N}{n:Nat}{te:TypeId}{e:Ty V.ι}{xs:List (den V.N e)}(h:S.own? n=some (.dvec te e xs)):S.len n=xs.length:=by unfold TS.len;rw[h];rfl
theorem OS{S:TS V.N}{n:Nat}{te:TypeId}{e:Ty V.ι}{xs:List (Option (den V.N e))}(h:S.own? n=some (.pvec te e xs)):S.len n=xs.length:=by unfold TS.len;rw[h];rfl
theorem fT{e:Ty V.ι}(ys:List (den V.N e)):((ys.map some).map λx=>ra V e x)=ys.map λx=>cD V.sz V.enc V.tid V.encd e x:=by
 rw[UH];rfl
theorem uW{S:TS V.N}{ns:List Nat}{m:Nat}{o:TO V.N}(h:gt (xQ V S ns) m=some o):TO.len (some o)=S.len m:=by
 obtain⟨k,_,hk⟩:=Uy.1 (bc h)
 simp only[UC]at hk
 obtain⟨rfl,rfl⟩:=hk
 rfl
theorem uV(ω:Nat->Nat)(S:TS V.N)(ns:List Nat):(xQ V S ns).map (λp=>(p.1,bg V ω p.2))=ns.map λn=>(n,none):=by
 unfold xQ
 rw[UH]
 rfl
theorem sK{α:Type}:∀{l:List (Nat×α)} {n:Nat} {x:α},(l.map (·.1)).Nodup->(n,x)∈l->gt l n=some x
 |[],_,_,_,h=>by cases h
 |(k,y)::r,n,x,hn,h=>by
  rw[Uj,Vi]at hn
  rw[ah]
  rcases Um.1 h with q|q
  ·cases q;rw[XK rfl]
  ·rw[XJ λe=>hn.1 (by rw[e];exact Uy.2 ⟨_,q,rfl⟩)]
   exact sK hn.2 q
theorem pw{α:Type}{l:List (Nat×α)}{n:Nat}{x:α}(h:(n,x)∈l):n∈l.map (·.1):=Uy.2 ⟨_,h,rfl⟩
section
variable {P:Program} {nm:Nat->Nat} {o:Oper} {S:TS V.N} {A:Type} {k:TE V.N->Option A} {r:A}
def OpD(P:Program)(nm:Nat->Nat)(o:Oper)(S:TS V.N)(k:TE V.N->Option A)(r:A):Prop:=
 ∃te,k te=some r/\good S te/\∃e',rk P nm o (Go.Awp.ev (aH V S)) (aH V S).own? e'/\ELe true e' (gl (S.app o.dst te).len te)
theorem zG{t:TypeId}{x:Operand}{ag:Bool}{sz n s i off d:Nat}{te:TypeId}{e:Ty V.ι}{xs:List (Option (den V.N e))}{y:den V.N e}(hf:∀te,k te=some r->∀d∈te.new,S.fresh d=true)(ho:o.op= .load t x)(hdst:o.dst=some d)
 (ht:cj P t=some (ag,sz))(hx:tev S x= .ep n s i off)(hn:(aH V S).own? n=some (.dvec te (tsz V.sz e) (xs.map λx=>ra V e x)))(hsome:S.own? n≠none)(hln:S.len n=xs.length)(hox:xs[i]?=some (some y))
 (h:HD V nm t ag sz n s i off d te e xs y k=some r):OpD P nm o S k r:=by
 unfold HD at h
 have h':=ao h;clear h
 obtain⟨⟨hse,hfit⟩,h⟩:=h'
 generalize hT:gW V (nm d) off (((aK V e y).drop off).take (hZ ag sz))=T at h
 obtain⟨vs,os⟩:=T
 simp only at h
 obtain⟨hh,hos,hos',ds,b1,b2,b3,b4,b5⟩:=qq (V:=V) (nm d) (((aK V e y).drop off).take (hZ ag sz)) off
 rw[hT]at b3 b4 b5
 simp only at b3 b4 b5
 have hrl:=fx e y
 let all:=(aK V e y).map λl=>fE V.sz V.enc V.tid V.encd l.t l.x
 have hrow:(xs.map λx=>ra V e x)[i]?=some all:=by
  rw[Ue,hox]
  simp only[UB,ra,all]
  rw[g9]
 have hmid:(all.drop off).take (hZ ag sz)=(((aK V e y).drop off).take (hZ ag sz)).map λl=>fE V.sz V.enc V.tid V.encd l.t l.x:=by
  simp only[all,VU,VT]
 have hal:all.length=s:=by simp only[all];rw[Ug,hrl,hse]
 have hsn:(aH V S).own? n=some (.dvec te s (xs.map λx=>ra V e x)):=by rw[hn,hse]
 have hxe:Go.Awp.ev (aH V S) x= .ep n s i off:=by rw[au,hx];rfl
 have hnames:os.map (·.1)=hos'.map (·.1):=by
  have:=congrArg (VI (·.1)) (b3 λ_=>0)
  rw[UH,UH]at this
  exact this.symm
 split at h
 ·rename_i v hv hdi
  have hdi:=fD hdi
  have hval:∀ω:Nat->Nat,hh=encL V ω vs->(ag=true/\an V ω v=cU hh\/ag=false/\hh=[an V ω v]):=by
   intro ω hω
   cases ag with
   |true=>
    simp only[Lt,Ud]at hv
    subst hv
    exact .inl ⟨rfl,by rw[hω];exact(jf.2 rfl).symm⟩
   |false=>
    simp only[Lt]at hv
    split at hv
    ·rename_i v0
     cases hv
     exact .inr ⟨rfl,by rw[hω];rfl⟩
    ·cases hv
  cases hni:Nj os with
  |true=>
   rw[hni]at h
   simp only at h
   have hos0:os=[]:=by cases os with|nil=>rfl|cons a b=>cases hni
   subst hos0
   obtain⟨q1,q2⟩:=b5 rfl
   subst q1
   rw[<-hmid]at q2
   subst q2
   refine⟨_,h,gc S v [n],_, .load0 (val:=an V S.len v) ho hdst ht hxe hsn hrow hal hfit (by rw[<-hmid]at b1;exact b1) (hval _ (b4 _ λp hp=>by cases hp)),oV rfl⟩
  |false=>
   rw[hni]at h
   simp only at h
   have hfr:=hf _ h
   have hlen:∀p∈os,(S.app o.dst {val:=v,acc:=[n],upd:=(n, .pvec te e (xs.set i none))::os,new:=os.map (·.1)}).len p.1=TO.len (some p.2):=by
    intro p hp
    rw[cH]
    have hpn:n≠p.1:=λe1=>by
     have:=hfr p.1 (Uv hp)
     unfold TS.fresh at this
     simp only[Uk]at this
     have h9:=this.1.1
     rw[<-e1]at h9
     cases hq:S.own? n with
     |none=>exact hsome hq
     |some o9=>rw[hq]at h9;cases h9
    simp only[ah,XJ hpn]
    have:gt os p.1=some p.2:=sK hdi hp
    rw[this]
   refine⟨_,h,λm p hm=> ?_,_, .load (val:=an V (S.app o.dst {val:=v,acc:=[n],upd:=(n, .pvec te e (xs.set i none))::os,new:=os.map (·.1)}).len v) ho hdst ht hxe hsn hrow hal hfit (by rw[<-hmid]at b1;exact b1) (hval _ (b4 _ hlen)) b2 (by rw[<-hnames];exact hdi),
    bU rfl hnames.symm ?_ rfl⟩
   ·simp only[ah]at hm
    by_cases hnm:n=m
    ·subst hnm
     rw[XK rfl]at hm;cases hm
     right;rw[hln];simp[TO.len]
    ·rw[XJ hnm]at hm
     exact .inl (pw (bc hm))
   ·rw[Uj]
    refine congr (congrArg List.cons ?_) (b3 _)
    simp only[bg,Wh,ra,hse]
 ·cases h
theorem IK{t:TypeId}{x:Operand}(hf:∀te,k te=some r->∀d∈te.new,S.fresh d=true)(ho:o.op= .load t x)(h:Gi V P nm t x o.dst S k=some r):OpD P nm o S k r:=by
 unfold Gi at h
 split at h
 ·rename_i ag sz n s i off d ht hx hdst
  split at h
  ·rename_i te e ys hn
   obtain⟨y,hy,h2⟩:=bB h
   exact zG hf ho hdst ht hx (by rw[fT];exact iy hn) (by rw[hn];simp) (by rw[dlen hn,Ug]) (by rw[Ue,hy];rfl) h2
  ·rename_i te e xs hn
   obtain⟨ox,hox,h2⟩:=bB h
   obtain⟨y,hy,h3⟩:=bB h2
   exact zG hf ho hdst ht hx (ou hn) (by rw[hn];simp) (OS hn) (by rw[hox,hy]) h3
  ·cases h
 ·cases h
theorem vY{t:TypeId}{x y:Operand}{ag:Bool}{sz n s i:Nat}{te:TypeId}{e:Ty V.ι}{xs:List (Option (den V.N e))}{ox:Option (den V.N e)}{cs:List (TV V.N)}{f:den V.N e->List Nat->Option A}(ho:o.op= .store t x y)
 (ht:cj P t=some (ag,sz))(hx:tev S x= .ep n s i 0)(hcs:TV.cells V (tev S y)=some cs)(hn:(aH V S).own? n=some (.dvec te (tsz V.sz e) (xs.map λx=>ra V e x)))(hox:xs[i]?=some ox)
 (h:Ab V s sz n e cs S f=some r):∃y' ns,f y' ns=some r/\rk P nm o (Go.Awp.ev (aH V S)) (aH V S).own? {val:= .junk,acc:=n::ns,upd:=(n,some (.dvec te (tsz V.sz e) ((xs.set i (some y')).map λx=>ra V e x)))::ns.map λm=>(m,none)}:=by
 unfold Ab at h
 have h':=ao h;clear h
 obtain⟨⟨hse,hss,hcl,hone⟩,h⟩:=h'
 rw[hss]at ht
 split at h
 ·rename_i ls ns hg
  split at h
  ·rename_i y' hy'
   split at h
   ·rename_i hdi
    rw[Uk]at hdi
    obtain⟨l,l1,l2,l3,l4⟩:=kX hg
    have hrc:=km hy'
    have hll:l.length=s:=by
     have:=congrArg Wd l1
     rw[Ug,aG]at this;omega
    have hrow:(xs.map λx=>ra V e x)[i]?=some (ra V e ox):=by rw[Ue,hox];rfl
    refine⟨y',fY ns,h,?_⟩
    have:=rk.store (ρ:=Go.Awp.ev (aH V S)) (ω:=(aH V S).own?) (nm:=nm) (l:=l) ho ht (by rw[au,hx];rfl) (by rw[hn,hse]) hrow (by rw[au,l1];exact dh hcs) hll (by rw[l1];exact eW hone) l4 (by rw[l3];exact fD hdi.1) (by rw[l3];exact ym hdi.2)
    rw[l2,l3]at this
    have hq:ra V e (some y')=ls.map λl=>fE V.sz V.enc V.tid V.encd l.t l.x:=by
     simp only[ra]
     rw[g9,hrc]
    rw[Wh,hq,<-hse]
    exact this
   ·cases h
  ·cases h
 ·cases h
theorem Gr{t:TypeId}{x y:Operand}(ho:o.op= .store t x y)(h:zg V P t x y S k=some r):OpD P nm o S k r:=by
 have fin:∀(n:Nat) (te:TypeId) (e:Ty V.ι) (ys:List (den V.N e)) (ns:List Nat),S.len n=ys.length->k {val:= .junk,acc:=n::ns,upd:=(n, .dvec te e ys)::xQ V S ns}=some r->
  rk P nm o (Go.Awp.ev (aH V S)) (aH V S).own? {val:= .junk,acc:=n::ns,upd:=(n,some (.dvec te (tsz V.sz e) (ys.map λx=>cD V.sz V.enc V.tid V.encd e x)))::ns.map λm=>(m,none)}->OpD P nm o S k r:=by
  intro n te e ys ns hl h hs'
  refine⟨_,h,λm p hm=> ?_,_,hs',bU rfl rfl ?_ rfl⟩
  ·simp only[ah]at hm
   by_cases hnm:n=m
   ·subst hnm
    rw[XK rfl]at hm;cases hm
    right;rw[hl];rfl
   ·rw[XJ hnm]at hm
    exact .inr (uW hm)
  ·rw[Uj,uV];rfl
 unfold zg at h
 split at h
 ·rename_i ag sz n s i cs ht hx hcs
  split at h
  ·rename_i te e ys hn
   obtain⟨y0,hy0,h2⟩:=bB h
   obtain⟨y',ns,h3,h4⟩:=vY (nm:=nm) (xs:=ys.map some) ho ht hx hcs (by rw[fT];exact iy hn) (by rw[Ue,hy0];rfl) h2
   refine fin n te e _ ns (by rw[dlen hn,Vk]) h3 ?_
   rw[<-fT,Wh]
   exact h4
  ·rename_i te e xs hn
   obtain⟨ox,hox,h2⟩:=bB h
   obtain⟨y',ns,h3,h4⟩:=vY (nm:=nm) ho ht hx hcs (ou hn) hox h2
   obtain⟨ys,hys,h5⟩:=bB h3
   have hq:=Dc hys
   refine fin n te e ys ns ?_ h5 ?_
   ·rw[OS hn]
    have:=congrArg Wd hq
    rw[Vk,Ug]at this;exact this
   ·rw[<-fT,<-hq];exact h4
  ·cases h
 ·cases h
theorem Ge{t:TypeId}{len:Nat}{parts:Array (Nat×Operand)}(ho:o.op= .buildSlice t len parts)(h:zb V P nm t len parts.toList o.dst S k=some r):OpD P nm o S k r:=by
 unfold zb at h
 split at h
 ·rename_i x d te sz by_ e hparts hdst ht hty
  split at h
  ·rename_i cs hcs
   have h':=ao h;clear h
   obtain⟨⟨h0,hse,hsm,hcl⟩,h⟩:=h'
   subst h0
   split at h
   ·rename_i ls ns hg
    split at h
    ·rename_i y' hy'
     split at h
     ·rename_i hdi
      obtain⟨l,l1,l2,l3,l4⟩:=kX hg
      have hrc:=km hy'
      have hll:l.length=sz:=by
       have:=congrArg Wd l1
       rw[Ug,aG]at this;omega
      have hpa:parts= #[(0,x)]:=by rw[<-VO];exact hparts
      subst hpa
      have:=rk.build (ρ:=Go.Awp.ev (aH V S)) (ω:=(aH V S).own?) (nm:=nm) (l:=l) ho hdst ht hsm (by rw[au,l1];exact dh hcs) hll l4 (by rw[l3];exact fD hdi)
      rw[l2,l3]at this
      refine⟨_,h,λm p hm=> ?_,_,this,bU ?_ rfl ?_ rfl⟩
      ·simp only[ah]at hm
       by_cases hnm:nm d=m
       ·left;simp[hnm]
       ·rw[XJ hnm]at hm
        exact .inr (uW hm)
      ·simp only[an]
       rw[cH]
       simp only[ah,XG]
       rfl
      ·rw[Uj,uV]
       have hq:cD V.sz V.enc V.tid V.encd e y'=ls.map λl=>fE V.sz V.enc V.tid V.encd l.t l.x:=by
        rw[g9,hrc]
       simp only[bg,Uj,UM]
       rw[hq,hse]
     ·cases h
    ·cases h
   ·cases h
  ·cases h
 ·cases h
theorem LI{t:TypeId}{x i:Operand}(ho:o.op= .indexAddr t x i)(h:LH V P t x i S k=some r):OpD P nm o S k r:=by
 unfold LH at h
 split at h
 ·rename_i te sz by_ m kk n ht hx hi
  split at h
  ·rename_i te' e' xs hm
   have h':=ao h;clear h
   obtain⟨⟨h0,h1⟩,h⟩:=h'
   exact⟨_,h,gc S _ _,_, .index ho ht (by rw[au,hx];rfl) (by rw[au,hi];rfl) (iy hm) h0 (by rw[dlen hm];exact h1),oV rfl⟩
  ·rename_i te' e' xs hm
   have h':=ao h;clear h
   obtain⟨⟨h0,h1⟩,h⟩:=h'
   exact⟨_,h,gc S _ _,_, .index ho ht (by rw[au,hx];rfl) (by rw[au,hi];rfl) (ou hm) h0 (by rw[OS hm];exact h1),oV rfl⟩
  ·cases h
 ·cases h
theorem LE{c:Call}(ho:o.op= .call c)(hc:c.callee= .builtin .append)(h:LD V P nm (c.args.toList.map (tev S)) c.argTypes.toList o.dst S k=some r):OpD P nm o S k r:=by
 unfold LD at h
 split at h
 ·rename_i x n2 t t' d hargs htys hdst
  split at h
  ·rename_i te sz bytes te2 e ys ht hn2
   have h':=ao h;clear h
   obtain⟨⟨h1,h2,hse,hby,hnd⟩,h⟩:=h'
   subst h1;subst h2
   obtain⟨p,q,hpq,hpx,hqx⟩:∃p q,c.args.toList=[p,q]/\tev S p=x/\tev S q= .vh n2:=by
    match hcl:c.args.toList,hargs with
    |[p,q],hargs=>simp at hargs;exact⟨p,q,rfl,hargs.1,hargs.2⟩
    |[],hargs=>simp at hargs
    |[_],hargs=>simp at hargs
    |_::_::_::_,hargs=>simp at hargs
   have hca:c.args= #[p,q]:=by rw[<-VO];exact hpq
   have hct:c.argTypes= #[t,t]:=by rw[<-VO];exact htys
   have hqe:Go.Awp.ev (aH V S) q= .vh n2 (ys.map λx=>cD V.sz V.enc V.tid V.encd e x).length:=by
    rw[au,hqx];simp only[an];rw[dlen hn2];simp
   have hone:(ys.map λx=>cD V.sz V.enc V.tid V.encd e x).flatten.all DD.one=true:=by
    rw[List.all_flatten,VJ,Uo]
    intro y _
    exact DQ e y
   have hown2:(aH V S).own? n2=some (.dvec te sz (ys.map λx=>cD V.sz V.enc V.tid V.encd e x)):=by rw[iy hn2,hse]
   have good2:∀(n:Nat) (o1:TO V.N) (m:Nat) (p:TO V.N),gt [(nm d,o1),(n, .gone (S.len n)),(n2, .gone (S.len n2))] m=some p->m∈[nm d]\/TO.len (some p)=S.len m:=by
    intro n o1 m p hm
    simp only[ah]at hm
    by_cases e1:nm d=m
    ·left;simp[e1]
    ·rw[XJ e1]at hm
     right
     by_cases e2:n=m
     ·rw[XK e2]at hm;cases hm;subst e2;rfl
     ·rw[XJ e2]at hm
      by_cases e3:n2=m
      ·rw[XK e3]at hm;cases hm;subst e3;rfl
      ·rw[XJ e3]at hm;simp[gt]at hm
   have two:∀(n:Nat) (xs:List (Option (den V.N e))) (o1:TO V.N),tev S p= .vh n->¬n=n2->S.len n=xs.length->(aH V S).own? n=some (.dvec te sz (xs.map λx=>ra V e x))->TO.len (some o1)=xs.length+ys.length->
    (∀ω,bg V ω o1=some (.dvec te sz ((xs.map λx=>ra V e x)++ys.map λx=>cD V.sz V.enc V.tid V.encd e x)))->
    (if xs.length+ys.length<=most then k {val:= .vh (nm d),acc:=[n,n2],upd:=[(nm d,o1),(n, .gone (S.len n)),(n2, .gone (S.len n2))],new:=[nm d]}else none)=some r->OpD P nm o S k r:=by
    intro n xs o1 hp hn12 hln hown hlo henc h
    have h':=ao h;clear h
    obtain⟨hle,h⟩:=h'
    have hby':((xs.map λx=>ra V e x).length+(ys.map λx=>cD V.sz V.enc V.tid V.encd e x).length) *bytes<=140737488355328:=by
     simp only[Ug,most]at hle⊢
     have:(xs.length+ys.length) *bytes<=4294967296 *32768:=WV hle hby
     omega
    refine⟨_,h,λm p hm=>good2 n o1 m p hm,_, .append (nm:=nm) (rows:=xs.map λx=>ra V e x) (ns:=[n,n2]) ho hc hca hct hdst ht (.inl ⟨n,by rw[au,hp];simp only[an];rw[hln];simp,hown,hn12,rfl⟩) hqe hown2 hone hby' (by simp only[Ug,most]at hle⊢;omega),bU ?_ rfl ?_ rfl⟩
    ·simp only[an]
     rw[cH]
     simp only[ah,XG]
     rw[hlo,Ug,Ug]
    ·simp only[Uj,UM,henc]
     rfl
   split at h
   ·rename_i n
    have h':=ao h;clear h
    obtain⟨⟨hnn,hn12⟩,h⟩:=h'
    split at h
    ·rename_i te1 e1 xs hn
     split at h
     ·rename_i he
      subst he
      have h':=ao h;clear h
      obtain⟨h3,h⟩:=h'
      subst h3
      refine two n (xs.map some) (.dvec te1 e (xs++ys)) hpx hn12 (by rw[dlen hn,Ug]) (by rw[fT,iy hn,hse]) (by simp[TO.len]) (λω=> ?_) (by rw[Ug];exact h)
      simp only[bg,UZ]
      rw[fT,hse]
     ·cases h
    ·rename_i te1 e1 xs hn
     split at h
     ·rename_i he
      subst he
      have h':=ao h;clear h
      obtain⟨h3,h⟩:=h'
      subst h3
      refine two n xs (.pvec te1 e (xs++ys.map some)) hpx hn12 (OS hn) (by rw[ou hn,hse]) (by simp[TO.len]) (λω=> ?_) h
      simp only[bg,UZ]
      rw[fT,hse]
     ·cases h
    ·cases h
   ·have h':=ao h;clear h
    obtain⟨hle,h⟩:=h'
    have hby':(([]:List (List DD)).length+(ys.map λx=>cD V.sz V.enc V.tid V.encd e x).length) *bytes<=140737488355328:=by
     simp only[Ug,Uw,most]at hle⊢
     have:ys.length *bytes<=4294967296 *32768:=WV hle hby
     rw[UK];omega
    refine⟨_,h,λm p hm=> ?_,_, .append (nm:=nm) (rows:=[]) (ns:=[n2]) ho hc hca hct hdst ht (.inr ⟨by rw[au,hpx];rfl,rfl,rfl⟩) hqe hown2 hone hby' (by simp only[Ug,Uw,most]at hle⊢;omega),bU ?_ rfl ?_ rfl⟩
    ·simp only[ah]at hm
     by_cases e1:nm d=m
     ·left;simp[e1]
     ·rw[XJ e1]at hm
      right
      by_cases e3:n2=m
      ·rw[XK e3]at hm;cases hm;subst e3;rfl
      ·rw[XJ e3]at hm;simp[gt]at hm
    ·simp only[an]
     rw[cH]
     simp only[ah,XG,TO.len,Ug,Uw,UK]
    ·simp only[Uj,UM,bg,UN,hse]
   ·cases h
  ·cases h
 ·cases h
theorem LG{t:TypeId}{x:Operand}{lo hi mx:Option Operand}(ho:o.op= .slice t x lo hi mx)(h:LF V P t x lo hi mx S k=some r):OpD P nm o S k r:=by
 unfold LF at h
 split at h
 ·rename_i te sz by_ n ht hx
  split at h
  ·rename_i te1 e xs hn
   split at h
   ·rename_i l u hl hu
    have h':=ao h;clear h
    obtain⟨⟨⟨hse,hpos⟩,h0,h1,h2⟩,h⟩:=h'
    have hlen:S.len n=xs.length:=by unfold TS.len;rw[hn];rfl
    refine⟨_,h,gc S _ _,_, .cut (rows:=xs.map λx=>dc V.sz V.enc e x) (e:=te1) ho ht (by rw[au,hx];simp only[an];rw[hlen,Ug]) (by rw[fR hn,hse]) (λe0=> ?_) (gv hl) (by rw[Ug];exact gv hu) h0 h1 (by rw[Ug];exact h2),oV rfl⟩
    have:=congrArg Wd e0
    rw[Ug,Uw]at this
    omega
   ·cases h
  ·cases h
 ·cases h
theorem II{c:Call}(ho:o.op= .call c)(hc:c.callee= .builtin .append)(h:Gh V P nm (c.args.toList.map (tev S)) c.argTypes.toList o.dst S k=some r):OpD P nm o S k r:=by
 unfold Gh at h
 split at h
 ·rename_i n sz lo i n2 sz2 j len t t' d hargs htys hdst
  split at h
  ·rename_i te sz' by_ te1 e xs ht hn
   have h':=ao h;clear h
   obtain⟨⟨⟨e1,e2⟩,⟨e3,e4⟩,e5,e6⟩,⟨e7,e8⟩,e9,e10⟩:=h'.1
   have h:=h'.2
   subst e1;subst e2;subst e4;subst e5;subst e6;subst e7;subst e8
   obtain⟨p,q,hpq,hpx,hqx⟩:∃p q,c.args.toList=[p,q]/\tev S p= .sv n2 sz2 0 i/\tev S q= .sv n2 sz2 j (xs.length-j):=by
    match hcl:c.args.toList,hargs with
    |[p,q],hargs=>simp at hargs;exact⟨p,q,rfl,hargs.1,hargs.2⟩
    |[],hargs=>simp at hargs
    |[_],hargs=>simp at hargs
    |_::_::_::_,hargs=>simp at hargs
   have hca:c.args= #[p,q]:=by rw[<-VO];exact hpq
   have hct:c.argTypes= #[t,t]:=by rw[<-VO];exact htys
   have hone:(xs.map λx=>dc V.sz V.enc e x).all (λr=>r.all D.one)=true:=by
    rw[VJ,Uo]
    intro y _
    exact FG
   refine⟨_,h,λm o1 hm=> ?_,_, .join (nm:=nm) (rows:=xs.map λx=>dc V.sz V.enc e x) (m:=n2) (i:=i) (j:=j) ho hc hca hct hdst ht (by rw[au,hpx];rfl) (by rw[au,hqx];simp only[an,Ug]) (by rw[fR hn,e3]) e9 (by rw[Ug];exact e10) hone,bU ?_ rfl ?_ rfl⟩
   ·simp only[ah]at hm
    by_cases q1:nm d=m
    ·left;simp[q1]
    ·rw[XJ q1]at hm
     right
     by_cases q2:n2=m
     ·rw[XK q2]at hm;cases hm;subst q2;rfl
     ·rw[XJ q2]at hm;simp[gt]at hm
   ·simp only[an]
    rw[cH]
    simp only[ah,XG,TO.len,Uh,UU,UV,Ug]
    rw[Xi (by omega)]
   ·simp only[Uj,UM,bg,UZ,VT,VU,e3]
  ·cases h
 ·cases h
theorem I0{ω:Nat->Nat}{z:List Value}(hz:z.all d7=true):zi z (encL V ω (z.map tvc)) []:=by
 rw[jY hz]
 induction z with
 |nil=>exact .nil
 |cons x z ih=>exact .keep x (ih (by simp only[Vq,Uk]at hz;exact hz.2))
theorem Fu(e:Ty V.ι)(ω:Nat->Nat):∃o,bg V ω (vI V e [])=some o/\∃a s,o= .vec a s []\/o= .dvec a s []:=by
 unfold vI
 split
 ·exact⟨_,rfl,V.tid e,_, .inl rfl⟩
 ·exact⟨_,rfl,V.tid e,_, .inr rfl⟩
theorem lr(b:Nat)(ω:Nat->Nat):∀(z:List Value) (ts:List (Ty V.ι)) (j:Nat),z.all d7=true->(∀p∈(mY V b j ts z).2,ω p.1=0)->
 ∃os,zi z (encL V ω (mY V b j ts z).1) os/\os.map (λp=>(p.1,some p.2))=(mY V b j ts z).2.map (λp=>(p.1,bg V ω p.2))
 |[],ts,j,hz,_=>by
  cases ts<;>exact⟨[], .nil,rfl⟩
 |x::z,[],j,hz,_=>⟨[],by simp only[mY];exact I0 hz,rfl⟩
 |x::z,t::ts,j,hz,hω=>by
  have hz2:d7 x=true/\z.all d7=true:=by simpa only[Vq,Uk]using hz
  unfold mY at hω⊢
  split
  ·rename_i e
   obtain⟨os,h1,h2⟩:=lr b ω z ts (j+1) hz2.2 λp hp=>hω p (Ua _ hp)
   obtain⟨o,o1,a,s,o2⟩:=Fu (V:=V) e ω
   refine⟨(Ac b j,o)::os,?_,by simp only[Uj,h2,o1]⟩
   simp only[encL,an]
   have:=hω _ Uf
   simp only at this
   rw[this]
   exact .new _ a s o o2 h1
  ·rename_i hno
   have hω':∀p∈(mY V b (j+1) ts z).2,ω p.1=0:=by
    intro p hp
    refine hω p ?_
    split
    ·exact Ua _ hp
    ·exact hp
   obtain⟨os,h1,h2⟩:=lr b ω z ts (j+1) hz2.2 hω'
   refine⟨os,?_,h2⟩
   simp only[encL]
   have:an V ω (tvc x)= .d (.v x):=by
    have:=jY (V:=V) (ω:=ω) (z:=[x]) (by simp[hz2.1])
    simpa[encL]using this
   rw[this]
   exact .keep x h1
theorem pT(b:Nat):∀(z:List Value) (ts:List (Ty V.ι)) (j:Nat),∀p∈(mY V b j ts z).2,TO.len (some p.2)=0
 |[],ts,j,p,hp=>by cases ts<;>cases hp
 |x::z,[],j,p,hp=>by cases hp
 |x::z,t::ts,j,p,hp=>by
  unfold mY at hp
  split at hp
  ·rcases Um.1 hp with rfl|hp
   ·exact vJ _ _
   ·exact pT b z ts (j+1) p hp
  ·exact pT b z ts (j+1) p hp
theorem IM{t:TypeId}{parts:Array (Nat×Operand)}(ho:o.op= .build t parts)(h:Gj V P t parts.toList o.dst k=some r):OpD P nm o S k r:=by
 unfold Gj at h
 split at h
 ·rename_i z pl hparts hz hpl
  have hpa:parts= #[]:=by rw[<-VO];exact hparts
  subst hpa
  split at h
  ·rename_i i d hty hdst
   split at h
   ·rename_i vs os hall hT
    split at h
    ·rename_i hdi
     have hdi:=fD hdi
     have hlen:∀p∈os,(S.app o.dst {val:= .agg vs,acc:=[],upd:=os,new:=os.map (·.1)}).len p.1=0:=by
      intro p hp
      rw[cH]
      have:gt os p.1=some p.2:=sK hdi hp
      simp only[this]
      have h9:=pT (V:=V) d z (V.tys i) 0
      rw[hT]at h9
      exact h9 p hp
     obtain⟨os',h1,h2⟩:=lr (V:=V) d (S.app o.dst {val:= .agg vs,acc:=[],upd:=os,new:=os.map (·.1)}).len z (V.tys i) 0 hall (by rw[hT];exact hlen)
     rw[hT]at h1 h2
     simp only at h1 h2
     have hnames:os.map (·.1)=os'.map (·.1):=by
      have:=congrArg (VI (·.1)) h2
      rw[UH,UH]at this
      exact this.symm
     refine⟨_,h,λm p hm=> .inl (pw (bc hm)),_, .nils ho hdst hz hpl h1 (by rw[<-hnames];exact hdi),bU rfl hnames.symm h2 rfl⟩
    ·cases h
   ·cases h
  ·cases h
 ·cases h
theorem qr(hf:∀te,k te=some r->∀d∈te.new,S.fresh d=true)(h:Gf V P nm o S k=some r):OpD P nm o S k r:=by
 unfold Gf at h
 split at h
 ·rename_i t x ho;exact IK hf ho h
 ·rename_i t x y ho;exact Gr ho h
 ·rename_i t x i ho;exact LI ho h
 ·rename_i t len parts ho;exact Ge ho h
 ·rename_i c ho
  split at h
  ·rename_i hc
   split at h
   ·exact II ho hc h
   ·exact LE ho hc h
  ·cases h
 ·rename_i t x lo hi mx ho;exact LG ho h
 ·rename_i t parts ho;exact IM ho h
 ·cases h
end
end
end Go.Tx
end
section
namespace Go.Tx
open Go.Awp
variable [Inhabited GMem]
section
variable {ι:Type} {N:ι->Type}
def setB(S:TS N)(d:Nat)(b:Bool):TS N:={S with tmps:=(d, .lf .bool b)::S.tmps}
def uZ(S:TS N)(all:List Oper)(j:Nat):Option (Nat×TV N):=match all[j]? with
 |some o=>match o.dst with
  |some d=>match gt S.tmps d with
   |some v=>some (d,v)
   |none=>none
  |none=>none
 |none=>none
def DN(n:Nat)(pre:Nat->Bool)(o:Oper):Bool:=match o.dst with
 |some d=>VA d n&& !pre (4000000+d)
 |none=>true
def eh(S:TS N)(e:TE N):Bool:=e.new.all λd=>S.fresh d&&VA d given
end
section
variable (V:mz) (P:Program) (n:Nat) (nm:Nat->Nat) (call:bz V)
def oz:TV V.N->List (TV V.N)
 | .vh n=>[.vh n]
 | .agg cs=>cs
 |_=>[]
def JZ(b c:Bool):TV V.N->List (TV V.N)
 | .vh n=>match b with
  |true=>[.vh n]
  |false=>[]
 | .agg cs=>match c with
  |true=>[]
  |false=>cs
 |_=>[]
def Fz(pre:Nat->Bool)(o:Oper)(S:TS V.N):TS V.N:=match o.op with
 | .buildSlice _ _ parts=>frzL V S (parts.toList.flatMap λp=>oz V (tev S p.2))
 | .convert _ _ x=>frzL V S (oz V (tev S x))
 | .slice _ x _ _ _=>frzL V S (oz V (tev S x))
 | .store _ x y=>match tev S x with
  | .ep .. =>frzL V S (oz V (tev S y))
  |_=>S
 | .call c=>match c.callee with
  | .value f=>match tev S f with
   | .fn fid first captured=>frzL V S ((first++c.args.toList.map (tev S)++captured).flatMap (JZ V (pre fid) (pre (2000000+fid))))
   | .lf .fnc _=>frzL V S ((c.args.toList.map (tev S)).flatMap (JZ V false false))
   |_=>S
  | .builtin .append=>match c.args.toList,c.argTypes.toList with
   |[_, .tmp t],ty::_=>match gt S.tmps t,V.ty ty with
    |some (.vh n),_=>frzL V S [.vh n]
    |some (.raw (.slice (some _) 0 _)),some (.sl e)=>{S with tmps:=(t, .lf (.sl e) [])::S.tmps}
    |some (.raw (.slice none 0 0)),some (.sl e)=>{S with tmps:=(t, .lf (.sl e) [])::S.tmps}
    |_,_=>S
   |_,_=>S
  |_=>S
 |_=>S
def uS{α β:Type}:List α->(List α->β)->β
 |[],k=>k []
 |x::r,k=>uS r λl=>k (x::l)
theorem o8{α β:Type}:∀(l:List α) (k:List α->β),uS l k=k l
 |[],_=>rfl
 |x::r,k=>by rw[uS,o8 r]
def zB{ι:Type}{N:ι->Type}{β:Type}(S:TS N)(k:TS N->β):β:=uS S.tmps λt=>uS S.own λo=>k ⟨t,o⟩
theorem uT{ι:Type}{N:ι->Type}{β:Type}(S:TS N)(k:TS N->β):zB S k=k S:=by
 unfold zB
 rw[o8,o8]
noncomputable def LJ{A:Type}(x:Operand)(S:TS V.N)(k:TE V.N->Option A):Option A:=match tev S x with
 | .bp n 0=>match S.own? n with
  |some (.miter m tk tv es rest _)=>if KJ tk=true/\S.len m=0 then
   if rest.isEmpty=true then k {val:= .tup [.lf .bool false],acc:=[n,m],upd:=[(m, .map tk tv es),(n, .gone 0)]}
   else Ka (steps rest) λq=>k {val:= .tup [.lf .bool true, .lf tk q.1.1, .lf tv q.1.2],acc:=[n],upd:=[(n, .miter m tk tv es q.2 (some q.1))]}
   else none
  |_=>none
 |_=>none
noncomputable def txo(pre:Nat->Bool)(o:Oper){A:Type}(S:TS V.N)(k:TS V.N->Option A):Option A:=match o.op with
 | .next x false=>LJ V x S λte=>match eh S te with
  |true=>k (S.app o.dst te)
  |false=>none
 |_=>match JG V pre o S with
  |true=>Gf V P nm o S λte=>match eh S te with
   |true=>k (S.app o.dst te)
   |false=>none
  |false=>tx V P nm call false o (Fz V pre o S) λte=>match eh (Fz V pre o S) te with
   |true=>k ((Fz V pre o S).app o.dst te)
   |false=>none
noncomputable def txs(pre:Nat->Bool)(all:List Oper){A:Type}:List Oper->TS V.N->(TS V.N->Option A)->Option A
 |[],S,k=>k S
 |o::os,S,k=>zB S λS=>match DN n pre o with
  |false=>none
  |true=>match o.guard with
   |none=>txo V P nm call pre o S λS'=>txs pre all os S' k
   |some (j,want)=>match uZ S all j with
    |some (d, .lf .bool b)=>if b=true then
      match want with
      |true=>txo V P nm call pre o (setB S d true) λS'=>txs pre all os S' k
      |false=>txs pre all os ((setB S d true).app o.dst {val:= .tup []}) k
     else
      match want with
      |false=>txo V P nm call pre o (setB S d false) λS'=>txs pre all os S' k
      |true=>txs pre all os ((setB S d false).app o.dst {val:= .tup []}) k
    |some (_, .tup [])=>txs pre all os (S.app o.dst {val:= .tup []}) k
    |_=>none
def txq(pre:Nat->Bool)(o:Oper){A:Type}(S:TS V.N)(k:TE V.N->Option A):Option A:=match JG V pre o S with
 |true=>Gf V P nm o S k
 |false=>tx V P nm call true o S k
def txd(pre:Nat->Bool)(all:List Oper){A:Type}:List Oper->TS V.N->List Tr1->(TS V.N->List Tr1->Option A)->Option A
 |[],S,tr,k=>k S tr
 |o::os,S,tr,k=>zB S λS=>match DN n pre o with
  |false=>none
  |true=>match det o.op with
   |false=>none
   |true=>match o.guard with
   |none=>txq V P nm call pre o S λte=>match eh S te with
    |true=>txd pre all os (S.app o.dst te) (tr++[⟨gl (S.app o.dst te).len te,true⟩]) k
    |false=>none
   |some (j,want)=>match uZ S all j with
    |some (d, .lf .bool b)=>if b=true then
      match want with
      |true=>txq V P nm call pre o (setB S d true) λte=>match eh (setB S d true) te with
       |true=>txd pre all os ((setB S d true).app o.dst te) (tr++[⟨gl ((setB S d true).app o.dst te).len te,true⟩]) k
       |false=>none
      |false=>txd pre all os ((setB S d true).app o.dst {val:= .tup []}) (tr++[⟨{val:= .tup []},false⟩]) k
     else
      match want with
      |false=>txq V P nm call pre o (setB S d false) λte=>match eh (setB S d false) te with
       |true=>txd pre all os ((setB S d false).app o.dst te) (tr++[⟨gl ((setB S d false).app o.dst te).len te,true⟩]) k
       |false=>none
      |true=>txd pre all os ((setB S d false).app o.dst {val:= .tup []}) (tr++[⟨{val:= .tup []},false⟩]) k
    |some (_, .tup [])=>txd pre all os (S.app o.dst {val:= .tup []}) (tr++[⟨{val:= .tup []},false⟩]) k
    |_=>none
end
section
variable {V:mz}
theorem tG{C:Ctx}{E:Env}{M:Mem}{S:TS V.N}{d:Nat}{b:Bool}{a:Act}{w:World}(hd:gt S.tmps d=some (.lf .bool b))(hs:Sim C E M (aH V S) a w):Sim C E M (aH V (setB S d b)) a w:=by
 have hl:(setB S d b).len=S.len:=rfl
 refine Sim.le hs (λt x hx=> ?_) λn o ho=>⟨o,ho,OLe.refl _⟩
 rw[cI]at hx⊢
 simp only[setB,ah]at hx
 by_cases h:d=t
 ·subst h
  rw[XK rfl]at hx
  rw[hd]
  exact⟨x,hx,H.le.refl _⟩
 ·rw[XJ h]at hx
  exact⟨x,hx,H.le.refl _⟩
theorem kY{S:TS V.N}{all:List Oper}{j d:Nat}{v:TV V.N}(h:uZ S all j=some (d,v)):gt S.tmps d=some v/\∃o,all[j]?=some o/\o.dst=some d:=by
 unfold uZ at h
 split at h
 ·rename_i o ho
  split at h
  ·rename_i d' hd
   split at h
   ·rename_i v' hv
    simp at h;obtain⟨rfl,rfl⟩:=h
    exact⟨hv,o,ho,hd⟩
   ·cases h
  ·cases h
 ·cases h
theorem lK{S:TS V.N}{σ:ae}(hσ:∀t,gt σ.tmps t=gt (aH V S).tmps t){all:List Oper}{j d:Nat}{v:TV V.N}{want b:Bool}(h:uZ S all j=some (d,v))
 (hv:v= .lf .bool b\/v= .tup []/\b= !want):kf σ all j want=some b:=by
 obtain⟨h1,o,h2,h3⟩:=kY h
 have hg:σ.get d=an V S.len v:=by
  unfold ae.get
  rw[hσ,cI,h1];rfl
 unfold kf
 simp only[h2,h3,hg]
 rcases hv with rfl|⟨rfl,rfl⟩
 ·simp[an,aO]
 ·simp[an,encL]
theorem dl{S:TS V.N}{te:TE V.N}(h:eh S te=true):(∀d∈te.new,S.fresh d=true)/\∀d∈te.new,d<given:=by
 unfold eh at h
 rw[Uo]at h
 refine⟨λd hd=> ?_,λd hd=> ?_⟩
 ·have:=h d hd
  simp only[Uk]at this
  exact this.1
 ·have:=h d hd
  simp only[Uk,VG]at this
  exact this.2
def Fx(C:Ctx)(pre:Nat->Bool):Prop:=∀p∈C.fix,pre (4000000+p.1)=true
theorem sA{C:Ctx}{pre:Nat->Bool}{o:Oper}(hF:Fx C pre)(h:DN C.N pre o=true):∀d,o.dst=some d->C.wr d:=by
 intro d hd
 unfold DN at h
 rw[hd]at h
 simp only[Uk,VG,VP]at h
 refine⟨h.1,λp hp e=> ?_⟩
 have:=hF p hp
 rw[e,h.2]at this
 cases this
theorem Af(S:TS V.N):good S {val:= .tup []}:=gc S _ _
theorem LR{C:Ctx}{E:Env}{M:Mem}{S:TS V.N}{o:Oper}{a:Act}{w:World}(hd:∀d,o.dst=some d->C.wr d)(hs:Sim C E M (aH V S) a w):Sim C E M (aH V (S.app o.dst {val:= .tup []})) (a.put o.dst undef) w:=by
 have h1:=hs.app_val (o:=o) hd (e:={val:= .tup []}) rfl JY
 refine Sim.tapp (ex:=false) (e':={val:= .tup []}) (Af S) (λd h=>by cases h) (oV ?_) h1
 simp[an,encL]
theorem Rq{C:Ctx}{nm:Nat->Nat}{call:bz V}{ex:Bool}{o:Oper}{S:TS V.N}{A:Type}{k:TS V.N->Option A}{r:A}{E:Env}{M:Mem}{a:Act}{w:World}{K:Act->World->Prop}{Q:Exit->Act->World->Prop}
 (hcall:ay C.P call)(hd:∀d,o.dst=some d->C.wr d)(h:(tx V C.P nm call ex o S λte=>match eh S te with|true=>k (S.app o.dst te)|false=>none)=some r)(hs:Sim C E M (aH V S) a w)
 (hK:∀te E' M' a' w',k (S.app o.dst te)=some r->Sim C E' M' (aH V (S.app o.dst te)) a' w'->K a' w'):o.wp C.P a w K Q:=by
 have hnew:∀te:TE V.N,(match eh S te with|true=>k (S.app o.dst te)|false=>none)=some r->eh S te=true/\k (S.app o.dst te)=some r:=by
  intro te h
  cases hq:eh S te with
  |true=>rw[hq]at h;exact⟨rfl,h⟩
  |false=>rw[hq]at h;cases h
 obtain⟨te,h1,h2,h3⟩:=Ag hcall (λte hte=>(dl (hnew te hte).1).1) h
 obtain⟨hn,hk⟩:=hnew te h1
 obtain⟨f1,f2⟩:=dl hn
 refine Fg hd E M (aH V S) a w K Q (λe=>ELe ex e (gl (S.app o.dst te).len te)) hs (tW (λe he=>⟨λd hd=> ?_,he⟩) h3) λe E' M' a' w' he hs'=>hK te E' M' a' w' hk (Sim.tapp h2 f1 he hs')
 have hd:d∈te.new:=by rw[he.new]at hd;exact hd
 exact⟨eo (f1 d hd),f2 d hd⟩
theorem IH{C:Ctx}{nm:Nat->Nat}{o:Oper}{S:TS V.N}{A:Type}{k:TS V.N->Option A}{r:A}{E:Env}{M:Mem}{a:Act}{w:World}{K:Act->World->Prop}{Q:Exit->Act->World->Prop}
 (hd:∀d,o.dst=some d->C.wr d)(h:(Gf V C.P nm o S λte=>match eh S te with|true=>k (S.app o.dst te)|false=>none)=some r)(hs:Sim C E M (aH V S) a w)
 (hK:∀te E' M' a' w',k (S.app o.dst te)=some r->Sim C E' M' (aH V (S.app o.dst te)) a' w'->K a' w'):o.wp C.P a w K Q:=by
 have hnew:∀te:TE V.N,(match eh S te with|true=>k (S.app o.dst te)|false=>none)=some r->eh S te=true/\k (S.app o.dst te)=some r:=by
  intro te h
  cases hq:eh S te with
  |true=>rw[hq]at h;exact⟨rfl,h⟩
  |false=>rw[hq]at h;cases h
 obtain⟨te,h1,h2,e',h3,h4⟩:=qr (λte hte=>(dl (hnew te hte).1).1) h
 obtain⟨hn,hk⟩:=hnew te h1
 obtain⟨f1,f2⟩:=dl hn
 refine h3.ok hd hs (λd hd=> ?_) λE' M' a' w' hs'=>hK te E' M' a' w' hk (Sim.tapp h2 f1 h4 hs')
 have hd:d∈te.new:=by rw[h4.new]at hd;exact hd
 exact⟨eo (f1 d hd),f2 d hd⟩
theorem u6{α β:Type}(f:α->β):∀(l:List α) (i:Nat),(l.eraseIdx i).map f=(l.map f).eraseIdx i
 |[],_=>rfl
 |_::_,0=>rfl
 |x::r,i+1=>by simp[Xg,u6 f r i]
theorem IL{C:Ctx}{nm:Nat->Nat}{o:Oper}{S:TS V.N}{A:Type}{k:TS V.N->Option A}{r:A}{E:Env}{M:Mem}{a:Act}{w:World}{K:Act->World->Prop}{Q:Exit->Act->World->Prop}{x:Operand}
 (ho:o.op= .next x false)(hd:∀d,o.dst=some d->C.wr d)(h:(LJ V x S λte=>match eh S te with|true=>k (S.app o.dst te)|false=>none)=some r)(hs:Sim C E M (aH V S) a w)
 (hK:∀te E' M' a' w',k (S.app o.dst te)=some r->Sim C E' M' (aH V (S.app o.dst te)) a' w'->K a' w'):o.wp C.P a w K Q:=by
 have hnew:∀te:TE V.N,(match eh S te with|true=>k (S.app o.dst te)|false=>none)=some r->eh S te=true/\k (S.app o.dst te)=some r:=by
  intro te h
  cases hq:eh S te with
  |true=>rw[hq]at h;exact⟨rfl,h⟩
  |false=>rw[hq]at h;cases h
 have go:∀(te:TE V.N) (e:Eff),(match eh S te with|true=>k (S.app o.dst te)|false=>none)=some r->good S te->ELe false e (gl (S.app o.dst te).len te)->
  (∀d∈e.new,(aH V S).fresh d=true/\d<given)/\∃te,good S te/\(∀d∈te.new,S.fresh d=true)/\ELe false e (gl (S.app o.dst te).len te)/\k (S.app o.dst te)=some r:=by
  intro te e h hg he
  obtain⟨hn,hk⟩:=hnew te h
  obtain⟨f1,f2⟩:=dl hn
  exact⟨λd hd=>by
   have hd:d∈te.new:=by rw[he.new]at hd;exact hd
   exact⟨eo (f1 d hd),f2 d hd⟩,te,hg,f1,he,hk⟩
 unfold LJ at h
 split at h
 ·rename_i n hx
  split at h
  ·rename_i m tk tv es rest cur hown
   obtain⟨⟨hkey,hlm⟩,h⟩:=ao h
   refine Fg (nm:=nm) hd E M (aH V S) a w K Q (λe=>∃te,good S te/\(∀d∈te.new,S.fresh d=true)/\ELe false e (gl (S.app o.dst te).len te)/\k (S.app o.dst te)=some r) hs ?_
    λe E' M' a' w' ⟨te,h2,f1,he,hk⟩ hs'=>hK te E' M' a' w' hk (Sim.tapp h2 f1 he hs')
   simp only[aV,ho,au,hx,an,vF hown]
   refine⟨trivial,λhr=> ?_,λi p hp=> ?_⟩
   ·have hr:rest=[]:=by simpa using hr
    subst hr
    simp only[List.isEmpty_nil,XG]at h
    refine go {val:= .tup [.lf .bool false],acc:=[n,m],upd:=[(m, .map tk tv es),(n, .gone 0)]} {val:= .tup [.d (.v (.bool false))],acc:=[n,m],upd:=[(m,some (.map (es.map λp=>(j6 tk p.1,aO V.sz V.enc tv p.2)))),(n,none)]} h (λm' o' hm=> ?_)
     (bU (by simp[an,encL,aO]) rfl (by simp[bg]) rfl)
    simp only[ah]at hm
    right
    split at hm
    ·rename_i e;simp at hm;subst hm;subst e;simp[TO.len,hlm]
    ·split at hm
     ·rename_i e;simp at hm;subst hm;subst e;simp[TO.len,u2 hown]
     ·simp[gt]at hm
   ·rw[Ue,Ul]at hp
    obtain⟨q,hq,rfl⟩:=hp
    have hne:rest.isEmpty=false:=by cases rest with|nil=>simp at hq|cons a r=>rfl
    rw[XJ (by simp[hne]),AG]at h
    have h:=h.2 _ (F_ hq)
    refine go {val:= .tup [.lf .bool true, .lf tk q.1, .lf tv q.2],acc:=[n],upd:=[(n, .miter m tk tv es (rest.eraseIdx i) (some q))]}
     {val:= .tup [.d (.v (.bool true)), .d (.v (j6 tk q.1)), .d (aO V.sz V.enc tv q.2)],acc:=[n],upd:=[(n,some (.miter m (es.map λp=>(j6 tk p.1,aO V.sz V.enc tv p.2)) ((rest.map λp=>(j6 tk p.1,aO V.sz V.enc tv p.2)).eraseIdx i) (some (j6 tk q.1,aO V.sz V.enc tv q.2))))]} h (λm' o' hm=> ?_)
     (bU (by simp only[an,encL,Ea hkey];rfl) rfl (by simp[bg,u6]) rfl)
    simp only[ah]at hm
    right
    split at hm
    ·rename_i e;simp at hm;subst hm;subst e;simp[TO.len,u2 hown]
    ·simp[gt]at hm
  ·cases h
 ·cases h
theorem F9{S:TS V.N}{t:Nat}{v v':TV V.N}(ht:gt S.tmps t=some v)(h:H.le (an V S.len v) (an V S.len v')):Ent (aH V S) (aH V {S with tmps:=(t,v')::S.tmps}):=
 Ent.le (λd x hx=>by
  have hl:({S with tmps:=(t,v')::S.tmps}:TS V.N).len=S.len:=rfl
  rw[cI]at hx
  simp only[ah,hl]at hx
  by_cases h1:t=d
  ·subst h1
   rw[XK rfl]at hx
   simp at hx;subst hx
   exact⟨_,by rw[cI,ht];rfl,h⟩
  ·rw[XJ h1]at hx
   exact⟨x,by rw[cI];exact hx,H.le.refl _⟩) λn o ho=>⟨o,ho,OLe.refl _⟩
theorem FA(pre:Nat->Bool)(o:Oper)(S:TS V.N):Ent (aH V S) (aH V (Fz V pre o S)):=by
 unfold Fz
 split
 ·exact dE _ S
 ·exact dE _ S
 ·exact dE _ S
 ·split
  ·exact dE _ S
  ·exact Ent.refl _
 ·split
  ·split
   ·exact dE _ S
   ·exact dE _ S
   ·exact Ent.refl _
  ·split
   ·split
    ·exact dE _ S
    ·rename_i ht _
     refine F9 ht ?_
     simp only[an,bF,aO,UM]
     exactλE M v h=>by rw[h.dv];exact .d (.slmt _ _ _)
    ·rename_i ht _
     refine F9 ht ?_
     simp only[an,bF,aO,UM]
     exactλE M v h=>by rw[h.dv];exact .d (.slnil _)
    ·exact Ent.refl _
   ·exact Ent.refl _
  ·exact Ent.refl _
 ·exact Ent.refl _
theorem Ol{C:Ctx}{nm:Nat->Nat}{call:bz V}{pre:Nat->Bool}{o:Oper}{S:TS V.N}{A:Type}{k:TS V.N->Option A}{r:A}{E:Env}{M:Mem}{a:Act}{w:World}{K:Act->World->Prop}{Q:Exit->Act->World->Prop}
 (hcall:ay C.P call)(hd:∀d,o.dst=some d->C.wr d)(h:txo V C.P nm call pre o S k=some r)(hs:Sim C E M (aH V S) a w)
 (hK:∀S' E' M' a' w',k S'=some r->Sim C E' M' (aH V S') a' w'->K a' w'):o.wp C.P a w K Q:=by
 unfold txo at h
 split at h
 ·rename_i x hx
  exact IL (nm:=nm) hx hd h hs λte E' M' a' w' hk hs'=>hK _ E' M' a' w' hk hs'
 ·split at h
  ·exact IH hd h hs λte E' M' a' w' hk hs'=>hK _ E' M' a' w' hk hs'
  ·obtain⟨_,_,hs1⟩:=FA pre o S C E M a w hs
   exact Rq hcall hd h hs1 λte E' M' a' w' hk hs'=>hK _ E' M' a' w' hk hs'
theorem qx{C:Ctx}{nm:Nat->Nat}{call:bz V}{pre:Nat->Bool}{ops:Array Oper}{Q:Exit->Act->World->Prop}{A:Type}{r:A}(hcall:ay C.P call)(hF:Fx C pre):∀(l:List Oper) (i:Nat) (S:TS V.N) (k:TS V.N->Option A) (E:Env) (M:Mem) (a:Act) (w:World),
 ops.toList.drop i=l->txs V C.P C.N nm call pre ops.toList l S k=some r->Sim C E M (aH V S) a w->(∀S' E' M' a' w',k S'=some r->Sim C E' M' (aH V S') a' w'->Q .normal a' w')->
 wpOps C.P ops Q ((V3 l.length).map (i+ ·)) a w
 |[],i,S,k,E,M,a,w,_,h,hs,hQ=>by
  simp only[txs]at h
  simpa[wpOps]using hQ S E M a w h hs
 |o::os,i,S,k,E,M,a,w,hl,h,hs,hQ=>by
  have hi:ops[i]?=some o:=by
   have:(ops.toList.drop i)[0]?=some o:=by rw[hl];rfl
   simpa using this
  have hl':ops.toList.drop (i+1)=os:=by
   rw[<-List.tail_drop,hl];rfl
  have hlist:(V3 (o::os).length).map (i+ ·)=i::(V3 os.length).map (i+1+ ·):=by
   simp only[Ui,List.range_succ_eq_map,Uj,UH,UF]
   congr 1
   apply U7
   intro x _
   simp;omega
  rw[hlist]
  simp only[txs,uT]at h
  split at h
  ·cases h
  rename_i hdst
  have run:∀(S:TS V.N),Sim C E M (aH V S) a w->(txo V C.P nm call pre o S λS'=>txs V C.P C.N nm call pre ops.toList os S' k)=some r->
   o.wp C.P a w (wpOps C.P ops Q ((V3 os.length).map (i+1+ ·))) Q:=λS hs h=>
   Ol (k:=λS'=>txs V C.P C.N nm call pre ops.toList os S' k) hcall (sA hF hdst) h hs λS' E' M' a' w' hk hs'=>qx hcall hF os (i+1) _ k E' M' a' w' hl' hk hs' hQ
  have off:∀(S:TS V.N),Sim C E M (aH V S) a w->txs V C.P C.N nm call pre ops.toList os (S.app o.dst {val:= .tup []}) k=some r->
   wpOps C.P ops Q ((V3 os.length).map (i+1+ ·)) (a.put o.dst undef) w:=λS hs h=>
   qx hcall hF os (i+1) _ k E M _ w hl' h (LR (sA hF hdst) hs) hQ
  simp only[wpOps,hi]
  cases hg:o.guard with
  |none=>
   simp only[hg]at h
   rw[XK (by simp[Region.wanted,hg])]
   exact .inl (run S hs h)
  |some g=>
   obtain⟨j,want⟩:=g
   simp only[hg]at h
   split at h
   ·rename_i d b hgv
    have hb:=lK (V:=V) (S:=S) (σ:=aH V S) (λt=>rfl) (want:=want) hgv (.inl rfl)
    have hy:=hs.guard hb
    have hgt:=(kY hgv).1
    cases b with
    |true=>
     rw[XK rfl]at h
     have hs':=tG hgt hs
     cases want with
     |true=>
      rw[XK (by simp[Region.wanted,hg,hy])]
      exact .inl (run _ hs' h)
     |false=>
      rw[XJ (by simp[Region.wanted,hg,hy])]
      exact off _ hs' h
    |false=>
     rw[XJ (by simp)]at h
     have hs':=tG hgt hs
     cases want with
     |false=>
      rw[XK (by simp[Region.wanted,hg,hy])]
      exact .inl (run _ hs' h)
     |true=>
      rw[XJ (by simp[Region.wanted,hg,hy])]
      exact off _ hs' h
   ·rename_i d hgv
    have hb:=lK (V:=V) (S:=S) (σ:=aH V S) (λt=>rfl) (want:=want) hgv (.inr ⟨rfl,rfl⟩)
    have hy:=hs.guard hb
    rw[XJ (by cases want<;>simp[Region.wanted,hg,hy])]
    exact off _ hs h
   ·cases h
structure Rl (σ:ae) (S:TS V.N):Prop where
 tmp:∀t,gt σ.tmps t=gt (aH V S).tmps t
 own:∀n,σ.own? n=(aH V S).own? n
 fresh:∀d,S.fresh d=true->σ.fresh d=true
theorem Rl.refl(S:TS V.N):Rl (aH V S) S:=⟨λ_=>rfl,λ_=>rfl,λ_ h=>eo h⟩
theorem Rl.ent{σ:ae}{S:TS V.N}(h:Rl σ S):Ent σ (aH V S):=Ent.le (λt x hx=>⟨x,by rw[h.tmp];exact hx,H.le.refl _⟩) λn o ho=>⟨o,by rw[h.own];exact ho,OLe.refl _⟩
theorem Rl.setB{σ:ae}{S:TS V.N}(h:Rl σ S){d:Nat}{b:Bool}(hd:gt S.tmps d=some (.lf .bool b)):Rl σ (setB S d b)where
 tmp:=λt=>by
  rw[h.tmp,cI,cI]
  simp only[Tx.setB,ah]
  by_cases e:d=t
  ·subst e;rw[XK rfl,hd];simp[an]
  ·rw[XJ e];rfl
 own:=λn=>h.own n
 fresh:=λn hn=>h.fresh n (by
  unfold TS.fresh at hn⊢
  simp only[Uk]at hn⊢
  refine⟨⟨hn.1.1,?_⟩,hn.2⟩
  have:=hn.1.2
  simp only[Tx.setB,Vq,Uk]at this
  exact this.2)
theorem Rl.app{σ:ae}{S:TS V.N}(h:Rl σ S){dst:Option Tmp}{te:TE V.N}(hg:good S te)(hn:∀d∈te.new,S.fresh d=true):Rl (σ.app dst (gl (S.app dst te).len te)) (S.app dst te)where
 tmp:=λt=>by
  rw[(sD (dst:=dst) hg hn).1]
  simp only[ae.app,ov]
  cases dst with
  |none=>exact h.tmp t
  |some d=>simp only[ah];rw[h.tmp]
 own:=λn=>by
  rw[(sD (dst:=dst) hg hn).2]
  have:=h.own n
  unfold ae.own? at this⊢
  simp only[ae.app,d5]
  cases gt (gl (S.app dst te).len te).upd n with
  |some o=>rfl
  |none=>exact this
 fresh:=λn hn'=>by
  unfold TS.fresh at hn'
  simp only[Uk]at hn'
  obtain⟨⟨f1,f2⟩,f3⟩:=hn'
  have hu:gt te.upd n=none:=by
   rw[oe]at f1
   cases hq:gt te.upd n with
   |none=>rfl
   |some o=>rw[hq]at f1;cases f1
  have hs:S.fresh n=true:=by
   unfold TS.fresh
   simp only[Uk]
   refine⟨⟨?_,?_⟩,?_⟩
   ·rw[oe,hu]at f1;exact f1
   ·rw[Uo]at f2⊢
    intro p hp
    refine f2 p ?_
    unfold TS.app OT
    cases dst with
    |none=>exact hp
    |some d=>exact Ua _ hp
   ·rw[Uo]at f3⊢
    exactλp hp=>f3 p (VN _ hp)
  have hσ:=h.fresh n hs
  unfold ae.fresh at hσ⊢
  simp only[Uk]at hσ⊢
  obtain⟨⟨g1,g2⟩,g3⟩:=hσ
  refine⟨⟨?_,?_⟩,?_⟩
  ·have hq:gt (gl (S.app dst te).len te).upd n=none:=by simp only[gl,gC,hu];rfl
   unfold ae.own? at g1⊢
   simp only[ae.app,d5,hq]
   exact g1
  ·simp only[ae.app,ov]
   cases dst with
   |none=>exact g2
   |some d=>
    rw[Vq,Uk]
    refine⟨?_,g2⟩
    rw[Uo]at f2
    have:=f2 (d,te.val) (by simp[TS.app,OT])
    simpa[gl,g_]using this
  ·simp only[ae.app,List.all_append,Uk]
   refine⟨?_,g3⟩
   rw[Uo]at f3⊢
   intro p hp
   simp only[gl,Uy]at hp
   obtain⟨q,hq,rfl⟩:=hp
   have:=f3 q (Vy _ hq)
   simp only
   cases ho:bg V (S.app dst te).len q.2 with
   |none=>rfl
   |some o=>simp only[jE _ n ho];exact this
theorem Rl.tup{σ:ae}{S:TS V.N}(h:Rl σ S){dst:Option Tmp}:Rl (σ.app dst {val:= .tup []}) (S.app dst {val:= .tup []}):=by
 have:=h.app (dst:=dst) (te:={val:= .tup []}) (Af S) λd h=>by cases h
 simpa[gl,an,encL]using this
theorem Gu{P:Program}{nm:Nat->Nat}{call:bz V}{pre:Nat->Bool}{o:Oper}{S:TS V.N}{A:Type}{k:TE V.N->Option A}{r:A}(hcall:ay P call)(hf:∀te,k te=some r->∀d∈te.new,S.fresh d=true)(h:txq V P nm call pre o S k=some r):
 ∃te,k te=some r/\good S te/\wC P nm o (ev (aH V S)) (aH V S).own? λe=>ELe true e (gl (S.app o.dst te).len te):=by
 unfold txq at h
 split at h
 ·obtain⟨te,h1,h2,e',h3,h4⟩:=qr hf h
  exact⟨te,h1,h2, .inr ⟨e',h3,h4⟩⟩
 ·obtain⟨te,h1,h2,h3⟩:=Ag hcall hf h
  exact⟨te,h1,h2, .inl h3⟩
theorem qw{P:Program}{n:Nat}{W:Nat->Prop}{nm:Nat->Nat}{call:bz V}{pre:Nat->Bool}{all:List Oper}{A:Type}{r:A}(hcall:ay P call)(hW:∀o,DN n pre o=true->∀d,o.dst=some d->W d):∀(l:List Oper) (S:TS V.N) (σ:ae) (tr:List Tr1) (k:TS V.N->List Tr1->Option A),
 txd V P n nm call pre all l S tr k=some r->Rl σ S->j4 P W nm all l σ tr λσ' tr'=>∃S',Rl σ' S'/\k S' tr'=some r
 |[],S,σ,tr,k,h,hr=>by
  simp only[txd]at h
  exact⟨S,hr,h⟩
 |o::os,S,σ,tr,k,h,hr=>by
  simp only[txd,uT]at h
  split at h
  ·cases h
  rename_i hdst
  split at h
  ·cases h
  rename_i hdet
  have run:∀(S:TS V.N),Rl σ S->(txq V P nm call pre o S λte=>match eh S te with|true=>txd V P n nm call pre all os (S.app o.dst te) (tr++[⟨gl (S.app o.dst te).len te,true⟩]) k|false=>none)=some r->
   wC P nm o (ev σ) σ.own? λe=>(∀d∈e.new,σ.fresh d=true/\d<given)/\j4 P W nm all os (σ.app o.dst e) (tr++[⟨e,true⟩]) λσ' tr'=>∃S',Rl σ' S'/\k S' tr'=some r:=by
   intro S hr h
   have hnew:∀te:TE V.N,(match eh S te with|true=>txd V P n nm call pre all os (S.app o.dst te) (tr++[⟨gl (S.app o.dst te).len te,true⟩]) k|false=>none)=some r->
    eh S te=true/\txd V P n nm call pre all os (S.app o.dst te) (tr++[⟨gl (S.app o.dst te).len te,true⟩]) k=some r:=by
    intro te h
    cases hq:eh S te with
    |true=>rw[hq]at h;exact⟨rfl,h⟩
    |false=>rw[hq]at h;cases h
   obtain⟨te,h1,h2,h3⟩:=Gu hcall (λte hte=>(dl (hnew te hte).1).1) h
   obtain⟨hn,hk⟩:=hnew te h1
   obtain⟨f1,f2⟩:=dl hn
   have e1:ev σ=ev (aH V S):=by
    funext x
    cases x with
    |tmp t=>simp only[ev,ae.get,hr.tmp]
    |_=>rfl
   have e2:σ.own?=(aH V S).own?:=funext hr.own
   rw[e1,e2]
   refine lA (λe he=> ?_) h3
   have he':e=gl (S.app o.dst te).len te:=by
    obtain⟨q1,q2,q3⟩:=he.eq rfl
    have q4:=he.new
    cases e
    simp only at q1 q2 q3 q4
    subst q1;subst q2;subst q3;subst q4;rfl
   subst he'
   exact⟨λd hd=>⟨hr.fresh d (f1 d hd),f2 d hd⟩,qw hcall hW os _ _ _ k hk (hr.app h2 f1)⟩
  have off:∀(S:TS V.N),Rl σ S->txd V P n nm call pre all os (S.app o.dst {val:= .tup []}) (tr++[⟨{val:= .tup []},false⟩]) k=some r->
   j4 P W nm all os (σ.app o.dst {val:= .tup []}) (tr++[⟨{val:= .tup []},false⟩]) λσ' tr'=>∃S',Rl σ' S'/\k S' tr'=some r:=λS hr h=>
   qw hcall hW os _ _ _ k h hr.tup
  simp only[j4]
  refine⟨⟨hW o hdst,hdet⟩,?_⟩
  cases hg:o.guard with
  |none=>
   simp only[hg]at h
   exact run S hr h
  |some g=>
   obtain⟨j,want⟩:=g
   simp only[hg]at h
   split at h
   ·rename_i d b hgv
    have hb:=lK (V:=V) (S:=S) (σ:=σ) hr.tmp (want:=want) hgv (.inl rfl)
    have hgt:=(kY hgv).1
    simp only[hb]
    cases b with
    |true=>
     rw[XK rfl]at h
     have hr':=hr.setB hgt
     cases want with
     |true=>exact⟨λ_=>run _ hr' h,λe=>by simp at e⟩
     |false=>exact⟨λe=>by simp at e,λ_=>off _ hr' h⟩
    |false=>
     rw[XJ (by simp)]at h
     have hr':=hr.setB hgt
     cases want with
     |false=>exact⟨λ_=>run _ hr' h,λe=>by simp at e⟩
     |true=>exact⟨λe=>by simp at e,λ_=>off _ hr' h⟩
   ·rename_i d hgv
    have hb:=lK (V:=V) (S:=S) (σ:=σ) hr.tmp (want:=want) hgv (.inr ⟨rfl,rfl⟩)
    simp only[hb]
    exact⟨λe=>by cases want<;>simp at e,λ_=>off _ hr h⟩
   ·cases h
end
end Go.Tx
end
section
namespace Go.Tx
open Go.Awp
variable [Inhabited GMem]
inductive Alt where
 |norm
 |ret
 |exit (id:Nat)
 deriving DecidableEq
section
variable (V:mz)
structure ax where
 exits:Nat->Cut V.ι:=λ_=>⟨[],[]⟩
 rcut:Cut V.ι
variable {V}
def bZ(sh:ax V)(jt:List (Ty V.ι)):Alt->List (Ty V.ι)
 | .norm=>jt
 | .ret=>sh.rcut.tys
 | .exit id=>(sh.exits id).tys
def oF(E:Alt->List (Ty V.ι)):List Alt->Type
 |[]=>Empty
 |[a]=>HL V.N (E a)
 |a::b::r=>HL V.N (E a)⊕oF E (b::r)
def inj(E:Alt->List (Ty V.ι)):(alts:List Alt)->(a:Alt)->HL V.N (E a)->Option (oF E alts)
 |[],_,_=>none
 |[b],a,v=>if h:a=b then some (h▸v)else none
 |b::c::r,a,v=>if h:a=b then some (.inl (h▸v))else match inj E (c::r) a v with
  |some o=>some (.inr o)
  |none=>none
def rR(E:Alt->List (Ty V.ι)){A:Type}:(alts:List Alt)->oF E alts->((a:Alt)->HL V.N (E a)->Option A)->Option A
 |[],_,_=>none
 |[a],v,f=>f a v
 |a::b::r,o,f=>match o with
  | .inl v=>f a v
  | .inr o'=>rR E (b::r) o' f
theorem dt{E:Alt->List (Ty V.ι)}{A:Type}{f:(a:Alt)->HL V.N (E a)->Option A}:∀{alts:List Alt} {a:Alt} {v:HL V.N (E a)} {o:oF E alts},inj E alts a v=some o->rR E alts o f=f a v
 |[],a,v,o,h=>by simp[inj]at h
 |[b],a,v,o,h=>by
  simp only[inj]at h
  split at h
  ·rename_i e;subst e;cases h;rfl
  ·cases h
 |b::c::r,a,v,o,h=>by
  simp only[inj]at h
  split at h
  ·rename_i e;subst e;cases h;rfl
  ·split at h
   ·rename_i o' ho
    cases h
    show rR E (c::r) o' f=f a v
    exact dt (f:=f) ho
   ·cases h
variable (V)
structure nV (sh:ax V)where
 cut:Cut V.ι
 alts:List Alt
 F:HL V.N cut.tys->Option (oF (bZ sh []) alts)
structure Xc where
 P:Program
 n:Nat
 nm:Nat->Nat:=id
 call:bz V
 pre:Nat->Bool:=λ_=>false
 sh:ax V
 joins:Nat->Option (Cut V.ι×List Alt):=λ_=>none
 regs:Nat->Option (Cut V.ι):=λ_=>none
 loops:Nat->Option (nV V sh):=λ_=>none
 pair:Nat->PT:=λ_=> .leaf
 jumps:Nat->Option (Nat×nV V sh):=λ_=>none
def bL:Code->Nat
 | .region id _ _=>id
 | .seq a b=>if bL a=1000000 then bL b else bL a
 | .block _ x=>bL x
 | .cond _ a b=>if bL a=1000000 then bL b else bL a
 | .loop b=>bL b
 | .scope b=>bL b
 |_=>1000000
variable {V}
noncomputable def Mi{A:Type}(x y:Option A):Option A:=by classical exact if x=y then x else none
theorem Dg{A:Type}{x y:Option A}{r:A}(h:Mi x y=some r):x=some r/\y=some r:=by
 unfold Mi at h
 split at h
 ·rename_i e;exact⟨h,e▸h⟩
 ·cases h
def P6(X:Xc V){A:Type}(ops:Array Oper)(S:TS V.N)(k:TS V.N->Option A):Option A:=
 txd V X.P X.n X.nm X.call X.pre ops.toList ops.toList S [] λS' tr=>match zu ops.toList tr with
  |true=>k S'
  |false=>none
def zV(i j n:Nat):Bool:= !Vb i j&&VA i n&&VA j n
noncomputable def NJ(X:Xc V){A:Type}(S:TS V.N)(k:TS V.N->Option A):PT->Array Oper->Option A
 | .leaf,ops=>P6 X ops S k
 | .node i j a b,ops=>match zV i j ops.size with
  |true=>Mi (NJ X S k a (eL i i i j ops)) (NJ X S k b (eL i j j i ops))
  |false=>none
noncomputable def NK(X:Xc V){A:Type}(id:Nat)(ops:Array Oper)(draw:Bool)(S:TS V.N)(k:TS V.N->Option A):Option A:=match draw with
 |false=>txs V X.P X.n X.nm X.call X.pre ops.toList ops.toList S k
 |true=>NJ X S k (X.pair id) ops
def pU{A:Type}(ke:Nat->TS V.N->Option A):Nat->TS V.N->Option A:=λid S=>match VA id 1000000 with
 |true=>ke id S
 |false=>none
noncomputable def ex(X:Xc V):Code->(A:Type)->TS V.N->(TS V.N->Option A)->(Nat->TS V.N->Option A)->(HL V.N X.sh.rcut.tys->Option A)->Option A
 | .skip,_,S,kn,_,_=>kn S
 | .ret,_,S,_,_,kr=>match A9 V X.sh.rcut S with
  |some v=>kr v
  |none=>none
 | .exit id,_,S,_,ke,_=>pU ke id S
 | .goto l,_,S,_,ke,_=>ke (1000000+l) S
 | .label _,_,S,kn,_,_=>kn S
 | .seq x y,A,S,kn,ke,kr=>match X.joins (bL y)with
  |none=>ex X x A S (λS'=>ex X y A S' kn ke kr) ke kr
  |some (cut,alts)=>
   ex X x (oF (bZ X.sh cut.tys) alts) S
    (λS'=>match A9 V cut S' with
      |some v=>inj (bZ X.sh cut.tys) alts .norm v
      |none=>none)
    (λid S'=>match A9 V (X.sh.exits id) S' with
      |some v=>inj (bZ X.sh cut.tys) alts (.exit id) v
      |none=>none)
    (λv=>inj (bZ X.sh cut.tys) alts .ret v)>>=λout=>
   rR (bZ X.sh cut.tys) alts out λa=>match a with
    | .norm=>λv=>ex X y A (bV V cut v) kn ke kr
    | .ret=>λv=>kr v
    | .exit id=>λv=>ke id (bV V (X.sh.exits id) v)
 | .block id x,A,S,kn,ke,kr=>match VA id 1000000 with
  |true=>ex X x A S kn (λid' S'=>if id'=id then kn S' else ke id' S') kr
  |false=>none
 | .cond c x y,A,S,kn,ke,kr=>match c with
  | .tmp t=>match gt S.tmps t with
   |some (.lf .bool b)=>if b=true then ex X x A (setB S t true) kn ke kr else ex X y A (setB S t false) kn ke kr
   |_=>none
  | .const (.bool b)=>match b with
   |true=>ex X x A S kn ke kr
   |false=>ex X y A S kn ke kr
  |_=>none
 | .region id ops draw,_,S,kn,_,_=>match X.regs id with
  |none=>NK X id ops draw S kn
  |some cut=>(NK X id ops draw S λS'=>A9 V cut S')>>=λv=>kn (bV V cut v)
 | .scope c,A,S,kn,ke,kr=>match X.jumps (bL c)with
  |none=>ex X c A S kn (pU ke) kr
  |some (l,la)=>ex X c A S kn (λid S'=>match Vb id (1000000+l)with
   |true=>match A9 V la.cut S' with
    |none=>none
    |some v=>la.F v>>=λout=>rR (bZ X.sh []) la.alts out λa=>match a with
     | .norm=>λ_=>none
     | .ret=>λv=>kr v
     | .exit id=>λv=>ke id (bV V (X.sh.exits id) v)
   |false=>pU ke id S') kr
 | .loop b,_,S,_,ke,kr=>match X.loops (bL b)with
  |none=>none
  |some la=>match A9 V la.cut S with
   |none=>none
   |some v=>la.F v>>=λout=>rR (bZ X.sh []) la.alts out λa=>match a with
    | .norm=>λ_=>none
    | .ret=>λv=>kr v
    | .exit id=>λv=>ke id (bV V (X.sh.exits id) v)
 |_,_,_,_,_,_=>none
noncomputable def exL(X:Xc V)(b:Code)(cut:Cut V.ι)(alts:List Alt)(F:HL V.N cut.tys->Option (oF (bZ X.sh []) alts))(v:HL V.N cut.tys):Option (oF (bZ X.sh []) alts):=
 ex X b _ (bV V cut v)
  (λS'=>match A9 V cut S' with
    |some v=>F v
    |none=>none)
  (pU λid S'=>match A9 V (X.sh.exits id) S' with
    |some v=>inj (bZ X.sh []) alts (.exit id) v
    |none=>none)
  (λv=>inj (bZ X.sh []) alts .ret v)
def ob(C:Ctx)(c:Code)(S:ae)(Q:Exit->ae->Prop):Prop:=
 ∀(E:Env) (M:Mem) (a:Act) (w:World),Sim C E M S a w->∀(b:Frame) (k:List Item) (cs:List Frame),
  ∃e a' w',(∃S' E' M',Q e S'/\Sim C E' M' S' a' w')/\Arrives C.P (lone (b.at a (.code c:: .inLoop c::k)) cs w) b k cs e a' w'
theorem ob.loop{C:Ctx}{c:Code}{S:ae}{Q:Exit->ae->Prop}(h:ob C c S Q):AWp C (.loop c) S Q:=λE M a w hs b k cs=>
 let⟨e,a',w',hq,harr⟩:=h E M a w hs b k cs
 ⟨e,a',w',hq, .of_steps (.one step_loop) harr⟩
theorem ob.ent{C:Ctx}{c:Code}{S S':ae}{Q:Exit->ae->Prop}(he:Ent S S')(h:ob C c S' Q):ob C c S Q:=λE M a w hs=>
 let⟨E',M',hs'⟩:=he C E M a w hs
 h E' M' a w hs'
theorem ob.round{C:Ctx}{c:Code}{S:ae}{Q:Exit->ae->Prop}(h:AWp C c S (MV (λS'=>ob C c S' Q) Q)):ob C c S Q:=by
 intro E M a w hs b k cs
 obtain⟨e,a₁,w₁,⟨S₁,E₁,M₁,hq,hs₁⟩,harr⟩:=h E M a w hs b (.inLoop c::k) cs
 cases e with
 |normal=>
  obtain⟨e₂,a₂,w₂,hq₂,harr₂⟩:=hq E₁ M₁ a₁ w₁ hs₁ b k cs
  exact⟨e₂,a₂,w₂,hq₂, .of_steps (Steps.trans harr (.one step_inLoop)) harr₂⟩
 |exit id=>exact⟨_,a₁,w₁,⟨S₁,E₁,M₁,hq,hs₁⟩, .pass (x:= .inLoop c) rfl (λ_ _=> .inl (by simp)) harr⟩
 |goto l=>exact⟨_,a₁,w₁,⟨S₁,E₁,M₁,hq,hs₁⟩, .pass (x:= .inLoop c) rfl (λ_ _=> .inl (by simp)) harr⟩
 |ret=>exact⟨_,a₁,w₁,⟨S₁,E₁,M₁,hq,hs₁⟩, .pass (x:= .inLoop c) rfl (λ_ _=> .inl (by simp)) harr⟩
 |panic ch=>exact⟨_,a₁,w₁,⟨S₁,E₁,M₁,hq,hs₁⟩, .pass (x:= .inLoop c) rfl (λ_ _=> .inl (by simp)) harr⟩
 |outgrown=>exact⟨_,a₁,w₁,⟨S₁,E₁,M₁,hq,hs₁⟩, .pass (x:= .inLoop c) rfl (λ_ _=> .inl (by simp)) harr⟩
def I_(C:Ctx)(x rest:Code)(S:ae)(Q:Exit->ae->Prop):Prop:=
 ∀(E:Env) (M:Mem) (a:Act) (w:World),Sim C E M S a w->∀(b:Frame) (k:List Item) (cs:List Frame),
  ∃e a' w',(∃S' E' M',Q e S'/\Sim C E' M' S' a' w')/\Arrives C.P (lone (b.at a (.code rest:: .inScope x::k)) cs w) b k cs e a' w'
def PA(l:Nat)(J:ae->Prop)(Q:Exit->ae->Prop):Exit->ae->Prop
 | .goto l',S=>l'=l/\J S
 |e,S=>Q e S
theorem I_.ent{C:Ctx}{x rest:Code}{S S':ae}{Q:Exit->ae->Prop}(he:Ent S S')(h:I_ C x rest S' Q):I_ C x rest S Q:=λE M a w hs=>
 let⟨E',M',hs'⟩:=he C E M a w hs
 h E' M' a w hs'
theorem I_.mono{C:Ctx}{x rest:Code}{S:ae}{Q Q':Exit->ae->Prop}(h:I_ C x rest S Q)(hq:∀e S,Q e S->Q' e S):I_ C x rest S Q':=λE M a w hs b k cs=>
 let⟨e,a',w',⟨S',E',M',hq',hs'⟩,harr⟩:=h E M a w hs b k cs
 ⟨e,a',w',⟨S',E',M',hq e S' hq',hs'⟩,harr⟩
theorem oI{C:Ctx}{x rest:Code}{l:Nat}{S:ae}{Q:Exit->ae->Prop}(hf:findLabel x l=some rest)(h:AWp C x S (PA l (λS'=>I_ C x rest S' Q) Q)):AWp C (.scope x) S Q:=by
 intro E M a w hs b k cs
 have hg:gotoIn l (.inScope x::k)=some (.code rest:: .inScope x::k):=by simp[gotoIn,hf]
 obtain⟨e,a₁,w₁,⟨S₁,E₁,M₁,hq,hs₁⟩,harr⟩:=h E M a w hs b (.inScope x::k) cs
 cases e with
 |normal=>exact⟨.normal,a₁,w₁,⟨S₁,E₁,M₁,hq,hs₁⟩, .head step_scope (Steps.trans harr (.one step_inScope))⟩
 |exit id=>exact⟨.exit id,a₁,w₁,⟨S₁,E₁,M₁,hq,hs₁⟩,λk' hk=> .head step_scope (harr k' (by simp[exitTo,hk]))⟩
 |goto l'=>
  obtain⟨rfl,hJ⟩:=hq
  obtain⟨e₂,a₂,w₂,hq₂,harr₂⟩:=hJ E₁ M₁ a₁ w₁ hs₁ b k cs
  exact⟨e₂,a₂,w₂,hq₂, .of_steps (.head step_scope (harr _ hg)) harr₂⟩
 |ret=>exact⟨_,a₁,w₁,⟨S₁,E₁,M₁,hq,hs₁⟩, .of_steps (.one step_scope) harr⟩
 |panic ch=>exact⟨_,a₁,w₁,⟨S₁,E₁,M₁,hq,hs₁⟩, .of_steps (.one step_scope) harr⟩
 |outgrown=>exact⟨_,a₁,w₁,⟨S₁,E₁,M₁,hq,hs₁⟩, .of_steps (.one step_scope) harr⟩
theorem sx(l:Nat):VA (1000000+l) 1000000=false:=by
 cases h:VA (1000000+l) 1000000 with
 |false=>rfl
 |true=>rw[VG]at h;omega
theorem fQ{A:Type}{ke:Nat->TS V.N->Option A}{id:Nat}{S:TS V.N}{r:A}(h:pU ke id S=some r):VA id 1000000=true/\ke id S=some r:=by
 unfold pU at h
 split at h
 ·exact⟨‹_›,h⟩
 ·cases h
theorem lu{A:Type}{ke:Nat->TS V.N->Option A}{l:Nat}{S:TS V.N}{r:A}(h:pU ke (1000000+l) S=some r):False:=by
 have:=(fQ h).1
 rw[sx]at this;cases this
structure Rw (sh:ax V) {A:Type} (kn:TS V.N->Option A) (ke:Nat->TS V.N->Option A) (kr:HL V.N sh.rcut.tys->Option A) (r:A) (Q:Exit->ae->Prop):Prop where
 norm:∀S σ,kn S=some r->Ent σ (aH V S)->Q .normal σ
 exit:∀id S σ,VA id 1000000=true->ke id S=some r->Ent σ (aH V S)->Q (.exit id) σ
 jump:∀l S σ,ke (1000000+l) S=some r->Ent σ (aH V S)->Q (.goto l) σ
 ret:∀v σ,kr v=some r->Ent σ (aH V (bV V sh.rcut v))->Q .ret σ
def tZ(sh:ax V)(alts:List Alt)(out:oF (bZ sh []) alts)(e:Exit)(σ:ae):Prop:=match e with
 | .exit id=>VA id 1000000=true/\∃v:HL V.N (sh.exits id).tys,inj (bZ sh []) alts (.exit id) v=some out/\Ent σ (aH V (bV V (sh.exits id) v))
 | .ret=>∃v:HL V.N sh.rcut.tys,inj (bZ sh []) alts .ret v=some out/\Ent σ (aH V (bV V sh.rcut v))
 |_=>False
def dB(C:Ctx)(b:Code){sh:ax V}(la:nV V sh):Prop:=∀v out,la.F v=some out->ob C b (aH V (bV V la.cut v)) (tZ sh la.alts out)
def Jb(C:Ctx)(x:Code)(l:Nat){sh:ax V}(la:nV V sh):Prop:=
 ∃rest,findLabel x l=some rest/\∀v out,la.F v=some out->I_ C x rest (aH V (bV V la.cut v)) (tZ sh la.alts out)
def LOk(C:Ctx)(X:Xc V):Code->Prop
 | .seq x y=>LOk C X x/\LOk C X y
 | .block _ x=>LOk C X x
 | .scope x=>LOk C X x/\∀l la,X.jumps (bL x)=some (l,la)->Jb C x l la
 | .cond _ x y=>LOk C X x/\LOk C X y
 | .loop b=>∀la,X.loops (bL b)=some la->dB C b la
 |_=>True
theorem jB{P:Program}{N:Nat->Prop}{nm:Nat->Nat}{all:List Oper}:∀{os:List Oper} {S:ae} {tr:List Tr1} {k k':ae->List Tr1->Prop},(∀S tr,k S tr->k' S tr)->j4 P N nm all os S tr k->j4 P N nm all os S tr k'
 |[],S,tr,k,k',hk,h=>hk _ _ h
 |o::os,S,tr,k,k',hk,h=>by
  simp only[j4]at h⊢
  obtain⟨hd,h⟩:=h
  refine⟨hd,?_⟩
  cases hg:o.guard with
  |none=>
   simp only[hg]at h⊢
   exact lA (λe ⟨h1,h2⟩=>⟨h1,jB hk h2⟩) h
  |some g=>
   obtain⟨j,want⟩:=g
   simp only[hg]at h⊢
   split at h
   ·exact⟨λe=>lA (λe ⟨h1,h2⟩=>⟨h1,jB hk h2⟩) (h.1 e),λe=>jB hk (h.2 e)⟩
   ·exact h.elim
def SC(Q:Exit->ae->Prop):Exit->ae->Prop
 | .goto _,_=>False
 |e,S=>Q e S
theorem De{C:Ctx}{c:Code}{S:ae}{Q:Exit->ae->Prop}(h:AWp C c S (SC Q)):AWp C (.scope c) S Q:=λE M a w hs=>
 wp_scope_straight (wp_mono (h E M a w hs) λe a' w'=>by
  rintro⟨S',E',M',hq,hs'⟩
  cases e with
  |goto l=>exact hq.elim
  |_=>exact⟨S',E',M',hq,hs'⟩)
theorem hG{C:Ctx}{X:Xc V}(hP:C.P=X.P)(hn:C.N=X.n/\Fx C X.pre)(hm:X.P.follows .mixedOrders=true)(hcall:ay X.P X.call):∀(c:Code) (A:Type) (S:TS V.N) (kn:TS V.N->Option A) (ke:Nat->TS V.N->Option A)
 (kr:HL V.N X.sh.rcut.tys->Option A) (r:A) (Q:Exit->ae->Prop),LOk C X c->ex X c A S kn ke kr=some r->Rw X.sh kn ke kr r Q->AWp C c (aH V S) Q:=by
 intro c
 induction c with
 |skip=>intro A S kn ke kr r Q _ h hp;exact .skip (hp.norm S _ h (Ent.refl _))
 |label l=>intro A S kn ke kr r Q _ h hp;exact .label (hp.norm S _ h (Ent.refl _))
 |exit id=>
  intro A S kn ke kr r Q _ h hp
  simp only[ex]at h
  obtain⟨h1,h2⟩:=fQ h
  exact .exit (hp.exit id S _ h1 h2 (Ent.refl _))
 |goto l=>intro A S kn ke kr r Q _ h hp;exact .goto (hp.jump l S _ h (Ent.refl _))
 |ret=>
  intro A S kn ke kr r Q _ h hp
  simp only[ex]at h
  split at h
  ·rename_i v hv;exact .ret (hp.ret v _ h (dD hv))
  ·cases h
 |seq x y ihx ihy=>
  intro A S kn ke kr r Q hl h hp
  obtain⟨hlx,hly⟩:=hl
  simp only[ex]at h
  split at h
  ·refine .seq (ihx A S _ ke kr r _ hlx h ⟨λS' σ hk he=> ?_,hp.exit,hp.jump,λv σ hk he=>hp.ret v σ hk he⟩)
   exact .ent he (ihy A S' kn ke kr r Q hly hk hp)
  ·rename_i cut alts hj
   obtain⟨out,h1,h2⟩:=bB h
   refine .seq (ihx _ S _ _ _ out _ hlx h1 ⟨λS' σ hk he=> ?_,λid S' σ hb hk he=> ?_,λl S' σ hk he=> ?_,λv σ hk he=> ?_⟩)
   ·split at hk
    ·rename_i v hv
     rw[dt hk]at h2
     exact .ent (Ent.trans he (dD hv)) (ihy A _ kn ke kr r Q hly h2 hp)
    ·cases hk
   ·split at hk
    ·rename_i v hv
     rw[dt hk]at h2
     exact hp.exit id _ σ hb h2 (Ent.trans he (dD hv))
    ·cases hk
   ·split at hk
    ·rename_i v hv
     rw[dt hk]at h2
     exact hp.jump l _ σ h2 (Ent.trans he (dD hv))
    ·cases hk
   ·rw[dt hk]at h2
    exact hp.ret v σ h2 he
 |block id x ih=>
  intro A S kn ke kr r Q hl h hp
  simp only[ex]at h
  split at h
  ·rename_i hb
   refine .block (ih A S kn _ kr r _ hl h ⟨λS' σ hk he=>hp.norm S' σ hk he,λid' S' σ hb' hk he=> ?_,λl S' σ hk he=> ?_,λv σ hk he=>hp.ret v σ hk he⟩)
   ·simp only[zw]
    split at hk
    ·rename_i e;rw[XK e];exact hp.norm S' σ hk he
    ·rename_i e;rw[XJ e];exact hp.exit id' S' σ hb' hk he
   ·simp only[zw]
    rw[XJ (λe=>by rw[<-e,sx]at hb;cases hb)]at hk
    exact hp.jump l S' σ hk he
  ·cases h
 |cond c x y ihx ihy=>
  intro A S kn ke kr r Q hl h hp
  obtain⟨hlx,hly⟩:=hl
  simp only[ex]at h
  split at h
  ·rename_i t
   split at h
   ·rename_i b hb
    have hev:ev (aH V S) (.tmp t)= .d (.v (.bool b)):=by
     rw[au]
     simp only[tev,TS.get,hb,VF,an,aO]
    have hset:∀b',b=b'->Ent (aH V S) (aH V (setB S t b')):=λb' e C E M a w hs=>⟨E,M,tG (by rw[hb,e]) hs⟩
    cases b with
    |true=>
     rw[XK rfl]at h
     exact .cond hev (λ_=> .ent (hset true rfl) (ihx A _ kn ke kr r Q hlx h hp)) (λe=>by cases e)
    |false=>
     rw[XJ (by simp)]at h
     exact .cond hev (λe=>by cases e) (λ_=> .ent (hset false rfl) (ihy A _ kn ke kr r Q hly h hp))
   ·cases h
  ·rename_i b
   have hev:ev (aH V S) (.const (.bool b))= .d (.v (.bool b)):=rfl
   cases b with
   |true=>exact .cond hev (λ_=>ihx A _ kn ke kr r Q hlx h hp) (λe=>by cases e)
   |false=>exact .cond hev (λe=>by cases e) (λ_=>ihy A _ kn ke kr r Q hly h hp)
  ·cases h
 |region id ops draw=>
  intro A S kn ke kr r Q _ h hp
  have key:∀{B:Type} (k:TS V.N->Option B) (s:B),NK X id ops draw S k=some s->(∀S' σ,k S'=some s->Ent σ (aH V S')->Q .normal σ)->AWp C (.region id ops draw) (aH V S) Q:=by
   intro B k s hr hq
   cases draw with
   |false=>
    simp only[NK]at hr
    rw[<-hP,<-hn.1]at hr
    intro E M a w hs
    refine wp_region ?_
    have:=qx (C:=C) (ops:=ops) (Q:=λe a' w'=>∃S' E' M',Q e S'/\Sim C E' M' S' a' w') (hP▸hcall) hn.2 ops.toList 0 S k E M a w (by simp) hr hs
     λS' E' M' a' w' hk hs'=>⟨_,E',M',hq S' _ hk (Ent.refl _),hs'⟩
    have e:(V3 ops.toList.length).map (0+ ·)=V3 ops.size:=by simp
    rw[e]at this
    exact this
   |true=>
    simp only[NK]at hr
    have one:∀(ops:Array Oper),P6 X ops S k=some s->j4 C.P C.wr X.nm ops.toList ops.toList (aH V S) [] (λS' tr=>zu ops.toList tr=true/\Q .normal S'):=by
     intro ops hr
     simp only[P6]at hr
     rw[hP]
     have h2:=qw (W:=C.wr) hcall (λo ho=>sA hn.2 (by rw[hn.1];exact ho)) ops.toList S (aH V S) [] _ hr (Rl.refl S)
     refine jB (λσ' tr' ⟨S',hrl,hk⟩=> ?_) h2
     split at hk
     ·rename_i hd;exact⟨hd,hq S' σ' hk hrl.ent⟩
     ·cases hk
    have tree:∀(t:PT) (ops:Array Oper),NJ X S k t ops=some s->PT.ok C X.nm (aH V S) (Q .normal) t ops:=by
     intro t
     induction t with
     |leaf=>intro ops hr;exact one ops hr
     |node i j ta tb iha ihb=>
      intro ops hr
      simp only[NJ]at hr
      split at hr
      ·rename_i hf
       obtain⟨h1,h2⟩:=Dg hr
       simp only[zV,Uk,VP,VG]at hf
       obtain⟨⟨f1,f2⟩,f3⟩:=hf
       exact⟨⟨(λe=>by rw[e,Wg]at f1;cases f1),f2,f3⟩,iha _ h1,ihb _ h2⟩
      ·cases hr
    exact .drawT X.nm (X.pair id) (by rw[hP];exact hm) (tree _ _ hr)
  simp only[ex]at h
  split at h
  ·exact key kn r h λS' σ hk he=>hp.norm S' σ hk he
  ·rename_i cut _
   obtain⟨v,h1,h2⟩:=bB h
   exact key _ v h1 λS' σ hk he=>hp.norm _ σ h2 (Ent.trans he (dD hk))
 |scope x ih=>
  intro A S kn ke kr r Q hl h hp
  simp only[ex]at h
  split at h
  ·exact De (ih A S kn _ kr r _ hl.1 h ⟨λS' σ hk he=>hp.norm S' σ hk he,λid' S' σ hb hk he=>hp.exit id' S' σ hb (fQ hk).2 he,λl S' σ hk he=>(lu hk).elim,λv σ hk he=>hp.ret v σ hk he⟩)
  ·rename_i l la hj
   obtain⟨rest,hf,hok⟩:=hl.2 l la hj
   refine oI hf (ih A S kn _ kr r _ hl.1 h ⟨λS' σ hk he=>hp.norm S' σ hk he,λid' S' σ hb hk he=> ?_,λl' S' σ hk he=> ?_,λv σ hk he=>hp.ret v σ hk he⟩)
   ·split at hk
    ·rename_i e
     have:=US e
     rw[this,sx]at hb;cases hb
    ·exact hp.exit id' S' σ hb (fQ hk).2 he
   ·split at hk
    ·rename_i e
     have e:=US e
     refine⟨by omega,?_⟩
     split at hk
     ·cases hk
     ·rename_i v hv
      obtain⟨out,h1,h2⟩:=bB hk
      refine .ent (Ent.trans he (dD hv)) ((hok v out h1).mono λe σ hq=> ?_)
      unfold tZ at hq
      split at hq
      ·obtain⟨hb,w,hw1,hw2⟩:=hq
       rw[dt hw1]at h2
       exact hp.exit _ _ σ hb h2 hw2
      ·obtain⟨w,hw1,hw2⟩:=hq
       rw[dt hw1]at h2
       exact hp.ret w σ h2 hw2
      ·exact hq.elim
    ·exact(lu hk).elim
 |loop b ih=>
  intro A S kn ke kr r Q hl h hp
  simp only[ex]at h
  split at h
  ·cases h
  ·rename_i la hla
   split at h
   ·cases h
   ·rename_i v hv
    obtain⟨out,h1,h2⟩:=bB h
    refine .ent (dD hv) ((ob.loop (hl la hla v out h1)).mono λe σ hq=> ?_)
    unfold tZ at hq
    split at hq
    ·obtain⟨hb,w,hw1,hw2⟩:=hq
     rw[dt hw1]at h2
     exact hp.exit _ _ σ hb h2 hw2
    ·obtain⟨w,hw1,hw2⟩:=hq
     rw[dt hw1]at h2
     exact hp.ret w σ h2 hw2
    ·exact hq.elim
 |_=>intro A S kn ke kr r Q _ h hp;simp only[ex]at h;cases h
theorem dj{C:Ctx}{X:Xc V}(hP:C.P=X.P)(hn:C.N=X.n/\Fx C X.pre)(hm:X.P.follows .mixedOrders=true)(hcall:ay X.P X.call){b:Code}(hl:LOk C X b){cut:Cut V.ι}{alts:List Alt}
 {F:HL V.N cut.tys->Option (oF (bZ X.sh []) alts)}(ih:∀v out,F v=some out->ob C b (aH V (bV V cut v)) (tZ X.sh alts out)){v:HL V.N cut.tys}{out:oF (bZ X.sh []) alts}
 (h:exL X b cut alts F v=some out):ob C b (aH V (bV V cut v)) (tZ X.sh alts out):=by
 refine ob.round (hG hP hn hm hcall b _ _ _ _ _ out _ hl h ⟨λS' σ hk he=> ?_,λid S' σ hb hk he=> ?_,λl S' σ hk he=>(lu hk).elim,λv σ hk he=> ?_⟩)
 ·split at hk
  ·rename_i w hw;exact .ent (Ent.trans he (dD hw)) (ih w out hk)
  ·cases hk
 ·have hk:=(fQ hk).2
  split at hk
  ·rename_i w hw;exact⟨hb,w,hk,Ent.trans he (dD hw)⟩
  ·cases hk
 ·exact⟨v,hk,he⟩
end
end Go.Tx
end
section
namespace Go.Tx
open Go.Awp
variable [Inhabited GMem]
def tY(P:Program)(rs:List ResultVar)(r:H)(own':List (Nat×Own))(e:Exit)(S:ae):Prop:=
 (e= .normal\/e= .ret)/\∃S',Ent S S'/\∃h,Iy P S' rs=some h/\H.le h r/\∀n o,gt own' n=some o->S'.own? n=some o
theorem Bd{P:Program}{f:FuncId}{fn:Func}{c:Code}{args:List H}{own own':List (Nat×Own)}{r:H}(hf:P.funcs[f]?=some fn)(hb:fn.body=some c)
 (hname:(fn.name != "runtime.NumGoroutine")=true)(hn:args.length<=fn.ntmps)
 (h:∀C:Ctx,C.P=P->C.N=fn.ntmps/\C.fix=[]->AWp C c ⟨gh 0 args,ku own⟩ (tY P fn.results.toList r own')):gr P f args own r own':=by
 refine⟨by simp[dY,hf,hb,hname],λE M w vs hgm hm how hvs=> ?_⟩
 refine calls_of_wp hf hb ?_
 let C:Ctx:=⟨P,fn.ntmps,w,M,E,gE E w own,hgm,λb ⟨n,o,hn,hb⟩=>((how.ok n o hn).block hb).2,[],[]⟩
 have hs:Sim C E M ⟨gh 0 args,ku own⟩ {tmps:=vs++VM (fn.ntmps-vs.size) undef,defers:=[]} w:=by
  have hvs1:=hvs.1
  refine{size:=by simp[C];omega,defers:=rfl,fixed:=λp hp=>(by cases hp),tmps:=λt x hx=> ?_,mem:=hm,own:=λn o ho=> ?_,apart:=λn m o o' b hne ho ho'=> ?_,home:=λn o b ho hb=> ?_,m0:=Mem.le_refl M,mnew:=λb o v hv=> .inl hv,frame:=λ_ _ _=>rfl,grows:=Us _,os:=rfl,tape:=rfl,output:=rfl,env:=λ_ _=>rfl}
  ·obtain⟨_,h2⟩:=lJ args 0 t x hx
   simp only[W9]at h2
   have hlt:t<vs.size:=by have:=(Uc.1 h2).1;omega
   exact⟨vs[t],by simp[Wa hlt,hlt],hvs.2 t _ x (UO hlt) h2⟩
  ·have ho':gt own n=some o:=by rw[<-bJ];exact ho
   exact how.ok n o ho'
  ·have h1:gt own n=some o:=by rw[<-bJ];exact ho
   have h2:gt own m=some o':=by rw[<-bJ];exact ho'
   exact how.apart n m o o' b hne h1 h2
  ·have h1:gt own n=some o:=by rw[<-bJ];exact ho
   exact .inl ⟨n,o,h1,hb⟩
 refine wp_mono (h C rfl ⟨rfl,rfl⟩ E M _ w hs) ?_
 rintro e a' w' ⟨S',E',M',⟨he,S'',hent,hh,hres,hle,hown⟩,hs'⟩
 obtain⟨E2,M2,hs2⟩:=hent C E' M' a' w' hs'
 obtain⟨v,hrun,hrep⟩:=tF (C:=C) hs2 hres
 have hpost:ng E M own w v r own' E2 M2 w':=
  {rep:=hle _ _ _ hrep,owns:=⟨λn o ho=>hs2.own n o (hown n o ho),λn m o o' b hne h1 h2=>hs2.apart n m o o' b hne (hown n o h1) (hown m o' h2)⟩,mle:=hs2.m0,mem:=hs2.mem,mnew:=hs2.mnew,home:=λn o b ho hb=>hs2.home n o b (hown n o ho) hb,frame:=hs2.frame,grows:=hs2.grows,os:=hs2.os,tape:=hs2.tape,output:=hs2.output,env:=hs2.env}
 rcases he with rfl|rfl
 ·exact⟨hs2.defers,v,hrun,v,E2,M2,rfl,hpost⟩
 ·exact⟨hs2.defers,v,hrun,v,E2,M2,rfl,hpost⟩
section
variable (V:mz)
structure Sig where
 params:List (Pt V.ι)
 objs:List (Nat×OPt V.ι):=[]
 rcut:Cut V.ι
 rvars:List ResultVar
 keep:List Nat:=[]
variable {V}
def Sig.tys(sig:Sig V):List (Ty V.ι):=FB sig.params++Fc sig.objs
def Hp{α:Type}:Nat->List α->List (Nat×α)
 |_,[]=>[]
 |i,x::r=>(i,x)::Hp (i+1) r
def aX(sig:Sig V)(v:HL V.N sig.tys):List (TV V.N)×List (Nat×TO V.N):=match bdL V sig.params (NC sig.tys v)with
 |some (xs,ls)=>match bdO V sig.objs ls with
  |some os=>(xs,os)
  |none=>([],[])
 |none=>([],[])
def az(sig:Sig V)(v:HL V.N sig.tys):TS V.N:={tmps:=Hp 0 (aX sig v).1,own:=(aX sig v).2}
def Lv(P:Program)(S:TS V.N):ResultVar->Option (TV V.N)
 | .tmp t=>gt S.tmps t
 | .cell a t=>match gt S.tmps a with
  |some (.bp n off)=>match cj P t with
   |some (ag,sz)=>match Ai V ag off sz (V.ty t) (S.own? n)with
    |some v=>some v
    |none=>match Hd V (S.own? n)with
     |some cells=>Bl V false ag sz (V.ty t) (cells.drop off)
     |none=>none
   |none=>none
  |_=>none
def FK(P:Program)(S:TS V.N):List ResultVar->Option (List (TV V.N))
 |[]=>some []
 |x::r=>match Lv P S x,FK P S r with
  |some h,some l=>some (h::l)
  |_,_=>none
def Ln:List (TV V.N)->TV V.N
 |[x]=>x
 |l=> .tup l
def qF(P:Program)(sig:Sig V)(r:HL V.N sig.rcut.tys):Option (TV V.N):=(FK P (bV V sig.rcut r) sig.rvars).map Ln
def bt(ω:Nat->Nat)(os:List (Nat×TO V.N)):List (Nat×Own):=os.filterMap λp=>(bg V ω p.2).map λo=>(p.1,o)
def jJ(sig:Sig V)(r:HL V.N sig.rcut.tys):List (Nat×TO V.N):=(bV V sig.rcut r).own.filter λp=>sig.keep.contains p.1
def aq(P:Program)(fid:FuncId)(sig:Sig V)(F:HL V.N sig.tys->Option (HL V.N sig.rcut.tys)):Prop:=
 ∀v r x,F v=some r->qF P sig r=some x->
  gr P fid (encL V (az sig v).len (aX sig v).1) (bt (az sig v).len (az sig v).own) (an V (bV V sig.rcut r).len x) (bt (bV V sig.rcut r).len (jJ sig r))
noncomputable def exF(X:Xc V)(sig:Sig V)(h:X.sh.rcut=sig.rcut)(c:Code)(v:HL V.N sig.tys):Option (HL V.N sig.rcut.tys):=
 ex X c _ (az sig v) (λS=>A9 V sig.rcut S) (λ_ _=>none) (λr=>some (h▸r))
theorem cE{α β:Type}{f:α->Option β}:∀{l:List (Nat×α)} {n:Nat} {y:β},gt (l.filterMap λp=>(f p.2).map λo=>(p.1,o)) n=some y->∃x,(n,x)∈l/\f x=some y
 |[],n,y,h=>by simp[gt]at h
 |(k,x)::r,n,y,h=>by
  rw[VD]at h
  cases hx:f x with
  |none=>
   simp only[hx,Wx]at h
   obtain⟨z,h1,h2⟩:=cE h
   exact⟨z,Ua _ h1,h2⟩
  |some z=>
   simp only[hx,UB,ah]at h
   by_cases hk:k=n
   ·rw[XK hk]at h;cases h;subst hk;exact⟨x,Uf,hx⟩
   ·rw[XJ hk]at h
    obtain⟨w,h1,h2⟩:=cE h
    exact⟨w,Ua _ h1,h2⟩
def dr:List Nat->Bool
 |[]=>true
 |x::r=> !r.contains x&&dr r
theorem hI{α:Type}:∀{l:List (Nat×α)} {n:Nat} {x:α},dr (l.map (·.1))=true->(n,x)∈l->gt l n=some x
 |[],n,x,_,h=>by cases h
 |(k,y)::r,n,x,hd,h=>by
  simp only[Uj,dr,Uk]at hd
  rw[ah]
  rcases Um.1 h with he|h
  ·simp only[UC]at he
   obtain⟨rfl,rfl⟩:=he
   rw[XK rfl]
  ·have:k≠n:=by
    intro e;subst e
    have h1:=hd.1
    have:k∈r.map (·.1):=Uv h
    simp at h1
    simp at this
    exact h1 _ this.choose_spec
   rw[XJ this]
   exact hI hd.2 h
theorem jQ{P:Program}{S:TS V.N}:∀{rs:List ResultVar} {vs:List (TV V.N)},FK P S rs=some vs->
 ∃hs,jo P (aH V S) rs=some hs/\hs.length=vs.length/\∀(i:Nat) (v:TV V.N),vs[i]?=some v->∃h,hs[i]?=some h/\H.le h (an V S.len v)
 |[],vs,h=>by simp[FK]at h;subst h;exact⟨[],rfl,rfl,λi v hv=>by simp at hv⟩
 |x::r,vs,h=>by
  simp only[FK]at h
  split at h
  ·rename_i v l h1 h2
   simp at h;subst h
   obtain⟨hs,g1,g2,g3⟩:=jQ h2
   have:∃y,se P (aH V S) x=some y/\H.le y (an V S.len v):=by
    cases x with
    |tmp t=>
     simp only[Lv]at h1
     refine⟨(aH V S).get t,rfl,?_⟩
     unfold ae.get
     rw[cI,h1]
     exact H.le.refl _
    |cell a t=>
     simp only[Lv]at h1
     split at h1
     ·rename_i n off hn
      have hg:(aH V S).get a= .bp n off:=by
       unfold ae.get
       rw[cI,hn];simp[an]
      split at h1
      ·rename_i ag sz ht
       split at h1
       ·rename_i w hw
        simp only[Ud]at h1;subst h1
        unfold Ai at hw
        split at hw
        ·rename_i i y hnn
         have hw':=ao hw;clear hw
         obtain⟨⟨e1,e2,e3,hot⟩,hw⟩:=hw'
         subst e1;subst e2;subst e3
         simp only[Ud]at hw;subst hw
         have hb:Hd V (S.own? n)=some ((V.cells i y).map λl=> .lf l.t l.x):=by rw[hnn];rfl
         have hl:(V.enc i y).length=V.sz i:=by rw[V.enc_cells,Ug,V.len_cells]
         refine⟨an V S.len (.lf (.st i) y),?_,H.le.refl _⟩
         simp only[se,hg,ix hb,ht,kB,gH,UT,sF,Ug]
         rw[XK (by omega),UP (by rw[Ug];omega),cU,eV]
        ·cases hw
       ·split at h1
        ·rename_i cells hc
         obtain⟨y,k1,k2,_⟩:=lg (ω:=S.len) h1
         rw[jc]at k1
         refine⟨y,?_,k2⟩
         simp only[se,hg,ix hc,ht,k1]
        ·cases h1
      ·cases h1
     ·cases h1
   obtain⟨y,y1,y2⟩:=this
   refine⟨y::hs,by simp only[jo,y1,g1],by simp[g2],λi w hw=> ?_⟩
   cases i with
   |zero=>simp at hw;subst hw;exact⟨y,rfl,y2⟩
   |succ i=>obtain⟨z,z1,z2⟩:=g3 i w (by simpa using hw);exact⟨z,by simpa using z1,z2⟩
  ·cases h
theorem iC{ω:Nat->Nat}:∀(l:List (TV V.N)) (i:Nat),gh i (encL V ω l)=(Hp i l).map λp=>(p.1,an V ω p.2)
 |[],i=>rfl
 |x::r,i=>by simp[encL,gh,Hp,iC r (i+1)]
theorem sw:∀{ps:List (Pt V.ι)} {ls ls':List (dm V.N)} {xs:List (TV V.N)},bdL V ps ls=some (xs,ls')->xs.length=ps.length
 |[],ls,ls',xs,h=>by simp[bdL]at h;rw[h.1];rfl
 |p::r,ls,ls',xs,h=>by
  simp only[bdL]at h
  split at h
  ·rename_i x l1 h1
   split at h
   ·rename_i ys l2 h2
    simp at h
    rw[<-h.1]
    simp[sw h2]
   ·cases h
  ·cases h
theorem dX:∀{objs:List (Nat×OPt V.ι)} {ls:List (dm V.N)} {os:List (Nat×TO V.N)},bdO V objs ls=some os->os.map (·.1)=objs.map (·.1)
 |[],[],os,h=>by simp[bdO]at h;subst h;rfl
 |[],_::_,os,h=>by simp[bdO]at h
 |(c, .box oty ps)::r,ls,os,h=>by
  simp only[bdO]at h
  split at h
  ·split at h
   ·rename_i os' h2
    simp at h;subst h
    simp[dX h2]
   ·cases h
  ·cases h
 |(c, .st i)::r,[],os,h=>by simp[bdO]at h
 |(c, .vec te e)::r,[],os,h=>by simp[bdO]at h
 |(c, .st i)::r,⟨t,x⟩::ls,os,h=>by
  cases t<;>simp only[bdO]at h<;>first
   |(cases h;done)
   |(split at h
     ·split at h
      ·rename_i os' h2
       simp at h;subst h
       simp[dX h2]
      ·cases h
     ·cases h)
 |(c, .vec te e)::r,⟨t,x⟩::ls,os,h=>by
  cases t<;>simp only[bdO]at h<;>first
   |(cases h;done)
   |(split at h
     ·split at h
      ·rename_i os' h2
       simp at h;subst h
       simp[dX h2]
      ·cases h
     ·cases h)
 |(c, .dvec te e true)::r,[],os,h=>by simp[bdO]at h
 |(c, .dvec te e false)::r,[],os,h=>by simp[bdO]at h
 |(c, .dvec te e true)::r,⟨t,x⟩::ls,os,h=>by
  cases t<;>first
   |(simp[bdO]at h;done)
   |(rename_i t2;cases t2<;>first
    |(simp[bdO]at h;done)
    |(simp only[bdO]at h
      split at h
      ·split at h
       ·rename_i os' h2
        simp at h;subst h
        simp[dX h2]
       ·cases h
      ·cases h))
 |(c, .dvec te e false)::r,⟨t,x⟩::ls,os,h=>by
  cases t<;>simp only[bdO]at h<;>first
   |(cases h;done)
   |(split at h
     ·split at h
      ·rename_i os' h2
       simp at h;subst h
       simp[dX h2]
      ·cases h
     ·cases h)
 |(c, .iter)::r,[],os,h=>by simp[bdO]at h
 |(c, .iter)::r,[⟨t,x⟩],os,h=>by
  cases t<;>simp[bdO]at h
 |(c, .iter)::r,⟨t,x⟩::⟨t2,x2⟩::ls,os,h=>by
  cases t<;>first
   |(simp[bdO]at h;done)
   |(cases t2<;>first
    |(simp[bdO]at h;done)
    |(rename_i ki;cases ki<;>first
     |(simp[bdO]at h;done)
     |(simp only[bdO]at h
       split at h
       ·rename_i os' h2
        simp at h;subst h
        simp[dX h2]
       ·cases h)))
 |(c, .miter cm k v)::r,[],os,h=>by simp[bdO]at h
 |(c, .miter cm k v)::r,[⟨t,x⟩],os,h=>by
  cases t<;>simp[bdO]at h
 |(c, .miter cm k v)::r,⟨t,x⟩::⟨t2,x2⟩::ls,os,h=>by
  cases t<;>first
   |(simp[bdO]at h;done)
   |(cases t2<;>first
    |(simp[bdO]at h;done)
    |(simp only[bdO]at h
      split at h
      ·split at h
       ·rename_i os' h2
        simp at h;subst h
        simp[dX h2]
       ·cases h
      ·cases h))
 |(c, .map tk tv)::r,[],os,h=>by simp[bdO]at h
 |(c, .map tk tv)::r,⟨t,x⟩::ls,os,h=>by
  cases t<;>simp only[bdO]at h<;>first
   |(cases h;done)
   |(split at h
     ·split at h
      ·rename_i os' h2
       simp at h;subst h
       simp[dX h2]
      ·cases h
     ·cases h)
theorem kC(c:Cut V.ι)(ls:List (dm V.N))(h:dr (c.objs.map (·.1))=true):dr ((build V c ls).own.map (·.1))=true:=by
 unfold build
 split
 ·split
  ·rename_i os ho
   simp only
   rw[dX ho];exact h
  ·rfl
 ·rfl
theorem gd{ω:Nat->Nat}:∀{os:List (Nat×TO V.N)} {n:Nat} {x:TO V.N} {o:Own},gt os n=some x->bg V ω x=some o->gt (bt ω os) n=some o
 |[],n,x,o,h,_=>by simp[gt]at h
 |(k,y)::r,n,x,o,h,ho=>by
  rw[ah]at h
  unfold bt
  rw[VD]
  by_cases hk:k=n
  ·rw[XK hk]at h;cases h
   simp only[ho,UB,ah]
   rw[XK hk]
  ·rw[XJ hk]at h
   have ih:=gd (ω:=ω) h ho
   unfold bt at ih
   cases hy:bg V ω y with
   |none=>simp only[hy,Wx];exact ih
   |some z=>
    simp only[hy,UB,ah]
    rw[XJ hk];exact ih
theorem mO{X:Xc V}{sig:Sig V}(hsh:X.sh.rcut=sig.rcut){fid:FuncId}{fn:Func}{c:Code}(hf:X.P.funcs[fid]?=some fn)(hb:fn.body=some c)(hn:fn.ntmps=X.n)(hrs:fn.results.toList=sig.rvars)
 (hname:(fn.name != "runtime.NumGoroutine")=true)(hlen:V7 sig.params.length X.n=true)(hm:X.P.follows .mixedOrders=true)(hcall:ay X.P X.call)
 (hdr:dr (sig.rcut.objs.map (·.1))=true)(hl:∀C:Ctx,C.P=X.P->C.N=X.n/\Fx C X.pre->LOk C X c){v:HL V.N sig.tys}{r:HL V.N sig.rcut.tys}(h:exF X sig hsh c v=some r):
 ∀x,qF X.P sig r=some x->
  gr X.P fid (encL V (az sig v).len (aX sig v).1) (bt (az sig v).len (az sig v).own) (an V (bV V sig.rcut r).len x) (bt (bV V sig.rcut r).len (jJ sig r)):=by
 obtain⟨params,objs,rcut,rvars,keep⟩:=sig
 simp only at hsh
 subst hsh
 intro x hx
 have hargs:(aX ⟨params,objs,X.sh.rcut,rvars,keep⟩ v).1.length<=X.n:=by
  have hp:params.length<=X.n:=Vn hlen
  unfold aX
  split
  ·rename_i xs ls h1
   split
   ·simp only;rw[sw h1];exact hp
   ·simp
  ·simp
 refine Bd hf hb hname (by rw[aG,hn];exact hargs) λC hP hN=> ?_
 have hent:Ent ⟨gh 0 (encL V (az ⟨params,objs,X.sh.rcut,rvars,keep⟩ v).len (aX ⟨params,objs,X.sh.rcut,rvars,keep⟩ v).1),ku (bt (az ⟨params,objs,X.sh.rcut,rvars,keep⟩ v).len (az ⟨params,objs,X.sh.rcut,rvars,keep⟩ v).own)⟩
  (aH V (az ⟨params,objs,X.sh.rcut,rvars,keep⟩ v)):=by
  refine Ent.le (λt y hy=>⟨y,?_,H.le.refl _⟩) λn o ho=>⟨o,?_,OLe.refl _⟩
  ·rw[iC];exact hy
  ·rw[aM,Vw]at ho
   obtain⟨o',ho',hoo⟩:=ho
   have:=gd (os:=(az ⟨params,objs,X.sh.rcut,rvars,keep⟩ v).own) ho' hoo
   unfold ae.own?
   rw[bJ]
   exact this
 have hend:∀e σ,(e= .normal\/e= .ret)->Ent σ (aH V (bV V X.sh.rcut r))->
  tY X.P fn.results.toList (an V (bV V X.sh.rcut r).len x) (bt (bV V X.sh.rcut r).len (jJ ⟨params,objs,X.sh.rcut,rvars,keep⟩ r)) e σ:=by
  intro e σ he hσ
  unfold qF at hx
  rw[Ul]at hx
  obtain⟨vs,hvs,hone⟩:=hx
  obtain⟨hs,g1,g2,g3⟩:=jQ hvs
  have hh:∃y,Iy X.P (aH V (bV V X.sh.rcut r)) fn.results.toList=some y/\H.le y (an V (bV V X.sh.rcut r).len x):=by
   rw[hrs]
   unfold Iy
   rw[g1]
   cases vs with
   |nil=>
    have:hs=[]:=UE (by simpa using g2)
    subst this;subst hone
    exact⟨.tup [],rfl,by simp only[Ln,an,encL];exact H.le.refl _⟩
   |cons a l=>
    cases l with
    |nil=>
     cases hs with
     |nil=>simp at g2
     |cons y l'=>
      have:l'=[]:=UE (by simpa using g2)
      subst this;subst hone
      obtain⟨z,z1,z2⟩:=g3 0 a rfl
      simp at z1;subst z1
      exact⟨y,rfl,z2⟩
    |cons b l=>
     cases hs with
     |nil=>simp at g2
     |cons y l'=>
      cases l' with
      |nil=>simp at g2
      |cons y2 l2=>
       subst hone
       refine⟨.tup (y::y2::l2),rfl,?_⟩
       simp only[Ln,an]
       refine wb (by rw[aG];exact g2) λi w hw=> ?_
       rw[encL_map,Ue,Ul]at hw
       obtain⟨u,hu,rfl⟩:=hw
       exact g3 i u hu
  obtain⟨y,hy1,hy2⟩:=hh
  refine⟨he,_,hσ,y,hy1,hy2,λn o ho=> ?_⟩
  obtain⟨o',h1,h2⟩:=cE ho
  have h1:(n,o')∈(bV V X.sh.rcut r).own:=(Wz.1 h1).1
  have:=hI (kC X.sh.rcut _ hdr) h1
  rw[aM]
  unfold TS.own?
  unfold bV at *
  rw[this]
  exact h2
 refine .ent hent (hG hP ⟨by rw[hN.1,hn],λp hp=>(by rw[hN.2]at hp;cases hp)⟩ hm hcall c _ _ _ _ _ r _ (hl C hP ⟨by rw[hN.1,hn],λp hp=>(by rw[hN.2]at hp;cases hp)⟩) h ⟨λS σ hk he=> ?_,λid S σ _ hk he=>(by cases hk),λl S σ hk he=>(by cases hk),λw σ hk he=> ?_⟩)
 ·exact hend _ σ (.inl rfl) (Ent.trans he (dD hk))
 ·have:w=r:=by simpa using hk
  subst this
  exact hend _ σ (.inr rfl) he
end
end Go.Tx
end
