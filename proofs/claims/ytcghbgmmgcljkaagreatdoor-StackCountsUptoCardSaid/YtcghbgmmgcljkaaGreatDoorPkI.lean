/-
  Texts of this claim, joined by a program of mine: what the theorem uses.
-/
import Derived.Test.YtcghbgmmgcljkaaGreatDoorPkH
open Array renaming length_toList→abN,toList_inj→acr
open Bool renaming and_eq_false_iff→adj,and_eq_true→aac,false_eq_true→Z5,false_or→ab6,not_false→aa4,not_true→aaC,or_eq_false_iff→abl,or_eq_true→aaI,true_and→abv,true_or→acx
open ByteArray renaming mk→Z4,size_append→ab4
open Int renaming emod_emod_of_dvd→adm,emod_eq_of_lt→ab9,emod_lt_of_pos→acj,emod_nonneg→abV,le_refl→aaE,mul_nonneg→acz,natCast_dvd_natCast→acB,natCast_zero→aar,one_mul→adD,pow_succ→adA,reduceLE→adz,reduceLT→ady,reduceToNat→ada,tdiv_eq_ediv_of_nonneg→acV,tmod_eq_emod_of_nonneg→acU,toNat→aav,toNat_natCast→Z_,toNat_of_nonneg→abL,toNat_zero→aaG
open Int.ofNat renaming inj→adn
open List renaming all_cons→abj,all_eq_true→aak,any_cons→ab5,any_eq_true→aa6,append_assoc→abo,append_nil→ab3,countP_le_length→acH,drop_eq_getElem_cons→abT,drop_eq_nil_of_le→aby,drop_succ_cons→acP,drop_zero→aau,eq_of_mem_replicate→ac5,getD_eq_getElem?_getD→aa5,getElem?_append_right→aao,getElem?_cons_succ→ace,getElem?_cons_zero→aa9,getElem?_drop→aaB,getElem?_eq_getElem→Z8,getElem?_eq_none→ab2,getElem?_map→aaa,getElem?_range→abq,getElem?_replicate→acA,getElem?_set_ne→aca,getElem?_set_self→acm,getElem_mem→aaV,length_append→aax,length_cons→aaf,length_drop→aaJ,length_eq_zero_iff→ac8,length_flatMap→adr,length_map→aab,length_replicate→aaU,length_reverse→aa3,length_set→aaW,length_singleton→aa_,length_take→aaR,map→acq,map_append→aa0,map_cons→aah,map_nil→aaY,map_replicate→abS,map_set→abI,mem_append→abd,mem_append_left→abk,mem_cons→aan,mem_cons_of_mem→aag,mem_cons_self→aal,mem_filter→acu,mem_map→aaA,mem_of_getElem?→aae,mem_of_mem_take→aa7,mem_or_eq_of_mem_set→ac1,mem_singleton→aaS,nil_append→aai,nodup_cons→acL,range→abp,replicate→aap,reverse_cons→ab8,set_append_right→acF,take→abg,takeWhile_cons→abz,take_of_length_le→aaN,take_succ_cons→adq
open List.cons renaming injEq→aaX
open Nat renaming and_mod_two_pow→adp,le_refl→aay,le_trans→abA,min_eq_left→abC,mod_two_eq_zero_or_one→abn,pow_dvd_pow→ac_,pow_le_pow_right→abw,pow_succ→acK,reduceEqDiff→ac2,reduceLT→adw,strongRecOn→acJ,sub_zero→aaP,xor_mod_two_pow→ado,zero_add→aad,zero_le→acb
open Option renaming bind_eq_bind→Z6,bind_some→Z3,getD_some→abh,isNone_none→ach,isSome_some→acv
open Option.some renaming inj→aa8,injEq→Z7
open Prod.mk renaming injEq→aaH
open Sum renaming inl→aaL
open UInt8 renaming ofNat→acl
noncomputable section
set_option linter.unusedSimpArgs false
set_option linter.unusedVariables false
section
namespace Go.Proofs.YtcghbgmmgcljkaaGreatDoor
open IntKind (i64)
set_option maxRecDepth 20000
def Mt(op:Int)(x y:Int):Int:=if op=15 then(x+y).tdiv 2 else if op=16 then(x+y+1).tdiv 2 else(x+y).tmod 2
def vC(op:Int):List Int->List Int->List Int
 |x::r,y::s=>Mt op x y::vC op r s
 |_,_=>[]
def raw(b n:Int):Nat:=(n%2^b.toNat).toNat
def z7(op:Int)(x y:Nat):Nat:=if op=15 then x&&&y else if op=16 then x|||y else x^^^y
theorem r6:∀(k n:Nat) {x:Int},x∈gw k n->x=0\/x=1
 |0,_,_,h=>by simp[gw]at h
 |k+1,n,x,h=>by
  rw[gw,aan]at h
  rcases h with h|h
  ·omega
  ·exact r6 k _ h
theorem zO(op:Int):∀(k:Nat) (a b:Nat),a<2^k->b<2^k->N4 (vC op (gw k a) (gw k b))=((z7 op a b:Nat):Int)
 |0,a,b,ha,hb=>by
  have h1:a=0:=by simpa using ha
  have h2:b=0:=by simpa using hb
  subst h1 h2
  simp[gw,vC,N4,z7]
 |k+1,a,b,ha,hb=>by
  rw[acK]at ha hb
  have ih:=zO op k (a/2) (b/2) (by omega) (by omega)
  rw[gw,gw,vC,N4,ih]
  have la:=D0 a b
  have lb:=Hz a b
  have lc:=D_ a b
  have ha2:=abn a
  have hb2:=abn b
  unfold Mt z7
  by_cases h1:op=15
  ·simp only[h1,adE]
   rw[la]
   rcases ha2 with h|h<;>rcases hb2 with h'|h'<;>rw[h,h']<;>simp<;>omega
  ·by_cases h2:op=16
   ·simp only[h2,adE,show(16:Int)≠15 by decide,adF]
    rw[lb]
    rcases ha2 with h|h<;>rcases hb2 with h'|h'<;>rw[h,h']<;>simp<;>omega
   ·simp only[h1,h2,adF]
    rw[lc]
    rcases ha2 with h|h<;>rcases hb2 with h'|h'<;>rw[h,h']<;>simp<;>omega
theorem tw(t:bB)(h2:t.bits<=31):∀(j k:Nat) (n:Nat) (out:List Int),((k+j:Nat):Int)=t.bits->n<2^62->out.length=k->
 i9 ((n:Int),(k:Int),t,out,())=some (out++gw j n,())
 |0,k,n,out,h,hn,hl=>by
  rw[i9,adH (by simp;omega),gw,ab3]
 |j+1,k,n,out,h,hn,hl=>by
  rw[i9,adI (by simp;omega)]
  simp only[aa_,hl]
  rw[adI (by omega)]
  have e1:(n:Int).tdiv 2=((n/2:Nat):Int):=by
   rw[acV (by omega)];omega
  have e2:(n:Int).tmod 2=((n%2:Nat):Int):=by
   rw[acU (by omega)];omega
  rw[e1,e2,w64 (by omega) (by omega),w64 (by omega) (by omega)]
  have:=tw t h2 j (k+1) (n/2) (out++[((n%2:Nat):Int)]) (by omega) (by omega) (by simp[hl])
  rw[gw,show((k:Int)+1)=((k+1:Nat):Int) by omega,this,abo]
  rfl
theorem Q4(s:Bool){b n:Int}(h1:1<=b)(h2:b<=31)(h:inT s b n):(if n<0 then n+2^b.toNat else n)=(raw b n:Int):=by
 obtain⟨p1,p2,p3⟩:=fg h1 h2
 have m1:=abV n (show(2:Int)^b.toNat≠0 by omega)
 obtain⟨q1,q2⟩:=h
 unfold lo at q1
 unfold hi at q2
 unfold raw
 rw[abL m1]
 by_cases hn:n<0
 ·rw[adI hn,<-Int.add_emod_right n,ab9]<;>cases s<;>simp at q1 q2<;>omega
 ·rw[adH hn,ab9]<;>cases s<;>simp at q1 q2<;>omega
theorem Ft{b n:Int}(h1:1<=b)(h2:b<=31):raw b n<2^b.toNat/\raw b n<2^31:=by
 obtain⟨p1,p2,p3⟩:=fg h1 h2
 have m1:=abV n (show(2:Int)^b.toNat≠0 by omega)
 have m2:=acj n (show(0:Int)<2^b.toNat by omega)
 have e2:((2:Int)^b.toNat)=((2^b.toNat:Nat):Int):=by simp
 unfold raw
 refine⟨by omega,by omega⟩
theorem tO(t:bB)(n:Int)(h1:1<=t.bits)(h2:t.bits<=31)(h:inT t.signed t.bits n):Es (t,n,())=some (gw t.bits.toNat (raw t.bits n),()):=by
 have hr:=Q4 t.signed h1 h2 h
 obtain⟨r1,r2⟩:=Ft (n:=n) h1 h2
 have hl:=oW h1 h2 h
 obtain⟨p1,p2,p3⟩:=fg h1 h2
 have lp:=tw t h2 t.bits.toNat 0 (raw t.bits n) [] (by omega) (by omega) rfl
 rw[aai,aar]at lp
 rw[Es]
 by_cases hn:n<0
 ·rw[adI hn]at hr
  simp only[s7 t h1 h2,Z6,Z3,adG,adI hn]
  rw[w64 (by omega) (by omega),hr,lp];rfl
 ·rw[adH hn]at hr
  simp only[s7 t h1 h2,Z6,Z3,adG,adH hn]
  rw[<-hr]at lp
  rw[lp];rfl
theorem zP(op:Int)(t:bB)(x y:List Int)(hxy:x.length=y.length)(hx:∀n∈x,n=0\/n=1)(hy:∀n∈y,n=0\/n=1)(h3:x.length<=31):∀(j k:Nat) (out:List Int),k+j=x.length->out.length=k->
 i7 (op,x,y,(k:Int),t,out,())=some (t,out++vC op (x.drop k) (y.drop k),())
 |0,k,out,h,hl=>by
  rw[i7,adH (by simp;omega),aby (by omega),aby (by omega)]
  simp[vC]
 |j+1,k,out,h,hl=>by
  rw[i7,adI (by simp;omega)]
  simp only[]
  rw[adI (by omega)]
  have k1:k<x.length:=by omega
  have k2:k<y.length:=by omega
  rw[Z_,Z8 k1,Z8 k2]
  simp only[Z6,Z3]
  rw[adI (by omega)]
  have b1:=hx _ (aaV k1)
  have b2:=hy _ (aaV k2)
  have ih:=zP op t x y hxy hx hy h3 j (k+1) (out++[Mt op x[k] y[k]]) (by omega) (by simp[hl])
  rw[abT k1,abT k2,vC]
  have e1:i64.wrap (x[k]+y[k])=x[k]+y[k]:=w64 (by omega) (by omega)
  have e2:i64.wrap (x[k]+y[k]+1)=x[k]+y[k]+1:=w64 (by omega) (by omega)
  have e3:i64.wrap ((x[k]+y[k]).tdiv 2)=(x[k]+y[k]).tdiv 2:=by
   rcases b1 with b1|b1<;>rcases b2 with b2|b2<;>rw[b1,b2]<;>rfl
  have e4:i64.wrap ((x[k]+y[k]+1).tdiv 2)=(x[k]+y[k]+1).tdiv 2:=by
   rcases b1 with b1|b1<;>rcases b2 with b2|b2<;>rw[b1,b2]<;>rfl
  have e5:i64.wrap ((k:Int)+1)=((k+1:Nat):Int):=by rw[w64 (by omega) (by omega)];omega
  simp only[e1,e2,e3,e4,beq_iff_eq,aa_]
  rw[show out++Mt op x[k] y[k]::vC op (x.drop (k+1)) (y.drop (k+1))=(out++[Mt op x[k] y[k]])++vC op (x.drop (k+1)) (y.drop (k+1)) by simp,<-ih]
  unfold Mt
  by_cases h15:op=15
  ·simp only[h15,adE,Z3]
   rw[adI (by omega),e5]
  ·by_cases h16:op=16
   ·simp only[h16,adE,Z3,show(16:Int)≠15 by decide,adF]
    rw[adI (by omega),e5]
   ·simp only[h15,h16,adF,Z3]
    rw[adI (by omega),e5]
theorem y_(t:bB)(x:List Int)(hx:∀n∈x,n=0\/n=1)(h3:x.length<=31):∀(k:Nat) (m:Int),k<=x.length->m=N4 (x.drop k)->0<=m->m<2^(x.length-k)->
 i_ (x,m,(k:Int) -1,t,())=some (N4 x,t,())
 |0,m,hk,hm,_,_=>by
  rw[i_,adH (by simp),hm];rfl
 |k+1,m,hk,hm,h0,hlt=>by
  have k1:k<x.length:=by omega
  have b1:=hx _ (aaV k1)
  have p31:2^(x.length-(k+1))<=2^31:=abw (by omega) (by omega)
  have e2:((2:Int)^(x.length-(k+1)))=((2^(x.length-(k+1)):Nat):Int):=by simp
  have ps:(2:Int)^(x.length-k)=2 *2^(x.length-(k+1)):=by
   rw[show x.length-k=(x.length-(k+1))+1 by omega,adA];omega
  rw[i_]
  simp only[]
  rw[show(((k+1:Nat):Int) -1)=(k:Int) by omega,adI (by simp),adI (by omega),Z_,Z8 k1]
  simp only[Z6,Z3]
  rw[w64 (x:=2 *m) (by omega) (by omega),w64 (by omega) (by omega),w64 (by omega) (by omega)]
  refine y_ t x hx h3 k _ (by omega) ?_ (by omega) (by omega)
  rw[abT k1,N4,<-hm]
theorem Gw(op:Int):∀(x y:List Int),(∀n∈x,n=0\/n=1)->(∀n∈y,n=0\/n=1)->∀n∈vC op x y,n=0\/n=1
 |[],_,_,_,n,h=>by simp[vC]at h
 |_::_,[],_,_,n,h=>by simp[vC]at h
 |a::r,b::s,hx,hy,n,h=>by
  rw[vC,aan]at h
  rcases h with h|h
  ·rw[h]
   have h1:=hx a (aal ..)
   have h2:=hy b (aal ..)
   unfold Mt
   rcases h1 with h1|h1<;>rcases h2 with h2|h2<;>rw[h1,h2]<;>(split;· decide)<;>(split<;>decide)
  ·exact Gw op r s (λn hn=>hx n (aag _ hn)) (λn hn=>hy n (aag _ hn)) n h
theorem zN(op:Int):∀(x y:List Int),x.length=y.length->(vC op x y).length=x.length
 |[],_,_=>rfl
 |_::_,[],h=>by simp at h
 |a::r,b::s,h=>by
  rw[vC,aaf,aaf,zN op r s (by simpa using h)]
theorem z8(op:Int)(t:bB)(x y:Int)(h1:1<=t.bits)(h2:t.bits<=31)(hx:inT t.signed t.bits x)(hy:inT t.signed t.bits y):
 Ih (op,t,x,y,())=some (p9 t.signed t.bits ((z7 op (raw t.bits x) (raw t.bits y):Nat):Int),()):=by
 obtain⟨r1,r2⟩:=Ft (n:=x) h1 h2
 obtain⟨s1,s2⟩:=Ft (n:=y) h1 h2
 have zx:∀n∈gw t.bits.toNat (raw t.bits x),n=0\/n=1:=λn hn=>r6 _ _ hn
 have zy:∀n∈gw t.bits.toNat (raw t.bits y),n=0\/n=1:=λn hn=>r6 _ _ hn
 have z:=zP op t (gw t.bits.toNat (raw t.bits x)) (gw t.bits.toNat (raw t.bits y)) (by rw[e8,e8]) zx zy (by rw[e8];omega) t.bits.toNat 0 [] (by rw[e8];omega) rfl
 rw[aai,aau,aau,aar]at z
 have zl:(vC op (gw t.bits.toNat (raw t.bits x)) (gw t.bits.toNat (raw t.bits y))).length=t.bits.toNat:=by rw[zN _ _ _ (by rw[e8,e8]),e8]
 have nl:=y_ t _ (Gw op _ _ zx zy) (by rw[zl];omega) t.bits.toNat 0 (by rw[zl];omega) (by rw[aby (by rw[zl];omega)];rfl) (by omega) (by rw[zl];simp)
 rw[zO op _ _ _ r1 s1]at nl
 rw[Ih]
 simp only[tO t x h1 h2 hx,tO t y h1 h2 hy,Z6,Z3,z]
 rw[Nw]
 simp only[zl]
 rw[w64 (by omega) (by omega),nl]
 simp only[Z6,Z3,iH t _ h1 h2]
end Go.Proofs.YtcghbgmmgcljkaaGreatDoor
end
section
namespace Go.Proofs.YtcghbgmmgcljkaaGreatDoor
open IntKind (i64)
set_option maxRecDepth 20000
theorem nw{k:Nat}(h:k<=31)(c:Int)(hc: -2<=c/\c<=2):Bs.ishl .i64 c (k:Int)=c *2^k:=by
 have p2:2^k<=2^31:=abw (by omega) h
 have e2:((2:Int)^k)=((2^k:Nat):Int):=by simp
 have p0:(0:Int)<2^k:=Int.pow_pos (by decide)
 show i64.wrap (c *2^min ((k:Int)).toNat 64)=_
 rw[Z_,abC (by omega)]
 have:c= -2\/c= -1\/c=0\/c=1\/c=2:=by omega
 rcases this with h|h|h|h|h<;>subst h<;>exact w64 (by omega) (by omega)
theorem Hl(t:bB)(h1:1<=t.bits)(h2:t.bits<=31):AY (t,())=some (hi t.signed t.bits,()):=by
 obtain⟨p1,p2,p3⟩:=fg h1 h2
 rw[AY]
 unfold hi
 by_cases hs:t.signed=true
 ·simp only[hs,adE]
  have e:i64.wrap (t.bits-1)=((t.bits.toNat-1:Nat):Int):=by rw[w64 (by omega) (by omega)];omega
  rw[e,adI (by omega),nw (by omega) 1 (by omega),w64 (by omega) (by omega),adD]
 ·simp only[hs,adF,Z5]
  have e:t.bits=((t.bits.toNat:Nat):Int):=by omega
  rw[adI (by omega),e,nw (by omega) 1 (by omega),<-e,w64 (by omega) (by omega),adD]
theorem Ni(t:bB)(h1:1<=t.bits)(h2:t.bits<=31):Et (t,())=some (lo t.signed t.bits,()):=by
 obtain⟨p1,p2,p3⟩:=fg h1 h2
 rw[Et]
 unfold lo
 by_cases hs:t.signed=true
 ·simp only[hs,adE]
  have e:i64.wrap (t.bits-1)=((t.bits.toNat-1:Nat):Int):=by rw[w64 (by omega) (by omega)];omega
  rw[e,adI (by omega),nw (by omega) (-1) (by omega)]
  simp
 ·simp only[hs,adF,Z5]
theorem hH(t:bB)(n:Int)(h1:1<=t.bits)(h2:t.bits<=31):m6 (t,n,())=some (decide (inT t.signed t.bits n),()):=by
 rw[m6]
 simp only[Ni t h1 h2,Hl t h1 h2,Z6,Z3,ge_iff_le,adG]
 unfold inT
 by_cases h:lo t.signed t.bits<=n
 ·simp[h]
 ·simp[h]
theorem fj(t:bB)(n:Int)(h1:1<=t.bits)(h2:t.bits<=31):wO (t,n,())=some (p9 t.signed t.bits n,()):=by
 obtain⟨p1,p2,p3⟩:=fg h1 h2
 have m1:=abV n (show(2:Int)^t.bits.toNat≠0 by omega)
 have m2:=acj n (show(0:Int)<2^t.bits.toNat by omega)
 have e:t.bits=((t.bits.toNat:Nat):Int):=by omega
 have es:Bs.ishl .i64 1 t.bits=2^t.bits.toNat:=by
  rw[e,nw (by omega) 1 (by omega),<-e,adD]
 have em:Bs.iand .i64 n (i64.wrap (2^t.bits.toNat-1))=n%2^t.bits.toNat:=by
  rw[w64 (by omega) (by omega),DL n (by omega)]
 rw[wO]
 simp only[Hl t h1 h2,es,em,Z6,Z3,gt_iff_lt,adG]
 rw[adI (by omega)]
 unfold p9 hi
 by_cases hs:t.signed=true
 ·simp only[hs,adE,true_and]
  by_cases h:2^(t.bits.toNat-1) -1<n%2^t.bits.toNat
  ·rw[adI h,adI (by omega),adI (by omega),w64 (by omega) (by omega)]
   rfl
  ·rw[adH h,adH (by omega)]
   rfl
 ·simp only[hs,adF,Z5,false_and]
  rw[adH (by omega)]
  rfl
theorem nL(t:bB)(h1:1<=t.bits)(h2:t.bits<=31):o_ (t,())=some (0,()):=by
 rw[o_]
 rw[adH (by simp;omega)]
 have:¬31<t.bits:=by omega
 simp[this]
def eE(op x y:Int):Option Int:=
 if op=5\/op=10\/op=13 then some (x+y)else if op=6\/op=11\/op=14 then some (x-y)else if op=7\/op=12 then some (x *y)else if y=0 then none else some (x.tdiv y)
def doS(op:Int)(s:Bool)(b x y:Int):Int×Int:=
 if 15<=op then(p9 s b ((z7 op (raw b x) (raw b y):Nat):Int),0)else
 match eE op x y with
 |none=>(if op=9 then x else 0,2)
 |some n=>
  if op=10\/op=11\/op=12 then(p9 s b n,0)else
  if op=13\/op=14 then(QY s b n,0)else
  if inT s b n then(if op=9 then x.tmod y else n,0)else(if op=9 then 0 else p9 s b n,1)
theorem wL{x y M:Int}(hx: -M<=x)(hx':x<=M)(hy: -M<=y)(hy':y<=M): -(M *M)<=x *y/\x *y<=M *M:=by
 have h1:0<=(M-x) *(M-y):=acz (by omega) (by omega)
 have h2:0<=(M+x) *(M+y):=acz (by omega) (by omega)
 have h3:0<=(M-x) *(M+y):=acz (by omega) (by omega)
 have h4:0<=(M+x) *(M-y):=acz (by omega) (by omega)
 simp only[Int.sub_mul,Int.add_mul,Int.mul_sub,Int.mul_add]at h1 h2 h3 h4
 have c1:=Int.mul_comm x M
 constructor<;>omega
theorem zB{x y:Int}: -(x.natAbs:Int)<=x.tdiv y/\x.tdiv y<=(x.natAbs:Int):=by
 have h:(x.tdiv y).natAbs<=x.natAbs:=by rw[Int.natAbs_tdiv];exact Nat.div_le_self _ _
 omega
theorem JU{x y:Int}(hy:y≠0):(0<=x->0<=x.tmod y/\x.tmod y<=x)/\(x<=0->x<=x.tmod y/\x.tmod y<=0):=by
 have hn:(x.tmod y).natAbs<=x.natAbs:=by rw[Int.natAbs_tmod];exact Nat.mod_le _ _
 constructor
 ·intro h
  have:=Int.tmod_nonneg y h
  omega
 ·intro h
  have:=Int.tmod_nonneg y (show 0<= -x by omega)
  rw[Int.neg_tmod]at this
  omega
theorem yp(op:Int){x y:Int}(hx: -1073741824<=x/\x<=2147483647)(hy: -1073741824<=y/\y<=2147483647):
 El (op,x,y,())=some (match eE op x y with|some n=>(n,true,())|none=>(0,false,())):=by
 have m:=wL (x:=x) (y:=y) (M:=2147483647) (by omega) (by omega) (by omega) (by omega)
 have d:=zB (x:=x) (y:=y)
 rw[El]
 unfold eE
 have w1:i64.wrap (x+y)=x+y:=w64 (by omega) (by omega)
 have w2:i64.wrap (x-y)=x-y:=w64 (by omega) (by omega)
 have w3:i64.wrap (x *y)=x *y:=w64 (by omega) (by omega)
 have w4:i64.wrap (x.tdiv y)=x.tdiv y:=w64 (by omega) (by omega)
 by_cases a1:op=5
 ·simp[a1,w1]
 by_cases a2:op=10
 ·simp[a2,w1]
 by_cases a3:op=13
 ·simp[a3,w1]
 by_cases a4:op=6
 ·simp[a4,w2]
 by_cases a5:op=11
 ·simp[a5,w2]
 by_cases a6:op=14
 ·simp[a6,w2]
 by_cases a7:op=7
 ·simp[a7,w3]
 by_cases a8:op=12
 ·simp[a8,w3]
 by_cases hy0:y=0
 ·simp[a1,a2,a3,a4,a5,a6,a7,a8,hy0]
 ·simp[a1,a2,a3,a4,a5,a6,a7,a8,hy0,w4]
theorem Pf{b:Int}(h1:1<=b)(h2:b<=31)(s:Bool): -1073741824<=lo s b/\lo s b<=0/\0<=hi s b/\hi s b<=2147483647:=by
 obtain⟨p1,p2,p3⟩:=fg h1 h2
 unfold lo hi
 cases s<;>simp<;>omega
theorem u6(op:Int)(t:bB)(x y:Int)(h1:1<=t.bits)(h2:t.bits<=31)(hx:inT t.signed t.bits x)(hy:inT t.signed t.bits y):
 Eh (op,t,x,y,())=some (if(doS op t.signed t.bits x y).2=0 then(doS op t.signed t.bits x y).1 else 0,(doS op t.signed t.bits x y).2,()):=by
 have lx:=oW h1 h2 hx
 have ly:=oW h1 h2 hy
 rw[Eh]
 unfold doS
 by_cases hop:15<=op
 ·simp only[ge_iff_le,adG,hop,adE,z8 op t x y h1 h2 hx hy,Z6,Z3]
 ·simp only[ge_iff_le,adG,hop,adF,yp op lx ly,Z6,Z3]
  cases he:eE op x y with
  |none=>simp
  |some n=>
   simp only[aaC,Z5,adF,beq_iff_eq]
   by_cases a2:op=10
   ·simp[a2,iH t n h1 h2]
   by_cases a5:op=11
   ·simp[a5,iH t n h1 h2]
   by_cases a8:op=12
   ·simp[a8,iH t n h1 h2]
   by_cases a3:op=13
   ·simp[a3,EX t n h1 h2]
   by_cases a6:op=14
   ·simp[a6,EX t n h1 h2]
   have e1:(op==12)=false:=by simpa using a8
   have e2:(op==14)=false:=by simpa using a6
   simp only[a2,a5,a3,adF,e1,e2,Z3,Z5,QF t n h1 h2,or_self,a8,a6]
   by_cases hin:inT t.signed t.bits n
   ·simp only[hin,adJ,aaC,Z5,adF,adE]
    by_cases a9:op=9
    ·subst a9
     have hn:n=x.tdiv y/\y≠0:=by
      unfold eE at he
      simp at he
      exact⟨he.2.symm,he.1⟩
     have ln:=oW h1 h2 hin
     have m:=wL (x:=n) (y:=y) (M:=2147483647) (by omega) (by omega) (by omega) (by omega)
     simp only[adE]
     rw[w64 (x:=n *y) (by omega) (by omega),w64 (by omega) (by omega),Int.tmod_def,hn.1,Int.mul_comm y]
    ·simp[a9]
   ·simp[hin]
theorem DA(op:Int)(t:bB)(x y:Int)(h1:1<=t.bits)(h2:t.bits<=31)(hx:inT t.signed t.bits x)(hy:inT t.signed t.bits y):
 HM (op,t,x,y,())=some ((doS op t.signed t.bits x y).1,()):=by
 have lx:=oW h1 h2 hx
 have ly:=oW h1 h2 hy
 rw[HM]
 simp only[u6 op t x y h1 h2 hx hy,Z6,Z3]
 unfold doS
 by_cases hop:15<=op
 ·simp[hop]
 ·simp only[hop,adF]
  cases he:eE op x y with
  |none=>
   by_cases a9:op=9
   ·simp[a9]
   ·simp[a9]
  |some n=>
   simp only[]
   by_cases a2:op=10\/op=11\/op=12
   ·simp[a2]
   by_cases a3:op=13\/op=14
   ·simp[a2,a3]
   simp only[a2,a3,adF]
   by_cases hin:inT t.signed t.bits n
   ·simp[hin]
   ·by_cases a9:op=9
    ·simp[hin,a9]
    ·simp[hin,a9,yp op lx ly,he,iH t n h1 h2]
end Go.Proofs.YtcghbgmmgcljkaaGreatDoor
end
section
namespace Go.Proofs.YtcghbgmmgcljkaaGreatDoor
open IntKind (i64)
set_option maxRecDepth 20000
def uT(n:Int):Nat:=(BitVec.ofInt 64 n).toNat
theorem Ju(n:Int):(uT n:Int)=n%2^64:=by
 unfold uT
 rw[BitVec.toNat_ofInt]
 have:=abV n (show((2^64:Nat):Int)≠0 by decide)
 rw[abL this]
 rfl
theorem uU(n:Int){b:Int}(h1:1<=b)(h2:b<=31):uT n%2^b.toNat=raw b n:=by
 have e:=Ju n
 have e2:((2:Int)^b.toNat)=((2^b.toNat:Nat):Int):=by simp
 have h:((uT n%2^b.toNat:Nat):Int)=n%2^b.toNat:=by
  rw[Int.natCast_emod,e,<-e2]
  exact adm n (by
   rw[e2,show(2:Int)^64=((2^64:Nat):Int) by rfl,acB]
   exact ac_ 2 (by omega))
 unfold raw
 omega
theorem Kg{m:Nat}(h:m<2^64):i64.wrap (m:Int)=if m<2^63 then(m:Int)else(m:Int) -2^64:=by
 unfold IntKind.wrap
 simp only[IntKind.bits,IntKind.signed,abv]
 split<;>rename_i h'<;>simp at h'<;>split<;>omega
def z6(op:Int)(x y:Int):Int:=if op=15 then Bs.iand .i64 x y else if op=16 then Bs.ior .i64 x y else Bs.ixor .i64 x y
theorem GM(op x y:Int):z6 op x y=i64.wrap ((z7 op (uT x) (uT y):Nat):Int):=by
 unfold z6 z7
 split
 ·show i64.wrap ((BitVec.ofInt 64 x&&&BitVec.ofInt 64 y).toNat:Int)=_
  rw[BitVec.toNat_and];rfl
 ·split
  ·show i64.wrap ((BitVec.ofInt 64 x|||BitVec.ofInt 64 y).toNat:Int)=_
   rw[BitVec.toNat_or];rfl
  ·show i64.wrap ((BitVec.ofInt 64 x^^^BitVec.ofInt 64 y).toNat:Int)=_
   rw[BitVec.toNat_xor];rfl
theorem Mu(op:Int){x y k:Nat}(hx:x<2^k)(hy:y<2^k):z7 op x y<2^k:=by
 unfold z7
 split
 ·exact Nat.and_lt_two_pow _ hy
 ·split
  ·exact Nat.or_lt_two_pow hx hy
  ·exact Nat.xor_lt_two_pow hx hy
theorem GN(op:Int)(x y k:Nat):z7 op x y%2^k=z7 op (x%2^k) (y%2^k):=by
 unfold z7
 split
 ·exact adp
 ·split
  ·exact Nat.or_mod_two_pow
  ·exact ado
theorem r5(op:Int){s:Bool}{b x y:Int}(h1:1<=b)(h2:b<=31):
 p9 s b (z6 op x y)=p9 s b ((z7 op (raw b x) (raw b y):Nat):Int):=by
 refine zZ ?_
 have lx:uT x<2^64:=(BitVec.ofInt 64 x).isLt
 have ly:uT y<2^64:=(BitVec.ofInt 64 y).isLt
 have lz:=Mu op lx ly
 rw[GM,<-uU x h1 h2,<-uU y h1 h2,<-GN]
 have e2:((2:Int)^b.toNat)=((2^b.toNat:Nat):Int):=by simp
 rw[e2,Int.natCast_emod,Int.emod_emod,Kg lz]
 split
 ·rfl
 ·have hd:((2^b.toNat:Nat):Int)∣2^64:=by
   rw[show(2:Int)^64=((2^64:Nat):Int) by rfl,acB]
   exact ac_ 2 (by omega)
  obtain⟨c,hc⟩:=hd
  rw[hc,Int.sub_mul_emod_self_left]
end Go.Proofs.YtcghbgmmgcljkaaGreatDoor
end
section
namespace Go.Proofs.YtcghbgmmgcljkaaGreatDoor
open IntKind (i64)
set_option maxRecDepth 20000
theorem y8{s:Bool}{b:Int}(h1:1<=b)(h2:b<=31)(n:Int):max (lo s b) (min (hi s b) n)=QY s b n:=by
 have:=Pf h1 h2 s
 unfold QY
 split
 ·omega
 ·split<;>omega
theorem Qx(op:Int)(t:bB)(x y:Int)(h1:1<=t.bits)(h2:t.bits<=31)(hx:inT t.signed t.bits x)(hy:inT t.signed t.bits y)(ho:5<=op/\op<=17):
 Er (op,t,x,y,())=some ((doS op t.signed t.bits x y).1,(doS op t.signed t.bits x y).2,()):=by
 have lx:=oW h1 h2 hx
 have ly:=oW h1 h2 hy
 have m:=wL (x:=x) (y:=y) (M:=2147483647) (by omega) (by omega) (by omega) (by omega)
 have d:=zB (x:=x) (y:=y)
 have w1:i64.wrap (x+y)=x+y:=w64 (by omega) (by omega)
 have w2:i64.wrap (x-y)=x-y:=w64 (by omega) (by omega)
 have w3:i64.wrap (x *y)=x *y:=w64 (by omega) (by omega)
 have w4:i64.wrap (x.tdiv y)=x.tdiv y:=w64 (by omega) (by omega)
 have hb:=Pf h1 h2 t.signed
 have k:op=5\/op=6\/op=7\/op=8\/op=9\/op=10\/op=11\/op=12\/op=13\/op=14\/op=15\/op=16\/op=17:=by omega
 rw[Er]
 rcases k with h|h|h|h|h|h|h|h|h|h|h|h|h<;>subst h
 ·by_cases hin:inT t.signed t.bits (x+y)<;>
   simp[ja,A2,doS,eE,w1,hH t _ h1 h2,fj t _ h1 h2,hin]
 ·by_cases hin:inT t.signed t.bits (x-y)<;>
   simp[ja,A3,doS,eE,w2,hH t _ h1 h2,fj t _ h1 h2,hin]
 ·by_cases hin:inT t.signed t.bits (x *y)<;>
   simp[ja,Eu,doS,eE,w3,hH t _ h1 h2,fj t _ h1 h2,hin]
 ·by_cases hy0:y=0
  ·simp[doS,eE,hy0]
  by_cases hin:inT t.signed t.bits (x.tdiv y)<;>
   simp[ja,IR,doS,eE,w4,hH t _ h1 h2,fj t _ h1 h2,hin,hy0]
 ·by_cases hy0:y=0
  ·simp[doS,eE,hy0]
  have hm:inT t.signed t.bits (x.tmod y):=by
   obtain⟨m1,m2⟩:=JU (x:=x) hy0
   obtain⟨q1,q2⟩:=hx
   refine⟨?_,?_⟩
   ·rcases Int.le_total 0 x with h|h
    ·have:=m1 h;omega
    ·have:=m2 h;omega
   ·rcases Int.le_total 0 x with h|h
    ·have:=m1 h;omega
    ·have:=m2 h;omega
  by_cases hin:inT t.signed t.bits (x.tdiv y)
  ·simp[ja,Ev,doS,eE,w4,hH t _ h1 h2,hin,hy0,hm]
  ·have h0:x.tmod y=0:=by
    have hxy:x=y *x.tdiv y+x.tmod y:=(Int.mul_tdiv_add_tmod x y).symm
    have hd:(x.tdiv y).natAbs=x.natAbs/y.natAbs:=Int.natAbs_tdiv x y
    have hya:1<=y.natAbs:=by omega
    by_cases hy1:y.natAbs=1
    ·have:y=1\/y= -1:=by omega
     rcases this with h|h<;>subst h
     ·exact Int.tmod_one x
     ·rw[Int.tmod_neg];exact Int.tmod_one x
    ·exfalso
     refine hin ?_
     have h2':x.natAbs/y.natAbs<=x.natAbs/2:=Nat.div_le_div_left (by omega) (by omega)
     obtain⟨q1,q2⟩:=hx
     obtain⟨q3,q4⟩:=hy
     have hlh:t.signed=true->lo t.signed t.bits= -hi t.signed t.bits-1:=by
      intro hs;unfold lo hi;simp[hs];omega
     by_cases hs:t.signed=true
     ·have:=hlh hs
      refine⟨by omega,by omega⟩
     ·have hl0:lo t.signed t.bits=0:=by unfold lo;simp[hs]
      have:=Int.tdiv_nonneg (a:=x) (b:=y) (by omega) (by omega)
      refine⟨by omega,by omega⟩
   have hb0:p9 t.signed t.bits 0=0:=lH h1 h2 ⟨hb.2.1,hb.2.2.1⟩
   simp[ja,Ev,doS,eE,w4,hH t _ h1 h2,fj t _ h1 h2,hin,hy0,h0,hb0]
 ·simp[ja,A2,doS,eE,w1,fj t _ h1 h2]
 ·simp[ja,A3,doS,eE,w2,fj t _ h1 h2]
 ·simp[ja,Eu,doS,eE,w3,fj t _ h1 h2]
 ·simp[ja,A2,Ew,doS,eE,w1,Hl t h1 h2,Ni t h1 h2,y8 h1 h2]
 ·simp[ja,A3,Ew,doS,eE,w2,Hl t h1 h2,Ni t h1 h2,y8 h1 h2]
 ·have e:=r5 15 (s:=t.signed) (x:=x) (y:=y) h1 h2
  simp only[z6,adE]at e
  simp[ja,IX,doS,fj t _ h1 h2,e]
 ·have e:=r5 16 (s:=t.signed) (x:=x) (y:=y) h1 h2
  simp only[z6,adE,show(16:Int)≠15 by decide,adF]at e
  simp[ja,IZ,doS,fj t _ h1 h2,e]
 ·have e:=r5 17 (s:=t.signed) (x:=x) (y:=y) h1 h2
  simp only[z6,show(17:Int)≠15 by decide,show(17:Int)≠16 by decide,adF]at e
  simp[ja,I1,doS,fj t _ h1 h2,e]
theorem yb(op:Int)(t:bB)(x y:Int)(h1:1<=t.bits)(h2:t.bits<=31)(hx:inT t.signed t.bits x)(hy:inT t.signed t.bits y)(ho:5<=op/\op<=17):
 Ep (op,t,x,y,())=some (0,()):=by
 rw[Ep]
 have a1:¬op<5:=by omega
 have a2:¬17<op:=by omega
 simp[nL t h1 h2,hH t _ h1 h2,hx,hy,a1,a2]
theorem Ak(op:Int)(t:bB)(x y:Int)(h1:1<=t.bits)(h2:t.bits<=31)(hx:inT t.signed t.bits x)(hy:inT t.signed t.bits y)(ho:5<=op/\op<=17):
 HZ (op,t,x,y,())=some (if(doS op t.signed t.bits x y).2=0 then(doS op t.signed t.bits x y).1 else 0,(doS op t.signed t.bits x y).2,0,()):=by
 rw[HZ]
 simp only[yb op t x y h1 h2 hx hy ho,Qx op t x y h1 h2 hx hy ho,Z6,Z3,bne_self_eq_false,Z5,adF]
 by_cases h:(doS op t.signed t.bits x y).2=0
 ·simp[h]
 ·simp[h]
theorem Hy(op:Int)(t:bB)(x y:Int)(h1:1<=t.bits)(h2:t.bits<=31)(hx:inT t.signed t.bits x)(hy:inT t.signed t.bits y)(ho:5<=op/\op<=17):
 H2 (op,t,x,y,())=some ((doS op t.signed t.bits x y).1,0,()):=by
 rw[H2]
 simp only[yb op t x y h1 h2 hx hy ho,Qx op t x y h1 h2 hx hy ho,Z6,Z3,bne_self_eq_false,Z5,adF]
theorem HC(t:bB)(n:Int)(h1:1<=t.bits)(h2:t.bits<=31):Iu (t,n,())=some (p9 t.signed t.bits n,0,()):=by
 rw[Iu]
 simp[nL t h1 h2,fj t _ h1 h2]
theorem HB(t:bB)(n:Int)(h1:1<=t.bits)(h2:t.bits<=31):H6 (t,n,())=some (decide (inT t.signed t.bits n),0,()):=by
 rw[H6]
 simp[nL t h1 h2,hH t _ h1 h2]
theorem Nl(t:bB)(n:Int)(h1:1<=t.bits)(h2:t.bits<=31)(hn:inT t.signed t.bits n):
 H4 (t,n,())=some (if inT t.signed t.bits (-n)then(-n,0,0,())else(0,1,0,())):=by
 have ln:=oW h1 h2 hn
 have w:i64.wrap (-n)= -n:=w64 (by omega) (by omega)
 rw[H4]
 by_cases h:inT t.signed t.bits (-n)<;>simp[nL t h1 h2,hH t _ h1 h2,hn,w,h]
end Go.Proofs.YtcghbgmmgcljkaaGreatDoor
end
section
namespace Go.Proofs.YtcghbgmmgcljkaaGreatDoor
set_option maxRecDepth 20000
open Go.Lib
theorem bI{α:Type}{l:List α}{k:Nat}(h:k<l.length):∃p,l[k]?=some p/\p∈l/\l.drop k=p::l.drop (k+1):=
 ⟨l[k],Z8 h,aaV h,abT h⟩
theorem cu{α:Type}{l:List α}{k:Nat}(h:¬k<l.length):l.drop k=[]:=aby (by omega)
theorem eB(s:ByteArray):s.data.toList.length=s.size:=abN
theorem qp{a b:ByteArray}(h:a.data.toList=b.data.toList):a=b:=by
 cases a;cases b;simp only at h;congr 1;exact acr.mp h
theorem eo(a b:ByteArray):(a.toList==b.toList)=decide (a=b):=by
 rw[toList_data,toList_data]
 by_cases h:a=b
 ·subst h;simp
 ·rw[decide_eq_false h]
  exact beq_eq_false_iff_ne.mpr λh2=>h (qp h2)
theorem mb(s:ByteArray)(i:Nat):s[i]?=s.data.toList[i]?:=by
 have hs:=eB s
 by_cases h:i<s.size
 ·rw[getElem?_pos s i h,Z8 (by omega)];rfl
 ·rw[getElem?_neg s i h,ab2 (by omega)]
def dg(c:UInt8):Bool:=(decide (97<=c.toNat)&&decide (c.toNat<=122))||(decide (65<=c.toNat)&&decide (c.toNat<=90))||decide (c.toNat=95)
def eS(c:UInt8):Bool:=decide (48<=c.toNat)&&decide (c.toNat<=57)
def dK(c:UInt8):Bool:=dg c||eS c
def j_:List UInt8->Bool
 |[]=>false
 |c::r=>dg c&&r.all dK
theorem uk(c:UInt8):A4 ((c.toNat:Int),())=some (dg c,()):=by
 have e1:decide ((c.toNat:Int)>=97)=decide (97<=c.toNat):=by rw[decide_eq_decide];omega
 have e2:decide ((c.toNat:Int)<=122)=decide (c.toNat<=122):=by rw[decide_eq_decide];omega
 have e3:decide ((c.toNat:Int)>=65)=decide (65<=c.toNat):=by rw[decide_eq_decide];omega
 have e4:decide ((c.toNat:Int)<=90)=decide (c.toNat<=90):=by rw[decide_eq_decide];omega
 have e5:((c.toNat:Int)==95)=decide (c.toNat=95):=by rw[Bool.beq_eq_decide_eq,decide_eq_decide];omega
 rw[A4]
 simp only[e1,e2,e3,e4,e5]
 unfold dg
 cases decide (97<=c.toNat)<;>cases decide (c.toNat<=122)<;>cases decide (65<=c.toNat)<;>cases decide (c.toNat<=90)<;>rfl
theorem yk(c:UInt8):Ex ((c.toNat:Int),())=some (eS c,()):=by
 have e1:decide ((c.toNat:Int)>=48)=decide (48<=c.toNat):=by rw[decide_eq_decide];omega
 have e2:decide ((c.toNat:Int)<=57)=decide (c.toNat<=57):=by rw[decide_eq_decide];omega
 rw[Ex]
 simp only[e1,e2]
 unfold eS
 cases decide (48<=c.toNat)<;>rfl
def ji(l:List UInt8):Nat:=(l.takeWhile dK).length
theorem zp(s:ByteArray)(hs:s.size<=8):∀(j i:Nat),i+j=s.size->jb (s,(i:Int),())=some (((i+ji (s.data.toList.drop i):Nat):Int),())
 |0,i,h=>by
  rw[jb]
  have hz:=eB s
  rw[cu (by omega)]
  have:¬(i:Int)<(s.size:Int):=by omega
  simp[this,ji]
 |j+1,i,h=>by
  have hz:=eB s
  obtain⟨c,hc,_,hd⟩:=bI (l:=s.data.toList) (k:=i) (by omega)
  have h1:(i:Int)<(s.size:Int):=by omega
  have h2:(0:Int)<=(i:Int):=by omega
  rw[jb,hd]
  simp only[h1,h2,adJ,adE,Z_,mb,hc,Z6,Z3,uk,yk]
  have e:ji (c::s.data.toList.drop (i+1))=if dK c=true then ji (s.data.toList.drop (i+1))+1 else 0:=by
   unfold ji
   rw[abz]
   split<;>simp
  have ih:=zp s hs j (i+1) (by omega)
  have w:IntKind.i64.wrap ((i:Int)+1)=((i+1:Nat):Int):=by rw[w64 (by omega) (by omega)];omega
  rw[e]
  unfold dK
  cases hl:dg c
  ·cases hg:eS c
   ·simp
   ·simp only[Z5,adF,Z3,adE,Bool.or_true,w,ih]
    rw[show i+1+ji (s.data.toList.drop (i+1))=i+(ji (s.data.toList.drop (i+1))+1) by omega]
  ·simp only[adE,Z3,w,ih,acx]
   rw[show i+1+ji (s.data.toList.drop (i+1))=i+(ji (s.data.toList.drop (i+1))+1) by omega]
end Go.Proofs.YtcghbgmmgcljkaaGreatDoor
end
section
namespace Go.Proofs.YtcghbgmmgcljkaaGreatDoor
set_option maxRecDepth 20000
open Go.Lib
theorem xk(l:List UInt8):ji l<=l.length:=(List.takeWhile_sublist _).length_le
theorem zn{c:UInt8}{r:List UInt8}(h:dK c=true):1<=ji (c::r):=by
 unfold ji
 rw[abz,adI h,aaf];omega
theorem LP(s:ByteArray)(hs:s.size<=8){i:Nat}(hi:i<=s.size):A5 (s,(i:Int),())=some (((i+ji (s.data.toList.drop i):Nat):Int),()):=by
 rw[A5,zp s hs (s.size-i) i (by omega)];rfl
theorem rM(s:ByteArray)(hs:s.size<=8){i:Nat}(hi:i<s.size)(l:List ByteArray)(hl:∀x∈l,1<=x.size/\x.size<=2)(h8:l.length<=100):∀(j k:Nat),k+j=l.length->
 (∃e:Nat,fz (s,(i:Int),l,(k:Int),())=some (.inl (2,(e:Int),true,()))/\i<e/\e<=s.size)\/fz (s,(i:Int),l,(k:Int),())=some (.inr ())
 |0,k,h=>by
  right
  rw[fz]
  have:¬(k:Int)<(l.length:Int):=by omega
  simp[this]
 |j+1,k,h=>by
  obtain⟨x,hx,hm,_⟩:=bI (l:=l) (k:=k) (by omega)
  obtain⟨s1,s2⟩:=hl x hm
  have ih:=rM s hs hi l hl h8 j (k+1) (by omega)
  have h1:(k:Int)<(l.length:Int):=by omega
  have h2:(0:Int)<=(k:Int):=by omega
  have w:IntKind.i64.wrap ((k:Int)+1)=((k+1:Nat):Int):=by rw[w64 (by omega) (by omega)];omega
  have w2:IntKind.i64.wrap ((i:Int)+(x.size:Int))=((i+x.size:Nat):Int):=by rw[w64 (by omega) (by omega)];omega
  rw[fz]
  simp only[h1,h2,adJ,adE,Z_,hx,Z6,Z3,w2]
  by_cases hle:i+x.size<=s.size
  ·rw[adI (by simp;omega),adI (by omega)]
   simp only[Z3]
   split
   ·exact .inl ⟨_,rfl,by omega,hle⟩
   ·rw[w];exact ih
  ·rw[adH (by simp;omega)]
   simp only[Z3,Z5,adF]
   rw[w];exact ih
theorem yr(s:ByteArray)(hs:s.size<=8){i:Nat}{c:UInt8}{r:List UInt8}(hi:i<s.size)(hd:s.data.toList.drop i=c::r):
 if dg c=true then AZ (s,(i:Int),())=some (0,((i+ji (s.data.toList.drop i):Nat):Int),true,())
 else AZ (s,(i:Int),())=some (0,0,false,())\/∃(k:Int) (e:Nat),AZ (s,(i:Int),())=some (k,(e:Int),true,())/\k≠0/\i<e/\e<=s.size:=by
 have hz:=eB s
 have hc:s.data.toList[i]?=some c:=by
  have:=aaB (xs:=s.data.toList) (i:=i) (j:=0)
  rw[hd]at this
  simpa using this.symm
 have h2:(0:Int)<=(i:Int):=by omega
 have hr:=LP s hs (i:=i) (by omega)
 have hle:=xk (s.data.toList.drop i)
 rw[aaJ]at hle
 rw[AZ]
 simp only[h2,adE,Z_,mb,hc,Z6,Z3,uk,yk,hr]
 cases hl:dg c
 ·simp only[Z5,adF]
  cases hg:eS c
  ·simp only[Z5,adF]
   have w:IntKind.i64.wrap ((i:Int)+1)=((i+1:Nat):Int):=by rw[w64 (by omega) (by omega)];omega
   have w0:(0:Int)<=((i+1:Nat):Int):=by omega
   by_cases hat:((c.toNat:Int)==64)=true
   ·simp only[hat,adE,w]
    by_cases h1:i+1<s.size
    ·have h1':((i+1:Nat):Int)<(s.size:Int):=by omega
     obtain⟨c2,hc2,_,hd2⟩:=bI (l:=s.data.toList) (k:=i+1) (by omega)
     simp only[h1',adJ,adE,w0,Z_,hc2,Z3]
     cases hl2:dg c2
     ·simp
     ·have hr2:=LP s hs (i:=i+1) (by omega)
      simp only[adE,hr2,w,Z3]
      have hle2:=xk (s.data.toList.drop (i+1))
      rw[aaJ]at hle2
      exact .inr ⟨3,_,rfl,by decide,by omega,by omega⟩
    ·have h1':¬((i+1:Nat):Int)<(s.size:Int):=by omega
     simp only[h1',adK,Z5,adF,Z3]
     exact .inl trivial
   ·simp only[hat]
    obtain⟨sg,hg1,hg2,hg3⟩:∃sg,I4 ()=some (sg,())/\(∀x∈sg,1<=x.size/\x.size<=2)/\sg.length<=100:=⟨_,I4.eq_1 (),by decide,by decide⟩
    simp only[hg1,Z3]
    have sl:=rM s hs hi sg hg2 hg3 _ 0 (aad _)
    rw[aar]at sl
    rcases sl with⟨e,h,he⟩|h
    ·rw[h];exact .inr ⟨2,e,rfl,by decide,he⟩
    ·rw[h];exact .inl rfl
  ·have:=zn (c:=c) (r:=r) (by simp[dK,hg])
   rw[<-hd]at this
   simp only[adE]
   exact .inr ⟨1,_,rfl,by decide,by omega,by omega⟩
 ·simp
end Go.Proofs.YtcghbgmmgcljkaaGreatDoor
end
section
namespace Go.Proofs.YtcghbgmmgcljkaaGreatDoor
set_option maxRecDepth 20000
open Go.Lib
theorem jr(s:ByteArray){a b:Nat}(hb:b<=s.size):(s.extract a b).data.toList=(s.data.toList.drop a).take (b-a):=by
 rw[ByteArray.data_extract,Array.toList_extract,List.extract_eq_take_drop]
theorem Gc(l:List UInt8):l.take (ji l)=l.takeWhile dK:=by
 unfold ji
 induction l with
 |nil=>rfl
 |cons c r ih=>
  rw[abz]
  split
  ·rw[aaf,adq,ih]
  ·rfl
theorem rW(l:List UInt8):(l.takeWhile dK).all dK=true:=by
 induction l with
 |nil=>rfl
 |cons c r ih=>
  rw[abz]
  split
  ·rename_i h;rw[abj,h,ih];rfl
  ·rfl
theorem B_{c:UInt8}{r:List UInt8}(h:dg c=true):j_ ((c::r).takeWhile dK)=true:=by
 rw[abz,adI (by simp[dK,h]),j_,h,rW];rfl
def O7(l:List kb):Prop:=∀t∈l,t.kind=0->j_ t.text.data.toList=true
theorem xL(s:ByteArray)(hs:s.size<=8):∀(n i:Nat) (out:List kb),s.size-i=n->i<=s.size->out.length<=i->O7 out->
 ∃l p ok,((fJ (s,(i:Int),out,())=some (.inl (l,p,ok,()))/\ok=false)\/(fJ (s,(i:Int),out,())=some (.inr (l,()))/\O7 l/\ok=true)):=by
 intro n
 induction n using acJ with
 |ind n ihn=>
  intro i out hn hi ho hg
  have hz:=eB s
  rw[fJ]
  by_cases hlt:i<s.size
  ·have h1:(i:Int)<(s.size:Int):=by omega
   have h2:(0:Int)<=(i:Int):=by omega
   obtain⟨c,hc,_,hd⟩:=bI (l:=s.data.toList) (k:=i) (by omega)
   have w:IntKind.i64.wrap ((i:Int)+1)=((i+1:Nat):Int):=by rw[w64 (by omega) (by omega)];omega
   simp only[h1,h2,adJ,adE,Z_,mb,hc,Z6,Z3]
   have hf:=yr s hs hlt hd
   have next:=ihn (s.size-(i+1)) (by omega) (i+1) out rfl (by omega) (by omega) hg
   rw[<-w]at next
   by_cases h32:((c.toNat:Int)==32)=true
   ·simp only[h32,adE,Z3]
    exact next
   ·simp only[h32,adF,Z3,Z5]
    by_cases h10:((c.toNat:Int)==10)=true
    ·simp only[h10,adE]
     exact next
    ·simp only[h10,adF,Z5]
     by_cases hl:dg c=true
     ·rw[adI hl]at hf
      have hp:=zn (c:=c) (r:=s.data.toList.drop (i+1)) (by simp[dK,hl])
      rw[<-hd]at hp
      have hle:=xk (s.data.toList.drop i)
      rw[aaJ]at hle
      simp only[hf,Z3,aaC,Z5,adF]
      rw[adI (by omega),adI (by simp;omega)]
      refine ihn (s.size-(i+ji (s.data.toList.drop i))) (by omega) (i+ji (s.data.toList.drop i)) _ rfl (by omega) (by simp;omega) ?_
      intro t ht hk
      rw[abd,aaS]at ht
      rcases ht with ht|ht
      ·exact hg t ht hk
      ·rw[ht]
       show j_ (s.extract (aav (i:Int)) (aav ((i+ji (s.data.toList.drop i):Nat):Int))).data.toList=true
       rw[Z_,Z_,jr s (by omega),show i+ji (s.data.toList.drop i) -i=ji (s.data.toList.drop i) by omega,Gc,hd]
       exact B_ hl
     ·rw[adH hl]at hf
      rcases hf with hf|⟨k,e,hf,hk0,he1,he2⟩
      ·simp only[hf,Z3,aa4,adE]
       exact⟨_,_,_, .inl ⟨rfl,rfl⟩⟩
      ·simp only[hf,Z3,aaC,Z5,adF]
       rw[adI (by omega),adI (by simp;omega)]
       refine ihn (s.size-e) (by omega) e _ rfl he2 (by simp;omega) ?_
       intro t ht hk
       rw[abd,aaS]at ht
       rcases ht with ht|ht
       ·exact hg t ht hk
       ·rw[ht]at hk;exact absurd hk hk0
  ·have h1:¬(i:Int)<(s.size:Int):=by omega
   simp only[h1,adK,Z5,adF]
   exact⟨out,0,true, .inr ⟨rfl,hg,rfl⟩⟩
theorem OT(s:ByteArray)(hs:s.size<=8):S3 (s,())=some (j_ s.data.toList,()):=by
 have hz:=eB s
 rw[S3,Nq,Nv]
 cases hw:j_ s.data.toList
 ·obtain⟨l,p,ok,h⟩:=xL s hs s.size 0 [] (by omega) (by omega) (by simp) (by intro t ht;simp at ht)
  rw[aar]at h
  rcases h with⟨h,hk⟩|⟨h,hg,hk⟩
  ·simp[h,hk]
  ·simp only[h,Z6,Z3,adE]
   match l,hg with
   |[],_=>simp
   |[t],hg=>
    have ht:=hg t (aal ..)
    by_cases hk0:t.kind=0
    ·have h1:=ht hk0
     have:¬t.text=s:=by intro e;rw[e,hw]at h1;cases h1
     simp[eo,this]
    ·simp[hk0]
   |a::b::r,_=>
    have:((r.length:Int)+1+1==1)=false:=by simp;omega
    simp[this]
 ·match hd:s.data.toList,hw with
  |c::r,hw=>
   rw[j_,aac]at hw
   have hpos:0<s.size:=by rw[<-hz,hd];simp
   have hf:=yr s hs (i:=0) hpos (c:=c) (r:=r) (by rw[aau,hd])
   rw[adI hw.1]at hf
   have hall:(c::r).takeWhile dK=c::r:=by
    rw[abz,adI (by simp[dK,hw.1])]
    congr 1
    clear hd hf
    have h2:=hw.2
    induction r with
    |nil=>rfl
    |cons a r ih=>
     rw[abj,aac]at h2
     rw[abz,adI h2.1,ih ⟨hw.1,h2.2⟩ h2.2]
   have hrl:ji (s.data.toList.drop 0)=s.size:=by
    unfold ji;rw[aau,hd,hall,<-hd,hz]
   rw[hrl,aad,aar]at hf
   have h1:(0:Int)<(s.size:Int):=by omega
   have hc:s.data.toList[0]?=some c:=by rw[hd];rfl
   have n32:((c.toNat:Int)==32)=false:=by
    have:=hw.1;unfold dg at this
    simp at this⊢;omega
   have n10:((c.toNat:Int)==10)=false:=by
    have:=hw.1;unfold dg at this
    simp at this⊢;omega
   have hx:(s.extract 0 s.size)=s:=qp (by rw[jr s (aay _),aau,aaP,<-hz,List.take_length])
   rw[fJ]
   simp only[h1,adJ,adE,aaE,aaG,mb,hc,Z6,Z3,n32,n10,Z5,adF,hf,aaC]
   rw[adI ⟨trivial,by omega,trivial⟩,adI (by simp),fJ]
   simp only[Int.lt_irrefl,adK,Z5,adF,Z3,Z_,hx]
   simp[eo]
end Go.Proofs.YtcghbgmmgcljkaaGreatDoor
end
section
namespace Go.Proofs.YtcghbgmmgcljkaaGreatDoor
open IntKind (u8)
set_option maxRecDepth 20000
open Go.Lib
def m4:Nat->OW->Option ((List Int)×(List Int)×Unit)
 |0,_=>none
 |k+1,v=>
 if decide (v.1<=122)=true then
  if 0<=v.1/\v.1<((256:Nat):Int)then
   if v.1.toNat<256 then
    if v.1.toNat<v.2.2.1.length then
     if 0<=u8.wrap (u8.wrap (v.1-97)+65)/\u8.wrap (u8.wrap (v.1-97)+65)<((256:Nat):Int)then
      if(u8.wrap (u8.wrap (v.1-97)+65)).toNat<256 then
       if(u8.wrap (u8.wrap (v.1-97)+65)).toNat<(v.2.2.1.set v.1.toNat 2).length then
        m4 k (u8.wrap (v.1+1),v.2.1,(v.2.2.1.set v.1.toNat 2).set (u8.wrap (u8.wrap (v.1-97)+65)).toNat 2,())
       else none
      else none
     else none
    else none
   else none
  else none
 else some ((v.2.1,v.2.2.1,()))
theorem hZ{c:Prop}[Decidable c]{α:Type}{a b:Option α}{r:α}(h:(if c then a else none)=some r)(hab:a=some r->b=some r):(if c then b else none)=some r:=by
 by_cases hc:c
 ·rw[adI hc]at h⊢;exact hab h
 ·rw[adH hc]at h;cases h
theorem yD{c:Prop}[Decidable c]{α:Type}{a b d:Option α}{r:α}(h:(if c then a else d)=some r)(hab:a=some r->b=some r):(if c then b else d)=some r:=by
 by_cases hc:c
 ·rw[adI hc]at h⊢;exact hab h
 ·rw[adH hc]at h⊢;exact h
theorem QJ:∀(k:Nat) (v:OW) r,m4 k v=some r->j2 v=some r
 |0,v,r,h=>by cases h
 |k+1,v,r,h=>by
  rw[m4]at h;rw[j2]
  exact yD h λh=>hZ h λh=>hZ h λh=>hZ h λh=>hZ h λh=>hZ h λh=>hZ h λh=>QJ k _ _ h
def m8:Nat->OW->Option ((List Int)×(List Int)×Unit)
 |0,_=>none
 |k+1,v=>
 if decide (v.1<=57)=true then
  if 0<=v.1/\v.1<((256:Nat):Int)then
   if v.1.toNat<256 then
    if v.1.toNat<v.2.2.1.length then
     m8 k (u8.wrap (v.1+1),v.2.1,v.2.2.1.set v.1.toNat 3,())
    else none
   else none
  else none
 else some ((v.2.1,v.2.2.1,()))
theorem QK:∀(k:Nat) (v:OW) r,m8 k v=some r->j3 v=some r
 |0,v,r,h=>by cases h
 |k+1,v,r,h=>by
  rw[m8]at h;rw[j3]
  exact yD h λh=>hZ h λh=>hZ h λh=>hZ h λh=>QK k _ _ h
def qU(n:Nat):Int:=if n=32\/n=10 then 1 else if(97<=n/\n<=122)\/(65<=n/\n<=90)\/n=95 then 2 else if 48<=n/\n<=57 then 3 else 0
def tab:List Int:=(abp 256).map qU
theorem Ga(c:UInt8):tab[c.toNat]?=some (qU c.toNat):=by
 have:=c.toNat_lt
 unfold tab
 rw[aaa,abq (by omega)];rfl
theorem JL:Il ()=some (tab,()):=by
 have h:(m4 30 (97,aap 256 0,(((aap 256 0).set (aav 32) 1).set (aav 10) 1).set (aav 95) 2,())>>=λx1=>m8 30 (48,x1.1,x1.2.1,())>>=λx2=>some (x2.2.1,()))=some (tab,()):=by kernel_rfl
 rw[Il]
 cases e:m4 30 (97,aap 256 0,(((aap 256 0).set (aav 32) 1).set (aav 10) 1).set (aav 95) 2,())with
 |none=>rw[e]at h;cases h
 |some x1=>
  rw[e]at h
  rw[QJ _ _ _ e]
  simp only[Z6,Z3]at h⊢
  cases e2:m8 30 (48,x1.1,x1.2.1,())with
  |none=>rw[e2]at h;cases h
  |some x2=>
   rw[e2]at h
   rw[QK _ _ _ e2]
   exact h
theorem DY(c:UInt8):decide (qU c.toNat>=2)=dK c:=by
 unfold qU dK dg eS
 by_cases h1:c.toNat=32\/c.toNat=10
 ·rw[adI h1]
  rcases h1 with h|h<;>rw[h]<;>rfl
 ·rw[adH h1]
  by_cases h2:(97<=c.toNat/\c.toNat<=122)\/(65<=c.toNat/\c.toNat<=90)\/c.toNat=95
  ·rw[adI h2]
   rcases h2 with h|h|h<;>simp[h]
  ·rw[adH h2]
   by_cases h3:48<=c.toNat/\c.toNat<=57
   ·rw[adI h3];simp[h3]
   ·rw[adH h3]
    symm
    simp only[ge_iff_le,abl,adj,decide_eq_false_iff_not,show¬(2:Int)<=0 by decide,adK]
    omega
theorem wF(c:UInt8):(qU c.toNat==2)=dg c:=by
 unfold qU dg
 by_cases h1:c.toNat=32\/c.toNat=10
 ·rw[adI h1]
  rcases h1 with h|h<;>rw[h]<;>rfl
 ·rw[adH h1]
  by_cases h2:(97<=c.toNat/\c.toNat<=122)\/(65<=c.toNat/\c.toNat<=90)\/c.toNat=95
  ·rw[adI h2]
   rcases h2 with h|h|h<;>simp[h]
  ·rw[adH h2]
   have:((if 48<=c.toNat/\c.toNat<=57 then 3 else 0:Int)==2)=false:=by split<;>rfl
   rw[this]
   symm
   simp only[abl,adj,decide_eq_false_iff_not]
   omega
theorem uR(s:ByteArray)(hs:s.size<=8):∀(j i:Nat),i+j=s.size->dt (s,(i:Int),tab,())=some (((i+ji (s.data.toList.drop i):Nat):Int),tab,())
 |0,i,h=>by
  rw[dt]
  have hz:=eB s
  rw[cu (by omega)]
  have:¬(i:Int)<(s.size:Int):=by omega
  simp[this,ji]
 |j+1,i,h=>by
  have hz:=eB s
  obtain⟨c,hc,_,hd⟩:=bI (l:=s.data.toList) (k:=i) (by omega)
  have h1:(i:Int)<(s.size:Int):=by omega
  have h2:(0:Int)<=(i:Int):=by omega
  have hcl:=c.toNat_lt
  rw[dt,hd]
  simp only[h1,h2,adJ,adE,Z_,mb,hc,Z6,Z3,Ga,DY]
  rw[adI (by omega),adI (by omega)]
  have e:ji (c::s.data.toList.drop (i+1))=if dK c=true then ji (s.data.toList.drop (i+1))+1 else 0:=by
   unfold ji
   rw[abz]
   split<;>simp
  have ih:=uR s hs j (i+1) (by omega)
  have w:IntKind.i64.wrap ((i:Int)+1)=((i+1:Nat):Int):=by rw[w64 (by omega) (by omega)];omega
  rw[e]
  simp only[Z3,w,ih]
  cases hl:dK c
  ·simp
  ·simp only[adE]
   rw[show i+1+ji (s.data.toList.drop (i+1))=i+(ji (s.data.toList.drop (i+1))+1) by omega]
theorem JB(l:List UInt8):(ji l=l.length)↔l.all dK=true:=by
 induction l with
 |nil=>simp[ji]
 |cons c r ih=>
  unfold ji at ih⊢
  rw[abz,abj]
  cases h:dK c
  ·simp
  ·simp[ih]
theorem Js(s:ByteArray)(hs:s.size<=8):HQ (s,())=some (j_ s.data.toList,()):=by
 have hz:=eB s
 rw[HQ]
 simp only[JL,Z6,Z3,eo]
 match hd:s.data.toList with
 |[]=>
  have:s=Z4 #[]:=qp hd
  simp[this,j_]
 |c::r=>
  have hne:¬s=Z4 #[]:=by intro h;rw[h]at hd;simp at hd
  have hc:s[aav 0]?=some c:=by rw[mb,hd];rfl
  have hcl:=c.toNat_lt
  have hp:=uR s hs s.size 0 (by omega)
  rw[aar,aau,hd,aad]at hp
  simp only[hne,adK,aa4,adE,hc,Z3,Z_,Ga,wF]
  rw[adI (by omega),adI (by omega),lR,hp]
  simp only[Z6,Z3,j_]
  have ra:=JB (c::r)
  have hlen:(c::r).length=s.size:=by rw[<-hd,hz]
  cases hl:dg c
  ·simp
  ·simp only[adE,Z3,abv,Z7,aaH,and_true]
   have iw:dK c=true:=by simp[dK,hl]
   rw[abj,iw,abv,hlen]at ra
   cases hr:r.all dK
   ·have:¬ji (c::r)=s.size:=by rw[ra,hr];decide
    simp;omega
   ·have:ji (c::r)=s.size:=by rw[ra,hr]
    simp[this]
end Go.Proofs.YtcghbgmmgcljkaaGreatDoor
end
section
namespace Go.Proofs.YtcghbgmmgcljkaaGreatDoor
set_option maxRecDepth 20000
open Go.Lib
instance (s:ByteArray) (R:List ByteArray):Decidable (s∈R):=decidable_of_iff (∃x∈R,x=s) (by simp)
noncomputable def oT:List ByteArray:=((H9 ()).getD ([],())).1
theorem Hr:H9 ()=some (oT,()):=by kernel_rfl
theorem yH:oT.length=30:=by kernel_rfl
theorem Dx{c:ByteArray}{R:List ByteArray}(h1:c.size<4294967281/\c.data.toList.all (λb=>decide (b.toNat<128))=true)
 (h2:(Lib.fields c.data.toList).map (λl=>(⟨l.toArray⟩:ByteArray))=R):Eo (c,())=some (R,()):=by
 rw[Eo]
 simp only[]
 rw[adI h1,h2]
theorem qQ(R:List ByteArray)(hR:R.length<=100)(s:ByteArray):∀(j k:Nat),k+j=R.length->
 (s∈R.drop k/\∃i:Nat,ic (R,s,(R.length:Int),(k:Int),())=some (.inl ((i:Int),())))\/(¬s∈R.drop k/\ic (R,s,(R.length:Int),(k:Int),())=some (.inr ()))
 |0,k,h=>by
  right
  rw[ic,cu (by omega)]
  have:¬(k:Int)<(R.length:Int):=by omega
  simp[this]
 |j+1,k,h=>by
  obtain⟨x,hx,hm,hd⟩:=bI (l:=R) (k:=k) (by omega)
  have h1:(k:Int)<(R.length:Int):=by omega
  have h2:(0:Int)<=(k:Int):=by omega
  have w:IntKind.i64.wrap ((k:Int)+1)=((k+1:Nat):Int):=by rw[w64 (by omega) (by omega)];omega
  have ih:=qQ R hR s j (k+1) (by omega)
  rw[ic,hd]
  simp only[h1,h2,adJ,adE,Z_,hx,Z6,Z3,eo,adG,aan,w]
  by_cases e:s=x
  ·left
   rw[adI e]
   exact⟨.inl e,k,rfl⟩
  ·simp only[e,adF,false_or]
   exact ih
theorem yB(R:List ByteArray)(hR:R.length<=100)(s:ByteArray):∀(j k:Nat),k+j=R.length->
 mN (s,R,(k:Int),())=if s∈R.drop k then some (.inl (true,()))else some (.inr ())
 |0,k,h=>by
  rw[mN,cu (by omega)]
  have:¬(k:Int)<(R.length:Int):=by omega
  simp[this]
 |j+1,k,h=>by
  obtain⟨x,hx,hm,hd⟩:=bI (l:=R) (k:=k) (by omega)
  have h1:(k:Int)<(R.length:Int):=by omega
  have h2:(0:Int)<=(k:Int):=by omega
  have w:IntKind.i64.wrap ((k:Int)+1)=((k+1:Nat):Int):=by rw[w64 (by omega) (by omega)];omega
  have ih:=yB R hR s j (k+1) (by omega)
  rw[mN,hd]
  simp only[h1,h2,adJ,adE,Z_,hx,Z6,Z3,eo,adG,aan,w]
  by_cases e:s=x
  ·rw[adI e.symm,adI (.inl e)]
  ·have e':¬x=s:=λh=>e h.symm
   simp only[e,e',adF,false_or]
   exact ih
theorem QG(s:ByteArray):S4 (s,())=some (decide (s∈oT),()):=by
 rw[S4]
 have h:=yB oT (by rw[yH];decide) s _ 0 (aad _)
 rw[aar,aau]at h
 simp only[Hr,Z6,Z3,h]
 by_cases e:s∈oT
 ·simp[e]
 ·simp[e]
theorem Oe(s:ByteArray):HS (s,())=some (decide (s∈oT),()):=by
 rw[HS,Dx (R:=oT)]
 ·have h:=qQ oT (by rw[yH];decide) s _ 0 (aad _)
  rw[aar,aau]at h
  simp only[Z6,Z3,Nr,Nx]
  rcases h with⟨hm,i,h⟩|⟨hm,h⟩
  ·simp only[h,Z3,hm,adJ]
   have:(0:Int)<=(i:Int):=by omega
   simp[this]
  ·simp[h,hm]
 ·refine⟨?_,?_⟩
  ·decide
  ·decide
 ·kernel_rfl
end Go.Proofs.YtcghbgmmgcljkaaGreatDoor
end
section
namespace Go.Proofs.YtcghbgmmgcljkaaGreatDoor
set_option maxRecDepth 20000
open Go.Lib
def Ap(d:Nat):ByteArray:=Z4 #[acl (48+d)]
def TD:ByteArray:=Z4 #[48,49,50,51,52,53,54,55,56,57,97,98,99,100,101,102]
def Hb:Nat->Nat->ByteArray->ByteArray
 |0,n,a=>Ap n++a
 |k+1,n,a=>if n<10 then Ap n++a else Hb k (n/10) (Ap (n%10)++a)
def dec(n:Nat):ByteArray:=Hb 7 n (Z4 #[])
theorem Dl{d:Nat}(h:d<10):∃x,TD[d]?=some x/\Bs.enc1 (x.toNat:Int)=Ap d:=by
 have:d=0\/d=1\/d=2\/d=3\/d=4\/d=5\/d=6\/d=7\/d=8\/d=9:=by omega
 rcases this with h|h|h|h|h|h|h|h|h|h<;>subst h<;>exact⟨_,rfl,by decide⟩
theorem Dm{d:Nat}(h:d<10):TD.extract d (d+1)=Ap d:=by
 have:d=0\/d=1\/d=2\/d=3\/d=4\/d=5\/d=6\/d=7\/d=8\/d=9:=by omega
 rcases this with h|h|h|h|h|h|h|h|h|h<;>subst h<;>decide
theorem eC(d:Nat):(Ap d).size=1:=rfl
theorem qD{n:Nat}(hn:n<1000000000):(n:Int).tmod 10=((n%10:Nat):Int)/\IntKind.i64.wrap ((n:Int).tdiv 10)=((n/10:Nat):Int):=by
 have e1:(n:Int).tdiv 10=((n/10:Nat):Int):=by
  rw[acV (by omega)];omega
 refine⟨?_,?_⟩
 ·rw[acU (by omega)];omega
 ·rw[e1,w64 (by omega) (by omega)]
theorem po:∀(k n:Nat) (a:ByteArray),n<10^(k+1)->k<=7->a.size+k<=100->
 ∃(m:Nat) (a':ByteArray),dE ((n:Int),10,a,())=some ((m:Int),a',())/\m<10/\Ap m++a'=Hb k n a/\a'.size<=100
 |0,n,a,hn,hk,ha=>by
  have:n<10:=by simpa using hn
  rw[dE]
  have h1:¬(10:Int)<=(n:Int):=by omega
  simp only[ge_iff_le,h1,adK,Z5,adF]
  exact⟨n,a,rfl,this,rfl,by omega⟩
 |k+1,n,a,hn,hk,ha=>by
  rw[dE,Hb]
  by_cases h:n<10
  ·have h1:¬(10:Int)<=(n:Int):=by omega
   simp only[ge_iff_le,h1,adK,Z5,adF,adI h]
   exact⟨n,a,rfl,h,rfl,by omega⟩
  ·have h1:(10:Int)<=(n:Int):=by omega
   have p8:10^(k+1+1)<=10^8:=abw (by omega) (by omega)
   obtain⟨e1,e2⟩:=qD (n:=n) (by omega)
   obtain⟨x,hx,he⟩:=Dl (d:=n%10) (by omega)
   have hx':(Z4 #[48,49,50,51,52,53,54,55,56,57,97,98,99,100,101,102])[n%10]?=some x:=hx
   have h0:(0:Int)<=((n%10:Nat):Int):=by omega
   have ih:=po k (n/10) (Ap (n%10)++a) (by rw[acK]at hn;omega) (by omega) (by rw[ab4,eC];omega)
   simp only[ge_iff_le,h1,adJ,adE,e1,e2,h0,Z_,hx',Z6,Z3,he,show¬(10:Int)=0 by decide,adF,adH h,eC]
   rw[adI (by omega)]
   exact ih
theorem Ob{n:Nat}(hn:n<100000000):qe ((n:Int),10,())=some (dec n,()):=by
 obtain⟨m,a,h,hm,hd,hs⟩:=po 7 n (Z4 #[]) (by simpa using hn) (by omega) (by decide)
 obtain⟨x,hx,he⟩:=Dl hm
 have hx':(Z4 #[48,49,50,51,52,53,54,55,56,57,97,98,99,100,101,102])[m]?=some x:=hx
 have h1:¬(n:Int)<0:=by omega
 have h0:(0:Int)<=(m:Int):=by omega
 rw[qe]
 simp only[h1,adK,Z5,adF,h,Z6,Z3,h0,adE,Z_,hx',he,eC]
 rw[adI (by omega),hd];rfl
theorem uV:∀(k n:Nat) (a:ByteArray),n<10^(k+1)->k<=7->a.size+k<=100->
 ∃(m:Nat) (a':ByteArray),dF ((n:Int),10,a,())=some ((m:Int),a',())/\m<10/\Ap m++a'=Hb k n a/\a'.size<=100
 |0,n,a,hn,hk,ha=>by
  have:n<10:=by simpa using hn
  rw[dF]
  have h1:¬(10:Int)<=(n:Int):=by omega
  simp only[ge_iff_le,h1,adK,Z5,adF]
  exact⟨n,a,rfl,this,rfl,by omega⟩
 |k+1,n,a,hn,hk,ha=>by
  rw[dF,Hb]
  by_cases h:n<10
  ·have h1:¬(10:Int)<=(n:Int):=by omega
   simp only[ge_iff_le,h1,adK,Z5,adF,adI h]
   exact⟨n,a,rfl,h,rfl,by omega⟩
  ·have h1:(10:Int)<=(n:Int):=by omega
   have p8:10^(k+1+1)<=10^8:=abw (by omega) (by omega)
   obtain⟨e1,e2⟩:=qD (n:=n) (by omega)
   have hx:=Dm (d:=n%10) (by omega)
   have hx':(Z4 #[48,49,50,51,52,53,54,55,56,57,97,98,99,100,101,102]).extract (n%10) (n%10+1)=Ap (n%10):=hx
   have h0:(0:Int)<=((n%10:Nat):Int):=by omega
   have w:IntKind.i64.wrap (((n%10:Nat):Int)+1)=((n%10+1:Nat):Int):=by rw[w64 (by omega) (by omega)];omega
   have ih:=uV k (n/10) (Ap (n%10)++a) (by rw[acK]at hn;omega) (by omega) (by rw[ab4,eC];omega)
   simp only[ge_iff_le,h1,adJ,adE,e1,e2,Z_,hx',w,show¬(10:Int)=0 by decide,adF,adH h,eC]
   have h16:(Z4 #[48,49,50,51,52,53,54,55,56,57,97,98,99,100,101,102]).size=16:=rfl
   rw[h16,adI (by omega),adI (by omega)]
   exact ih
theorem Oh{n:Nat}(hn:n<100000000):qf ((n:Int),10,())=some (dec n,()):=by
 obtain⟨m,a,h,hm,hd,hs⟩:=uV 7 n (Z4 #[]) (by simpa using hn) (by omega) (by decide)
 have hx:=Dm hm
 have hx':(Z4 #[48,49,50,51,52,53,54,55,56,57,97,98,99,100,101,102]).extract m (m+1)=Ap m:=hx
 have h1:¬(n:Int)<0:=by omega
 have w:IntKind.i64.wrap ((m:Int)+1)=((m+1:Nat):Int):=by rw[w64 (by omega) (by omega)];omega
 have h16:(Z4 #[48,49,50,51,52,53,54,55,56,57,97,98,99,100,101,102]).size=16:=rfl
 rw[qf]
 simp only[h1,adK,Z5,adF,h,Z6,Z3,Z_,w,hx',eC,h16]
 rw[adI (by omega),adI (by omega),hd];rfl
end Go.Proofs.YtcghbgmmgcljkaaGreatDoor
end
section
namespace Go.Proofs.YtcghbgmmgcljkaaGreatDoor
set_option maxRecDepth 20000
open Go.Lib
def gU:List UInt8->Nat->Option Nat
 |[],a=>some a
 |c::r,a=>if eS c=true then gU r (10 *a+(c.toNat-48))else none
theorem oO(c:UInt8):Lib.indexByte [48,49,50,51,52,53,54,55,56,57] c=if eS c=true then((c.toNat-48:Nat):Int)else-1:=by
 have h:∀n:Fin 256,Lib.indexByte [48,49,50,51,52,53,54,55,56,57] (acl n.val)=if eS (acl n.val)=true then(((acl n.val).toNat-48:Nat):Int)else-1:=by decide+kernel
 have hc:=c.toNat_lt
 have:=h ⟨c.toNat,by omega⟩
 simp only[UInt8.ofNat_toNat]at this
 exact this
theorem Qw:(TD.extract 0 10).data.toList=[48,49,50,51,52,53,54,55,56,57]:=by decide
theorem qZ(s:ByteArray)(hs:s.size<=7):∀(j i a:Nat),i+j=s.size->a<10^i->
 i8 (s,10,(a:Int),s,(s.size:Int),(i:Int),())=match gU (s.data.toList.drop i) a with
  |none=>some (.inl (0,2,()))
  |some n=>some (.inr (s,10,(n:Int),s,()))
 |0,i,a,h,ha=>by
  have hz:=eB s
  rw[i8,cu (by omega)]
  have:¬(i:Int)<(s.size:Int):=by omega
  simp[this,gU]
 |j+1,i,a,h,ha=>by
  have hz:=eB s
  obtain⟨c,hc,_,hd⟩:=bI (l:=s.data.toList) (k:=i) (by omega)
  have h1:(i:Int)<(s.size:Int):=by omega
  have h2:(0:Int)<=(i:Int):=by omega
  have hcl:=c.toNat_lt
  have p7:10^i<=10^7:=abw (by omega) (by omega)
  have h16:(Z4 #[48,49,50,51,52,53,54,55,56,57,97,98,99,100,101,102]).size=16:=rfl
  have hx:=Qw
  have hx':((Z4 #[48,49,50,51,52,53,54,55,56,57,97,98,99,100,101,102]).extract (aav 0) (aav 10)).data.toList=[48,49,50,51,52,53,54,55,56,57]:=hx
  have hcn:c.toNat.toUInt8=c:=UInt8.ofNat_toNat
  have w:IntKind.i64.wrap ((i:Int)+1)=((i+1:Nat):Int):=by rw[w64 (by omega) (by omega)];omega
  have w1:IntKind.i64.wrap ((a:Int) *10)=((10 *a:Nat):Int):=by rw[w64 (by omega) (by omega)];omega
  rw[i8,hd,gU]
  simp only[h1,h2,adJ,adE,h16]
  rw[adI (by omega)]
  simp only[Z_,mb,hc,Z6,Z3,Nz,NB,hx',hcn]
  cases hg:eS c
  ·have hix:Lib.indexByte [48,49,50,51,52,53,54,55,56,57] c= -1:=by rw[oO,hg];rfl
   rw[hix]
   rfl
  ·have hix:Lib.indexByte [48,49,50,51,52,53,54,55,56,57] c=((c.toNat-48:Nat):Int):=by rw[oO,hg];rfl
   rw[hix]
   have hg':48<=c.toNat/\c.toNat<=57:=by unfold eS at hg;simpa using hg
   have h3:¬((c.toNat-48:Nat):Int)<0:=by omega
   have h4:¬(a:Int)>1099511627776:=by omega
   have ih:=qZ s hs j (i+1) (10 *a+(c.toNat-48)) (by omega) (by rw[acK];omega)
   have w2:IntKind.i64.wrap (((10 *a:Nat):Int)+((c.toNat-48:Nat):Int))=((10 *a+(c.toNat-48):Nat):Int):=by rw[w64 (by omega) (by omega)];omega
   simp only[adE,h3,h4,adK,Z5,adF,Z3,w2,w1,w]
   exact ih
theorem uM:∀(l:List UInt8) (a n k:Nat),gU l a=some n->a<10^k->n<10^(k+l.length)
 |[],a,n,k,h,ha=>by simp[gU]at h;rw[<-h];exact ha
 |c::r,a,n,k,h,ha=>by
  rw[gU]at h
  cases hg:eS c
  ·rw[hg]at h;simp at h
  ·rw[hg]at h
   simp only[adE]at h
   have hg':48<=c.toNat/\c.toNat<=57:=by unfold eS at hg;simpa using hg
   have:=uM r (10 *a+(c.toNat-48)) n (k+1) h (by rw[acK];omega)
   rw[aaf,show k+(r.length+1)=k+1+r.length by omega]
   exact this
theorem Jk(s:ByteArray)(hs:s.size<=7)(hw:∀c∈s.data.toList,dK c=true):
 Iq (s,10,())=some (match gU s.data.toList 0 with|none=>(0,2,())|some n=>if dec n=s then((n:Int),0,())else(0,2,())):=by
 have hz:=eB s
 have hp:ID (s,Z4 #[45],())=some (s,()):=by
  have h45:(Z4 #[45]).size=1:=rfl
  rw[ID,NA,NC]
  simp only[h45,eo]
  by_cases h1:1<=s.size
  ·rw[adI (by simp;omega),adI (by omega)]
   have:¬s.extract 0 1=Z4 #[45]:=by
    intro e
    have e2:(s.extract 0 1).data.toList=[45]:=by
     rw[e]
    rw[jr s h1,aau]at e2
    have:(45:UInt8)∈s.data.toList:=by
     have:(45:UInt8)∈s.data.toList.take (1-0):=by rw[e2];exact aal ..
     exact aa7 this
    have:=hw _ this
    revert this;decide
   show(some (decide (s.extract 0 1=Z4 #[45]),())>>=_)>>=_=_
   simp[this]
  ·rw[adH (by simp;omega)]
   simp
 have lp:=qZ s hs s.size 0 0 (by omega) (by decide)
 rw[aar,aau]at lp
 rw[Iq,Ny]
 simp only[hp,Z6,show decide ((10:Int)>=2)=true by decide,show decide ((10:Int)<=16)=true by decide,adE,Z3,aaC,Z5,adF,lp]
 cases h:gU s.data.toList 0 with
 |none=>rfl
 |some n=>
  have hn:=uM _ 0 n 0 h (by decide)
  have p7:10^(0+s.data.toList.length)<=10^7:=abw (by omega) (by omega)
  have h1:¬(n:Int)< -1099511627776:=by omega
  have h2:¬(n:Int)>1099511627776:=by omega
  simp only[Z3,Int.lt_irrefl,adK,Z5,adF,h1,h2,Ob (n:=n) (by omega),eo]
  by_cases e:dec n=s
  ·simp[e]
  ·simp[e]
end Go.Proofs.YtcghbgmmgcljkaaGreatDoor
end
section
namespace Go.Proofs.YtcghbgmmgcljkaaGreatDoor
set_option maxRecDepth 20000
open Go.Lib
def yF(s:Bool)(b:Nat):ByteArray:=(if s=true then Z4 #[105]else Z4 #[117])++dec b
theorem DN(s:Bool){b:Nat}(hb:b<=31):Ej (bB.mk s (b:Int),())=some (yF s b,()):=by
 have hd:(dec b).size<=100:=by
  obtain⟨m,a,h,hm,hd,hs⟩:=po 7 b (Z4 #[]) (by omega) (by omega) (by decide)
  unfold dec
  have:∀k n a,(Hb k n a).size<=a.size+k+1:=by
   intro k
   induction k with
   |zero=>intro n a;rw[Hb,ab4,eC];omega
   |succ k ih=>
    intro n a
    rw[Hb]
    split
    ·rw[ab4,eC];omega
    ·have:=ih (n/10) (Ap (n%10)++a)
     rw[ab4,eC]at this
     omega
  have:=this 7 b (Z4 #[])
  have e0:(Z4 #[]).size=0:=rfl
  omega
 have e1:(Z4 #[105]).size=1:=rfl
 have e2:(Z4 #[117]).size=1:=rfl
 rw[Ej]
 simp only[Ix,Oh (n:=b) (by omega),Z6,Z3,e1,e2]
 unfold yF
 cases s
 ·rw[adH (by decide),adI (by omega)];rfl
 ·rw[adI rfl,adI (by omega)];rfl
def gf(s:ByteArray):Nat->Nat->Bool
 |0,_=>false
 |j+1,b=>decide (yF false b=s)||decide (yF true b=s)||gf s j (b+1)
theorem lX(s:ByteArray):∀(j b:Nat),gf s j b=true↔∃n,b<=n/\n<b+j/\(yF false n=s\/yF true n=s)
 |0,b=>by
  constructor
  ·intro h;cases h
  ·rintro⟨n,h1,h2,_⟩;omega
 |j+1,b=>by
  rw[gf,aaI,aaI,adG,adG,lX s j (b+1)]
  constructor
  ·rintro(h|⟨n,h1,h2,h3⟩)
   ·exact⟨b,aay _,by omega,h⟩
   ·exact⟨n,by omega,by omega,h3⟩
  ·rintro⟨n,h1,h2,h3⟩
   by_cases e:n=b
   ·subst e;exact .inl h3
   ·exact .inr ⟨n,by omega,by omega,h3⟩
theorem uX(s:ByteArray):∀(j b:Nat),b+j=32->(gf s j b=true->∃t,kX (s,(b:Int),bB.mk false 0,())=some (.inl (0,t,())))/\(gf s j b=false->∃t,kX (s,(b:Int),bB.mk false 0,())=some (.inr (t,())))
 |0,b,h=>by
  rw[kX]
  have:¬(b:Int)<=31:=by omega
  simp[this,gf]
 |j+1,b,h=>by
  have h1:(b:Int)<=31:=by omega
  have w:IntKind.i64.wrap ((b:Int)+1)=((b+1:Nat):Int):=by rw[w64 (by omega) (by omega)];omega
  have ih:=uX s j (b+1) (by omega)
  rw[kX,gf]
  simp only[h1,adJ,adE,DN false (b:=b) (by omega),DN true (b:=b) (by omega),Z6,Z3,eo,adG,w]
  by_cases e1:yF false b=s
  ·simp[e1]
  ·by_cases e2:yF true b=s
   ·simp[e1,e2]
   ·simp only[e1,e2,adF,adK,ab6]
    exact ih
theorem Oi(s:ByteArray):∃t,S5 (s,())=some (if gf s 31 1=true then 0 else 2,t,()):=by
 have h:=uX s 31 1 rfl
 rw[S5]
 cases e:gf s 31 1
 ·obtain⟨t,ht⟩:=h.2 e
  rw[show((1:Nat):Int)=1 by rfl]at ht
  rw[ht];exact⟨_,rfl⟩
 ·obtain⟨t,ht⟩:=h.1 e
  rw[show((1:Nat):Int)=1 by rfl]at ht
  rw[ht];exact⟨_,rfl⟩
theorem tN:∀n:Fin 32,gU (dec n.val).data.toList 0=some n.val:=by decide+kernel
theorem iS(s:Bool)(b:Nat):(yF s b).data.toList=(if s=true then 105 else 117)::(dec b).data.toList:=by
 unfold yF
 rw[ByteArray.data_append,Array.toList_append]
 cases s<;>rfl
theorem Jq(s:ByteArray)(hs:s.size<=8)(hw:j_ s.data.toList=true):∃e t,HU (s,())=some (e,t,())/\(e !=0)= !(gf s 31 1):=by
 have hz:=eB s
 have no:(∀n,1<=n->n<32->yF false n≠s/\yF true n≠s)->gf s 31 1=false:=by
  intro h
  cases e:gf s 31 1
  ·rfl
  ·obtain⟨n,h1,h2,h3⟩:=(lX s 31 1).mp e
   have:=h n h1 (by omega)
   rcases h3 with h3|h3
   ·exact absurd h3 this.1
   ·exact absurd h3 this.2
 match hd:s.data.toList,hw with
 |c::r,hw=>
  rw[j_,aac]at hw
  have hc:s[aav 0]?=some c:=by rw[mb,hd];rfl
  have hlen:r.length+1=s.size:=by rw[<-hz,hd,aaf]
  have hcl:=c.toNat_lt
  rw[HU]
  by_cases h2:s.size<2
  ·have h2':(s.size:Int)<2:=by omega
   simp only[h2',adJ,adE,Z6,Z3]
   refine⟨_,_,rfl,?_⟩
   rw[no]
   ·rfl
   ·intro n h1 h3
    have hr:r=[]:=ac8.mp (by omega)
    have hp:=tN ⟨n,by omega⟩
    refine⟨?_,?_⟩<;>intro e<;>have e2:=congrArg (λb=>b.data.toList) e<;>simp only[iS,hd,hr,aaX]at e2<;>simp only[e2.2,gU,Z7]at hp<;>omega
  ·have h2':¬(s.size:Int)<2:=by omega
   simp only[h2',adK,Z5,adF,hc,Z6,Z3]
   by_cases hui:c=117\/c=105
   ·have hq:((if(((c.toNat:Int) !=117)=true)then some (s,(c.toNat:Int) !=105,bB.mk false 0,())else some (s,false,bB.mk false 0,())):Option (ByteArray×Bool×bB×Unit))=some (s,false,bB.mk false 0,()):=by
     rcases hui with h|h<;>subst h<;>rfl
    rw[hq]
    simp only[Z3,Z5,adF]
    have h1s:(1:Int)<=(s.size:Int):=by omega
    rw[adI ⟨by decide,h1s,aaE _⟩]
    have hx:(s.extract (aav 1) (aav (s.size:Int))).data.toList=r:=by
     rw[Z_,jr s (aay _),hd]
     show(r.take (s.size-1))=r
     exact aaN (by omega)
    have hxs:(s.extract (aav 1) (aav (s.size:Int))).size=r.length:=by rw[<-eB,hx]
    have hp:=Jk (s.extract (aav 1) (aav (s.size:Int))) (by omega) (by rw[hx];exactλc hc=>aak.mp hw.2 c hc)
    rw[hx]at hp
    generalize hr:s.extract (aav 1) (aav (s.size:Int))=rb at *
    have key:∀n,1<=n->n<32->(yF false n=s\/yF true n=s)->gU r 0=some n/\dec n=rb:=by
     intro n h1 h3 h4
     have hp:=tN ⟨n,by omega⟩
     have e:(dec n).data.toList=r:=by
      rcases h4 with h4|h4<;>have e2:=congrArg (λb=>b.data.toList) h4<;>simp only[iS,hd,aaX]at e2<;>exact e2.2
     exact⟨by rw[<-e];exact hp,qp (by rw[e,hx])⟩
    simp only[hp,Z3,hc]
    cases hpl:gU r 0 with
    |none=>
     simp only[]
     refine⟨_,_,rfl,?_⟩
     rw[no]
     ·rfl
     ·intro n h1 h3
      refine⟨?_,?_⟩<;>intro e
      ·have:=(key n h1 h3 (.inl e)).1;rw[hpl]at this;cases this
      ·have:=(key n h1 h3 (.inr e)).1;rw[hpl]at this;cases this
    |some n=>
     simp only[]
     by_cases hdn:dec n=rb
     ·rw[adI hdn]
      simp only[bne_self_eq_false,Z5,adF,o_]
      by_cases hb:1<=n/\n<=31
      ·have b1:¬(n:Int)<1:=by omega
       have b2:¬(n:Int)>31:=by omega
       simp only[b1,b2,adK,Z5,adF]
       refine⟨_,_,rfl,?_⟩
       have:gf s 31 1=true:=by
        rw[lX]
        refine⟨n,hb.1,by omega,?_⟩
        have hrl:(dec n).data.toList=r:=by rw[hdn,hx]
        rcases hui with h|h
        ·left;exact qp (by rw[iS,hrl,hd,h];rfl)
        ·right;exact qp (by rw[iS,hrl,hd,h];rfl)
       rw[this];rfl
      ·have hb':(if decide ((n:Int)<1)=true then some (true,())else some (decide ((n:Int)>31),()))=some (true,()):=by
        by_cases b1:(n:Int)<1
        ·simp[b1]
        ·have:(n:Int)>31:=by omega
         simp[b1,this]
       rw[hb']
       refine⟨_,_,rfl,?_⟩
       rw[no]
       ·rfl
       ·intro m h1 h3
        refine⟨?_,?_⟩<;>intro e
        ·have:=(key m h1 h3 (.inl e)).1;rw[hpl,Z7]at this;omega
        ·have:=(key m h1 h3 (.inr e)).1;rw[hpl,Z7]at this;omega
     ·rw[adH hdn]
      refine⟨_,_,rfl,?_⟩
      rw[no]
      ·rfl
      ·intro m h1 h3
       refine⟨?_,?_⟩<;>intro e
       ·have:=key m h1 h3 (.inl e);rw[hpl,Z7]at this;rw[this.1]at hdn;exact hdn this.2
       ·have:=key m h1 h3 (.inr e);rw[hpl,Z7]at this;rw[this.1]at hdn;exact hdn this.2
   ·have n1:((c.toNat:Int) !=117)=true:=by
     have:c≠117:=λe=>hui (.inl e)
     have:c.toNat≠117:=λe=>this (UInt8.toNat_inj.mp e)
     simp;omega
    have n2:((c.toNat:Int) !=105)=true:=by
     have:c≠105:=λe=>hui (.inr e)
     have:c.toNat≠105:=λe=>this (UInt8.toNat_inj.mp e)
     simp;omega
    simp only[n1,n2,adE,Z3]
    refine⟨_,_,rfl,?_⟩
    rw[no]
    ·rfl
    ·intro n h1 h3
     refine⟨?_,?_⟩<;>intro e<;>have e2:=congrArg (λb=>b.data.toList) e<;>simp only[iS,hd,aaX]at e2
     ·exact hui (.inl e2.1.symm)
     ·exact hui (.inr e2.1.symm)
noncomputable def jM(s:ByteArray):Bool:=decide (s.size<=8)&&j_ s.data.toList&& !(decide (s∈oT))&& !(gf s 31 1)
theorem w7(s:ByteArray):O1 (s,())=some (jM s,()):=by
 rw[O1]
 unfold jM
 by_cases h8:s.size<=8
 ·have h1:¬(s.size:Int)>8:=by omega
  obtain⟨t,ht⟩:=Oi s
  simp only[h1,adK,Z5,adF,OT s h8,QG,Z6,Z3,h8,adJ,abv]
  cases j_ s.data.toList
  ·rfl
  ·by_cases hk:s∈oT
   ·simp[hk]
   ·simp only[hk,adK,aaC,Z5,adF,Z3,ht,aa4,abv]
    cases gf s 31 1<;>rfl
 ·have h1:(s.size:Int)>8:=by omega
  simp[h1,h8]
theorem sV(s:ByteArray):O3 (s,())=some (jM s,()):=by
 rw[O3]
 unfold jM
 by_cases h8:s.size<=8
 ·have h1:¬(s.size:Int)>8:=by omega
  simp only[h1,adK,Z5,adF,Js s h8,Oe,Z6,Z3,h8,adJ,abv]
  cases hw:j_ s.data.toList
  ·rfl
  ·obtain⟨e,t,ht,he⟩:=Jq s h8 hw
   by_cases hk:s∈oT
   ·simp[hk]
   ·simp only[hk,adK,aaC,Z5,adF,Z3,ht,aa4,abv,he]
 ·have h1:(s.size:Int)>8:=by omega
  simp[h1,h8]
end Go.Proofs.YtcghbgmmgcljkaaGreatDoor
end
section
namespace Go.Proofs.YtcghbgmmgcljkaaGreatDoor
set_option maxRecDepth 20000
noncomputable def dA(t:aF):Bool:=
 if t.base=2\/t.base=3 then decide (1<=t.bits/\t.bits<=31)&&decide (t.name0=Z4 #[])
 else if t.base=5 then decide (t.bits=0)&&jM t.name0
 else if t.base=0 then decide (t.bits=0)&&decide (t.name0=Z4 #[])&& !t.opt
 else if t.base=4 then decide (t.bits=0)&&decide (t.name0=Z4 #[])&& !t.opt&& !t.err
 else decide (t.base=1)&&decide (t.bits=0)&&decide (t.name0=Z4 #[])
theorem OQ(t:aF):Ib (t,())=some (dA t,()):=by
 rw[Ib]
 unfold dA
 simp only[eo,vv,w7,Z6,beq_iff_eq]
 by_cases h2:t.base=2
 ·by_cases hb:1<=t.bits/\t.bits<=31<;>simp[h2,hb]
 by_cases h3:t.base=3
 ·by_cases hb:1<=t.bits/\t.bits<=31<;>simp[h3,hb]
 by_cases h5:t.base=5
 ·by_cases hb:t.bits=0<;>simp[h5,hb]
 by_cases h0:t.base=0
 ·by_cases hb:t.bits=0<;>by_cases hn:t.name0=Z4 #[]<;>simp[h0,hb,hn]
 by_cases h4:t.base=4
 ·by_cases hb:t.bits=0<;>by_cases hn:t.name0=Z4 #[]<;>cases ho:t.opt<;>simp[h4,hb,hn,ho]
 by_cases h1:t.base=1
 ·by_cases hb:t.bits=0<;>by_cases hn:t.name0=Z4 #[]<;>simp[h1,hb,hn]
 ·simp[h2,h3,h5,h0,h4,h1]
theorem Jr(t:aF):HW (t,())=some (dA t,()):=by
 rw[HW]
 unfold dA
 simp only[eo,sV,Z6,beq_iff_eq,Nt,Nu,o_]
 by_cases h2:t.base=2
 ·by_cases hb1:t.bits<1
  ·cases ho:t.opt<;>cases he:t.err<;>simp[h2,hb1]<;>omega
  ·by_cases hb2:t.bits>31
   ·cases ho:t.opt<;>cases he:t.err<;>simp[h2,hb1,hb2]<;>omega
   ·have:1<=t.bits/\t.bits<=31:=⟨by omega,by omega⟩
    cases ho:t.opt<;>cases he:t.err<;>simp[h2,hb1,hb2,this]
 by_cases h3:t.base=3
 ·by_cases hb1:t.bits<1
  ·cases ho:t.opt<;>cases he:t.err<;>simp[h3,hb1]<;>omega
  ·by_cases hb2:t.bits>31
   ·cases ho:t.opt<;>cases he:t.err<;>simp[h3,hb1,hb2]<;>omega
   ·have:1<=t.bits/\t.bits<=31:=⟨by omega,by omega⟩
    cases ho:t.opt<;>cases he:t.err<;>simp[h3,hb1,hb2,this]
 by_cases h5:t.base=5
 ·by_cases hb:t.bits=0<;>cases ho:t.opt<;>cases he:t.err<;>cases hn:jM t.name0<;>simp[h5,hb,hn]
 by_cases h0:t.base=0
 ·by_cases hb:t.bits=0<;>by_cases hn:t.name0=Z4 #[]<;>cases ho:t.opt<;>cases he:t.err<;>simp[h0,hb,hn]
 by_cases h4:t.base=4
 ·by_cases hb:t.bits=0<;>by_cases hn:t.name0=Z4 #[]<;>cases ho:t.opt<;>cases he:t.err<;>simp[h4,hb,hn]
 by_cases h1:t.base=1
 ·by_cases hb:t.bits=0<;>by_cases hn:t.name0=Z4 #[]<;>cases ho:t.opt<;>cases he:t.err<;>simp[h1,hb,hn]
 ·have:t.base<0\/t.base>5:=by omega
  rcases this with h|h
  ·simp[h2,h3,h5,h0,h4,h1,h]
  ·by_cases h':t.base<0
   ·simp[h2,h3,h5,h0,h4,h1,h']
   ·simp[h2,h3,h5,h0,h4,h1,h,h']
noncomputable def d4(t:aF):Bool:=dA t&&decide (t.base<=3)
noncomputable def cK(t:aF):Bool:=dA t&&decide (t.base=2\/t.base=3)&& !t.opt&& !t.err
theorem Fs(t:aF):O2 (t,())=some (d4 t,()):=by
 rw[O2,Nm]
 unfold d4
 cases h:dA t<;>simp[OQ,h]
theorem QC(t:aF):HH (t,())=some (cK t,()):=by
 rw[HH]
 unfold cK
 simp only[Fs,d4]
 cases h:dA t
 ·simp
 ·by_cases h2:t.base=2
  ·cases ho:t.opt<;>cases he:t.err<;>simp[h2]
  ·by_cases h3:t.base=3
   ·cases ho:t.opt<;>cases he:t.err<;>simp[h3]
   ·by_cases h4:t.base<=3<;>simp[h2,h3,h4]
theorem uS(t:aF):QV (t,())=some (if dA t=true then 0 else 1,()):=by
 rw[QV]
 cases h:dA t<;>simp[Jr,h]
theorem uP(t:aF):Ei (t,())=some (dA t&& !t.opt&& !t.err,()):=by
 rw[Ei]
 simp only[uS]
 cases h:dA t<;>cases ho:t.opt<;>cases he:t.err<;>simp[]
theorem Od(t:aF):AJ (t,())=some (cK t,()):=by
 rw[AJ]
 simp only[uP]
 unfold cK
 cases h:dA t<;>cases ho:t.opt<;>cases he:t.err<;>by_cases h2:t.base=2<;>by_cases h3:t.base=3<;>simp[h2,h3]
end Go.Proofs.YtcghbgmmgcljkaaGreatDoor
end
section
namespace Go.Proofs.YtcghbgmmgcljkaaGreatDoor
open IntKind (i64)
set_option maxRecDepth 20000
def fv:List aB->ByteArray->Nat->Int
 |[],_,_=> -1
 |f::r,s,k=>if f.name0=s then(k:Int)else fv r s (k+1)
def cv(l:List aB)(s:ByteArray):Int:=fv l s 0
theorem nj:∀(l:List aB) (s:ByteArray) (k:Nat),fv l s k= -1\/((k:Int)<=fv l s k/\fv l s k<k+l.length)
 |[],_,_=> .inl rfl
 |f::r,s,k=>by
  rw[fv]
  split
  ·right;simp;omega
  ·rcases nj r s (k+1)with h|h
   ·exact .inl h
   ·right;rw[aaf];omega
theorem tW(l:List aB)(hl:l.length<=4294967296)(s:ByteArray):∀(j k:Nat),k+j=l.length->
 mq (l,s,(k:Int),())=if fv (l.drop k) s k= -1 then some (.inr ())else some (.inl (fv (l.drop k) s k,()))
 |0,k,h=>by
  rw[mq,cu (by omega)]
  have:¬(k:Int)<(l.length:Int):=by omega
  simp[this,fv]
 |j+1,k,h=>by
  obtain⟨x,hx,hm,hd⟩:=bI (l:=l) (k:=k) (by omega)
  have h1:(k:Int)<(l.length:Int):=by omega
  have h2:(0:Int)<=(k:Int):=by omega
  have w:i64.wrap ((k:Int)+1)=((k+1:Nat):Int):=by rw[w64 (by omega) (by omega)];omega
  have ih:=tW l hl s j (k+1) (by omega)
  rw[mq,hd,fv]
  simp only[h1,h2,adJ,adE,Z_,hx,Z6,Z3,eo,adG,w]
  by_cases e:x.name0=s
  ·have:¬(k:Int)= -1:=by omega
   simp[e,this]
  ·simp only[e,adF]
   exact ih
theorem ww(l:List aB)(hl:l.length<=4294967296)(s:ByteArray):QQ (l,s,())=some (cv l s,()):=by
 have h:=tW l hl s _ 0 (aad _)
 rw[aar,aau]at h
 rw[QQ]
 unfold cv
 by_cases e:fv l s 0= -1
 ·rw[adI e]at h
  rw[h,e];rfl
 ·rw[adH e]at h
  rw[h];rfl
theorem q_(l:List aB)(hl:l.length<=4294967296)(s:ByteArray):∀(j k:Nat),k+j=l.length->
 dU (l,(l.length:Int),(k:Int),s,())=if fv (l.drop k) s k= -1 then some (.inr (s,()))else some (.inl (fv (l.drop k) s k,s,()))
 |0,k,h=>by
  rw[dU,cu (by omega)]
  have:¬(k:Int)<(l.length:Int):=by omega
  simp[this,fv]
 |j+1,k,h=>by
  obtain⟨x,hx,hm,hd⟩:=bI (l:=l) (k:=k) (by omega)
  have h1:(k:Int)<(l.length:Int):=by omega
  have h2:(0:Int)<=(k:Int):=by omega
  have w:i64.wrap ((k:Int)+1)=((k+1:Nat):Int):=by rw[w64 (by omega) (by omega)];omega
  have ih:=q_ l hl s j (k+1) (by omega)
  rw[dU,hd,fv]
  simp only[h1,h2,adJ,adE,Z_,hx,Z6,Z3,pd,eo,adG,w]
  by_cases e:x.name0=s
  ·have:¬(k:Int)= -1:=by omega
   simp[e,this]
  ·simp only[e,adF]
   exact ih
theorem nG(l:List aB)(hl:l.length<=4294967296)(s:ByteArray):O0 (l,s,())=some (cv l s,()):=by
 have h:=q_ l hl s _ 0 (aad _)
 rw[aar,aau]at h
 rw[O0,pb]
 unfold cv
 by_cases e:fv l s 0= -1
 ·rw[adI e]at h
  rw[h,e];rfl
 ·rw[adH e]at h
  rw[h];rfl
def rng(n a b:Int):Bool:=decide (a<=n/\n<=b)
theorem zm(n a b:Int):Cb (n,a,b,())=some (rng n a b,()):=by
 rw[Cb];unfold rng
 by_cases h:a<=n<;>simp[h]
theorem Fk(n a b:Int):GB (n,a,b,())=some (rng n a b,()):=by
 rw[GB];unfold rng
 by_cases h:a<=n<;>simp[h]
def zT(t:aF):Bool:=Mp.ieq t.base 0&&(Mp.ieq t.bits 0&&(Mp.seq t.name0 (Z4 #[])&&(Mp.beq t.opt false&&Mp.beq t.err false)))
def noN(s:ByteArray):Bool:=decide (s=Z4 #[])
noncomputable def di(l:List aB)(f:aB)(c:aQ):Bool:=
 if c.op=0 then rng c.a (-2147483648) 2147483648&&c.b==0&&(d4 c.type0&& !c.type0.opt&& !c.type0.err)&&noN c.name0
 else if c.op=2\/c.op=3 then rng c.a 0 (i64.wrap (f.places-1))&&c.b==0&&zT c.type0&&noN c.name0
 else if c.op=5 then rng c.a 5 17&&c.b==0&&cK c.type0&&noN c.name0
 else if c.op=6 then rng c.a 18 23&&c.b==0&&zT c.type0&&noN c.name0
 else if c.op=7\/c.op=9\/c.op=10 then c.a==0&&c.b==0&&cK c.type0&&noN c.name0
 else if c.op=12\/c.op=13\/c.op=14\/c.op=15 then rng c.a 0 (i64.wrap ((f.code.length:Int) -1))&&c.b==0&&zT c.type0&&noN c.name0
 else if c.op=16 then c.a==0&&zT c.type0&&decide (0<=cv l c.name0)&&(match l[(cv l c.name0).toNat]? with|some g=>c.b==g.params|none=>false)
 else if c.op=18 then c.a==0&&c.b==0&&zT c.type0&&jM c.name0
 else if c.op=19 then rng c.a 1 5&&c.b==0&&zT c.type0&&noN c.name0
 else if c.op=1\/c.op=4\/c.op=8\/c.op=11\/c.op=17 then c.a==0&&c.b==0&&zT c.type0&&noN c.name0
 else false
theorem du(t:aF):aF.mk t.base t.bits t.name0 t.opt t.err=t:=by cases t;rfl
set_option maxHeartbeats 4000000 in
theorem MR(l:List aB)(hl:l.length<=4294967296)(f:aB)(c:aQ):SX (l,f,c,())=some (di l f c,()):=by
 rw[SX]
 simp only[zm,Z6,Z3,eo]
 by_cases hr:0<=c.op/\c.op<=19
 ·have hk:c.op=0\/c.op=1\/c.op=2\/c.op=3\/c.op=4\/c.op=5\/c.op=6\/c.op=7\/c.op=8\/c.op=9\/c.op=10\/c.op=11\/c.op=12\/c.op=13\/c.op=14\/c.op=15\/c.op=17\/c.op=18\/c.op=19\/c.op=16:=by omega
  have e0:rng c.op 0 19=true:=by unfold rng;simpa using hr
  rw[e0]
  have ez:(Mp.ieq c.type0.base 0&&(Mp.ieq c.type0.bits 0&&(Mp.seq c.type0.name0 (Z4 #[])&&(Mp.beq c.type0.opt false&&Mp.beq c.type0.err false))))=zT c.type0:=rfl
  simp only[ez]
  rcases hk with h|h|h|h|h|h|h|h|h|h|h|h|h|h|h|h|h|h|h|h
  rotate_left 19
  ·have hf:cv l c.name0<0\/∃g,l[(cv l c.name0).toNat]?=some g/\0<=cv l c.name0:=by
    rcases nj l c.name0 0 with hq|hq
    ·left;unfold cv;omega
    ·right
     refine⟨l[(cv l c.name0).toNat]'(by unfold cv;omega),Z8 _,by unfold cv;omega⟩
   simp[h,HE,di]
   rcases hf with hf|⟨g,hg,hf⟩
   ·have hf':¬0<=cv l c.name0:=by omega
    by_cases ha:c.a=0<;>cases hz:zT c.type0<;>simp[ha,hf',h,ww l hl]
   ·by_cases ha:c.a=0<;>cases hz:zT c.type0<;>simp[ha,hf,hg,h,ww l hl]
  all_goals simp[h,HE,iA,di,noN,zm,Fs,QC,w7]
  all_goals by_cases ha:c.a=0<;>by_cases hb:c.b=0<;>cases hz:zT c.type0<;>by_cases hn:c.name0=Z4 #[]<;>simp[h,ha,hb,hn]
  all_goals try(split<;>simp_all)
  all_goals(cases d4 c.type0<;>cases c.type0.opt<;>cases c.type0.err<;>rfl)
 ·have e0:rng c.op 0 19=false:=by unfold rng;simpa using hr
  rw[e0]
  unfold di
  simp only[aa4,adE]
  rw[adH (by omega),adH (by omega),adH (by omega),adH (by omega),adH (by omega),adH (by omega),adH (by omega),adH (by omega),adH (by omega),adH (by omega)]
end Go.Proofs.YtcghbgmmgcljkaaGreatDoor
end
section
namespace Go.Proofs.YtcghbgmmgcljkaaGreatDoor
set_option maxRecDepth 20000
theorem TM(t:aF):(d4 t&& !t.opt&& !t.err)=if cK t=true then true else if(dA t&& !t.opt&& !t.err)=true then decide (t.base<=1)else false:=by
 unfold cK d4
 cases h:dA t<;>cases ho:t.opt<;>cases he:t.err<;>by_cases h2:t.base=2<;>by_cases h3:t.base=3<;>simp[h2,h3]<;>omega
set_option maxHeartbeats 4000000 in
theorem Jl(l:List aB)(hl:l.length<=4294967296)(f:aB)(c:aQ):kW (c,l,f,())=some (!(di l f c),l,f,()):=by
 rw[kW,TW]
 simp only[Fk,Z6,Z3,eo]
 have ez:(Mp.ieq c.type0.base 0&&(Mp.ieq c.type0.bits 0&&(Mp.seq c.type0.name0 (Z4 #[])&&(Mp.beq c.type0.opt false&&Mp.beq c.type0.err false))))=zT c.type0:=rfl
 have eb:∀b:Bool,Mp.beq b true=b:=λb=>by cases b<;>rfl
 simp only[ez,eb,Od,uP,sV,Z3]
 by_cases hr:0<=c.op/\c.op<=19
 ·have hk:c.op=0\/c.op=1\/c.op=2\/c.op=3\/c.op=4\/c.op=5\/c.op=6\/c.op=7\/c.op=8\/c.op=9\/c.op=10\/c.op=11\/c.op=12\/c.op=13\/c.op=14\/c.op=15\/c.op=17\/c.op=18\/c.op=19\/c.op=16:=by omega
  rcases hk with h|h|h|h|h|h|h|h|h|h|h|h|h|h|h|h|h|h|h|h
  rotate_left 19
  ·have hf:cv l c.name0<0\/∃g,l[(cv l c.name0).toNat]?=some g/\0<=cv l c.name0:=by
    rcases nj l c.name0 0 with hq|hq
    ·left;unfold cv;omega
    ·right
     refine⟨l[(cv l c.name0).toNat]'(by unfold cv;omega),Z8 _,by unfold cv;omega⟩
   simp[h,di,nG l hl]
   rcases hf with hf|⟨g,hg,hf⟩
   ·have hf':¬0<=cv l c.name0:=by omega
    simp[hf']
   ·by_cases ha:c.a=0<;>cases hz:zT c.type0<;>simp[ha,hf,hg]
  ·rw[di,adI h,TM]
   by_cases hb:c.b=0<;>by_cases hn:c.name0=Z4 #[]<;>cases hi:cK c.type0<;>cases hp:(dA c.type0&& !c.type0.opt&& !c.type0.err)<;>simp[h,hb,hn,noN,-Bool.not_and,-aac]
   all_goals try simp[Bool.and_assoc]
  all_goals simp[h,di,noN]
  all_goals by_cases ha:c.a=0<;>by_cases hb:c.b=0<;>cases hz:zT c.type0<;>by_cases hn:c.name0=Z4 #[]<;>simp[ha,hb,hn]
  all_goals try simp[Bool.or_assoc]
 ·have hc:di l f c=false:=by
   unfold di
   rw[adH (by omega),adH (by omega),adH (by omega),adH (by omega),adH (by omega),adH (by omega),adH (by omega),adH (by omega),adH (by omega),adH (by omega)]
  rw[hc]
  have hk:c.op≠0/\c.op≠1/\c.op≠2/\c.op≠3/\c.op≠4/\c.op≠5/\c.op≠6/\c.op≠7/\c.op≠8/\c.op≠9/\c.op≠10/\c.op≠11/\c.op≠12/\c.op≠13/\c.op≠14/\c.op≠15/\c.op≠17/\c.op≠18/\c.op≠19/\c.op≠16:=by omega
  simp[hk]
end Go.Proofs.YtcghbgmmgcljkaaGreatDoor
end
section
namespace Go.Proofs.YtcghbgmmgcljkaaGreatDoor
open IntKind (i64)
set_option maxRecDepth 20000
def e9(a:Int)(l:List aB):Int:=l.foldl (λa f=>i64.wrap (a+(f.code.length:Int))) a
def kz(l:List aB):Bool:=l.any (λf=>decide (f.places>200))
theorem qC(l:List aB)(hl:l.length<=4294967296):∀(j k:Nat) (a:Int),k+j=l.length->mo (l,a,(k:Int),())=some (e9 a (l.drop k),())
 |0,k,a,h=>by
  rw[mo,cu (by omega)]
  have:¬(k:Int)<(l.length:Int):=by omega
  simp[this,e9]
 |j+1,k,a,h=>by
  obtain⟨x,hx,hm,hd⟩:=bI (l:=l) (k:=k) (by omega)
  have h1:(k:Int)<(l.length:Int):=by omega
  have h2:(0:Int)<=(k:Int):=by omega
  have w:i64.wrap ((k:Int)+1)=((k+1:Nat):Int):=by rw[w64 (by omega) (by omega)];omega
  rw[mo,hd]
  simp only[h1,h2,adJ,adE,Z_,hx,Z6,Z3,w]
  exact qC l hl j (k+1) _ (by omega)
theorem pm(l:List aB)(hl:l.length<=4294967296):∀(j k:Nat) (a:Int),k+j=l.length->mn (a,l,(l.length:Int),(k:Int),())=some (e9 a (l.drop k),())
 |0,k,a,h=>by
  rw[mn,cu (by omega)]
  have:¬(k:Int)<(l.length:Int):=by omega
  simp[this,e9]
 |j+1,k,a,h=>by
  obtain⟨x,hx,hm,hd⟩:=bI (l:=l) (k:=k) (by omega)
  have h1:(k:Int)<(l.length:Int):=by omega
  have h2:(0:Int)<=(k:Int):=by omega
  have w:i64.wrap ((k:Int)+1)=((k+1:Nat):Int):=by rw[w64 (by omega) (by omega)];omega
  rw[mn,hd]
  simp only[h1,h2,adJ,adE,Z_,hx,Z6,Z3,w]
  exact pm l hl j (k+1) _ (by omega)
theorem Ha(l:List aB)(hl:l.length<=4294967296):SW (l,())=some (e9 0 l,()):=by
 have h:=qC l hl _ 0 0 (aad _)
 rw[aar,aau]at h
 rw[SW,h];rfl
theorem Ff(l:List aB)(hl:l.length<=4294967296):SS (l,())=some (e9 0 l,()):=by
 have h:=pm l hl _ 0 0 (aad _)
 rw[aar,aau]at h
 rw[SS,h];rfl
theorem yc(l:List aB)(hl:l.length<=4294967296):∀(j k:Nat),k+j=l.length->mi (l,(k:Int),())=if kz (l.drop k)=true then some (.inl (3,()))else some (.inr (l,()))
 |0,k,h=>by
  rw[mi,cu (by omega)]
  have:¬(k:Int)<(l.length:Int):=by omega
  simp[this,kz]
 |j+1,k,h=>by
  obtain⟨x,hx,hm,hd⟩:=bI (l:=l) (k:=k) (by omega)
  have h1:(k:Int)<(l.length:Int):=by omega
  have h2:(0:Int)<=(k:Int):=by omega
  have w:i64.wrap ((k:Int)+1)=((k+1:Nat):Int):=by rw[w64 (by omega) (by omega)];omega
  have ih:=yc l hl j (k+1) (by omega)
  rw[mi,hd]
  simp only[h1,h2,adJ,adE,Z_,hx,Z6,Z3,w,ih]
  unfold kz
  rw[ab5]
  by_cases e:x.places>200<;>simp[e]
theorem uN(l:List aB)(hl:l.length<=4294967296):∀(j k:Nat),k+j=l.length->(kz (l.drop k)=true->∃i:Nat,eH (l,(l.length:Int),(k:Int),())=some (.inl ((i:Int),())))/\(kz (l.drop k)=false->eH (l,(l.length:Int),(k:Int),())=some (.inr ()))
 |0,k,h=>by
  rw[eH,cu (by omega)]
  have:¬(k:Int)<(l.length:Int):=by omega
  simp[this,kz]
 |j+1,k,h=>by
  obtain⟨x,hx,hm,hd⟩:=bI (l:=l) (k:=k) (by omega)
  have h1:(k:Int)<(l.length:Int):=by omega
  have h2:(0:Int)<=(k:Int):=by omega
  have w:i64.wrap ((k:Int)+1)=((k+1:Nat):Int):=by rw[w64 (by omega) (by omega)];omega
  have ih:=uN l hl j (k+1) (by omega)
  rw[eH,hd]
  simp only[h1,h2,adJ,adE,Z_,hx,Z6,Z3,TU,w]
  unfold kz at ih⊢
  rw[ab5]
  by_cases e:x.places>200
  ·simp only[e,adJ,acx,adE]
   exact⟨λ_=>⟨k,rfl⟩,λh=>by cases h⟩
  ·simp only[e,adK,ab6,Z5,adF]
   exact ih
theorem Oa(l:List aB)(hl:l.length<=4294967296):sN (l,())=some (kz l,()):=by
 obtain⟨h1,h2⟩:=uN l hl _ 0 (aad _)
 rw[aar,aau]at h1 h2
 rw[sN,w5]
 cases e:kz l
 ·rw[h2 e];rfl
 ·obtain⟨i,h⟩:=h1 e
  have:(0:Int)<=(i:Int):=by omega
  rw[h];simp[this]
theorem qB(l:List aB)(hl:l.length<=4294967296)(f:aB)(hf:f.code.length<=4294967296)(i:Int):∀(j k:Nat),k+j=f.code.length->
 jd (l,i,(k:Int),f,())=if(f.code.drop k).all (di l f)=true then some (.inr (l,i,()))else some (.inl (1,()))
 |0,k,h=>by
  rw[jd,cu (by omega)]
  have:¬(k:Int)<(f.code.length:Int):=by omega
  simp[this]
 |j+1,k,h=>by
  obtain⟨x,hx,hm,hd⟩:=bI (l:=f.code) (k:=k) (by omega)
  have h1:(k:Int)<(f.code.length:Int):=by omega
  have h2:(0:Int)<=(k:Int):=by omega
  have w:i64.wrap ((k:Int)+1)=((k+1:Nat):Int):=by rw[w64 (by omega) (by omega)];omega
  have ih:=qB l hl f hf i j (k+1) (by omega)
  rw[jd,hd,abj]
  simp only[h1,h2,adJ,adE,Z_,hx,Z6,Z3,MR l hl,w,ih]
  cases di l f x<;>simp
theorem pk(l:List aB)(hl:l.length<=4294967296)(f:aB)(cs:List aQ)(hf:cs.length<=4294967296):∀(j k:Nat),k+j=cs.length->
 ((cs.drop k).all (di l f)=true->da (cs,(cs.length:Int),(k:Int),l,f,())=some (.inr (l,f,())))/\((cs.drop k).all (di l f)=false->∃i:Nat,da (cs,(cs.length:Int),(k:Int),l,f,())=some (.inl ((i:Int),l,f,())))
 |0,k,h=>by
  rw[da,cu (by omega)]
  have:¬(k:Int)<(cs.length:Int):=by omega
  simp[this]
 |j+1,k,h=>by
  obtain⟨x,hx,hm,hd⟩:=bI (l:=cs) (k:=k) (by omega)
  have h1:(k:Int)<(cs.length:Int):=by omega
  have h2:(0:Int)<=(k:Int):=by omega
  have w:i64.wrap ((k:Int)+1)=((k+1:Nat):Int):=by rw[w64 (by omega) (by omega)];omega
  have ih:=pk l hl f cs hf j (k+1) (by omega)
  rw[da,hd,abj]
  simp only[h1,h2,adJ,adE,Z_,hx,Z6,Z3,Jl l hl,w]
  cases di l f x
  ·simp only[aa4,adE,Bool.false_and]
   exact⟨(λh=>by cases h),λ_=>⟨k,rfl⟩⟩
  ·simp only[aaC,Z5,adF,abv]
   exact ih
theorem Fe(l:List aB)(hl:l.length<=4294967296)(f:aB)(cs:List aQ)(hf:cs.length<=4294967296):kV (cs,l,f,())=some (!(cs.all (di l f)),l,f,()):=by
 obtain⟨h1,h2⟩:=pk l hl f cs hf _ 0 (aad _)
 rw[aar,aau]at h1 h2
 rw[kV,lQ]
 cases e:cs.all (di l f)
 ·obtain⟨i,h⟩:=h2 e
  have:(0:Int)<=(i:Int):=by omega
  rw[h];simp[this]
 ·rw[h1 e];rfl
noncomputable def lN(l:List aB)(f:aB):Bool:=
 jM f.name0&&rng f.params 0 f.places&&d4 f.type0&&decide (1<=f.code.length)&&f.code.all (di l f)
theorem Jm(l:List aB)(hl:l.length<=4294967296)(f:aB)(hf:f.code.length<=4294967296):SU (l,f,())=some (lN l f,()):=by
 rw[SU]
 simp only[sV,Fk,uS,Z6,Z3]
 unfold lN d4
 cases jM f.name0
 ·simp
 cases rng f.params 0 f.places
 ·simp
 by_cases h0:f.code.length=0
 ·have:((f.code.length:Int)==0)=true:=by simpa using h0
  simp[h0]
 ·have h1:((f.code.length:Int)==0)=false:=by simpa using h0
  have h2:1<=f.code.length:=by omega
  cases dA f.type0
  ·simp[h1]
  ·by_cases hb:f.type0.base>=4
   ·have:¬f.type0.base<=3:=by omega
    simp[h1,hb,this]
   ·have:f.type0.base<=3:=by omega
    simp[h1,hb,this,h2,Fe l hl f f.code hf]
end Go.Proofs.YtcghbgmmgcljkaaGreatDoor
end
section
namespace Go.Proofs.YtcghbgmmgcljkaaGreatDoor
set_option maxRecDepth 20000
noncomputable def gH(l:List aB):Nat->List aB->Bool
 |_,[]=>true
 |k,f::r=>lN l f&&decide (cv l f.name0=(k:Int))&&gH l (k+1) r
theorem Au(l:List aB)(s:ByteArray)(f:aB)(hs:f.name0=s):∀(a k:Nat),l[k]?=some f->(a:Int)<=fv l s a/\fv l s a<=a+k:=by
 induction l with
 |nil=>intro a k h;simp at h
 |cons g r ih=>
  intro a k h
  rw[fv]
  split
  ·omega
  ·rename_i hne
   cases k with
   |zero=>simp at h;rw[h]at hne;exact absurd hs hne
   |succ k=>
    rw[ace]at h
    have:=ih (a+1) k h
    omega
theorem qL(l:List aB)(hl:l.length<=4294967296)(hc:∀f∈l,f.code.length<=4294967296):∀(j k:Nat),k+j=l.length->
 mj (l,(k:Int),())=if gH l k (l.drop k)=true then some (.inr ())else some (.inl (1,()))
 |0,k,h=>by
  rw[mj,cu (by omega)]
  have:¬(k:Int)<(l.length:Int):=by omega
  simp[this,gH]
 |j+1,k,h=>by
  obtain⟨x,hx,hm,hd⟩:=bI (l:=l) (k:=k) (by omega)
  have h1:(k:Int)<(l.length:Int):=by omega
  have h2:(0:Int)<=(k:Int):=by omega
  have w:IntKind.i64.wrap ((k:Int)+1)=((k+1:Nat):Int):=by rw[w64 (by omega) (by omega)];omega
  have ih:=qL l hl hc j (k+1) (by omega)
  have cl:=qB l hl x (hc x hm) (k:Int) _ 0 (aad _)
  rw[aar,aau]at cl
  have hfs:=Au l x.name0 x rfl 0 k hx
  rw[mj,hd,gH]
  simp only[h1,h2,adJ,adE,Z_,hx,Z6,Z3,w7,ww l hl,zm,Fs]
  unfold lN
  cases jM x.name0
  ·simp
  by_cases hlt:cv l x.name0<(k:Int)
  ·have:¬cv l x.name0=(k:Int):=by omega
   simp[hlt,this]
  ·have heq:cv l x.name0=(k:Int):=by unfold cv at hlt⊢;omega
   cases rng x.params 0 x.places
   ·simp[heq]
   cases d4 x.type0
   ·simp[heq]
   by_cases h0:x.code.length<1
   ·have e1:((x.code.length:Int)<1):=by omega
    have e2:¬1<=x.code.length:=by omega
    simp[heq,e1,e2]
   ·have e1:¬((x.code.length:Int)<1):=by omega
    have e2:1<=x.code.length:=by omega
    have e3:¬(k:Int)<(k:Int):=by omega
    cases hcd:x.code.all (di l x)
    ·rw[hcd]at cl
     simp only[Z5,adF]at cl
     simp[heq,e1,e2,e3,cl]
    ·rw[hcd]at cl
     simp only[adE]at cl
     simp only[heq,e1,e2,e3,adK,adJ,aaC,Z5,adF,Z3,abv,cl]
     rw[w,ih]
theorem pq(l:List aB)(hl:l.length<=4294967296)(hc:∀f∈l,f.code.length<=4294967296):∀(j k:Nat),k+j=l.length->
 mh (l,l,(l.length:Int),(k:Int),())=if gH l k (l.drop k)=true then some (.inr ())else some (.inl (1,()))
 |0,k,h=>by
  rw[mh,cu (by omega)]
  have:¬(k:Int)<(l.length:Int):=by omega
  simp[this,gH]
 |j+1,k,h=>by
  obtain⟨x,hx,hm,hd⟩:=bI (l:=l) (k:=k) (by omega)
  have h1:(k:Int)<(l.length:Int):=by omega
  have h2:(0:Int)<=(k:Int):=by omega
  have w:IntKind.i64.wrap ((k:Int)+1)=((k+1:Nat):Int):=by rw[w64 (by omega) (by omega)];omega
  have ih:=pq l hl hc j (k+1) (by omega)
  rw[mh,hd,gH]
  simp only[h1,h2,adJ,adE,Z_,hx,Z6,Z3,Jm l hl x (hc x hm),nG l hl]
  cases lN l x
  ·simp
  ·by_cases e:cv l x.name0=(k:Int)
   ·have:(cv l x.name0 !=(k:Int))=false:=by simpa using e
    simp only[e,aaC,Z5,adF,Z3,adJ,abv,bne_self_eq_false]
    rw[w]
    exact ih
   ·have:(cv l x.name0 !=(k:Int))=true:=by simpa using e
    simp[this,e]
noncomputable def dM(l:List aB):Int:=
 if l.length>48\/e9 0 l>2000\/kz l=true then 3 else if gH l 0 l=true then 0 else 1
theorem zH(l:List aB)(hl:l.length<=4294967296)(hc:∀f∈l,f.code.length<=4294967296):QO (l,())=some (dM l,()):=by
 have b:=yc l hl _ 0 (aad _)
 have c:=qL l hl hc _ 0 (aad _)
 rw[aar,aau]at b c
 rw[QO]
 unfold dM
 by_cases h1:l.length>48
 ·have:(l.length:Int)>48:=by omega
  simp[h1,this]
 ·have e1:¬(l.length:Int)>48:=by omega
  simp only[e1,h1,adK,Z5,adF,Ha l hl,Z6,Z3,false_or]
  by_cases h2:e9 0 l>2000
  ·simp[h2]
  ·simp only[h2,adK,Z5,adF,false_or,b]
   cases kz l
   ·simp only[Z5,adF,Z3,c]
    cases gH l 0 l<;>rfl
   ·rfl
theorem py(l:List aB)(hl:l.length<=4294967296)(hc:∀f∈l,f.code.length<=4294967296):OZ (l,())=some (dM l,()):=by
 have c:=pq l hl hc _ 0 (aad _)
 rw[aar,aau]at c
 rw[OZ]
 unfold dM
 by_cases h1:l.length>48
 ·have:(l.length:Int)>48:=by omega
  simp[h1,this]
 ·have e1:¬(l.length:Int)>48:=by omega
  simp only[e1,h1,adK,Z5,adF,Ff l hl,Z6,Z3,false_or]
  by_cases h2:e9 0 l>2000
  ·simp[h2]
  ·simp only[h2,adK,Z5,adF,false_or,Oa l hl,Z3,c]
   cases kz l
   ·simp only[Z5,adF]
    cases gH l 0 l<;>rfl
   ·rfl
end Go.Proofs.YtcghbgmmgcljkaaGreatDoor
end
section
namespace Go.Proofs.YtcghbgmmgcljkaaGreatDoor
open IntKind (i64)
set_option maxRecDepth 20000
def bD(c:aQ):Int:=
 if c.op=0\/c.op=1\/c.op=2\/c.op=18 then 0 else if c.op=3\/c.op=4\/c.op=15\/c.op=17 then 1 else if c.op=5\/c.op=6 then 2 else if c.op=16 then c.b else if c.op=14\/c.op=19 then 0 else 1
def bZ(c:aQ):Int:=
 if c.op=3\/c.op=4\/c.op=15\/c.op=17\/c.op=14\/c.op=19 then 0 else 1
def iz(c:aQ):Bool:= !(decide (c.op=14)||decide (c.op=17)||decide (c.op=19))
def d5(c:aQ):Bool:=decide (c.op=12)||decide (c.op=13)||decide (c.op=14)||decide (c.op=15)
theorem zz(c:aQ):Ek (c,())=some (bD c,bZ c,()):=by
 rw[Ek]
 unfold bD bZ
 by_cases h0:c.op=0
 ·simp[h0]
 by_cases h1:c.op=1
 ·simp[h1]
 by_cases h2:c.op=2
 ·simp[h2]
 by_cases h18:c.op=18
 ·simp[h18]
 by_cases h3:c.op=3
 ·simp[h3]
 by_cases h4:c.op=4
 ·simp[h4]
 by_cases h15:c.op=15
 ·simp[h15]
 by_cases h17:c.op=17
 ·simp[h17]
 by_cases h5:c.op=5
 ·simp[h5]
 by_cases h6:c.op=6
 ·simp[h6]
 by_cases h16:c.op=16
 ·simp[h16]
 by_cases h14:c.op=14
 ·simp[h14]
 by_cases h19:c.op=19
 ·simp[h19]
 simp[h0,h1,h2,h18,h3,h4,h15,h17,h5,h6,h16,h14,h19]
theorem xC(c:aQ):SZ (c,())=some (vH.mk (bD c) (bZ c) (iz c),()):=by
 rw[SZ]
 unfold bD bZ iz
 by_cases h0:c.op=0
 ·simp[h0]
 by_cases h1:c.op=1
 ·simp[h1]
 by_cases h2:c.op=2
 ·simp[h2]
 by_cases h18:c.op=18
 ·simp[h18]
 by_cases h3:c.op=3
 ·simp[h3]
 by_cases h4:c.op=4
 ·simp[h4]
 by_cases h15:c.op=15
 ·simp[h15]
 by_cases h17:c.op=17
 ·simp[h17]
 by_cases h5:c.op=5
 ·simp[h5]
 by_cases h6:c.op=6
 ·simp[h6]
 by_cases h16:c.op=16
 ·simp[h16]
 by_cases h14:c.op=14
 ·simp[h14]
 by_cases h19:c.op=19
 ·simp[h19]
 simp[h0,h1,h2,h18,h3,h4,h15,h17,h5,h6,h16,h14,h19]
theorem sq(c:aQ):S2 (c.op,())=some (d5 c,()):=by
 rw[S2]
 unfold d5
 by_cases h12:c.op=12
 ·simp[h12]
 by_cases h13:c.op=13
 ·simp[h13]
 by_cases h14:c.op=14
 ·simp[h14]
 by_cases h15:c.op=15
 ·simp[h15]
 simp[h12,h13,h14,h15]
def cE(c:aQ)(h:Int):Int:=h-bD c+bZ c
def okS(c:aQ)(h:Int):Prop:=bD c<=h/\h<=64
instance (c:aQ) (h:Int):Decidable (okS c h):=by unfold okS;infer_instance
theorem ud(f:aB){at0:Nat}{c:aQ}(hc:f.code[at0]?=some c)(h:Int):Eg (f,(at0:Int),h,())=some (decide (okS c h),()):=by
 have h2:(0:Int)<=(at0:Int):=by omega
 rw[Eg]
 simp only[h2,adE,Z_,hc,zz,zm,Z6,Z3]
 rfl
def dq(at0:Int)(c:aQ)(h:Int):List (Int×Int):=
 if c.op=14 then[(c.a,cE c h)]
 else if c.op=17\/c.op=19 then[]
 else if c.op=15\/c.op=13 then[(at0+1,cE c h),(c.a,cE c h)]
 else if c.op=12 then[(at0+1,h),(c.a,h-1)]
 else[(at0+1,cE c h)]
theorem oU(c:aQ):0<=bZ c/\bZ c<=1:=by unfold bZ;split<;>omega
theorem OS(f:aB){at0:Nat}{c:aQ}(hc:f.code[at0]?=some c)(hl:at0<=4294967296)(h:Int)(h1:bD c<=h)(h2:h<=64)(h3:0<=bD c):
 Ie (f,(at0:Int),h,())=some ((dq (at0:Int) c h).map (λp=>[p.1,p.2]),()):=by
 have h0:(0:Int)<=(at0:Int):=by omega
 have lv:=oU c
 have w1:i64.wrap (h-bD c)=h-bD c:=w64 (by omega) (by omega)
 have w2:i64.wrap (h-bD c+bZ c)=h-bD c+bZ c:=w64 (by omega) (by omega)
 have w3:i64.wrap ((at0:Int)+1)=(at0:Int)+1:=w64 (by omega) (by omega)
 have w4:i64.wrap (h-1)=h-1:=w64 (by omega) (by omega)
 rw[Ie]
 simp only[h0,adE,Z_,hc,zz,Z6,Z3,w1,w2]
 unfold dq cE
 by_cases h14:c.op=14
 ·simp[h14]
 by_cases h17:c.op=17
 ·simp[h17]
 by_cases h19:c.op=19
 ·simp[h19]
 by_cases h15:c.op=15
 ·simp[h15,w3]
 by_cases h13:c.op=13
 ·simp[h13,w3]
 by_cases h12:c.op=12
 ·simp[h12,w3,w4]
 simp[h14,h17,h19,h15,h13,h12,w3]
end Go.Proofs.YtcghbgmmgcljkaaGreatDoor
end
section
namespace Go.Proofs.YtcghbgmmgcljkaaGreatDoor
set_option maxRecDepth 20000
section
variable {κ ν:Type} {eq:κ->κ->Bool} (he:∀a b,eq a b=true↔a=b)
include he
variable [DecidableEq κ]
theorem yL(s x:κ)(y:ν):∀es:List (κ×ν),Mp.get eq s (Mp.put eq x y es)=if s=x then some y else Mp.get eq s es
 |[]=>by
  simp only[Mp.put,Mp.get,he]
 |p::r=>by
  simp only[Mp.put,he]
  by_cases h:x=p.1
  ·rw[adI h]
   simp only[Mp.get,he]
   by_cases h2:s=x
   ·rw[adI h2,adI h2]
   ·rw[adH h2,adH h2,adH (by rw[<-h];exact h2)]
  ·rw[adH h]
   simp only[Mp.get,he]
   by_cases h2:s=p.1
   ·rw[adI h2,adI h2,adH (by rw[h2];exactλe=>h e.symm)]
   ·rw[adH h2,adH h2]
    exact yL s x y r
theorem yK(lt:κ->κ->Bool)(s x:κ)(y:ν):∀es:List (κ×ν),es.any (λp=>eq x p.1)=false->Mp.get eq s (Mp.ins lt x y es)=if s=x then some y else Mp.get eq s es
 |[],_=>by simp only[Mp.ins,Mp.get,he]
 |p::r,h=>by
  rw[ab5,abl]at h
  have hx:¬x=p.1:=λe=>by have:=(he _ _).2 e;rw[h.1]at this;cases this
  rw[Mp.ins]
  split
  ·simp only[Mp.get,he]
  ·simp only[Mp.get,he]
   rw[yK lt s x y r h.2]
   by_cases h2:s=p.1
   ·rw[adI h2,adI h2,adH (by rw[h2];exactλe=>hx e.symm)]
   ·rw[adH h2,adH h2]
theorem kI(lt:κ->κ->Bool)(s x:κ)(y:ν)(es:List (κ×ν)):Mp.get eq s (Mp.set eq lt x y es)=if s=x then some y else Mp.get eq s es:=by
 unfold Mp.set
 split
 ·exact yL he s x y es
 ·rename_i h
  exact yK he lt s x y es (by cases hq:es.any (λp=>eq x p.1)with|true=>exact(h hq).elim|false=>rfl)
end
theorem sa{α:Type}{p q:α->Bool}:∀{l:List α},(∀x,p x=true->q x=true)->(∃x∈l,q x=true/\p x=false)->l.countP p<l.countP q
 |[],_,h=>by obtain⟨x,h,_⟩:=h;cases h
 |a::r,hpq,h=>by
  have hle:r.countP p<=r.countP q:=List.countP_mono_left λx _=>hpq x
  rw[List.countP_cons,List.countP_cons]
  obtain⟨x,hx,h1,h2⟩:=h
  rw[aan]at hx
  rcases hx with hx|hx
  ·subst hx;rw[h1,h2];simp;omega
  ·have ih:=sa hpq ⟨x,hx,h1,h2⟩
   cases hp:p a
   ·simp;omega
   ·rw[hpq a hp];simp;omega
def box(n:Nat):List (Nat×Nat):=(abp n).flatMap λa=>(abp 66).map λh=>(a,h)
theorem Ct{n a h:Nat}(ha:a<n)(hh:h<66):(a,h)∈box n:=by
 unfold box
 rw[List.mem_flatMap]
 exact⟨a,List.mem_range.mpr ha,aaA.mpr ⟨h,List.mem_range.mpr hh,rfl⟩⟩
inductive Reach (f:aB):Nat->Int->Prop
 |start:Reach f 0 0
 |step {a:Nat} {h:Int} {c:aQ} {b:Nat} {k:Int}:Reach f a h->f.code[a]?=some c->okS c h->((b:Int),k)∈dq (a:Int) c h->b<f.code.length->Reach f b k
def gZ(f:aB):Prop:=
 ∃a h c,Reach f a h/\f.code[a]?=some c/\(¬okS c h\/(okS c h/\∃k,((f.code.length:Int),k)∈dq (a:Int) c h)\/∃h',Reach f a h'/\h'≠h)
theorem li{f:aB}(hf:1<=f.code.length){a:Nat}{h:Int}(r:Reach f a h):a<f.code.length:=by
 cases r with
 |start=>omega
 |step _ _ _ _ hb=>exact hb
theorem JM{l:List aB}{f:aB}{c:aQ}(hl:∀g∈l,0<=g.params)(hc:di l f c=true):0<=bD c:=by
 unfold bD
 by_cases h16:c.op=16
 ·unfold di at hc
  simp[h16]at hc
  cases hg:l[(cv l c.name0).toNat]? with
  |none=>rw[hg]at hc;simp at hc
  |some g=>
   rw[hg]at hc
   have hb:c.b=g.params:=by simpa using hc.2
   have:=hl g (aae hg)
   simp[h16];omega
 ·split
  ·omega
  ·split
   ·omega
   ·split
    ·omega
    ·split<;>omega
theorem xS{c:aQ}{at0 h b k:Int}(h0:0<=bD c)(hk:okS c h)(hw:(b,k)∈dq at0 c h):0<=k/\k<=65:=by
 have lv:=oU c
 obtain⟨h1,h2⟩:=hk
 have hn:0<=cE c h/\cE c h<=65:=by unfold cE;omega
 unfold dq at hw
 by_cases h14:c.op=14
 ·simp[h14]at hw;omega
 by_cases h17:c.op=17\/c.op=19
 ·simp[h14,h17]at hw
 by_cases h15:c.op=15\/c.op=13
 ·simp[h14,h17,h15]at hw
  rcases hw with hw|hw<;>omega
 by_cases h12:c.op=12
 ·have:bD c=1:=by unfold bD;simp[h12]
  simp[h12]at hw
  rcases hw with hw|hw<;>omega
 ·simp[h14,h17,h15,h12]at hw;omega
end Go.Proofs.YtcghbgmmgcljkaaGreatDoor
end
section
namespace Go.Proofs.YtcghbgmmgcljkaaGreatDoor
set_option maxRecDepth 20000
abbrev peq(x y:aZ):Bool:=Mp.ieq x.at0 y.at0&&Mp.ieq x.height y.height
theorem hU(a b:Int):Mp.ieq a b=true↔a=b:=by unfold Mp.ieq;simp
theorem Fg(a b:aZ):peq a b=true↔a=b:=by
 obtain⟨a1,a2⟩:=a
 obtain⟨b1,b2⟩:=b
 show(Mp.ieq a1 b1&&Mp.ieq a2 b2)=true↔_
 rw[aac,hU,hU,aZ.mk.injEq]
instance:DecidableEq aZ:=λa b=>decidable_of_iff (peq a b=true) (Fg a b)
def has(m:List (aZ×Bool))(p:aZ):Bool:=(Mp.get peq p m).getD false
def Of(m:List (aZ×Bool))(p:aZ):List (aZ×Bool):=Mp.set peq (λ_ _=>false) p true m
theorem oL(m:List (aZ×Bool))(p q:aZ):has (Of m p) q=(decide (q=p)||has m q):=by
 unfold has Of
 rw[kI Fg]
 by_cases h:q=p<;>simp[h]
def LL(n:Nat):List aZ:=(box n).map λx=>aZ.mk (x.1:Int) (x.2:Int)
theorem zd{n a:Nat}{h:Int}(ha:a<n)(h0:0<=h)(h1:h<=65):aZ.mk (a:Int) h∈LL n:=by
 unfold LL
 rw[aaA]
 exact⟨(a,h.toNat),Ct ha (by omega),by show aZ.mk (a:Int) (h.toNat:Int)=_;rw[abL h0]⟩
def jZ(n:Nat)(m:List (aZ×Bool)):Nat:=(LL n).countP λp=> !has m p
theorem Hu{n:Nat}{m:List (aZ×Bool)}{p:aZ}(hp:p∈LL n)(hm:has m p=false):jZ n (Of m p)<jZ n m:=by
 unfold jZ
 refine sa ?_ ⟨p,hp,by rw[hm];rfl,by rw[oL];simp⟩
 intro x hx
 rw[oL]at hx
 cases h:has m x
 ·rfl
 ·rw[h]at hx;simp at hx
def lD(p:aZ)(m:List (aZ×Bool))(q:List aZ):List (aZ×Bool)×List aZ:=if has m p=true then(m,q)else(Of m p,q++[p])
theorem KO(p:aZ)(m:List (aZ×Bool))(q:List aZ)(hq:q.length<4294967296):fK (p,m,q,())=some ((lD p m q).1,(lD p m q).2,()):=by
 rw[fK]
 unfold lD
 show(if(!(has m p))=true then _ else _)=_
 cases h:has m p
 ·simp only[aa4,adE,Z5,adF,aa_]
  rw[adI (by omega)];rfl
 ·rfl
theorem iG(p:aZ)(m:List (aZ×Bool))(q:List aZ)(x:aZ):has (lD p m q).1 x=(decide (x=p)||has m x):=by
 unfold lD
 by_cases h:has m p=true
 ·rw[adI h]
  by_cases e:x=p
  ·rw[e,h];simp
  ·simp[e]
 ·rw[adH h];exact oL m p x
theorem Ch(p:aZ)(m:List (aZ×Bool))(q:List aZ)(x:aZ)(hx:has (lD p m q).1 x=true):has m x=true\/x∈(lD p m q).2:=by
 unfold lD at *
 by_cases h:has m p=true
 ·rw[adI h]at hx;exact .inl hx
 ·rw[adH h]at hx⊢
  rw[oL]at hx
  by_cases e:x=p
  ·right;simp[e]
  ·left;simpa[e]using hx
theorem vK(p:aZ)(m:List (aZ×Bool))(q:List aZ)(x:aZ)(hx:x∈q):x∈(lD p m q).2:=by
 unfold lD
 split
 ·exact hx
 ·exact abk _ hx
theorem vJ(p:aZ)(m:List (aZ×Bool))(q:List aZ)(x:aZ)(hx:x∈(lD p m q).2):x∈q\/x=p:=by
 unfold lD at hx
 split at hx
 ·exact .inl hx
 ·rw[abd,aaS]at hx;exact hx
theorem xY{n:Nat}(p:aZ)(m:List (aZ×Bool))(q:List aZ)(hp:p∈LL n):
 2 *jZ n (lD p m q).1+(lD p m q).2.length<=2 *jZ n m+q.length/\jZ n (lD p m q).1+(lD p m q).2.length<=jZ n m+q.length:=by
 unfold lD
 cases h:has m p
 ·have:=Hu hp h
  simp only[Z5,adF,aax,aa_]
  omega
 ·simp
def LH(a w:Int):Int:=if w<0\/a<w then a else w
theorem wK(a w:Int):gT (a,w,())=some (LH a w,()):=by
 rw[gT];unfold LH
 by_cases h1:w<0
 ·simp[h1]
 ·by_cases h2:a<w<;>simp[h1,h2]
theorem lP{a w:Int}(ha:0<=a):0<=LH a w:=by unfold LH;split<;>omega
end Go.Proofs.YtcghbgmmgcljkaaGreatDoor
end
section
namespace Go.Proofs.YtcghbgmmgcljkaaGreatDoor
open IntKind (i64)
set_option maxRecDepth 20000
def w1S(hm:List (Int×Int))(w:Int)(p:aZ):Int:=
 match Mp.get Mp.ieq p.at0 hm with
 |some h=>if h=p.height then w else LH p.at0 w
 |none=>w
def hmS(hm:List (Int×Int))(p:aZ):List (Int×Int):=Mp.set Mp.ieq Mp.ilt p.at0 p.height hm
def dp(c:aQ)(p:aZ)(m:List (aZ×Bool))(q:List aZ):List (aZ×Bool)×List aZ:=
 if d5 c=true then lD (aZ.mk c.a (if c.op=12 then cE c p.height-1 else cE c p.height)) m q else(m,q)
theorem Mk(p:aZ)(m:List (aZ×Bool))(q:List aZ):(lD p m q).2.length<=q.length+1:=by
 unfold lD
 split
 ·show q.length<=q.length+1;omega
 ·simp
theorem D8(f:aB)(hm:List (Int×Int))(w:Int)(m:List (aZ×Bool))(p:aZ)(q:List aZ){a:Nat}{c:aQ}(ha:p.at0=(a:Int))(hc:f.code[a]?=some c)
 (hp0:0<=p.height)(hp1:p.height<=65)(ht0:0<=bD c)(hq:q.length<4294967000)(hl:f.code.length<=4294967296)(hal:a<f.code.length):
 fc (f,hm,w,m,p::q,())=
  if okS c p.height then
   let j:=dp c p m q
   if iz c=true then
    if a+1=f.code.length then fc (f,hmS hm p,LH (a:Int) (w1S hm w p),j.1,j.2,())
    else
     let k:=lD (aZ.mk ((a+1:Nat):Int) (cE c p.height)) j.1 j.2
     fc (f,hmS hm p,w1S hm w p,k.1,k.2,())
   else fc (f,hmS hm p,w1S hm w p,j.1,j.2,())
  else fc (f,hmS hm p,LH (a:Int) (w1S hm w p),m,q,()):=by
 have lv:=oU c
 have h0:(0:Int)<=(a:Int):=by omega
 have l1:((q.length+1:Nat):Int)>0:=by omega
 have l2:(1:Int)<=((q.length+1:Nat):Int):=by omega
 conv=>lhs;rw[fc]
 simp only[aaf,l1,l2,adJ,adE,aaE,true_and,aaG,aa9,Z6,Z3,ha,acP,aau,show aav 1=1 from rfl]
 have hw1:w1S hm w p=match Mp.get Mp.ieq (a:Int) hm with|some h=>if h=p.height then w else LH (a:Int) w|none=>w:=by unfold w1S;rw[ha]
 have hhm:hmS hm p=Mp.set Mp.ieq Mp.ilt (a:Int) p.height hm:=by unfold hmS;rw[ha]
 rw[hw1,hhm]
 have en:i64.wrap (i64.wrap (p.height-bD c)+bZ c)=cE c p.height\/¬okS c p.height:=by
  by_cases hk:okS c p.height
  ·left
   obtain⟨k1,k2⟩:=hk
   rw[w64 (x:=p.height-bD c) (by omega) (by omega),w64 (by omega) (by omega)];rfl
  ·exact .inr hk
 have ea:i64.wrap ((a:Int)+1)=((a+1:Nat):Int):=by rw[w64 (by omega) (by omega)];omega
 have e12:cE c p.height-1=i64.wrap (cE c p.height-1)\/¬okS c p.height:=by
  by_cases hk:okS c p.height
  ·left
   obtain⟨k1,k2⟩:=hk
   unfold cE
   rw[w64 (by omega) (by omega)]
  ·exact .inr hk
 have hadd:∀(x:aZ),fK (x,m,q,())=some ((lD x m q).1,(lD x m q).2,()):=λx=>KO x m q (by omega)
 have hq2:(dp c p m q).2.length<=q.length+1:=by
  unfold dp
  split
  ·exact Mk _ m q
  ·show q.length<=q.length+1;omega
 have hadd2:∀(x:aZ),fK (x,(dp c p m q).1,(dp c p m q).2,())=some ((lD x (dp c p m q).1 (dp c p m q).2).1,(lD x (dp c p m q).1 (dp c p m q).2).2,()):=λx=>KO x _ _ (by omega)
 have hle:(((a+1:Nat):Int)==(f.code.length:Int))=decide (a+1=f.code.length):=by
  by_cases e:a+1=f.code.length
  ·simp[e]
  ·simp[e];omega
 cases hg:Mp.get Mp.ieq (a:Int) hm with
 |none=>
  simp only[Option.isSome_none,Z5,adF,Z3,ha,h0,adE,Z_,hc,xC,sq,wK]
  by_cases hk:okS c p.height
  ·have k1:¬p.height<bD c:=by have:=hk.1;omega
   have k2:¬p.height>64:=by have:=hk.2;omega
   have en':=en.resolve_right (λh=>h hk)
   have e12':=e12.resolve_right (λh=>h hk)
   simp only[k1,k2,adK,Z5,adF,Z3,adI hk,en',ha]
   cases hj:d5 c
   ·have hjs:dp c p m q=(m,q):=by unfold dp;rw[hj];rfl
    simp only[Z5,adF,Z3,hjs,ha,ea,hle]
    cases hgo:iz c
    ·rfl
    ·simp only[aaC,Z5,adF,adE,adG,Z3,hadd]
   ·have hjs:dp c p m q=lD (aZ.mk c.a (if c.op=12 then cE c p.height-1 else cE c p.height)) m q:=by unfold dp;rw[adI hj]
    rw[hjs]at hadd2
    rw[hjs]
    by_cases h12:c.op=12
    ·have h12':(c.op==12)=true:=by simpa using h12
     rw[adI h12]at hadd2⊢
     simp only[h12',adE,Z3,hadd,ha,ea,hle,<-e12']
     cases hgo:iz c
     ·rfl
     ·simp only[aaC,Z5,adF,adE,adG,Z3,hadd2]
    ·have h12':(c.op==12)=false:=by simpa using h12
     rw[adH h12]at hadd2⊢
     simp only[h12',Z5,adF,adE,Z3,hadd,ha,ea,hle]
     cases hgo:iz c
     ·rfl
     ·simp only[aaC,Z5,adF,adE,adG,Z3,hadd2]
  ·rw[adH hk]
   by_cases k1:p.height<bD c
   ·simp only[k1,adJ,adE,Z3,ha]
   ·have k2:p.height>64:=by
     by_cases k2:p.height>64
     ·exact k2
     ·exact absurd ⟨by omega,by omega⟩ hk
    simp only[k1,k2,adJ,adK,Z5,adF,adE,Z3,ha]
 |some h=>
  by_cases heq:h=p.height
  ·have hb:(h !=p.height)=false:=by simpa using heq
   simp only[acv,adE,abh,Z3,hb,Z5,adF,ha,h0,Z_,hc,xC,sq,wK,adI heq]
   by_cases hk:okS c p.height
   ·have k1:¬p.height<bD c:=by have:=hk.1;omega
    have k2:¬p.height>64:=by have:=hk.2;omega
    have en':=en.resolve_right (λh=>h hk)
    have e12':=e12.resolve_right (λh=>h hk)
    simp only[k1,k2,adK,Z5,adF,Z3,adI hk,en',ha]
    cases hj:d5 c
    ·have hjs:dp c p m q=(m,q):=by unfold dp;rw[hj];rfl
     simp only[Z5,adF,Z3,hjs,ha,ea,hle]
     cases hgo:iz c
     ·rfl
     ·simp only[aaC,Z5,adF,adE,adG,Z3,hadd]
    ·have hjs:dp c p m q=lD (aZ.mk c.a (if c.op=12 then cE c p.height-1 else cE c p.height)) m q:=by unfold dp;rw[adI hj]
     rw[hjs]at hadd2
     rw[hjs]
     by_cases h12:c.op=12
     ·have h12':(c.op==12)=true:=by simpa using h12
      rw[adI h12]at hadd2⊢
      simp only[h12',adE,Z3,hadd,ha,ea,hle,<-e12']
      cases hgo:iz c
      ·rfl
      ·simp only[aaC,Z5,adF,adE,adG,Z3,hadd2]
     ·have h12':(c.op==12)=false:=by simpa using h12
      rw[adH h12]at hadd2⊢
      simp only[h12',Z5,adF,adE,Z3,hadd,ha,ea,hle]
      cases hgo:iz c
      ·rfl
      ·simp only[aaC,Z5,adF,adE,adG,Z3,hadd2]
   ·rw[adH hk]
    by_cases k1:p.height<bD c
    ·simp only[k1,adJ,adE,Z3,ha]
    ·have k2:p.height>64:=by
      by_cases k2:p.height>64
      ·exact k2
      ·exact absurd ⟨by omega,by omega⟩ hk
     simp only[k1,k2,adJ,adK,Z5,adF,adE,Z3,ha]
  ·have hb:(h !=p.height)=true:=by simpa using heq
   simp only[acv,adE,abh,Z3,hb,ha,h0,Z_,hc,xC,sq,wK,adH heq]
   by_cases hk:okS c p.height
   ·have k1:¬p.height<bD c:=by have:=hk.1;omega
    have k2:¬p.height>64:=by have:=hk.2;omega
    have en':=en.resolve_right (λh=>h hk)
    have e12':=e12.resolve_right (λh=>h hk)
    simp only[k1,k2,adK,Z5,adF,Z3,adI hk,en',ha]
    cases hj:d5 c
    ·have hjs:dp c p m q=(m,q):=by unfold dp;rw[hj];rfl
     simp only[Z5,adF,Z3,hjs,ha,ea,hle]
     cases hgo:iz c
     ·rfl
     ·simp only[aaC,Z5,adF,adE,adG,Z3,hadd]
    ·have hjs:dp c p m q=lD (aZ.mk c.a (if c.op=12 then cE c p.height-1 else cE c p.height)) m q:=by unfold dp;rw[adI hj]
     rw[hjs]at hadd2
     rw[hjs]
     by_cases h12:c.op=12
     ·have h12':(c.op==12)=true:=by simpa using h12
      rw[adI h12]at hadd2⊢
      simp only[h12',adE,Z3,hadd,ha,ea,hle,<-e12']
      cases hgo:iz c
      ·rfl
      ·simp only[aaC,Z5,adF,adE,adG,Z3,hadd2]
     ·have h12':(c.op==12)=false:=by simpa using h12
      rw[adH h12]at hadd2⊢
      simp only[h12',Z5,adF,adE,Z3,hadd,ha,ea,hle]
      cases hgo:iz c
      ·rfl
      ·simp only[aaC,Z5,adF,adE,adG,Z3,hadd2]
   ·rw[adH hk]
    by_cases k1:p.height<bD c
    ·simp only[k1,adJ,adE,Z3,ha]
    ·have k2:p.height>64:=by
      by_cases k2:p.height>64
      ·exact k2
      ·exact absurd ⟨by omega,by omega⟩ hk
     simp only[k1,k2,adJ,adK,Z5,adF,adE,Z3,ha]
end Go.Proofs.YtcghbgmmgcljkaaGreatDoor
end
section
namespace Go.Proofs.YtcghbgmmgcljkaaGreatDoor
set_option maxRecDepth 20000
def Wx(f:aB)(hm:List (Int×Int))(m:List (aZ×Bool))(x:aZ):Prop:=
 ∃(a:Nat) (c:aQ),x.at0=(a:Int)/\f.code[a]?=some c/\Mp.get Mp.ieq x.at0 hm=some x.height/\okS c x.height/\∀b k,(b,k)∈dq (a:Int) c x.height->b≠(f.code.length:Int)/\has m (aZ.mk b k)=true
structure Inv (f:aB) (hm:List (Int×Int)) (w:Int) (m:List (aZ×Bool)) (q:List aZ):Prop where
 reach:∀x,has m x=true->∃a:Nat,x.at0=(a:Int)/\Reach f a x.height
 queue:∀x∈q,has m x=true
 done:w<0->∀x,has m x=true->x∈q\/Wx f hm m x
 fault:0<=w->gZ f
 hms:∀a h,Mp.get Mp.ieq a hm=some h->∃n:Nat,a=(n:Int)/\Reach f n h
 zero:has m (aZ.mk 0 0)=true
theorem nv{f:aB}{hm:List (Int×Int)}{w:Int}{m:List (aZ×Bool)}{p:aZ}{q:List aZ}(I:Inv f hm w m (p::q)){a:Nat}{c:aQ}(ha:p.at0=(a:Int))(hc:f.code[a]?=some c)
 {w':Int}{m':List (aZ×Bool)}{q':List aZ}
 (W1:0<=w->0<=w')(W2:0<=w'->gZ f)
 (W3:w'<0->okS c p.height/\(∀h,Mp.get Mp.ieq p.at0 hm=some h->h=p.height)/\∀b k,(b,k)∈dq (a:Int) c p.height->b≠(f.code.length:Int)/\has m' (aZ.mk b k)=true)
 (M1:∀x,has m x=true->has m' x=true)(M2:∀x,has m' x=true->has m x=true\/(x∈q'/\∃b:Nat,x.at0=(b:Int)/\Reach f b x.height))
 (M3:∀x∈q',has m' x=true)(M5:∀x∈q,x∈q'):Inv f (hmS hm p) w' m' q' where
 reach x hx:=by
  rcases M2 x hx with h|h
  ·exact I.reach x h
  ·exact h.2
 queue:=M3
 done hw x hx:=by
  have hw0:w<0:=by
   by_cases h:0<=w
   ·have:=W1 h;omega
   ·omega
  obtain⟨k1,k2,k3⟩:=W3 hw
  rcases M2 x hx with h|h
  ·rcases I.done hw0 x h with hq|⟨a',c',e1,e2,e3,e4,e5⟩
   ·rw[aan]at hq
    rcases hq with hq|hq
    ·subst hq
     refine .inr ⟨a,c,ha,hc,?_,k1,k3⟩
     unfold hmS;rw[kI hU,adI rfl]
    ·exact .inl (M5 x hq)
   ·refine .inr ⟨a',c',e1,e2,?_,e4,λb k hb=>⟨(e5 b k hb).1,M1 _ (e5 b k hb).2⟩⟩
    unfold hmS
    rw[kI hU]
    by_cases e:x.at0=p.at0
    ·rw[adI e]
     rw[e]at e3
     rw[k2 _ e3]
    ·rw[adH e];exact e3
  ·exact .inl h.1
 fault:=W2
 hms b h hb:=by
  unfold hmS at hb
  rw[kI hU]at hb
  by_cases e:b=p.at0
  ·rw[adI e,Z7]at hb
   subst hb
   have:=I.reach p (I.queue p (aal ..))
   rw[e];exact this
  ·rw[adH e]at hb
   exact I.hms b h hb
 zero:=M1 _ I.zero
theorem M6{f:aB}{hm:List (Int×Int)}{w:Int}{m:List (aZ×Bool)}(I:Inv f hm w m []):0<=w↔gZ f:=by
 refine⟨I.fault,λF=> ?_⟩
 by_cases hw:0<=w
 ·exact hw
 ·exfalso
  have all:∀a h,Reach f a h->has m (aZ.mk (a:Int) h)=true:=by
   intro a h r
   induction r with
   |start=>exact I.zero
   |step r hc hk hw' hb ih=>
    rcases I.done (by omega) _ ih with h|⟨a',c',e1,e2,e3,e4,e5⟩
    ·cases h
    ·have ea:a'=_:=(adn e1).symm
     subst ea
     rw[hc,Z7]at e2
     subst e2
     exact(e5 _ _ hw').2
  have dn:∀a h,Reach f a h->Wx f hm m (aZ.mk (a:Int) h):=by
   intro a h r
   rcases I.done (by omega) _ (all a h r)with h|h
   ·cases h
   ·exact h
  obtain⟨a,h,c,r,hc,hF⟩:=F
  obtain⟨a',c',e1,e2,e3,e4,e5⟩:=dn a h r
  have ea:a'=a:=(adn e1).symm
  subst ea
  rw[hc,Z7]at e2
  subst e2
  rcases hF with hF|⟨_,k,hF⟩|⟨h',r',hF⟩
  ·exact hF e4
  ·exact(e5 _ _ hF).1 rfl
  ·obtain⟨_,_,_,_,e3',_,_⟩:=dn a' h' r'
   have e3'':Mp.get Mp.ieq (a':Int) hm=some h:=e3
   have e4'':Mp.get Mp.ieq (a':Int) hm=some h':=e3'
   rw[e3'',Z7]at e4''
   exact hF e4''.symm
end Go.Proofs.YtcghbgmmgcljkaaGreatDoor
end
section
namespace Go.Proofs.YtcghbgmmgcljkaaGreatDoor
set_option maxRecDepth 20000
def Pa(c:aQ)(h:Int):Int:=if c.op=12 then cE c h-1 else cE c h
theorem cT{at0:Int}{c:aQ}{h b k:Int}:(b,k)∈dq at0 c h↔(d5 c=true/\b=c.a/\k=Pa c h)\/(iz c=true/\b=at0+1/\k=cE c h):=by
 unfold dq d5 iz Pa
 by_cases h14:c.op=14
 ·simp[h14]
 by_cases h17:c.op=17
 ·simp[h17]
 by_cases h19:c.op=19
 ·simp[h19]
 by_cases h15:c.op=15
 ·simp[h15,or_comm]
 by_cases h13:c.op=13
 ·simp[h13,or_comm]
 by_cases h12:c.op=12
 ·have e:cE c h=h:=by unfold cE bD bZ;simp[h12]
  simp[h12,e,or_comm]
 simp[h14,h17,h19,h15,h13,h12]
def vG(f:aB):Prop:=1<=f.code.length/\f.code.length<=3000/\∀c∈f.code,0<=bD c/\(d5 c=true->∃b:Nat,c.a=(b:Int)/\b<f.code.length)
theorem xf{f:aB}(S:vG f){a:Nat}{h:Int}(r:Reach f a h):0<=h/\h<=65:=by
 cases r with
 |start=>omega
 |step _ hc hk hw _=>exact xS (S.2.2 _ (aae hc)).1 hk hw
theorem iX{f:aB}(S:vG f):∀(N:Nat) (hm:List (Int×Int)) (w:Int) (m:List (aZ×Bool)) (q:List aZ),2 *jZ f.code.length m+q.length<=N->jZ f.code.length m+q.length<=4294960000->Inv f hm w m q->
 ∃w' m',fc (f,hm,w,m,q,())=some (w',m',())/\(0<=w'↔gZ f)
 |N,hm,w,m,[],hN,hB,I=>by
  refine⟨w,m,?_,M6 I⟩
  rw[fc]
  simp
 |0,hm,w,m,p::q,hN,hB,I=>by simp at hN
 |N+1,hm,w,m,p::q,hN,hB,I=>by
  obtain⟨a,ha,r⟩:=I.reach p (I.queue p (aal ..))
  have hal:=li S.1 r
  obtain⟨c,hc⟩:∃c,f.code[a]?=some c:=⟨_,Z8 hal⟩
  obtain⟨t0,tj⟩:=S.2.2 c (aae hc)
  obtain⟨p0,p1⟩:=xf S r
  rw[aaf]at hN hB
  have a0:(0:Int)<=(a:Int):=by omega
  have c1:0<=w->0<=w1S hm w p:=by
   intro h;unfold w1S
   split
   ·split
    ·exact h
    ·rw[ha];exact lP a0
   ·exact h
  have c2:0<=w1S hm w p->gZ f:=by
   intro h;unfold w1S at h
   split at h
   ·rename_i h' hg
    split at h
    ·exact I.fault h
    ·rename_i hne
     obtain⟨n,e,r'⟩:=I.hms _ _ hg
     have en:n=a:=by rw[ha]at e;exact(adn e).symm
     subst en
     exact⟨n,p.height,c,r,hc, .inr (.inr ⟨h',r',hne⟩)⟩
   ·exact I.fault h
  have c3:w1S hm w p<0->∀h,Mp.get Mp.ieq p.at0 hm=some h->h=p.height:=by
   intro hw h hg;unfold w1S at hw
   rw[hg]at hw
   simp only at hw
   split at hw
   ·assumption
   ·rw[ha]at hw;have:=lP (w:=w) a0;omega
  rw[D8 f hm w m p q ha hc p0 p1 t0 (by omega) (by have:=S.2.1;omega) hal]
  by_cases hk:okS c p.height
  ·rw[adI hk]
   have J1:∀x,has m x=true->has (dp c p m q).1 x=true:=by
    intro x hx;unfold dp
    split
    ·rw[iG,hx];simp
    ·exact hx
   have J2:∀x,has (dp c p m q).1 x=true->has m x=true\/(x∈(dp c p m q).2/\∃b:Nat,x.at0=(b:Int)/\Reach f b x.height):=by
    intro x hx
    unfold dp at hx⊢
    by_cases hj:d5 c=true
    ·rw[adI hj]at hx⊢
     rcases Ch _ _ _ _ hx with h|h
     ·exact .inl h
     ·by_cases hm0:has m x=true
      ·exact .inl hm0
      ·right
       rw[iG]at hx
       have e:x=aZ.mk c.a (if c.op=12 then cE c p.height-1 else cE c p.height):=by
        cases hh:has m x
        ·rw[hh]at hx;simpa using hx
        ·exact absurd hh hm0
       refine⟨h,?_⟩
       obtain⟨b,eb,hb⟩:=tj hj
       rw[e]
       exact⟨b,eb,Reach.step r hc hk (cT.mpr (.inl ⟨hj,eb.symm,rfl⟩)) hb⟩
    ·rw[adH hj]at hx;exact .inl hx
   have J3:∀x∈(dp c p m q).2,has (dp c p m q).1 x=true:=by
    intro x hx
    unfold dp at hx⊢
    by_cases hj:d5 c=true
    ·rw[adI hj]at hx⊢
     rw[iG]
     rcases vJ _ _ _ _ hx with h|h
     ·rw[I.queue x (aag _ h)];simp
     ·simp[h]
    ·rw[adH hj]at hx⊢;exact I.queue x (aag _ hx)
   have J5:∀x∈q,x∈(dp c p m q).2:=by
    intro x hx;unfold dp
    split
    ·exact vK _ _ _ _ hx
    ·exact hx
   have J6:d5 c=true->has (dp c p m q).1 (aZ.mk c.a (Pa c p.height))=true:=by
    intro hj;unfold dp;rw[adI hj,iG];simp[Pa]
   have J7:2 *jZ f.code.length (dp c p m q).1+(dp c p m q).2.length<=2 *jZ f.code.length m+q.length/\jZ f.code.length (dp c p m q).1+(dp c p m q).2.length<=jZ f.code.length m+q.length:=by
    unfold dp
    by_cases hj:d5 c=true
    ·rw[adI hj]
     obtain⟨b,eb,hb⟩:=tj hj
     have hh:=xS (at0:=(a:Int)) (b:=c.a) (k:=Pa c p.height) t0 hk (cT.mpr (.inl ⟨hj,rfl,rfl⟩))
     refine xY _ m q ?_
     rw[eb]
     exact zd hb hh.1 hh.2
    ·rw[adH hj];exact⟨aay _,aay _⟩
   simp only[]
   by_cases hg:iz c=true
   ·rw[adI hg]
    by_cases hend:a+1=f.code.length
    ·rw[adI hend]
     refine iX S N _ _ _ _ (by omega) (by omega) (nv I ha hc (λ_=>lP a0) (λ_=> ?_) (λh=> ?_) J1 J2 J3 J5)
     ·exact⟨a,p.height,c,r,hc, .inr (.inl ⟨hk,cE c p.height,cT.mpr (.inr ⟨hg,by omega,rfl⟩)⟩)⟩
     ·have:=lP (w:=w1S hm w p) a0;omega
    ·rw[adH hend]
     have hh:=xS (at0:=(a:Int)) (b:=(a:Int)+1) (k:=cE c p.height) t0 hk (cT.mpr (.inr ⟨hg,rfl,rfl⟩))
     have sz:=xY (n:=f.code.length) (aZ.mk ((a+1:Nat):Int) (cE c p.height)) (dp c p m q).1 (dp c p m q).2 (zd (by omega) hh.1 hh.2)
     refine iX S N _ _ _ _ (by omega) (by omega) (nv I ha hc c1 c2 (λh=>⟨hk,c3 h,?_⟩) ?_ ?_ ?_ ?_)
     ·intro b k hw
      rcases cT.mp hw with⟨h1,h2,h3⟩|⟨h1,h2,h3⟩
      ·obtain⟨b',eb,hb⟩:=tj h1
       refine⟨by omega,?_⟩
       rw[iG,h2,h3,J6 h1];simp
      ·refine⟨by omega,?_⟩
       rw[iG,h2,h3]
       simp
     ·intro x hx;rw[iG,J1 x hx];simp
     ·intro x hx
      rcases Ch _ _ _ _ hx with h|h
      ·rcases J2 x h with h|⟨h,h'⟩
       ·exact .inl h
       ·exact .inr ⟨vK _ _ _ _ h,h'⟩
      ·rcases vJ _ _ _ _ h with h'|h'
       ·rcases J2 x (J3 x h')with h2|⟨_,h2⟩
        ·exact .inl h2
        ·exact .inr ⟨h,h2⟩
       ·refine .inr ⟨h,?_⟩
        rw[h']
        exact⟨a+1,rfl,Reach.step r hc hk (cT.mpr (.inr ⟨hg,by omega,rfl⟩)) (by omega)⟩
     ·intro x hx
      rw[iG]
      rcases vJ _ _ _ _ hx with h|h
      ·rw[J3 x h];simp
      ·simp[h]
     ·intro x hx;exact vK _ _ _ _ (J5 x hx)
   ·rw[adH hg]
    refine iX S N _ _ _ _ (by omega) (by omega) (nv I ha hc c1 c2 (λh=>⟨hk,c3 h,?_⟩) J1 J2 J3 J5)
    intro b k hw
    rcases cT.mp hw with⟨h1,h2,h3⟩|⟨h1,h2,h3⟩
    ·obtain⟨b',eb,hb⟩:=tj h1
     refine⟨by omega,?_⟩
     rw[h2,h3];exact J6 h1
    ·exact absurd h1 hg
  ·rw[adH hk]
   refine iX S N _ _ _ _ (by omega) (by omega) (nv I ha hc (λ_=>lP a0) (λ_=>⟨a,p.height,c,r,hc, .inl hk⟩) (λh=> ?_) (λ_ h=>h) (λ_ h=> .inl h) (λx hx=>I.queue x (aag _ hx)) (λ_ h=>h))
   have:=lP (w:=w1S hm w p) a0;omega
end Go.Proofs.YtcghbgmmgcljkaaGreatDoor
end
section
namespace Go.Proofs.YtcghbgmmgcljkaaGreatDoor
set_option maxRecDepth 20000
theorem Nh(n:Nat)(m:List (aZ×Bool)):jZ n m<=66 *n:=by
 have h1:jZ n m<=(LL n).length:=acH
 have h2:(LL n).length=66 *n:=by
  unfold LL box
  rw[aab,adr]
  have:∀k:Nat,((abp k).map λa=>((abp 66).map λh=>(a,h)).length).sum=66 *k:=by
   intro k
   induction k with
   |zero=>rfl
   |succ k ih=>rw[List.range_succ (n:=k),aa0,List.sum_append,ih];simp;omega
  exact this n
 omega
theorem Nj{f:aB}(S:vG f):∃w m,SV (f,())=some (w,m,())/\(0<=w↔gZ f):=by
 have hs:=oL [] (aZ.mk 0 0)
 have hn:∀x,has [] x=false:=λ_=>rfl
 have I:Inv f [] (-1) (Of [] (aZ.mk 0 0)) [aZ.mk 0 0]:=
  { reach:=λx hx=>by
     rw[hs,hn,Bool.or_false,adG]at hx
     rw[hx];exact⟨0,rfl,Reach.start⟩
    queue:=λx hx=>by
     rw[aaS]at hx
     rw[hs,hx];simp
    done:=λ_ x hx=>by
     rw[hs,hn,Bool.or_false,adG]at hx
     left;rw[hx];exact aaS.mpr rfl
    fault:=λh=>by omega
    hms:=λa h hb=>by cases hb
    zero:=by rw[hs];simp}
 have hl:=Nh f.code.length (Of [] (aZ.mk 0 0))
 have:=S.2.1
 obtain⟨w,m,h,hF⟩:=iX S _ [] (-1) (Of [] (aZ.mk 0 0)) [aZ.mk 0 0] (aay _) (by rw[aa_];omega) I
 rw[SV]
 have e:fc (f,[],(-1:Int),Mp.set (λx y=>Mp.ieq x.at0 y.at0&&Mp.ieq x.height y.height) (λx x_1=>false) (aZ.mk 0 0) true [],[aZ.mk 0 0],())=some (w,m,()):=h
 rw[e]
 exact⟨w,m,rfl,hF⟩
end Go.Proofs.YtcghbgmmgcljkaaGreatDoor
end
section
namespace Go.Proofs.YtcghbgmmgcljkaaGreatDoor
set_option maxRecDepth 20000
theorem qK(f:aB)(n:Nat)(hn:n<=3000):∀(j k:Nat),k+j=n->
 i5 ((k:Int),f,aap k (some [])++aap j none,())=some (f,aap n (some []),())
 |0,k,h=>by
  rw[i5]
  have e:k=n:=by omega
  simp[e]
 |j+1,k,h=>by
  have h1:(k:Int)<((k+(j+1):Nat):Int):=by omega
  have h2:(0:Int)<=(k:Int):=by omega
  have h3:k<k+(j+1):=by omega
  have w:IntKind.i64.wrap ((k:Int)+1)=((k+1:Nat):Int):=by rw[w64 (by omega) (by omega)];omega
  have ih:=qK f n hn j (k+1) (by omega)
  have e:(aap k (some ([]:List (Int×Bool)))++aap (j+1) none).set k (some [])=aap (k+1) (some [])++aap j none:=by
   rw[acF _ _ (by simp),aaU,Nat.sub_self,List.replicate_succ (n:=j),List.set_cons_zero,List.replicate_succ',abo]
   rfl
  rw[i5]
  simp only[aax,aaU,h1,h2,h3,adJ,adE,and_self,Z_,show¬24=1004 by decide,not_false_eq_true,w,e]
  exact ih
def Fb(n:Int)(P:List (Int×Int)):Bool:=P.any λp=>decide (p.1>=n)
def inR(n:Int)(P:List (Int×Int)):List (List Int):=(P.filter λp=>decide (p.1<n)).map λp=>[p.1,p.2]
theorem pV(f:aB)(a:Nat)(P:List (Int×Int))(hP:P.length<=100)(seen:List (Option (List (Int×Bool)))):∀(j k:Nat) (out:List Bool) (q:List (List Int)),k+j=P.length->a<out.length->q.length+j<4294967296->
 gr ((a:Int),P.map (λp=>[p.1,p.2]),(k:Int),f,seen,out,q,())=some (f,seen,if Fb (f.code.length:Int) (P.drop k)=true then out.set a true else out,q++inR (f.code.length:Int) (P.drop k),())
 |0,k,out,q,h,ha,hq=>by
  rw[gr,cu (by omega)]
  have:¬(k:Int)<((P.map (λp=>[p.1,p.2])).length:Int):=by rw[aab];omega
  simp only[this,adK,Z5,adF]
  simp[Fb,inR]
 |j+1,k,out,q,h,ha,hq=>by
  obtain⟨x,hx,hm,hd⟩:=bI (l:=P) (k:=k) (by omega)
  have h1:(k:Int)<((P.map (λp=>[p.1,p.2])).length:Int):=by rw[aab];omega
  have h2:(0:Int)<=(k:Int):=by omega
  have h3:(0:Int)<=(a:Int):=by omega
  have h4:(a:Int)<(out.length:Int):=by omega
  have w:IntKind.i64.wrap ((k:Int)+1)=((k+1:Nat):Int):=by rw[w64 (by omega) (by omega)];omega
  have hx':(P.map (λp=>[p.1,p.2]))[k]?=some [x.1,x.2]:=by rw[aaa,hx];rfl
  have e0:[x.1,x.2][aav 0]?=some x.1:=rfl
  rw[gr,hd]
  simp only[h1,h2,adJ,adE,Z_,hx',e0,Z6,Z3]
  by_cases hb:x.1>=(f.code.length:Int)
  ·have ih:=pV f a P hP seen j (k+1) (out.set a true) q (by omega) (by rw[aaW];exact ha) (by omega)
   have hb':¬x.1<(f.code.length:Int):=by omega
   simp only[hb,adJ,adE,h3,h4,and_self,Z8 ha,Z3,w,ih]
   have e1:Fb (f.code.length:Int) (x::P.drop (k+1))=true:=by unfold Fb;rw[ab5,decide_eq_true hb,acx]
   have e2:inR (f.code.length:Int) (x::P.drop (k+1))=inR (f.code.length:Int) (P.drop (k+1)):=by
    unfold inR;rw[List.filter_cons_of_neg (by simpa using hb)]
   rw[adI e1,e2,List.set_set]
   simp
  ·have ih:=pV f a P hP seen j (k+1) out (q++[[x.1,x.2]]) (by omega) ha (by simp;omega)
   have hb':x.1<(f.code.length:Int):=by omega
   simp only[hb,adK,Z5,adF,aa_]
   rw[adI (by omega)]
   simp only[Z3,w,ih]
   have e1:Fb (f.code.length:Int) (x::P.drop (k+1))=Fb (f.code.length:Int) (P.drop (k+1)):=by unfold Fb;rw[ab5,decide_eq_false hb,ab6]
   have e2:inR (f.code.length:Int) (x::P.drop (k+1))=[x.1,x.2]::inR (f.code.length:Int) (P.drop (k+1)):=by
    unfold inR;rw[List.filter_cons_of_pos (by simpa using hb')];rfl
   rw[e1,e2]
   simp
end Go.Proofs.YtcghbgmmgcljkaaGreatDoor
end
section
namespace Go.Proofs.YtcghbgmmgcljkaaGreatDoor
set_option maxRecDepth 20000
def mZ(M:List (List (Int×Bool)))(a:Nat)(h:Int):Bool:=match M[a]? with|some m=>(Mp.get Mp.ieq h m).getD false|none=>false
def Cc(M:List (List (Int×Bool)))(a:Nat)(h:Int):List (List (Int×Bool)):=match M[a]? with|some m=>M.set a (Mp.set Mp.ieq Mp.ilt h true m)|none=>M
theorem sk{M:List (List (Int×Bool))}{a:Nat}(ha:a<M.length)(h:Int)(b:Nat)(k:Int):mZ (Cc M a h) b k=(decide (b=a/\k=h)||mZ M b k):=by
 unfold Cc
 rw[Z8 ha]
 unfold mZ
 by_cases e:b=a
 ·subst e
  simp only[acm ha,Z8 ha,kI hU]
  by_cases e2:k=h<;>simp[e2]
 ·simp only[aca (λx=>e x.symm)]
  simp[e]
theorem zi(M:List (List (Int×Bool)))(a:Nat)(h:Int):(Cc M a h).length=M.length:=by
 unfold Cc;split
 ·exact aaW
 ·rfl
def zS(m:List (Int×Bool)):Prop:=(m.map Prod.fst).Nodup/\∀e∈m,e.2=true
theorem Hk{m:List (Int×Bool)}(g:zS m){h:Int}(hh:(Mp.get Mp.ieq h m).getD false=false):zS (Mp.set Mp.ieq Mp.ilt h true m):=by
 have hnone:∀(m:List (Int×Bool)),(∀e∈m,e.2=true)->(Mp.get Mp.ieq h m).getD false=false->∀e∈m,e.1≠h:=by
  intro m
  induction m with
  |nil=>intro _ _ e he;cases he
  |cons x r ih=>
   intro hv hg e he
   simp only[Mp.get,hU]at hg
   by_cases hx:h=x.1
   ·rw[adI hx,hv x (aal ..)]at hg;cases hg
   ·rw[adH hx]at hg
    rw[aan]at he
    rcases he with he|he
    ·rw[he];exactλe=>hx e.symm
    ·exact ih (λe he=>hv e (aag _ he)) hg e he
 have hno:=hnone m g.2 hh
 have ins:∀(m:List (Int×Bool)),(Mp.ins Mp.ilt h true m).Perm ((h,true)::m):=by
  intro m
  induction m with
  |nil=>exact List.Perm.refl _
  |cons x r ih=>
   rw[Mp.ins]
   split
   ·exact List.Perm.refl _
   ·exact(ih.cons x).trans (List.Perm.swap ..)
 unfold Mp.set
 split
 ·rename_i ha
  rw[aa6]at ha
  obtain⟨e,he,e2⟩:=ha
  exact absurd ((hU _ _).mp e2).symm (hno e he)
 ·have p:=ins m
  refine⟨?_,λe he=> ?_⟩
  ·rw[(p.map Prod.fst).nodup_iff,aah,acL]
   refine⟨λhm=> ?_,g.1⟩
   rw[aaA]at hm
   obtain⟨e,he,e2⟩:=hm
   exact hno e he e2
  ·have:=p.mem_iff.mp he
   rw[aan]at this
   rcases this with e1|e1
   ·rw[e1]
   ·exact g.2 e e1
theorem t_{M:List (List (Int×Bool))}(g:∀m∈M,zS m){a:Nat}{h:Int}(hs:mZ M a h=false):∀m∈Cc M a h,zS m:=by
 intro m hm
 unfold Cc at hm
 unfold mZ at hs
 cases hx:M[a]? with
 |none=>rw[hx]at hm;exact g m hm
 |some x=>
  rw[hx]at hm hs
  simp only at hm hs
  rcases ac1 hm with h1|h1
  ·exact g m h1
  ·rw[h1];exact Hk (g x (aae hx)) hs
theorem Fc{f:aB}(S:vG f)(M:List (List (Int×Bool)))(hM:M.length=f.code.length)(out:List Bool)(ho:out.length=f.code.length)(a:Nat)(h:Int)(q:List (List Int)){c:aQ}(hc:f.code[a]?=some c)(hal:a<f.code.length)(hq:q.length<4294967000):
 eG (f,M.map some,out,[(a:Int),h]::q,())=
  if mZ M a h=true then eG (f,M.map some,out,q,())
  else if okS c h then eG (f,(Cc M a h).map some,if Fb (f.code.length:Int) (dq (a:Int) c h)=true then out.set a true else out,q++inR (f.code.length:Int) (dq (a:Int) c h),())
  else eG (f,(Cc M a h).map some,out,q,()):=by
 have haM:a<M.length:=by omega
 have h0:(0:Int)<=(a:Int):=by omega
 have h1:(a:Int)<((M.map some).length:Int):=by rw[aab];omega
 have l1:((q.length+1:Nat):Int)>0:=by omega
 have l2:(1:Int)<=((q.length+1:Nat):Int):=by omega
 have g0:[(a:Int),h][(0/1:Nat)]?=some (a:Int):=rfl
 have g1:[(a:Int),h][(1/1:Nat)]?=some h:=rfl
 have gm:(M.map some)[a]?=some (some M[a]):=by rw[aaa,Z8 haM];rfl
 have hp:(M.map some).set a (some (Mp.set Mp.ieq Mp.ilt h true M[a]))=(Cc M a h).map some:=by
  unfold Cc;rw[Z8 haM,abI]
 have hh:mZ M a h=(Mp.get Mp.ieq h M[a]).getD false:=by unfold mZ;rw[Z8 haM]
 conv=>lhs;rw[eG]
 simp only[aaf,l1,l2,adJ,adE,aaE,aaG,aa9,Z6,Z3,g0,g1,h0,h1,and_self,Z_,gm,acP,aau,show aav 1=1 from rfl,hp,<-hh,ud f hc]
 cases mZ M a h
 ·simp only[Z5,adF]
  by_cases hk:okS c h
  ·obtain⟨k1,k2⟩:=hk
   have hk:okS c h:=⟨k1,k2⟩
   have t0:=(S.2.2 c (aae hc)).1
   have wl:(dq (a:Int) c h).length<=2:=by
    unfold dq;repeat' split
    all_goals simp
   have wo:=OS f hc (by have:=S.2.1;omega) h k1 k2 t0
   have lp:=pV f a (dq (a:Int) c h) (by omega) ((Cc M a h).map some) _ 0 out q (aad _) (by omega) (by omega)
   rw[aar,aau]at lp
   simp only[hk,adJ,aaC,Z5,adF,wo,lp,Z3,adE]
  ·simp only[hk,adK,aa4,adE,adF]
 ·simp
end Go.Proofs.YtcghbgmmgcljkaaGreatDoor
end
section
namespace Go.Proofs.YtcghbgmmgcljkaaGreatDoor
set_option maxRecDepth 20000
def wG(n:Nat)(M:List (List (Int×Bool))):Nat:=(box n).countP λp=> !mZ M p.1 (p.2:Int)
theorem D1{n a:Nat}{M:List (List (Int×Bool))}{h:Int}(ha:a<M.length)(han:a<n)(h0:0<=h)(h1:h<=65)(hm:mZ M a h=false):wG n (Cc M a h)<wG n M:=by
 unfold wG
 have e:((h.toNat:Nat):Int)=h:=abL h0
 refine sa ?_ ⟨(a,h.toNat),Ct han (by omega),by rw[e,hm];rfl,by rw[sk ha,e];simp⟩
 intro x hx
 rw[sk ha]at hx
 cases h:mZ M x.1 (x.2:Int)
 ·rfl
 ·rw[h]at hx;simp at hx
structure KL (f:aB) (M:List (List (Int×Bool))) (out:List Bool) (q:List (List Int)):Prop where
 lenM:M.length=f.code.length
 lenO:out.length=f.code.length
 reach:∀(a:Nat) h,mZ M a h=true->Reach f a h
 queue:∀x∈q,∃(a:Nat) (h:Int),x=[(a:Int),h]/\Reach f a h
 done:∀(a:Nat) h c,mZ M a h=true->f.code[a]?=some c->okS c h->∀b k,(b,k)∈dq (a:Int) c h->(b=(f.code.length:Int)->out[a]?=some true)/\∀b':Nat,b=(b':Int)->b'<f.code.length->mZ M b' k=true\/[(b':Int),k]∈q
 outs:∀a:Nat,out[a]?=some true->∃h c k,Reach f a h/\f.code[a]?=some c/\okS c h/\((f.code.length:Int),k)∈dq (a:Int) c h
 zero:mZ M 0 0=true\/[(0:Int),0]∈q
 good:∀m∈M,zS m
theorem Gn{f:aB}(S:vG f){a:Nat}{c:aQ}(hc:f.code[a]?=some c)(hal:a<f.code.length){h b k:Int}(hw:(b,k)∈dq (a:Int) c h):0<=b/\b<=(f.code.length:Int):=by
 rcases cT.mp hw with⟨h1,h2,_⟩|⟨_,h2,_⟩
 ·obtain⟨b',e,hb⟩:=(S.2.2 c (aae hc)).2 h1
  omega
 ·omega
theorem jB{f:aB}(S:vG f):∀(N:Nat) (M:List (List (Int×Bool))) (out:List Bool) (q:List (List Int)),3 *wG f.code.length M+q.length<=N->3 *wG f.code.length M+q.length<=4294960000->KL f M out q->
 ∃M' out',eG (f,M.map some,out,q,())=some (M'.map some,out',())/\KL f M' out' []
 |N,M,out,[],hN,hB,I=>by
  refine⟨M,out,?_,I⟩
  rw[eG]
  simp
 |0,M,out,p::q,hN,hB,I=>by simp at hN
 |N+1,M,out,p::q,hN,hB,I=>by
  obtain⟨a,h,ep,r⟩:=I.queue p (aal ..)
  subst ep
  have hal:=li S.1 r
  obtain⟨c,hc⟩:∃c,f.code[a]?=some c:=⟨_,Z8 hal⟩
  obtain⟨p0,p1⟩:=xf S r
  have haM:a<M.length:=by have:=I.lenM;omega
  rw[aaf]at hN hB
  rw[Fc S M I.lenM out I.lenO a h q hc hal (by omega)]
  cases hs:mZ M a h
  ·rw[adH (by decide)]
   have lp:=D1 haM hal p0 p1 hs
   have hput:=sk haM h
   by_cases hk:okS c h
   ·rw[adI hk]
    have wl:(inR (f.code.length:Int) (dq (a:Int) c h)).length<=2:=by
     have:(dq (a:Int) c h).length<=2:=by
      unfold dq;repeat' split
      all_goals simp
     unfold inR
     rw[aab]
     exact abA (List.length_filter_le _ _) this
    refine jB S N _ _ _ (by rw[aax];omega) (by rw[aax];omega) ?_
    refine{lenM:=by rw[zi];exact I.lenM,lenO:= ?_,reach:= ?_,queue:= ?_,done:= ?_,outs:= ?_,zero:= ?_,good:=t_ I.good hs}
    ·split
     ·rw[aaW];exact I.lenO
     ·exact I.lenO
    ·intro b k hb
     rw[hput,aaI,adG]at hb
     rcases hb with⟨h1,h2⟩|hb
     ·rw[h1,h2];exact r
     ·exact I.reach b k hb
    ·intro x hx
     rw[abd]at hx
     rcases hx with hx|hx
     ·exact I.queue x (aag _ hx)
     ·unfold inR at hx
      rw[aaA]at hx
      obtain⟨y,hy,e⟩:=hx
      rw[acu,adG]at hy
      have hb:=Gn S hc hal (b:=y.1) (k:=y.2) hy.1
      refine⟨y.1.toNat,y.2,?_,Reach.step r hc hk ?_ (by omega)⟩
      ·rw[<-e,abL hb.1]
      ·rw[abL hb.1];exact hy.1
    ·intro b k c' hb hc' hk' b2 k2 hw
     rw[hput,aaI,adG]at hb
     rcases hb with⟨h1,h2⟩|hb
     ·subst h1 h2
      rw[hc,Z7]at hc'
      subst hc'
      refine⟨λe=> ?_,λb' e hb'=> .inr ?_⟩
      ·have:Fb (f.code.length:Int) (dq (b:Int) c k)=true:=by
        unfold Fb;rw[aa6];exact⟨_,hw,by rw[e];simp⟩
       rw[adI this,acm (by have:=I.lenO;omega)]
      ·rw[abd];right
       unfold inR;rw[aaA]
       exact⟨(b2,k2),acu.mpr ⟨hw,by rw[e];simp;omega⟩,by rw[e]⟩
     ·obtain⟨d1,d2⟩:=I.done b k c' hb hc' hk' b2 k2 hw
      refine⟨λe=> ?_,λb' e hb'=> ?_⟩
      ·have:=d1 e
       split
       ·by_cases eb:b=a
        ·rw[eb,acm (by have:=I.lenO;omega)]
        ·rw[aca (λx=>eb x.symm)];exact this
       ·exact this
      ·rcases d2 b' e hb' with d|d
       ·left;rw[hput,d];simp
       ·rw[aan]at d
        rcases d with d|d
        ·left
         simp only[aaX,and_true]at d
         rw[hput]
         have:b'=a:=by omega
         simp[this,d.2]
        ·exact .inr (abk _ d)
    ·intro b hb
     split at hb
     ·rename_i ho
      by_cases eb:b=a
      ·subst eb
       unfold Fb at ho;rw[aa6]at ho
       obtain⟨y,hy,hy2⟩:=ho
       have hle:=Gn S hc hal (b:=y.1) (k:=y.2) hy
       have e:y.1=(f.code.length:Int):=by have:=of_decide_eq_true hy2;omega
       refine⟨h,c,y.2,r,hc,hk,?_⟩
       rw[<-e];exact hy
      ·rw[aca (λx=>eb x.symm)]at hb;exact I.outs b hb
     ·exact I.outs b hb
    ·rcases I.zero with z|z
     ·left;rw[hput,z];simp
     ·rw[aan]at z
      rcases z with z|z
      ·left
       simp only[aaX,and_true]at z
       rw[hput]
       have:0=a:=by omega
       simp[this,z.2]
      ·exact .inr (abk _ z)
   ·rw[adH hk]
    refine jB S N _ _ _ (by omega) (by omega) ?_
    refine{lenM:=by rw[zi];exact I.lenM,lenO:=I.lenO,reach:= ?_,queue:=λx hx=>I.queue x (aag _ hx),done:= ?_,outs:=I.outs,zero:= ?_,good:=t_ I.good hs}
    ·intro b k hb
     rw[hput,aaI,adG]at hb
     rcases hb with⟨h1,h2⟩|hb
     ·rw[h1,h2];exact r
     ·exact I.reach b k hb
    ·intro b k c' hb hc' hk' b2 k2 hw
     rw[hput,aaI,adG]at hb
     rcases hb with⟨h1,h2⟩|hb
     ·subst h1 h2
      rw[hc,Z7]at hc'
      subst hc'
      exact absurd hk' hk
     ·obtain⟨d1,d2⟩:=I.done b k c' hb hc' hk' b2 k2 hw
      refine⟨d1,λb' e hb'=> ?_⟩
      rcases d2 b' e hb' with d|d
      ·left;rw[hput,d];simp
      ·rw[aan]at d
       rcases d with d|d
       ·left
        simp only[aaX,and_true]at d
        rw[hput]
        have:b'=a:=by omega
        simp[this,d.2]
       ·exact .inr d
    ·rcases I.zero with z|z
     ·left;rw[hput,z];simp
     ·rw[aan]at z
      rcases z with z|z
      ·left
       simp only[aaX,and_true]at z
       rw[hput]
       have:0=a:=by omega
       simp[this,z.2]
      ·exact .inr z
  ·rw[adI rfl]
   refine jB S N _ _ _ (by omega) (by omega) ?_
   refine{lenM:=I.lenM,lenO:=I.lenO,reach:=I.reach,queue:=λx hx=>I.queue x (aag _ hx),done:= ?_,outs:=I.outs,zero:= ?_,good:=I.good}
   ·intro b k c' hb hc' hk' b2 k2 hw
    obtain⟨d1,d2⟩:=I.done b k c' hb hc' hk' b2 k2 hw
    refine⟨d1,λb' e hb'=> ?_⟩
    rcases d2 b' e hb' with d|d
    ·exact .inl d
    ·rw[aan]at d
     rcases d with d|d
     ·left
      simp only[aaX,and_true]at d
      have:b'=a:=by omega
      rw[this,d.2];exact hs
     ·exact .inr d
   ·rcases I.zero with z|z
    ·exact .inl z
    ·rw[aan]at z
     rcases z with z|z
     ·left
      simp only[aaX,and_true]at z
      have:0=a:=by omega
      rw[this,z.2];exact hs
     ·exact .inr z
end Go.Proofs.YtcghbgmmgcljkaaGreatDoor
end
section
namespace Go.Proofs.YtcghbgmmgcljkaaGreatDoor
set_option maxRecDepth 20000
theorem Ht(n:Nat)(M:List (List (Int×Bool))):wG n M<=66 *n:=by
 have h1:wG n M<=(box n).length:=acH
 have h2:(box n).length=66 *n:=by
  unfold box
  rw[adr]
  have:∀k:Nat,((abp k).map λa=>((abp 66).map λh=>(a,h)).length).sum=66 *k:=by
   intro k
   induction k with
   |zero=>rfl
   |succ k ih=>rw[List.range_succ (n:=k),aa0,List.sum_append,ih];simp;omega
  exact this n
 omega
theorem Jj{f:aB}(S:vG f):∃M out,HJ (f,())=some (out,M.map some,())/\KL f M out []:=by
 obtain⟨s1,s2,_⟩:=S
 have S:vG f:=⟨s1,s2,by assumption⟩
 have hz:∀(a:Nat) h,mZ (aap f.code.length []) a h=false:=by
  intro a h;unfold mZ
  by_cases ha:a<f.code.length
  ·rw[List.getElem?_replicate_of_lt ha];rfl
  ·rw[ab2 (by simp;omega)]
 have I:KL f (aap f.code.length []) (aap f.code.length false) [[0,0]]:=
  { lenM:=by simp
    lenO:=by simp
    reach:=λa h hb=>by rw[hz]at hb;cases hb
    queue:=λx hx=>by
     rw[aaS]at hx
     exact⟨0,0,hx,Reach.start⟩
    done:=λa h c hb=>by rw[hz]at hb;cases hb
    outs:=λa ha=>by
     rw[acA]at ha
     split at ha
     ·cases ha
     ·cases ha
    zero:= .inr (aaS.mpr rfl)
    good:=λm hm=>by rw[ac5 hm];exact⟨List.nodup_nil,λe he=>by cases he⟩}
 have hl:=Ht f.code.length (aap f.code.length [])
 obtain⟨M',out',h,I'⟩:=jB S _ _ _ _ (aay _) (by rw[aa_];omega) I
 have fl:=qK f f.code.length s2 f.code.length 0 (aad _)
 rw[aar,List.replicate_zero,aai]at fl
 rw[abS]at h
 refine⟨M',out',?_,I'⟩
 have hb:(f.code.length:Int)<=4294967296:=by omega
 rw[HJ]
 simp only[hb,adE,Z_,fl,Z6,Z3,h]
theorem nK{f:aB}{M:List (List (Int×Bool))}{out:List Bool}(I:KL f M out []){a:Nat}{h:Int}(r:Reach f a h):mZ M a h=true:=by
 induction r with
 |start=>
  rcases I.zero with z|z
  ·exact z
  ·cases z
 |step r hc hk hw hb ih=>
  rcases(I.done _ _ _ ih hc hk _ _ hw).2 _ rfl hb with d|d
  ·exact d
  ·cases d
def Bad(f:aB)(M:List (List (Int×Bool)))(out:List Bool)(a:Nat):Prop:=
 out[a]?=some true\/(∃h c,mZ M a h=true/\f.code[a]?=some c/\¬okS c h)\/∃h h',mZ M a h=true/\mZ M a h'=true/\h≠h'
theorem Dw{f:aB}(S:vG f){M:List (List (Int×Bool))}{out:List Bool}(I:KL f M out []):gZ f↔∃a,a<f.code.length/\Bad f M out a:=by
 constructor
 ·rintro⟨a,h,c,r,hc,hF⟩
  refine⟨a,li S.1 r,?_⟩
  rcases hF with hF|⟨hk,k,hF⟩|⟨h',r',hF⟩
  ·exact .inr (.inl ⟨h,c,nK I r,hc,hF⟩)
  ·exact .inl ((I.done a h c (nK I r) hc hk _ _ hF).1 rfl)
  ·exact .inr (.inr ⟨h',h,nK I r',nK I r,hF⟩)
 ·rintro⟨a,hal,hB⟩
  rcases hB with hB|⟨h,c,hs,hc,hk⟩|⟨h,h',h1,h2,hne⟩
  ·obtain⟨h,c,k,r,hc,hk,hw⟩:=I.outs a hB
   exact⟨a,h,c,r,hc, .inr (.inl ⟨hk,k,hw⟩)⟩
  ·exact⟨a,h,c,I.reach a h hs,hc, .inl hk⟩
  ·exact⟨a,h',f.code[a],I.reach a h' h2,Z8 hal, .inr (.inr ⟨h,I.reach a h h1,hne⟩)⟩
end Go.Proofs.YtcghbgmmgcljkaaGreatDoor
end
section
namespace Go.Proofs.YtcghbgmmgcljkaaGreatDoor
set_option maxRecDepth 20000
theorem vg{α:Type}(p:α->Bool):∀(l:List α) (x:α×List α),x∈Tx.steps l->(p x.1||x.2.any p)=l.any p/\x.2.length+1=l.length
 |[],x,h=>by simp[Tx.steps]at h
 |a::r,x,h=>by
  rw[Tx.steps,aan]at h
  rcases h with h|h
  ·rw[h];simp
  ·rw[aaA]at h
   obtain⟨y,hy,e⟩:=h
   obtain⟨h1,h2⟩:=vg p r y hy
   rw[<-e]
   refine⟨?_,by simp;omega⟩
   simp only[ab5,<-h1]
   cases p y.1<;>cases p a<;>simp
theorem iR(f:aB)(out:List Bool)(i:Nat){c:aQ}(hc:f.code[i]?=some c)(seen:List (Option (List (Int×Bool))))(m0:List (Int×Bool)):∀(n:Nat) (w:Bool) (l:List (Int×Bool)),l.length=n->
 mr (out,(i:Int),w,f,seen,m0,l,())=some (out,(i:Int),w||l.any (λe=> !decide (okS c e.1)),f,seen,())
 |0,w,l,h=>by
  have:l=[]:=ac8.mp h
  subst this
  rw[mr];simp
 |n+1,w,l,h=>by
  have hne:l.isEmpty=false:=by cases l with|nil=>simp at h|cons _ _=>rfl
  rw[mr]
  simp only[hne,Z5,adF]
  have hs:Tx.steps l≠[]:=by cases l with|nil=>simp at h|cons _ _=>simp[Tx.steps]
  refine Tx.anyOf_some.mpr ?_
  refine⟨hs,λx hx=> ?_⟩
  obtain⟨h1,h2⟩:=vg (λe=> !decide (okS c e.1)) l x hx
  have ih:=λw=>iR f out i hc seen m0 n w x.2 (by omega)
  rw[ud f hc]
  cases w
  ·simp only[Z5,adF,Z6,Z3,ih,ab6,<-h1]
  ·simp only[adE,Z6,Z3,ih,acx]
end Go.Proofs.YtcghbgmmgcljkaaGreatDoor
end
section
namespace Go.Proofs.YtcghbgmmgcljkaaGreatDoor
set_option maxRecDepth 20000
theorem sj{m:List (Int×Bool)}(hv:∀e∈m,e.2=true)(h:Int):(Mp.get Mp.ieq h m).getD false=true↔h∈m.map Prod.fst:=by
 induction m with
 |nil=>simp[Mp.get]
 |cons x r ih=>
  simp only[Mp.get,hU,aah,aan]
  by_cases hx:h=x.1
  ·rw[adI hx,hv x (aal ..)];simp[hx]
  ·rw[adH hx,ih (λe he=>hv e (aag _ he))];simp[hx]
theorem OP{m:List (Int×Bool)}(g:zS m):1<m.length↔∃h h',(Mp.get Mp.ieq h m).getD false=true/\(Mp.get Mp.ieq h' m).getD false=true/\h≠h':=by
 simp only[sj g.2]
 obtain⟨g1,_⟩:=g
 match m,g1 with
 |[],_=>simp
 |[x],_=>simp
 |x::y::r,g1=>
  simp only[aah,acL,aan,not_or]at g1
  refine⟨λ_=>⟨x.1,y.1,by simp,by simp,g1.1.1⟩,λ_=>by simp⟩
end Go.Proofs.YtcghbgmmgcljkaaGreatDoor
end
section
namespace Go.Proofs.YtcghbgmmgcljkaaGreatDoor
set_option maxRecDepth 20000
def Pc(m:List (Int×Bool))(o:Bool)(c:aQ):Bool:=(decide (1<m.length)||o)||m.any (λe=> !decide (okS c e.1))
theorem BP(f:aB)(out:List Bool)(seen:List (Option (List (Int×Bool)))){k:Nat}{c:aQ}{m:List (Int×Bool)}{o:Bool}(hk:k<f.code.length)(hl:f.code.length<=3000)
 (hc:f.code[k]?=some c)(hs:seen[k]?=some (some m))(ho:out[k]?=some o)(hsl:seen.length=f.code.length):
 je (out,(k:Int),f,seen,())=if Pc m o c=true then some (.inl ((k:Int),()))else je (out,((k+1:Nat):Int),f,seen.set k none,()):=by
 have h0:(0:Int)<=(k:Int):=by omega
 have h1:(k:Int)<(f.code.length:Int):=by omega
 have h2:(k:Int)<(seen.length:Int):=by omega
 have w:IntKind.i64.wrap ((k:Int)+1)=((k+1:Nat):Int):=by rw[w64 (by omega) (by omega)];omega
 conv=>lhs;rw[je]
 simp only[h0,h1,h2,adJ,adE,and_self,Z_,hs,ho,Z6,Z3]
 unfold Pc
 by_cases hm:1<m.length
 ·have hm':(m.length:Int)>1:=by omega
  simp only[hm',hm,adJ,adE,Z3,h0,h2,and_self,Z_,hs,iR f out k hc _ _ _ _ _ rfl,acx]
 ·have hm':¬(m.length:Int)>1:=by omega
  simp only[hm',hm,adK,Z5,adF,Z3,h0,h2,and_self,adE,Z_,hs,iR f out k hc _ _ _ _ _ rfl,ab6,w]
end Go.Proofs.YtcghbgmmgcljkaaGreatDoor
end
section
namespace Go.Proofs.YtcghbgmmgcljkaaGreatDoor
set_option maxRecDepth 20000
theorem Mr{f:aB}{M:List (List (Int×Bool))}{out:List Bool}(I:KL f M out []){k:Nat}{c:aQ}{m:List (Int×Bool)}{o:Bool}(hc:f.code[k]?=some c)(hm:M[k]?=some m)(ho:out[k]?=some o):Pc m o c=true↔Bad f M out k:=by
 have g:=I.good m (aae hm)
 have hh:∀h,mZ M k h=(Mp.get Mp.ieq h m).getD false:=by intro h;unfold mZ;rw[hm]
 unfold Pc Bad
 rw[aaI,aaI,adG,OP g,ho,aa6]
 simp only[hh]
 constructor
 ·rintro((h|h)|⟨e,he,h⟩)
  ·exact .inr (.inr h)
  ·exact .inl (by rw[h])
  ·refine .inr (.inl ⟨e.1,c,(sj g.2 _).mpr (aaA.mpr ⟨e,he,rfl⟩),hc,by simpa using h⟩)
 ·rintro(h|⟨h,c',h1,h2,h3⟩|h)
  ·exact .inl (.inr (aa8 h))
  ·rw[hc,Z7]at h2
   subst h2
   obtain⟨e,he,e1⟩:=aaA.mp ((sj g.2 h).mp h1)
   exact .inr ⟨e,he,by rw[e1];simpa using h3⟩
  ·exact .inl (.inl h)
theorem rO{f:aB}(hl:f.code.length<=3000){M:List (List (Int×Bool))}{out:List Bool}(I:KL f M out []):∀(j k:Nat) (seen:List (Option (List (Int×Bool)))),k+j=f.code.length->seen.length=f.code.length->(∀a,k<=a->seen[a]?=(M.map some)[a]?)->
 ((∃a,k<=a/\a<f.code.length/\Bad f M out a)/\∃i:Nat,je (out,(k:Int),f,seen,())=some (.inl ((i:Int),())))\/(¬(∃a,k<=a/\a<f.code.length/\Bad f M out a)/\je (out,(k:Int),f,seen,())=some (.inr ()))
 |0,k,seen,h,hs,hq=>by
  right
  refine⟨by rintro⟨a,h1,h2,_⟩;omega,?_⟩
  rw[je]
  have:¬(k:Int)<(f.code.length:Int):=by omega
  simp[this]
 |j+1,k,seen,h,hs,hq=>by
  have hk:k<f.code.length:=by omega
  have hkM:k<M.length:=by rw[I.lenM];exact hk
  have hkO:k<out.length:=by rw[I.lenO];exact hk
  have hm:=Z8 hkM
  have ho:=Z8 hkO
  have hc:=Z8 hk
  have hsk:seen[k]?=some (some M[k]):=by rw[hq k (aay _),aaa,hm];rfl
  have bi:=Mr I hc hm ho
  rw[BP f out seen hk hl hc hsk ho hs]
  by_cases hb:Pc M[k] out[k] f.code[k]=true
  ·rw[adI hb]
   exact .inl ⟨⟨k,aay _,hk,bi.mp hb⟩,k,rfl⟩
  ·rw[adH hb]
   have ih:=rO hl I j (k+1) (seen.set k none) (by omega) (by rw[aaW];exact hs) (λa ha=>by rw[aca (by omega)];exact hq a (by omega))
   rcases ih with⟨⟨a,a1,a2,a3⟩,hi⟩|⟨hn,hi⟩
   ·exact .inl ⟨⟨a,by omega,a2,a3⟩,hi⟩
   ·refine .inr ⟨?_,hi⟩
    rintro⟨a,a1,a2,a3⟩
    by_cases e:a=k
    ·subst e;exact hb (bi.mpr a3)
    ·exact hn ⟨a,by omega,a2,a3⟩
theorem B8{f:aB}(S:vG f):∃w,SY (f,())=some (w,())/\(0<=w↔gZ f):=by
 obtain⟨M,out,h,I⟩:=Jj S
 rw[SY]
 simp only[h,Z6,Z3]
 have fb:=Dw S I
 have sl:=rO S.2.1 I f.code.length 0 (M.map some) (aad _) (by rw[aab];exact I.lenM) (λ_ _=>rfl)
 rw[aar]at sl
 rcases sl with⟨⟨a,_,a2,a3⟩,i,hi⟩|⟨hn,hi⟩
 ·rw[hi]
  exact⟨_,rfl,λ_=>fb.mpr ⟨a,a2,a3⟩,λ_=>by omega⟩
 ·rw[hi]
  refine⟨_,rfl,λh=>absurd h (by decide),λF=> ?_⟩
  obtain⟨a,a2,a3⟩:=fb.mp F
  exact absurd ⟨a,acb _,a2,a3⟩ hn
end Go.Proofs.YtcghbgmmgcljkaaGreatDoor
end
section
namespace Go.Proofs.YtcghbgmmgcljkaaGreatDoor
set_option maxRecDepth 20000
theorem On{l:List aB}(hl:∀g∈l,0<=g.params){f:aB}(h:lN l f=true)(h3:f.code.length<=3000):vG f:=by
 unfold lN at h
 simp only[aac,adG,aak]at h
 refine⟨h.1.2,h3,λc hc=>⟨JM hl (h.2 c hc),λhj=> ?_⟩⟩
 have hc:=h.2 c hc
 have h1:=h.1.2
 have w:IntKind.i64.wrap ((f.code.length:Int) -1)=(f.code.length:Int) -1:=w64 (by omega) (by omega)
 have hr:rng c.a 0 (IntKind.i64.wrap ((f.code.length:Int) -1))=true:=by
  unfold d5 at hj
  simp only[aaI,adG]at hj
  unfold di at hc
  rw[adH (by omega),adH (by omega),adH (by omega),adH (by omega),adH (by omega),adI (by omega)]at hc
  simp only[aac]at hc
  exact hc.1.1.1
 rw[w]at hr
 unfold rng at hr
 rw[adG]at hr
 exact⟨c.a.toNat,by omega,by omega⟩
end Go.Proofs.YtcghbgmmgcljkaaGreatDoor
end
section
namespace Go.Proofs.YtcghbgmmgcljkaaGreatDoor
set_option maxRecDepth 20000
theorem pj(l:List aB)(hl:l.length<=3000)(S:∀f∈l,vG f):∀(j k:Nat),k+j=l.length->
 ((∃f∈l.drop k,gZ f)/\∃a b,kT (l,(l.length:Int),(k:Int),())=some (.inl (a,b,7,())))\/(¬(∃f∈l.drop k,gZ f)/\kT (l,(l.length:Int),(k:Int),())=some (.inr ()))
 |0,k,h=>by
  right
  rw[kT,cu (by omega)]
  have:¬(k:Int)<(l.length:Int):=by omega
  simp[this]
 |j+1,k,h=>by
  obtain⟨x,hx,hm,hd⟩:=bI (l:=l) (k:=k) (by omega)
  have h1:(k:Int)<(l.length:Int):=by omega
  have h2:(0:Int)<=(k:Int):=by omega
  have w:IntKind.i64.wrap ((k:Int)+1)=((k+1:Nat):Int):=by rw[w64 (by omega) (by omega)];omega
  obtain⟨v,m,hv,hF⟩:=Nj (S x hm)
  have ih:=pj l hl S j (k+1) (by omega)
  rw[kT,hd]
  simp only[h1,h2,adJ,adE,Z_,hx,Z6,Z3,hv,w,ge_iff_le,aan,exists_eq_or_imp]
  by_cases hp:0<=v
  ·left
   simp only[hp,adJ,adE]
   exact⟨.inl (hF.mp hp),_,_,rfl⟩
  ·simp only[hp,adK,Z5,adF]
   have nf:¬gZ x:=λh=>hp (hF.mpr h)
   simp only[nf,false_or]
   exact ih
theorem qA(l:List aB)(hl:l.length<=3000)(S:∀f∈l,vG f):∀(j k:Nat),k+j=l.length->
 ((∃f∈l.drop k,gZ f)/\∃a b,kU (l,(k:Int),())=some (.inl (a,b,7,())))\/(¬(∃f∈l.drop k,gZ f)/\kU (l,(k:Int),())=some (.inr ()))
 |0,k,h=>by
  right
  rw[kU,cu (by omega)]
  have:¬(k:Int)<(l.length:Int):=by omega
  simp[this]
 |j+1,k,h=>by
  obtain⟨x,hx,hm,hd⟩:=bI (l:=l) (k:=k) (by omega)
  have h1:(k:Int)<(l.length:Int):=by omega
  have h2:(0:Int)<=(k:Int):=by omega
  have w:IntKind.i64.wrap ((k:Int)+1)=((k+1:Nat):Int):=by rw[w64 (by omega) (by omega)];omega
  obtain⟨v,hv,hF⟩:=B8 (S x hm)
  have ih:=qA l hl S j (k+1) (by omega)
  rw[kU,hd]
  simp only[h1,h2,adJ,adE,Z_,hx,Z6,Z3,hv,w,ge_iff_le,aan,exists_eq_or_imp]
  by_cases hp:0<=v
  ·left
   simp only[hp,adJ,adE]
   exact⟨.inl (hF.mp hp),_,_,rfl⟩
  ·simp only[hp,adK,Z5,adF]
   have nf:¬gZ x:=λh=>hp (hF.mpr h)
   simp only[nf,false_or]
   exact ih
end Go.Proofs.YtcghbgmmgcljkaaGreatDoor
end
section
namespace Go.Proofs.YtcghbgmmgcljkaaGreatDoor
set_option maxRecDepth 20000
theorem t7(l:List aB):∀(r:List aB) (k:Nat),gH l k r=true->∀f∈r,lN l f=true
 |[],_,_,f,hf=>by cases hf
 |g::r,k,h,f,hf=>by
  rw[gH,aac,aac]at h
  rw[aan]at hf
  rcases hf with hf|hf
  ·rw[hf];exact h.1.1
  ·exact t7 l r (k+1) h.2 f hf
theorem sZ{l:List aB}(h:dM l=0)(h3:∀f∈l,f.code.length<=3000):∀f∈l,lN l f=true/\0<=f.params/\f.params<=f.places/\vG f:=by
 have hf:gH l 0 l=true:=by
  unfold dM at h
  split at h
  ·cases h
  ·split at h
   ·assumption
   ·cases h
 have all:=t7 l l 0 hf
 have hp:∀f∈l,0<=f.params/\f.params<=f.places:=by
  intro f hm
  have:=all f hm
  unfold lN rng at this
  simp only[aac,adG]at this
  exact this.1.1.1.2
 exactλf hm=>⟨all f hm,(hp f hm).1,(hp f hm).2,On (λg hg=>(hp g hg).1) (all f hm) (h3 f hm)⟩
end Go.Proofs.YtcghbgmmgcljkaaGreatDoor
end
section
namespace Go.Proofs.YtcghbgmmgcljkaaGreatDoor
set_option maxRecDepth 20000
def Mg(l:List aB):Prop:=dM l=0/\¬∃f∈l,gZ f
open Classical in
noncomputable def eL(l:List aB):Int:=if dM l=0 then(if∃f∈l,gZ f then 7 else 0)else dM l
theorem jo{l:List aB}:eL l=0↔Mg l:=by
 unfold eL Mg
 by_cases h:dM l=0
 ·by_cases h2:∃f∈l,gZ f
  ·simp[h,h2]
  ·simp only[h,h2,adE,adF,true_and,not_false_eq_true]
 ·simp[h]
theorem GY(l:List aB)(hl:l.length<=3000)(h3:∀f∈l,f.code.length<=3000):∃a b,SP (l,())=some (a,b,eL l,()):=by
 have hv:=zH l (by omega) (λf hf=>by have:=h3 f hf;omega)
 rw[SP]
 simp only[hv,Z6,Z3]
 unfold eL
 by_cases h:dM l=0
 ·have S:=sZ h h3
  have c:=qA l hl (λf hf=>(S f hf).2.2.2) _ 0 (aad _)
  rw[aar,aau]at c
  simp only[h,adE,bne_self_eq_false,Z5,adF]
  rcases c with⟨c1,a,b,c2⟩|⟨c1,c2⟩
  ·rw[c2,adI c1];exact⟨a,b,rfl⟩
  ·rw[c2,adH c1];exact⟨0,0,rfl⟩
 ·have hb:(dM l !=0)=true:=by simpa using h
  simp only[hb,adE,adH h]
  exact⟨0,0,rfl⟩
theorem Fd(l:List aB)(hl:l.length<=3000)(h3:∀f∈l,f.code.length<=3000):∃a b,SO (l,())=some (a,b,eL l,()):=by
 have hv:=py l (by omega) (λf hf=>by have:=h3 f hf;omega)
 rw[SO]
 simp only[hv,Z6,Z3]
 unfold eL
 by_cases h:dM l=0
 ·have S:=sZ h h3
  have c:=pj l hl (λf hf=>(S f hf).2.2.2) _ 0 (aad _)
  rw[aar,aau]at c
  simp only[h,adE,bne_self_eq_false,Z5,adF]
  rcases c with⟨c1,a,b,c2⟩|⟨c1,c2⟩
  ·rw[c2,adI c1];exact⟨a,b,rfl⟩
  ·rw[c2,adH c1];exact⟨0,0,rfl⟩
 ·have hb:(dM l !=0)=true:=by simpa using h
  simp only[hb,adE,adH h]
  exact⟨0,0,rfl⟩
def jO(args:List aE):Bool:=args.all λv=>decide (-2147483648<=v.n/\v.n<=2147483648)
theorem rN(args:List aE)(hl:args.length<=4294967296):∀(j k:Nat),k+j=args.length->ml (args,(k:Int),())=if jO (args.drop k)=true then some (.inr ())else some (.inl (1,()))
 |0,k,h=>by
  rw[ml,cu (by omega)]
  have:¬(k:Int)<(args.length:Int):=by omega
  simp[this,jO]
 |j+1,k,h=>by
  obtain⟨x,hx,hm,hd⟩:=bI (l:=args) (k:=k) (by omega)
  have h1:(k:Int)<(args.length:Int):=by omega
  have h2:(0:Int)<=(k:Int):=by omega
  have w:IntKind.i64.wrap ((k:Int)+1)=((k+1:Nat):Int):=by rw[w64 (by omega) (by omega)];omega
  have ih:=rN args hl j (k+1) (by omega)
  rw[ml,hd]
  unfold jO at ih⊢
  simp only[h1,h2,adJ,adE,Z_,hx,Z6,Z3,abj]
  by_cases e1:x.n< -2147483648
  ·have:¬(-2147483648<=x.n/\x.n<=2147483648):=by omega
   simp[e1,this]
  ·by_cases e2:x.n>2147483648
   ·have:¬(-2147483648<=x.n/\x.n<=2147483648):=by omega
    simp[e1,e2,this]
   ·have e3:(-2147483648<=x.n/\x.n<=2147483648):=by omega
    simp only[e1,e2,e3,adK,Z5,adF,Z3,adJ,abv,and_self,w]
    exact ih
theorem JH(args:List aE)(hl:args.length<=4294967296):SQ (args,())=some (if jO args=true then 0 else 1,()):=by
 have h:=rN args hl _ 0 (aad _)
 rw[aar,aau]at h
 rw[SQ,h]
 by_cases hs:jO args=true<;>simp[hs]
theorem pw(q:Int)(args:List aE)(hl:args.length<=4294967296):∀(j k:Nat),k+j=args.length->jc (q,args,(args.length:Int),(k:Int),())=if jO (args.drop k)=true then some (.inr (q,()))else some (.inl (0,1,()))
 |0,k,h=>by
  rw[jc,cu (by omega)]
  have:¬(k:Int)<(args.length:Int):=by omega
  simp[this,jO]
 |j+1,k,h=>by
  obtain⟨x,hx,hm,hd⟩:=bI (l:=args) (k:=k) (by omega)
  have h1:(k:Int)<(args.length:Int):=by omega
  have h2:(0:Int)<=(k:Int):=by omega
  have w:IntKind.i64.wrap ((k:Int)+1)=((k+1:Nat):Int):=by rw[w64 (by omega) (by omega)];omega
  have ih:=pw q args hl j (k+1) (by omega)
  rw[jc,hd]
  unfold jO at ih⊢
  simp only[h1,h2,adJ,adE,Z_,hx,Z6,Z3,abj]
  by_cases e1:x.n< -2147483648
  ·have:¬(-2147483648<=x.n/\x.n<=2147483648):=by omega
   simp[e1,this]
  ·by_cases e2:x.n>2147483648
   ·have:¬(-2147483648<=x.n/\x.n<=2147483648):=by omega
    simp[e1,e2,this]
   ·have e3:(-2147483648<=x.n/\x.n<=2147483648):=by omega
    simp only[e1,e2,e3,adK,Z5,adF,Z3,adJ,abv,and_self,w]
    exact ih
theorem qX(l:List aB)(hl:l.length<=4294967296)(s:ByteArray):∀(j k:Nat),k+j=l.length->
 mg (l,s,(k:Int),())=if fv (l.drop k) s k= -1 then some (.inr ())else some (.inl (fv (l.drop k) s k,()))
 |0,k,h=>by
  rw[mg,cu (by omega)]
  have:¬(k:Int)<(l.length:Int):=by omega
  simp[this,fv]
 |j+1,k,h=>by
  obtain⟨x,hx,hm,hd⟩:=bI (l:=l) (k:=k) (by omega)
  have h1:(k:Int)<(l.length:Int):=by omega
  have h2:(0:Int)<=(k:Int):=by omega
  have w:IntKind.i64.wrap ((k:Int)+1)=((k+1:Nat):Int):=by rw[w64 (by omega) (by omega)];omega
  have ih:=qX l hl s j (k+1) (by omega)
  rw[mg,hd,fv]
  simp only[h1,h2,adJ,adE,Z_,hx,Z6,Z3,eo,adG,w]
  by_cases e:x.name0=s
  ·have:¬(k:Int)= -1:=by omega
   simp[e,this]
  ·simp only[e,adF]
   exact ih
theorem jA(l:List aB)(hl:l.length<=4294967296)(s:ByteArray):NJ (l,s,())=some (cv l s,()):=by
 have h:=qX l hl s _ 0 (aad _)
 rw[aar,aau]at h
 rw[NJ]
 unfold cv
 by_cases e:fv l s 0= -1
 ·rw[adI e]at h
  rw[h,e];rfl
 ·rw[adH e]at h
  rw[h];rfl
theorem nk(l:List aB)(s:ByteArray):cv l s<0\/∃k:Nat,∃g,cv l s=(k:Int)/\k<l.length/\l[k]?=some g:=by
 rcases nj l s 0 with h|h
 ·left;unfold cv;omega
 ·right
  refine⟨(cv l s).toNat,l[(cv l s).toNat]'(by unfold cv;omega),?_,?_,Z8 _⟩
  ·unfold cv;omega
  ·unfold cv;omega
noncomputable def cU(l:List aB)(s:ByteArray)(args:List aE):Int:=
 if eL l=0 then
  if cv l s<0 then 4 else
  match l[(cv l s).toNat]? with
  |some g=>if(args.length:Int)=g.params then(if jO args=true then 0 else 1)else 10
  |none=>0
 else eL l
theorem qo(l:List aB)(hl:l.length<=3000)(h3:∀f∈l,f.code.length<=3000)(s:ByteArray)(args:List aE)(ha:args.length<=4294967296):
 QN (l,s,args,())=some (cU l s args,()):=by
 have hv:=zH l (by omega) (λf hf=>by have:=h3 f hf;omega)
 obtain⟨a,b,hc⟩:=GY l hl h3
 rw[QN]
 simp only[hv,hc,jA l (by omega),JH args ha,Z6,Z3]
 unfold cU
 by_cases h:eL l=0
 ·have h0:=(jo.mp h).1
  simp only[h,h0,adE,bne_self_eq_false,Z5,adF]
  rcases nk l s with hf|⟨k,g,hk,hkl,hg⟩
  ·simp[hf]
  ·have n1:¬(k:Int)<0:=by omega
   have n2:(0:Int)<=(k:Int):=by omega
   simp only[hk,n1,n2,adK,Z5,adF,adE,Z_,hg,Z3]
   by_cases hp:(args.length:Int)=g.params
   ·simp[hp]
   ·have hp':((args.length:Int) !=g.params)=true:=by simpa using hp
    simp[hp]
 ·by_cases h0:dM l=0
  ·have hb:(eL l !=0)=true:=by simpa using h
   simp[h0,h,hb]
  ·have hb:(dM l !=0)=true:=by simpa using h0
   have e:eL l=dM l:=by unfold eL;rw[adH h0]
   simp[e,hb,h0]
theorem j6(l:List aB)(hl:l.length<=3000)(h3:∀f∈l,f.code.length<=3000)(s:ByteArray)(args:List aE)(ha:args.length<=4294967296):
 OX (l,s,args,())=some (if cU l s args=0 then cv l s else 0,cU l s args,()):=by
 have hv:=py l (by omega) (λf hf=>by have:=h3 f hf;omega)
 obtain⟨a,b,hc⟩:=Fd l hl h3
 have h39:dM l=0->LI (l,s,())=some (max (cv l s) 0,decide (cv l s>=0),0,()):=by
  intro h0
  rw[LI]
  simp only[hv,nG l (by omega),Z6,Z3,h0,bne_self_eq_false,Z5,adF]
 rw[OX]
 simp only[hv,hc,Z6,Z3]
 unfold cU
 by_cases h:eL l=0
 ·have h0:=(jo.mp h).1
  simp only[h,h0,adE,bne_self_eq_false,Z5,adF,h39 h0,Z3]
  rcases nk l s with hf|⟨k,g,hk,hkl,hg⟩
  ·have:¬0<=cv l s:=by omega
   simp[hf,this]
  ·have n1:¬(k:Int)<0:=by omega
   have n2:(0:Int)<=(k:Int):=by omega
   have n3:max (k:Int) 0=(k:Int):=by omega
   have lp:=pw (k:Int) args ha _ 0 (aad _)
   rw[aar,aau]at lp
   simp only[hk,n1,n2,n3,adJ,aaC,Z5,adF,adE,Z_,hg,Z3,lp]
   by_cases hp:(args.length:Int)=g.params
   ·rw[adI hp]
    have hp':((args.length:Int) !=g.params)=false:=by simpa using hp
    rw[hp']
    cases hs:jO args<;>simp[]
   ·have hp':((args.length:Int) !=g.params)=true:=by simpa using hp
    rw[adH hp,hp'];simp
 ·by_cases h0:dM l=0
  ·have hb:(eL l !=0)=true:=by simpa using h
   simp[h0,h,hb]
  ·have hb:(dM l !=0)=true:=by simpa using h0
   have e:eL l=dM l:=by unfold eL;rw[adH h0]
   simp[e,hb,h0]
end Go.Proofs.YtcghbgmmgcljkaaGreatDoor
end
section
namespace Go.Proofs.YtcghbgmmgcljkaaGreatDoor
set_option maxRecDepth 20000
def cj(n:Int):Item:=Item.mk n false (Z4 #[])
def gd(b:Bool):Item:=if b=true then cj 1 else cj 0
def val(x:Item):aE:=aE.mk (aF.mk 0 0 (Z4 #[]) false false) x.n x.null x.err (aF.mk 0 0 (Z4 #[]) false false)
def lB(t:aF)(n:Int):Int:=if t.base=0 then 0 else if t.base=1 then(if n=0 then 0 else 1)else p9 (t.base==3) t.bits n
def bt(t:aF)(n:Int):Int:=p9 (t.base==3) t.bits n
def opS(ck:Bool)(op:Int)(t:aF)(y x:Item):Item×Int:=
 if ck=true then(cj (if(doS op (t.base==3) t.bits (bt t y.n) (bt t x.n)).2=0 then(doS op (t.base==3) t.bits (bt t y.n) (bt t x.n)).1 else 0),(doS op (t.base==3) t.bits (bt t y.n) (bt t x.n)).2)
 else(cj (doS op (t.base==3) t.bits (bt t y.n) (bt t x.n)).1,0)
def jL(op a b:Int):Bool:=
 if op=18 then a==b else if op=19 then a !=b else if op=20 then decide (a<b)else if op=21 then decide (a<=b)else if op=22 then decide (a>b)else decide (a>=b)
def bA(ck:Bool)(op:Int)(t:aF)(x:Item):Item×Int:=
 if op=8 then(gd (x.n==0),0)
 else if op=11 then(if ck=true/\x.null=true then(cj 0,4)else(cj x.n,0))
 else if op=7 then(if ck=true/\¬inT (t.base==3) t.bits (-(bt t x.n))then(cj 0,1)else(cj (bt t (-(bt t x.n))),0))
 else if op=9 then(if ck=true/\¬inT (t.base==3) t.bits x.n then(cj 0,3)else(cj (bt t x.n),0))
 else(cj (bt t x.n),0)
inductive Act where
 |go (at1:Int) (pl st:List Item)
 |ret (x:Item)
 |stop (why:Int)
 |call
def im(r:Item×Int)(at1:Int)(pl s:List Item):Act:=if r.2=0 then .go at1 pl (r.1::s)else .stop r.2
def cM(ck:Bool)(c:aQ)(at1:Int)(pl st:List Item):Act:=
 if c.op=0 then .go at1 pl (cj (lB c.type0 c.a)::st)
 else if c.op=1 then .go at1 pl (Item.mk 0 true (Z4 #[])::st)
 else if c.op=18 then .go at1 pl (Item.mk 0 false c.name0::st)
 else if c.op=2 then .go at1 pl (pl.getD c.a.toNat (cj 0)::st)
 else if c.op=3 then .go at1 (pl.set c.a.toNat (st.headD (cj 0))) st.tail
 else if c.op=4 then .go at1 pl st.tail
 else if c.op=5 then im (opS ck c.a c.type0 (st.tail.headD (cj 0)) (st.headD (cj 0))) at1 pl st.tail.tail
 else if c.op=6 then .go at1 pl (gd (jL c.a (st.tail.headD (cj 0)).n (st.headD (cj 0)).n)::st.tail.tail)
 else if c.op=7\/c.op=8\/c.op=9\/c.op=10\/c.op=11 then im (bA ck c.op c.type0 (st.headD (cj 0))) at1 pl st.tail
 else if c.op=12 then(if(st.headD (cj 0)).null=true then .go c.a pl st.tail else .go at1 pl st)
 else if c.op=13 then(if(st.headD (cj 0)).err=Z4 #[]then .go at1 pl st else .go c.a pl st)
 else if c.op=14 then .go c.a pl st
 else if c.op=15 then(if(st.headD (cj 0)).n=0 then .go c.a pl st.tail else .go at1 pl st.tail)
 else if c.op=16 then .call
 else if c.op=17 then .ret (st.headD (cj 0))
 else if ck=true then .stop c.a else .ret (cj 0)
structure Lg where
 kind:Int
 stop:Int
 steps:Int
 high:Int
 counts:List Int
 seen:List Item
def iB(d place:Int)(c:aQ)(st:List Item)(seen:List Item):List Item:=
 if c.op=3/\d=1/\place=c.a/\seen.length<100 then seen++[st.headD (cj 0)]else seen
def aV(d h:Int)(n:Nat):Int:=if d=1 then max h (n:Int)else h
def p_(cs:List Int)(k:Nat):List Int:=cs.set k (IntKind.i64.wrap (cs.getD k 0+1))
def cG(f:aB)(args:List Item):List Item:=args++aap (f.places.toNat-args.length) (cj 0)
def zD(g:Lg):Item×Lg:=(cj 0,{g with kind:=2})
def gK(l:List aB)(ck:Bool)(place:Int):Nat->aB->Int->Int->List Item->List Item->Lg->Item×Lg
 |0,_,_,_,_,_,g=>zD g
 |N+1,f,d,at0,pl,st,g=>
  if g.steps=40000 then zD g else
  match f.code[at0.toNat]? with
  |none=>(cj 0,g)
  |some c=>
   match cM ck c (at0+1) pl st with
   | .go at1 pl1 st1=>gK l ck place N f d at1 pl1 st1 {g with steps:=g.steps+1,high:=aV d g.high st1.length,seen:=iB d place c st g.seen}
   | .ret x=>(x,{g with steps:=g.steps+1})
   | .stop w=>(cj 0,{g with steps:=g.steps+1,kind:=1,stop:=w})
   | .call=>
    match l[(cv l c.name0).toNat]? with
    |none=>(cj 0,g)
    |some h=>
     if 30<d+1 then zD {g with steps:=g.steps+1}else
     let r:=gK l ck place N h (d+1) 0 (cG h (st.take c.b.toNat).reverse) [] {g with steps:=g.steps+1,counts:=p_ g.counts (cv l c.name0).toNat}
     if r.2.kind=0 then gK l ck place N f d (at0+1) pl (r.1::st.drop c.b.toNat) {r.2 with high:=aV d r.2.high (st.length-c.b.toNat+1)}else(cj 0,r.2)
def lg0(l:List aB):Lg:={kind:=0,stop:=0,steps:=0,high:=0,counts:=aap l.length 0,seen:=[]}
def lg1(l:List aB)(place:Int)(k:Nat)(f:aB)(args:List Item):Lg:=
 {lg0 l with counts:=p_ (lg0 l).counts k,seen:=if(1:Int)=1/\0<=place then(lg0 l).seen++[(cG f args).getD place.toNat (cj 0)]else(lg0 l).seen}
def Bq(l:List aB)(ck:Bool)(place:Int)(k:Nat)(f:aB)(args:List Item):Item×Lg:=
 gK l ck place 40000 f 1 0 (cG f args) [] (lg1 l place k f args)
structure nS (l:List aB):Prop where
 len:l.length<=3000
 valid:dM l=0
 fns:∀f∈l,lN l f=true/\0<=f.params/\f.params<=f.places/\vG f
 nofault:∀f∈l,¬gZ f
 places:∀f∈l,f.places<=200
theorem Om{l:List aB}(hl:l.length<=3000)(h3:∀f∈l,f.code.length<=3000)(h:Mg l):nS l where
 len:=hl
 valid:=h.1
 fns:=sZ h.1 h3
 nofault f hf F:=h.2 ⟨f,hf,F⟩
 places f hf:=by
  have h1:=h.1
  unfold dM at h1
  split at h1
  ·cases h1
  ·rename_i hb
   by_cases hp:f.places<=200
   ·exact hp
   ·exfalso
    apply hb
    have:kz l=true:=by
     unfold kz
     rw[aa6]
     exact⟨f,hf,by simpa using hp⟩
    simp[this]
theorem wq{l:List aB}{f:aB}(h:lN l f=true){c:aQ}(hc:c∈f.code):di l f c=true:=by
 unfold lN at h
 simp only[aac,aak]at h
 exact h.2 c hc
theorem nE{l:List aB}{f:aB}{c:aQ}(h:di l f c=true):0<=c.op/\c.op<=19:=by
 unfold di at h
 by_cases hr:0<=c.op/\c.op<=19
 ·exact hr
 ·exfalso
  rw[adH (by omega),adH (by omega),adH (by omega),adH (by omega),adH (by omega),adH (by omega),adH (by omega),adH (by omega),adH (by omega),adH (by omega)]at h
  cases h
theorem jE{l:List aB}(R:nS l){f:aB}(hf:f∈l){a:Nat}{h:Int}(r:Reach f a h){c:aQ}(hc:f.code[a]?=some c):
 okS c h/\∀b k,(b,k)∈dq (a:Int) c h->∃b':Nat,b=(b':Int)/\Reach f b' k:=by
 have S:=(R.fns f hf).2.2.2
 have nf:=R.nofault f hf
 have hk:okS c h:=by
  by_cases hk:okS c h
  ·exact hk
  ·exact absurd ⟨a,h,c,r,hc, .inl hk⟩ nf
 refine⟨hk,λb k hw=> ?_⟩
 have hal:=li S.1 r
 rcases cT.mp hw with⟨h1,h2,h3⟩|⟨h1,h2,h3⟩
 ·obtain⟨b',eb,hb⟩:=(S.2.2 c (aae hc)).2 h1
  refine⟨b',by rw[h2,eb],Reach.step r hc hk (by rw[<-eb,<-h2];exact hw) hb⟩
 ·refine⟨a+1,by rw[h2];rfl,?_⟩
  have e2:b=((a+1:Nat):Int):=by rw[h2];rfl
  by_cases hend:a+1=f.code.length
  ·exact absurd ⟨a,h,c,r,hc, .inr (.inl ⟨hk,k,by rw[<-hend,<-e2];exact hw⟩)⟩ nf
  ·exact Reach.step r hc hk (by rw[<-e2];exact hw) (by omega)
end Go.Proofs.YtcghbgmmgcljkaaGreatDoor
end
section
namespace Go.Proofs.YtcghbgmmgcljkaaGreatDoor
set_option maxRecDepth 20000
theorem zg{r:Item×Int}{at1 at2:Int}{pl pl1 s st1:List Item}(h:im r at1 pl s= .go at2 pl1 st1):at2=at1/\pl1=pl/\st1=r.1::s:=by
 unfold im at h
 split at h
 ·injection h with h1 h2 h3
  exact⟨h1.symm,h2.symm,h3.symm⟩
 ·cases h
theorem de{st:List Item}{h:Int}(e:h=(st.length:Int))(h1:1<=h):∃x s,st=x::s:=by
 cases st with
 |nil=>simp at e;omega
 |cons x s=>exact⟨x,s,rfl⟩
theorem rP{st:List Item}{h:Int}(e:h=(st.length:Int))(h1:2<=h):∃x y s,st=x::y::s:=by
 cases st with
 |nil=>simp at e;omega
 |cons x s=>cases s with
  |nil=>simp at e;omega
  |cons y s=>exact⟨x,y,s,rfl⟩
theorem bH{c:aQ}(h0:0<=c.op)(h1:c.op<=19)(h16:c.op≠16):(c.op=5\/c.op=6->bD c=2)/\(c.op=3\/c.op=4\/c.op=15\/c.op=17\/(7<=c.op/\c.op<=13)->bD c=1):=by
 unfold bD
 constructor
 ·intro h
  rw[adH (by omega),adH (by omega),adI (by omega)]
 ·intro h
  rw[adH (by omega)]
  by_cases h2:c.op=3\/c.op=4\/c.op=15\/c.op=17
  ·rw[adI h2]
  ·rw[adH h2,adH (by omega),adH h16,adH (by omega)]
theorem O_{l:List aB}{f:aB}{c:aQ}(hcode:di l f c=true){ck:Bool}{a:Int}{pl st pl1 st1:List Item}{at1:Int}(hk:okS c (st.length:Int))
 (h:cM ck c (a+1) pl st= .go at1 pl1 st1):(at1,(st1.length:Int))∈dq a c (st.length:Int)/\pl1.length=pl.length:=by
 have hr:=nE hcode
 obtain⟨ht,_⟩:=hk
 have hk:c.op=0\/c.op=1\/c.op=2\/c.op=18\/c.op=3\/c.op=4\/c.op=5\/c.op=6\/(c.op=7\/c.op=8\/c.op=9\/c.op=10\/c.op=11)\/c.op=12\/c.op=13\/c.op=14\/c.op=15\/c.op=17\/c.op=19\/c.op=16:=by omega
 rcases hk with e|e|e|e|e|e|e|e|e|e|e|e|e|e|e|e
 ·simp only[cM,e,adE]at h
  injection h with h1 h2 h3
  subst h1 h2 h3
  simp[dq,cE,bD,bZ,e]
 ·simp[cM,e]at h
  obtain⟨h1,h2,h3⟩:=h
  subst h1 h2 h3
  simp[dq,cE,bD,bZ,e]
 ·simp[cM,e]at h
  obtain⟨h1,h2,h3⟩:=h
  subst h1 h2 h3
  simp[dq,cE,bD,bZ,e]
 ·simp[cM,e]at h
  obtain⟨h1,h2,h3⟩:=h
  subst h1 h2 h3
  simp[dq,cE,bD,bZ,e]
 ·have h1:bD c=1:=(bH hr.1 hr.2 (by omega)).2 (by omega)
  obtain⟨x,s,rfl⟩:=de rfl (h1▸ht)
  simp[cM,e]at h
  obtain⟨h1,h2,h3⟩:=h
  subst h1 h2 h3
  simp[dq,cE,bD,bZ,e]
 ·have h1:bD c=1:=(bH hr.1 hr.2 (by omega)).2 (by omega)
  obtain⟨x,s,rfl⟩:=de rfl (h1▸ht)
  simp[cM,e]at h
  obtain⟨h1,h2,h3⟩:=h
  subst h1 h2 h3
  simp[dq,cE,bD,bZ,e]
 ·have h1:bD c=2:=(bH hr.1 hr.2 (by omega)).1 (by omega)
  obtain⟨x,y,s,rfl⟩:=rP rfl (h1▸ht)
  simp only[cM,e,show¬(5:Int)=0 by decide,show¬(5:Int)=1 by decide,show¬(5:Int)=18 by decide,show¬(5:Int)=2 by decide,show¬(5:Int)=3 by decide,show¬(5:Int)=4 by decide,adF,adE]at h
  obtain⟨h1,h2,h3⟩:=zg h
  subst h1 h2 h3
  simp[dq,cE,bD,bZ,e];omega
 ·have h1:bD c=2:=(bH hr.1 hr.2 (by omega)).1 (by omega)
  obtain⟨x,y,s,rfl⟩:=rP rfl (h1▸ht)
  simp[cM,e]at h
  obtain⟨h1,h2,h3⟩:=h
  subst h1 h2 h3
  simp[dq,cE,bD,bZ,e];omega
 ·have h1:bD c=1:=(bH hr.1 hr.2 (by omega)).2 (by omega)
  obtain⟨x,s,rfl⟩:=de rfl (h1▸ht)
  rw[cM,adH (by omega),adH (by omega),adH (by omega),adH (by omega),adH (by omega),adH (by omega),adH (by omega),adH (by omega),adI e]at h
  obtain⟨h2,h3,h4⟩:=zg h
  subst h2 h3 h4
  refine⟨?_,rfl⟩
  have hl:bZ c=1:=by unfold bZ;rw[adH (by omega)]
  rw[dq,adH (by omega),adH (by omega),adH (by omega),adH (by omega),aaS,cE,h1,hl]
  simp
 ·have h1:bD c=1:=(bH hr.1 hr.2 (by omega)).2 (by omega)
  obtain⟨x,s,rfl⟩:=de rfl (h1▸ht)
  simp[cM,e]at h
  split at h
  ·injection h with h1 h2 h3
   subst h1 h2 h3
   simp[dq,e]
  ·injection h with h1 h2 h3
   subst h1 h2 h3
   simp[dq,e]
 ·have h1:bD c=1:=(bH hr.1 hr.2 (by omega)).2 (by omega)
  obtain⟨x,s,rfl⟩:=de rfl (h1▸ht)
  simp[cM,e]at h
  split at h
  ·injection h with h1 h2 h3
   subst h1 h2 h3
   simp[dq,cE,bD,bZ,e]
  ·injection h with h1 h2 h3
   subst h1 h2 h3
   simp[dq,cE,bD,bZ,e]
 ·simp[cM,e]at h
  obtain⟨h1,h2,h3⟩:=h
  subst h1 h2 h3
  simp[dq,cE,bD,bZ,e]
 ·have h1:bD c=1:=(bH hr.1 hr.2 (by omega)).2 (by omega)
  obtain⟨x,s,rfl⟩:=de rfl (h1▸ht)
  simp[cM,e]at h
  split at h
  ·injection h with h1 h2 h3
   subst h1 h2 h3
   simp[dq,cE,bD,bZ,e]
  ·injection h with h1 h2 h3
   subst h1 h2 h3
   simp[dq,cE,bD,bZ,e]
 ·simp[cM,e]at h
 ·simp[cM,e]at h
  split at h<;>cases h
 ·simp[cM,e]at h
theorem zh{r:Item×Int}{at1:Int}{pl s:List Item}:im r at1 pl s≠ .call:=by
 unfold im
 split<;>exactλh=>by cases h
theorem rV{l:List aB}{f:aB}{c:aQ}(hcode:di l f c=true){ck:Bool}{at1:Int}{pl st:List Item}:cM ck c at1 pl st= .call↔c.op=16:=by
 have hr:=nE hcode
 constructor
 ·intro h
  by_cases e:c.op=16
  ·exact e
  ·exfalso
   have hk:c.op=0\/c.op=1\/c.op=2\/c.op=18\/c.op=3\/c.op=4\/c.op=5\/c.op=6\/(c.op=7\/c.op=8\/c.op=9\/c.op=10\/c.op=11)\/c.op=12\/c.op=13\/c.op=14\/c.op=15\/c.op=17\/c.op=19:=by omega
   rcases hk with e|e|e|e|e|e|e|e|e|e|e|e|e|e|e
   ·simp[cM,e]at h
   ·simp[cM,e]at h
   ·simp[cM,e]at h
   ·simp[cM,e]at h
   ·simp[cM,e]at h
   ·simp[cM,e]at h
   ·simp[cM,e]at h;exact zh h
   ·simp[cM,e]at h
   ·rw[cM,adH (by omega),adH (by omega),adH (by omega),adH (by omega),adH (by omega),adH (by omega),adH (by omega),adH (by omega),adI e]at h
    exact zh h
   ·simp[cM,e]at h;split at h<;>cases h
   ·simp[cM,e]at h;split at h<;>cases h
   ·simp[cM,e]at h
   ·simp[cM,e]at h;split at h<;>cases h
   ·simp[cM,e]at h
   ·simp[cM,e]at h;split at h<;>cases h
 ·intro e
  simp[cM,e]
theorem MP{l:List aB}{f:aB}{c:aQ}(hcode:di l f c=true)(e:c.op=16):∃k:Nat,∃g,cv l c.name0=(k:Int)/\k<l.length/\l[k]?=some g/\c.b=g.params/\bD c=c.b/\bZ c=1:=by
 unfold di at hcode
 simp[e]at hcode
 rcases nk l c.name0 with hf|⟨k,g,hk,hkl,hg⟩
 ·omega
 ·refine⟨k,g,hk,hkl,hg,?_,by simp[bD,e],by simp[bZ,e]⟩
  rw[hk]at hcode
  simp[hg]at hcode
  exact hcode.2
end Go.Proofs.YtcghbgmmgcljkaaGreatDoor
end
section
namespace Go.Proofs.YtcghbgmmgcljkaaGreatDoor
set_option maxRecDepth 20000
theorem yd{t:aF}(h:d4 t=true)(h0:t.base≠0)(h1:t.base≠1):1<=t.bits/\t.bits<=31:=by
 unfold d4 dA at h
 simp only[aac,adG]at h
 obtain⟨h2,h3⟩:=h
 by_cases hb:t.base=2\/t.base=3
 ·rw[adI hb]at h2
  simp only[aac,adG]at h2
  exact h2.1
 ·rw[adH hb,adH (by omega),adH h0,adH (by omega)]at h2
  simp only[aac,adG]at h2
  exact absurd h2.1.1 h1
theorem gj{t:aF}(h:cK t=true):(t.base=2\/t.base=3)/\1<=t.bits/\t.bits<=31:=by
 unfold cK dA at h
 simp only[aac,adG]at h
 obtain⟨⟨⟨h2,hb⟩,_⟩,_⟩:=h
 rw[adI hb]at h2
 simp only[aac,adG]at h2
 exact⟨hb,h2.1⟩
theorem Kf{t:aF}(h:cK t=true)(n:Int):lB t n=bt t n:=by
 obtain⟨hb,_⟩:=gj h
 unfold lB bt
 rw[adH (by omega),adH (by omega)]
theorem tg(b:Bool):AG (b,())=some (gd b,()):=by rw[AG];cases b<;>rfl
theorem px(b:Bool):AK (b,())=some (val (gd b),()):=by rw[AK];cases b<;>rfl
theorem jf(n:Int):sH (n,())=some (val (cj n),()):=by rw[sH];rfl
theorem sm(t:aF):AH (t,())=some (bB.mk (t.base==3) t.bits,()):=by rw[AH]
theorem k_(t:aF):uq (t,())=some (bB.mk (t.base==3) t.bits,()):=by rw[uq]
theorem lh(t:aF)(n:Int)(h:d4 t=true):QR (t,n,())=some (cj (lB t n),()):=by
 rw[QR]
 unfold lB
 by_cases h0:t.base=0
 ·simp[h0];rfl
 by_cases h1:t.base=1
 ·by_cases hn:n=0<;>simp[h1,hn,tg,gd]
 ·obtain⟨b1,b2⟩:=yd h h0 h1
  have e0:(t.base==0)=false:=by simpa using h0
  have e1:(t.base==1)=false:=by simpa using h1
  simp only[e0,e1,h0,h1,Z5,adF,sm,iH (bB.mk (t.base==3) t.bits) n b1 b2,Z6,Z3]
  rfl
theorem rS(t:aF)(n:Int)(h:d4 t=true):o8 (t,n,())=some (lB t n,()):=by
 rw[o8]
 unfold lB
 by_cases h0:t.base=0
 ·simp[h0]
 by_cases h1:t.base=1
 ·by_cases hn:n=0<;>simp[h1,hn,px,gd,val,cj]
 ·obtain⟨b1,b2⟩:=yd h h0 h1
  have e0:(t.base==0)=false:=by simpa using h0
  have e1:(t.base==1)=false:=by simpa using h1
  simp only[e0,e1,h0,h1,Z5,adF,k_,HC (bB.mk (t.base==3) t.bits) n b1 b2,Z6,Z3]
theorem Og{t:aF}(h:cK t=true):d4 t=true:=by
 have hb:=(gj h).1
 unfold cK at h
 unfold d4
 simp only[aac,adG]at h⊢
 exact⟨h.1.1.1,by omega⟩
theorem gg(t:aF)(n:Int)(h:cK t=true):o8 (t,n,())=some (bt t n,()):=by
 rw[rS t n (Og h),Kf h]
theorem z_{t:aF}(h:cK t=true)(n:Int):inT (t.base==3) t.bits (bt t n):=by
 obtain⟨_,b1,b2⟩:=gj h
 exact Ms b1 b2
theorem qY(ck:Bool)(op:Int)(t:aF)(y x:Item)(h:cK t=true):QS (op,t,y,x,ck,())=some ((opS ck op t y x).2,(opS ck op t y x).1,()):=by
 obtain⟨_,b1,b2⟩:=gj h
 have i1:=z_ h y.n
 have i2:=z_ h x.n
 rw[QS]
 unfold opS
 have hb:∀n,kL (bB.mk (t.base==3) t.bits,n,())=some (bt t n,()):=λn=>iH _ n b1 b2
 simp only[sm,hb,Z6,Z3]
 cases ck
 ·simp only[aa4,adE,Z5,adF,DA op (bB.mk (t.base==3) t.bits) _ _ b1 b2 i1 i2,Z3]
  rfl
 ·simp only[aaC,adE,Z5,adF,u6 op (bB.mk (t.base==3) t.bits) _ _ b1 b2 i1 i2,Z3]
  rfl
theorem Hm(op a b:Int):HO (op,a,b,())=some (jL op a b,()):=by
 rw[HO]
 unfold jL
 by_cases h1:op=18
 ·simp[h1]
 by_cases h2:op=19
 ·simp[h2]
 by_cases h3:op=20
 ·simp[h3]
 by_cases h4:op=21
 ·simp[h4]
 by_cases h5:op=22
 ·simp[h5]
 simp[h1,h2,h3,h4,h5]
theorem oy(op:Int)(y x:Item):QT (op,y,x,())=some (gd (jL op y.n x.n),()):=by
 rw[QT]
 simp only[Hm,tg,Z6,Z3]
theorem ya(ck:Bool)(op:Int)(t:aF)(x:Item)(h:7<=op/\op<=11)(ht:op=7\/op=9\/op=10->cK t=true):
 QU (op,t,x,ck,())=some ((bA ck op t x).2,(bA ck op t x).1,()):=by
 rw[QU]
 unfold bA
 simp only[sm,Z6,Z3]
 have hk:op=8\/op=11\/op=7\/op=9\/op=10:=by omega
 rcases hk with e|e|e|e|e
 ·simp[e,tg]
 ·cases hn:x.null<;>cases ck<;>simp[e,cj]
 all_goals
  have hi:=ht (by omega)
  obtain⟨_,b1,b2⟩:=gj hi
  have hb:∀n,kL (bB.mk (t.base==3) t.bits,n,())=some (bt t n,()):=λn=>iH _ n b1 b2
  have his:∀n,wN (bB.mk (t.base==3) t.bits,n,())=some (decide (inT (t.base==3) t.bits n),()):=λn=>QF _ n b1 b2
 ·have i1:=z_ hi x.n
  have l1:=oW b1 b2 i1
  have w:IntKind.i64.wrap (0-bt t x.n)= -(bt t x.n):=by rw[w64 (by omega) (by omega)];omega
  have w':IntKind.i64.wrap (-(bt t x.n))= -(bt t x.n):=by rw[w64 (by omega) (by omega)]
  cases ck
  ·simp[e,hb,w',cj]
  ·by_cases hin:inT (t.base==3) t.bits (-(bt t x.n))<;>simp[e,hb,his,w',hin,cj]
 ·cases ck
  ·simp[e,hb,cj]
  ·by_cases hin:inT (t.base==3) t.bits x.n<;>simp[e,hb,his,hin,cj]
 ·simp[e,hb,cj]
end Go.Proofs.YtcghbgmmgcljkaaGreatDoor
end
section
namespace Go.Proofs.YtcghbgmmgcljkaaGreatDoor
set_option maxRecDepth 20000
def tu{α:Type}(f:aB)(d at1:Int)(res:Option aE)(l:List aB)(ck:Bool)(steps place high:Int)(en:Option bX)(pl st:List Item)(cnt:List Int)(sn:List Item)(t:α):=
 (f.name0,f.params,f.places,f.type0.base,f.type0.bits,f.type0.name0,f.type0.opt,f.type0.err,f.code,d,at1,res,l,ck,steps,place,high,en,pl.map val,(st.map val).reverse,cnt,sn.map val,t)
theorem lT(st:List Item):((st.map val).reverse).length=st.length:=by simp
theorem Fy(x:Item)(st:List Item):(((x::st).map val).reverse)[st.length]?=some (val x):=by
 rw[aah,ab8,aao (by simp)];simp
theorem Jy(x:Item)(st:List Item):abg st.length (((x::st).map val).reverse)=(st.map val).reverse:=by
 rw[aah,ab8,List.take_left' (by simp)]
section
variable (f:aB) (d at1:Int) (res:Option aE) (l:List aB) (ck:Bool) (steps place high:Int) (en:Option bX) (pl st:List Item) (cnt:List Int) (sn:List Item)
theorem fA(x:Item)(hs:st.length<4294967296):cL (val x,tu f d at1 res l ck steps place high en pl st cnt sn ())=some (tu f d at1 res l ck steps place (aV d high (st.length+1)) en pl (x::st) cnt sn ()):=by
 rw[cL]
 have e:(st.map val).reverse++[val x]=((x::st).map val).reverse:=by simp
 have h1:(st.map val).reverse.length+[val x].length<=4294967296:=by simp;omega
 have h2:(((x::st).map val).reverse.length:Int)=((st.length+1:Nat):Int):=by rw[lT];rfl
 unfold tu
 simp only[]
 rw[adI h1]
 simp only[e,h2]
 unfold aV
 by_cases hd:d=1
 ·have hb:(d==1)=true:=by simpa using hd
  rw[adI hb,adI hd]
 ·have hb:¬(d==1)=true:=by simpa using hd
  rw[adH hb,adH hd]
theorem fh(x:Item)(hs:st.length<4294967296):cq (tu f d at1 res l ck steps place high en pl (x::st) cnt sn ())=some (tu f d at1 res l ck steps place high en pl st cnt sn (val x,())):=by
 rw[cq]
 have h1:((((x::st).map val).reverse).length:Int)=(st.length:Int)+1:=by rw[lT];rfl
 have w:IntKind.i64.wrap ((st.length:Int)+1-1)=(st.length:Int):=by rw[w64 (by omega) (by omega)];omega
 have h2:(0:Int)<=(st.length:Int):=by omega
 have h3:(st.length:Int)<(st.length:Int)+1:=by omega
 have h4:(st.length:Int)<=(st.length:Int)+1:=by omega
 unfold tu
 simp only[h1,w,h2,h3,h4,and_self,adE,Z_,Fy,Jy,Z6,Z3]
theorem Fo(x:Item)(hs:st.length<4294967296):gR (tu f d at1 res l ck steps place high en pl (x::st) cnt sn ())=some (tu f d at1 res l ck steps place high en pl (x::st) cnt sn (val x,())):=by
 rw[gR]
 have h1:((((x::st).map val).reverse).length:Int)=(st.length:Int)+1:=by rw[lT];rfl
 have w:IntKind.i64.wrap ((st.length:Int)+1-1)=(st.length:Int):=by rw[w64 (by omega) (by omega)];omega
 have h2:(0:Int)<=(st.length:Int):=by omega
 have h3:(st.length:Int)<(st.length:Int)+1:=by omega
 unfold tu
 simp only[h1,w,h2,h3,and_self,adE,Z_,Fy,Z6,Z3]
theorem ze(b:Bool)(q:Int):gS (b,q,tu f d at1 res l ck steps place high en pl st cnt sn ())=some (tu f d (if b=true then q else at1) res l ck steps place high en pl st cnt sn ()):=by
 rw[gS]
 unfold tu
 cases b<;>rfl
theorem nH(n loose why:Int)(hs:st.length<4294967296):eU (n,loose,why,tu f d at1 res l ck steps place high en pl st cnt sn ())=
 some (if why≠0/\ck=true then tu f d at1 res l ck steps place high (some (bX.mk 1 why)) pl st cnt sn ()else tu f d at1 res l ck steps place (aV d high (st.length+1)) en pl (cj (if why=0 then n else loose)::st) cnt sn ()):=by
 have hp:=λx=>fA f d at1 res l ck steps place high en pl st cnt sn x hs
 unfold tu at hp
 rw[eU]
 unfold tu
 by_cases hw:why=0
 ·subst hw
  simp only[bne_self_eq_false,Z5,adF,Z6,Z3,jf,hp,aab,adE,ne_eq,not_true_eq_false,false_and]
 ·have hb:(why !=0)=true:=by simpa using hw
  cases ck
  ·simp only[hb,hw,adE,adF,Z5,Z6,Z3,jf,hp,aab,and_false]
  ·simp only[hb,hw,adE,Z6,Z3,d_,aab,ne_eq,not_false_eq_true,and_self]
theorem Fm(p:Int)(x:Item)(hp0:0<=p)(hp1:p<(pl.length:Int))(hs:sn.length<=100):jy (p,val x,tu f d at1 res l ck steps place high en pl st cnt sn ())=
 some (tu f d at1 res l ck steps place high en (pl.set p.toNat x) st cnt (if d=1/\place=p/\sn.length<100 then sn++[x]else sn) ()):=by
 rw[jy]
 unfold tu
 have h1:p<((pl.map val).length:Int):=by simpa using hp1
 obtain⟨y,hy⟩:∃y,(pl.map val)[p.toNat]?=some y:=⟨_,Z8 (by simp;omega)⟩
 have e:(pl.map val).set p.toNat (val x)=(pl.set p.toNat x).map val:=by rw[abI]
 have ev:aE.mk (aF.mk (val x).type0.base (val x).type0.bits (val x).type0.name0 (val x).type0.opt (val x).type0.err) (val x).n (val x).null (val x).err (aF.mk (val x).of0.base (val x).of0.bits (val x).of0.name0 (val x).of0.opt (val x).of0.err)=val x:=rfl
 simp only[hp0,hp1,and_self,adE,hy,Z6,Z3,e,aab,aa_]
 by_cases hd:d=1
 ·have hb:(d==1)=true:=by simpa using hd
  by_cases hpl:place=p
  ·have hb2:(p==place)=true:=by simp[hpl]
   by_cases hn:sn.length<100
   ·have hn':(sn.length:Int)<100:=by omega
    have hl:sn.length+1<=4294967296:=by omega
    simp only[adE,hn',adJ,aab,hl,hd,hpl,hn,and_self,beq_self_eq_true,Z3,aa0,aah,aaY]
   ·have hn':¬(sn.length:Int)<100:=by omega
    simp only[adE,hn',adK,Z5,adF,hd,hpl,hn,and_false,beq_self_eq_true,Z3]
  ·have hb2:(p==place)=false:=by simp;exactλh=>hpl h.symm
   simp only[hb2,adE,Z5,adF,hd,hpl,false_and,and_false,beq_self_eq_true,Z3]
 ·have hb:(d==1)=false:=by simpa using hd
  simp only[hb,Z5,adF,hd,false_and,Z3]
end
end Go.Proofs.YtcghbgmmgcljkaaGreatDoor
end
section
namespace Go.Proofs.YtcghbgmmgcljkaaGreatDoor
set_option maxRecDepth 20000
section
variable (f:aB) (d at1:Int) (res:Option aE) (l:List aB) (ck:Bool) (steps place high:Int) (en:Option bX) (pl st:List Item) (cnt:List Int) (sn:List Item) (c:aQ)
theorem p77(hs:st.length<4294967000)(ht:d4 c.type0=true):fL (c,tu f d at1 res l ck steps place high en pl st cnt sn ())=
 some (tu f d at1 res l ck steps place (aV d high (st.length+1)) en pl (cj (lB c.type0 c.a)::st) cnt sn ()):=by
 have hp:=λx=>fA f d at1 res l ck steps place high en pl st cnt sn x (by omega)
 unfold tu at hp
 rw[fL];unfold tu
 simp only[rS _ _ ht,jf,hp,Z6,Z3,adE]
theorem p78(hs:st.length<4294967000):fM (c,tu f d at1 res l ck steps place high en pl st cnt sn ())=
 some (tu f d at1 res l ck steps place (aV d high (st.length+1)) en pl (Item.mk 0 true (Z4 #[])::st) cnt sn ()):=by
 have hp:=fA f d at1 res l ck steps place high en pl st cnt sn (Item.mk 0 true (Z4 #[])) (by omega)
 unfold tu val at hp
 rw[fM];unfold tu val
 simp only[hp,Z6,Z3,adE]
theorem p95(hs:st.length<4294967000):f8 (c,tu f d at1 res l ck steps place high en pl st cnt sn ())=
 some (tu f d at1 res l ck steps place (aV d high (st.length+1)) en pl (Item.mk 0 false c.name0::st) cnt sn ()):=by
 have hp:=fA f d at1 res l ck steps place high en pl st cnt sn (Item.mk 0 false c.name0) (by omega)
 unfold tu val at hp
 rw[f8];unfold tu val
 simp only[hp,Z6,Z3,adE]
theorem p79(hs:st.length<4294967000)(h0:0<=c.a)(h1:c.a<(pl.length:Int)):fN (c,tu f d at1 res l ck steps place high en pl st cnt sn ())=
 some (tu f d at1 res l ck steps place (aV d high (st.length+1)) en pl (pl.getD c.a.toNat (cj 0)::st) cnt sn ()):=by
 have hp:=λx=>fA f d at1 res l ck steps place high en pl st cnt sn x (by omega)
 unfold tu at hp
 have hlt:c.a.toNat<pl.length:=by omega
 have e:(pl.map val)[c.a.toNat]?=some (val (pl.getD c.a.toNat (cj 0))):=by
  rw[aaa,aa5,Z8 hlt];rfl
 have h1':c.a<((pl.map val).length:Int):=by simpa using h1
 rw[fN];unfold tu
 simp only[h0,h1',and_self,adE,e,hp,Z6,Z3]
theorem p80(x:Item)(hs:st.length<4294967000)(h0:0<=c.a)(h1:c.a<(pl.length:Int))(hn:sn.length<=100):fO (c,tu f d at1 res l ck steps place high en pl (x::st) cnt sn ())=
 some (tu f d at1 res l ck steps place high en (pl.set c.a.toNat x) st cnt (if d=1/\place=c.a/\sn.length<100 then sn++[x]else sn) ()):=by
 have hp:=fh f d at1 res l ck steps place high en pl st cnt sn x (by omega)
 have hq:=Fm f d at1 res l ck steps place high en pl st cnt sn c.a x h0 h1 hn
 unfold tu at hp hq
 rw[fO];unfold tu
 simp only[hp,hq,adE,Z6,Z3,aab,aaW]
theorem p81(x:Item)(hs:st.length<4294967000):fP (c,tu f d at1 res l ck steps place high en pl (x::st) cnt sn ())=
 some (tu f d at1 res l ck steps place high en pl st cnt sn ()):=by
 have hp:=fh f d at1 res l ck steps place high en pl st cnt sn x (by omega)
 unfold tu at hp
 rw[fP];unfold tu
 simp only[hp,adE,Z6,Z3]
theorem p82(y x:Item)(hs:st.length<4294967000)(ht:cK c.type0=true)(ho:5<=c.a/\c.a<=17):fQ (c,tu f d at1 res l ck steps place high en pl (x::y::st) cnt sn ())=
 some (if(opS ck c.a c.type0 y x).2=0 then tu f d at1 res l ck steps place (aV d high (st.length+1)) en pl ((opS ck c.a c.type0 y x).1::st) cnt sn ()
  else tu f d at1 res l ck steps place high (some (bX.mk 1 (opS ck c.a c.type0 y x).2)) pl st cnt sn ()):=by
 have hp:=λx st hs=>fh f d at1 res l ck steps place high en pl st cnt sn x hs
 have hm:=λn lo w=>nH f d at1 res l ck steps place high en pl st cnt sn n lo w (by omega)
 unfold tu at hp hm
 obtain⟨_,b1,b2⟩:=gj ht
 have i1:=z_ ht y.n
 have i2:=z_ ht x.n
 have hc:=Ak c.a (bB.mk (c.type0.base==3) c.type0.bits) _ _ b1 b2 i1 i2 ho
 have hl:=Hy c.a (bB.mk (c.type0.base==3) c.type0.bits) _ _ b1 b2 i1 i2 ho
 have en:∀z,(val z).n=z.n:=λ_=>rfl
 rw[fQ];unfold tu
 rw[show((acq val (x::y::st)).reverse)=((acq val (x::(y::st))).reverse)from rfl]
 simp only[hp x (y::st) (by simp;omega),hp y st (by omega),en,gg _ _ ht,k_,hc,hl,hm,adE,Z6,Z3]
 unfold opS
 generalize doS c.a (c.type0.base==3) c.type0.bits (bt c.type0 y.n) (bt c.type0 x.n)=r
 by_cases hr:r.2=0
 ·cases ck<;>simp only[hr,ne_eq,not_true_eq_false,false_and,adF,adE,Z5]
 ·cases ck
  ·simp only[hr,Z5,and_false,adF,adE]
  ·simp only[hr,ne_eq,not_false_eq_true,and_self,adE,adF]
theorem p83(y x:Item)(hs:st.length<4294967000)(ho:18<=c.a/\c.a<=23):fR (c,tu f d at1 res l ck steps place high en pl (x::y::st) cnt sn ())=
 some (tu f d at1 res l ck steps place (aV d high (st.length+1)) en pl (gd (jL c.a y.n x.n)::st) cnt sn ()):=by
 have hp:=λx st hs=>fh f d at1 res l ck steps place high en pl st cnt sn x hs
 have hq:=λx=>fA f d at1 res l ck steps place high en pl st cnt sn x (by omega)
 unfold tu at hp hq
 have en:∀z,(val z).n=z.n:=λ_=>rfl
 have w:IntKind.i64.wrap (c.a-18)=c.a-18:=w64 (by omega) (by omega)
 have w1:0<=c.a-18:=by omega
 have w2:c.a-18<6:=by omega
 have e:[y.n==x.n,y.n !=x.n,decide (y.n<x.n),decide (y.n<=x.n),decide (y.n>x.n),decide (y.n>=x.n)][(c.a-18).toNat]?=some (jL c.a y.n x.n):=by
  have hk:c.a=18\/c.a=19\/c.a=20\/c.a=21\/c.a=22\/c.a=23:=by omega
  rcases hk with h|h|h|h|h|h<;>rw[h]<;>rfl
 rw[fR];unfold tu
 simp only[hp x (y::st) (by simp;omega),hp y st (by omega),en,w,w1,w2,and_self,e,px,hq,adE,Z6,Z3,show((6:Nat):Int)=6 from rfl]
theorem p84(x:Item)(hs:st.length<4294967000)(ht:cK c.type0=true):fS (c,tu f d at1 res l ck steps place high en pl (x::st) cnt sn ())=
 some (if(bA ck 7 c.type0 x).2=0 then tu f d at1 res l ck steps place (aV d high (st.length+1)) en pl ((bA ck 7 c.type0 x).1::st) cnt sn ()
  else tu f d at1 res l ck steps place high (some (bX.mk 1 (bA ck 7 c.type0 x).2)) pl st cnt sn ()):=by
 have hp:=λx st hs=>fh f d at1 res l ck steps place high en pl st cnt sn x hs
 have hm:=λn lo w=>nH f d at1 res l ck steps place high en pl st cnt sn n lo w (by omega)
 unfold tu at hp hm
 obtain⟨_,b1,b2⟩:=gj ht
 have i1:=z_ ht x.n
 have l1:=oW b1 b2 i1
 have w:IntKind.i64.wrap (0-bt c.type0 x.n)= -(bt c.type0 x.n):=by rw[w64 (by omega) (by omega)];omega
 have hn:=Nl (bB.mk (c.type0.base==3) c.type0.bits) _ b1 b2 i1
 have en:∀z,(val z).n=z.n:=λ_=>rfl
 rw[fS];unfold tu
 simp only[hp x st (by omega),en,gg _ _ ht,k_,hn,w,adE,Z6,Z3]
 unfold bA
 by_cases hin:inT (c.type0.base==3) c.type0.bits (-(bt c.type0 x.n))
 ·have e:=lH b1 b2 hin
  have e':bt c.type0 (-(bt c.type0 x.n))= -(bt c.type0 x.n):=e
  cases ck<;>simp[hin,hm,e']
 ·cases ck<;>simp[hin,hm]
theorem p85(x:Item)(hs:st.length<4294967000):fT (c,tu f d at1 res l ck steps place high en pl (x::st) cnt sn ())=
 some (tu f d at1 res l ck steps place (aV d high (st.length+1)) en pl (gd (x.n==0)::st) cnt sn ()):=by
 have hp:=λx st hs=>fh f d at1 res l ck steps place high en pl st cnt sn x hs
 have hq:=λx=>fA f d at1 res l ck steps place high en pl st cnt sn x (by omega)
 unfold tu at hp hq
 have en:∀z,(val z).n=z.n:=λ_=>rfl
 rw[fT];unfold tu
 simp only[hp x st (by omega),en,px,hq,adE,Z6,Z3]
theorem p86(x:Item)(hs:st.length<4294967000)(ht:cK c.type0=true):fU (c,tu f d at1 res l ck steps place high en pl (x::st) cnt sn ())=
 some (if(bA ck 9 c.type0 x).2=0 then tu f d at1 res l ck steps place (aV d high (st.length+1)) en pl ((bA ck 9 c.type0 x).1::st) cnt sn ()
  else tu f d at1 res l ck steps place high (some (bX.mk 1 (bA ck 9 c.type0 x).2)) pl st cnt sn ()):=by
 have hp:=λx st hs=>fh f d at1 res l ck steps place high en pl st cnt sn x hs
 have hm:=λn lo w=>nH f d at1 res l ck steps place high en pl st cnt sn n lo w (by omega)
 unfold tu at hp hm
 obtain⟨_,b1,b2⟩:=gj ht
 have hn:=HB (bB.mk (c.type0.base==3) c.type0.bits) x.n b1 b2
 have en:∀z,(val z).n=z.n:=λ_=>rfl
 rw[fU];unfold tu
 simp only[hp x st (by omega),en,k_,hn,adE,Z6,Z3]
 unfold bA
 by_cases hin:inT (c.type0.base==3) c.type0.bits x.n
 ·have e:=lH b1 b2 hin
  have e':bt c.type0 x.n=x.n:=e
  cases ck<;>simp[hin,hm,e',gg _ _ ht]
 ·cases ck<;>simp[hin,hm,gg _ _ ht]
theorem p87(x:Item)(hs:st.length<4294967000)(ht:cK c.type0=true):fV (c,tu f d at1 res l ck steps place high en pl (x::st) cnt sn ())=
 some (tu f d at1 res l ck steps place (aV d high (st.length+1)) en pl (cj (bt c.type0 x.n)::st) cnt sn ()):=by
 have hp:=λx st hs=>fh f d at1 res l ck steps place high en pl st cnt sn x hs
 have hq:=λx=>fA f d at1 res l ck steps place high en pl st cnt sn x (by omega)
 unfold tu at hp hq
 have en:∀z,(val z).n=z.n:=λ_=>rfl
 rw[fV];unfold tu
 simp only[hp x st (by omega),en,gg _ _ ht,jf,hq,adE,Z6,Z3]
theorem p88(x:Item)(hs:st.length<4294967000):fW (c,tu f d at1 res l ck steps place high en pl (x::st) cnt sn ())=
 some (if(bA ck 11 c.type0 x).2=0 then tu f d at1 res l ck steps place (aV d high (st.length+1)) en pl ((bA ck 11 c.type0 x).1::st) cnt sn ()
  else tu f d at1 res l ck steps place high (some (bX.mk 1 (bA ck 11 c.type0 x).2)) pl st cnt sn ()):=by
 have hp:=λx st hs=>fh f d at1 res l ck steps place high en pl st cnt sn x hs
 have hm:=λn lo w=>nH f d at1 res l ck steps place high en pl st cnt sn n lo w (by omega)
 unfold tu at hp hm
 have en:∀z,(val z).n=z.n:=λ_=>rfl
 have en2:∀z,(val z).null=z.null:=λ_=>rfl
 rw[fW];unfold tu
 simp only[hp x st (by omega),en2,adE,Z6,Z3]
 unfold bA
 cases hx:x.null<;>cases ck<;>simp[hm,en]
theorem p89(x:Item)(hs:st.length<4294967000):fX (c,tu f d at1 res l ck steps place high en pl (x::st) cnt sn ())=
 some (if x.null=true then tu f d c.a res l ck steps place high en pl st cnt sn ()else tu f d at1 res l ck steps place high en pl (x::st) cnt sn ()):=by
 have hp:=λx st hs=>fh f d at1 res l ck steps place high en pl st cnt sn x hs
 have hq:=Fo f d at1 res l ck steps place high en pl st cnt sn x (by omega)
 unfold tu at hp hq
 have en2:∀z,(val z).null=z.null:=λ_=>rfl
 rw[fX];unfold tu
 simp only[hq,hp x st (by omega),en2,adE,Z6,Z3]
 cases hx:x.null<;>simp
theorem p90(x:Item)(hs:st.length<4294967000):fY (c,tu f d at1 res l ck steps place high en pl (x::st) cnt sn ())=
 some (if x.err=Z4 #[]then tu f d at1 res l ck steps place high en pl (x::st) cnt sn ()else tu f d c.a res l ck steps place high en pl (x::st) cnt sn ()):=by
 have hq:=Fo f d at1 res l ck steps place high en pl st cnt sn x (by omega)
 have hj:=λb q=>ze f d at1 res l ck steps place high en pl (x::st) cnt sn b q
 unfold tu at hq hj
 have en2:∀z,(val z).err=z.err:=λ_=>rfl
 rw[fY];unfold tu
 simp only[hq,hj,en2,eo,adE,Z6,Z3]
 by_cases hx:x.err=Z4 #[]<;>simp[hx]
theorem p91:fZ (c,tu f d at1 res l ck steps place high en pl st cnt sn ())=some (tu f d c.a res l ck steps place high en pl st cnt sn ()):=by
 rw[fZ];rfl
theorem p92(x:Item)(hs:st.length<4294967000):f5 (c,tu f d at1 res l ck steps place high en pl (x::st) cnt sn ())=
 some (tu f d (if x.n=0 then c.a else at1) res l ck steps place high en pl st cnt sn ()):=by
 have hp:=λx st hs=>fh f d at1 res l ck steps place high en pl st cnt sn x hs
 have hj:=λb q=>ze f d at1 res l ck steps place high en pl st cnt sn b q
 unfold tu at hp hj
 have en:∀z,(val z).n=z.n:=λ_=>rfl
 rw[f5];unfold tu
 simp only[hp x st (by omega),hj,en,beq_iff_eq,adE,Z6,Z3]
theorem p94(x:Item)(hs:st.length<4294967000):f6 (c,tu f d at1 res l ck steps place high en pl (x::st) cnt sn ())=
 some (tu f d at1 (some (val x)) l ck steps place high en pl st cnt sn ()):=by
 have hp:=λx st hs=>fh f d at1 res l ck steps place high en pl st cnt sn x hs
 unfold tu at hp
 rw[f6];unfold tu
 simp only[hp x st (by omega),adE,Z6,Z3]
theorem p96:f_ (c,tu f d at1 res l ck steps place high en pl st cnt sn ())=
 some (if ck=true then tu f d at1 res l ck steps place high (some (bX.mk 1 c.a)) pl st cnt sn ()else tu f d at1 (some (val (cj 0))) l ck steps place high en pl st cnt sn ()):=by
 rw[f_];unfold tu
 cases ck
 ·simp only[jf,Z5,adF,Z6,Z3]
 ·simp only[d_,adE,Z6,Z3]
end
end Go.Proofs.YtcghbgmmgcljkaaGreatDoor
end
section
namespace Go.Proofs.YtcghbgmmgcljkaaGreatDoor
set_option maxRecDepth 20000
structure OkG (l:List aB) (g:Lg):Prop where
 s0:0<=g.steps
 s1:g.steps<=40000
 kind:g.kind=0
 stop:g.stop=0
 cnt:g.counts.length=l.length
 seen:g.seen.length<=100
structure OkA (l:List aB) (f:aB) (d:Int) (a:Nat) (pl st:List Item):Prop where
 mem:f∈l
 reach:Reach f a (st.length:Int)
 pls:(pl.length:Int)=f.places
 d1:1<=d
 d2:d<=30
theorem FC{d place:Int}{c:aQ}{st seen:List Item}(h:seen.length<=100):(iB d place c st seen).length<=100:=by
 unfold iB
 split
 ·rw[aax,aa_];omega
 ·exact h
theorem OkA.st_le{l:List aB}{f:aB}{d:Int}{a:Nat}{pl st:List Item}(A:OkA l f d a pl st)(R:nS l):st.length<=65:=by
 have:=xf (R.fns f A.mem).2.2.2 A.reach
 omega
theorem OkA.code{l:List aB}{f:aB}{d:Int}{a:Nat}{pl st:List Item}(A:OkA l f d a pl st)(R:nS l):∃c,f.code[a]?=some c/\c∈f.code/\di l f c=true/\a<f.code.length/\f.code.length<=3000:=by
 have S:=(R.fns f A.mem).2.2.2
 have h:=li S.1 A.reach
 exact⟨_,Z8 h,aaV h,wq (R.fns f A.mem).1 (aaV h),h,S.2.1⟩
theorem w8{l:List aB}(R:nS l){f:aB}{d:Int}{a:Nat}{pl st:List Item}(A:OkA l f d a pl st){g:Lg}(G:OkG l g)(hs:¬g.steps=40000){c:aQ}(hc:f.code[a]?=some c)
 {ck:Bool}{place at1:Int}{pl1 st1:List Item}(h:cM ck c ((a:Int)+1) pl st= .go at1 pl1 st1):
 (∃b:Nat,at1=(b:Int)/\OkA l f d b pl1 st1)/\OkG l {g with steps:=g.steps+1,high:=aV d g.high st1.length,seen:=iB d place c st g.seen}:=by
 have hcode:=wq (R.fns f A.mem).1 (aae hc)
 obtain⟨hk,hw⟩:=jE R A.mem A.reach hc
 obtain⟨h1,h2⟩:=O_ hcode hk h
 obtain⟨b,hb,hr⟩:=hw _ _ h1
 refine⟨⟨b,hb,A.mem,hr,by rw[h2];exact A.pls,A.d1,A.d2⟩,?_⟩
 have:=G.s0
 have:=G.s1
 exact⟨by simp only[];omega,by simp only[];omega,G.kind,G.stop,G.cnt,FC G.seen⟩
theorem pe{l:List aB}(R:nS l){f:aB}{d:Int}{a:Nat}{pl st:List Item}(A:OkA l f d a pl st){c:aQ}(hc:f.code[a]?=some c)(e:c.op=16):
 ∃(k:Nat) (h:aB) (b:Nat),cv l c.name0=(k:Int)/\k<l.length/\l[k]?=some h/\c.b=(b:Int)/\b<=st.length/\(b:Int)=h.params/\(b:Int)<=h.places/\h.places<=200/\
  (∀x,OkA l f d (a+1) pl (x::st.drop b))/\(d+1<=30->OkA l h (d+1) 0 (cG h (st.take b).reverse) []):=by
 have hcode:=wq (R.fns f A.mem).1 (aae hc)
 obtain⟨hk,hw⟩:=jE R A.mem A.reach hc
 obtain⟨k,h,h1,h2,h3,h4,h5,h6⟩:=MP hcode e
 have hm:=aae h3
 obtain⟨_,hp0,hp1,_⟩:=R.fns h hm
 have hp2:=R.places h hm
 obtain⟨hk1,hk2⟩:=hk
 have hb:c.b=((c.b.toNat:Nat):Int):=by omega
 have hble:c.b.toNat<=st.length:=by omega
 refine⟨k,h,c.b.toNat,h1,h2,h3,hb,hble,by omega,by omega,hp2,λx=> ?_,λhd=> ?_⟩
 ·obtain⟨b',hb',hr⟩:=hw ((a:Int)+1) (cE c (st.length:Int)) (cT.mpr (.inr ⟨by unfold iz;simp[e],rfl,rfl⟩))
  have eb:b'=a+1:=by omega
  subst eb
  refine⟨A.mem,?_,A.pls,A.d1,A.d2⟩
  have en:cE c (st.length:Int)=(((x::st.drop c.b.toNat).length:Nat):Int):=by
   unfold cE;rw[h5,h6,aaf,aaJ];omega
  rw[<-en];exact hr
 ·refine⟨hm,Reach.start,?_,by have:=A.d1;omega,hd⟩
  unfold cG
  rw[aax,aaU,aa3,aaR]
  omega
theorem nu{d h:Int}{n:Nat}(hd:d=1):(n:Int)<=aV d h n:=by unfold aV;rw[adI hd];omega
theorem yC{d h:Int}{n:Nat}(hd:d≠1):aV d h n=h:=by unfold aV;rw[adH hd]
theorem gn{d h:Int}{n:Nat}(hd:d=1->(n:Int)<=h):aV d h n=h:=by unfold aV;split<;>omega
structure Left (l:List aB) (d:Int) (g:Lg) (r:Item×Lg):Prop where
 s0:g.steps<=r.2.steps
 s1:r.2.steps<=40000
 cnt:r.2.counts.length=l.length
 seen:r.2.seen.length<=100
 high:d≠1->r.2.high=g.high
 stop:r.2.kind=0->r.2.stop=0
 zero:r.2.kind≠0->r.1=cj 0
 kinds:r.2.kind=0\/r.2.kind=1\/(r.2.kind=2/\r.2.stop=0)
theorem S7{p:Prop}(h:(2:Int)=0):p:=absurd h (by decide)
theorem Xz{p:Prop}(h:(1:Int)=0):p:=absurd h (by decide)
theorem gL{l:List aB}(R:nS l)(ck:Bool)(place:Int):∀(N:Nat) (f:aB) (d:Int) (a:Nat) (pl st:List Item) (g:Lg),OkA l f d a pl st->OkG l g->Left l d g (gK l ck place N f d (a:Int) pl st g)
 |0,f,d,a,pl,st,g,A,G=>by
  rw[gK]
  exact⟨aaE _,G.s1,G.cnt,G.seen,λ_=>rfl,λh=>S7 h,λ_=>rfl, .inr (.inr ⟨rfl,G.stop⟩)⟩
 |N+1,f,d,a,pl,st,g,A,G=>by
  obtain⟨c,hc,hcm,hcode,hal,hl3⟩:=A.code R
  have s0:=G.s0
  have s1:=G.s1
  rw[gK]
  by_cases hs:g.steps=40000
  ·rw[adI hs]
   exact⟨aaE _,G.s1,G.cnt,G.seen,λ_=>rfl,λh=>S7 h,λ_=>rfl, .inr (.inr ⟨rfl,G.stop⟩)⟩
  ·rw[adH hs]
   simp only[Z_,hc]
   cases ha:cM ck c ((a:Int)+1) pl st with
   |go at1 pl1 st1=>
    obtain⟨⟨b,hb,A'⟩,G'⟩:=w8 (place:=place) R A G hs hc ha
    simp only[]
    subst hb
    have ih:=gL R ck place N f d b pl1 st1 _ A' G'
    exact⟨by have:=ih.s0;simp only[]at this;omega,ih.s1,ih.cnt,ih.seen,λhd=>by rw[ih.high hd];exact yC hd,ih.stop,ih.zero,ih.kinds⟩
   |ret x=>exact⟨by simp only[];omega,by simp only[];omega,G.cnt,G.seen,λ_=>rfl,λ_=>G.stop,λh=>absurd G.kind h, .inl G.kind⟩
   |stop w=>
    exact⟨by simp only[];omega,by simp only[];omega,G.cnt,G.seen,λ_=>rfl,λh=>Xz h,λ_=>rfl, .inr (.inl rfl)⟩
   |call=>
    obtain⟨k,h,b,h1,h2,h3,h4,h5,h6,h7,h8,h9,h10⟩:=pe R A hc ((rV hcode).mp ha)
    simp only[h1,h3,h4,Z_]
    by_cases hd:30<d+1
    ·rw[adI hd]
     exact⟨by simp only[zD];omega,by simp only[zD];omega,G.cnt,G.seen,λ_=>rfl,λh=>S7 h,λ_=>rfl, .inr (.inr ⟨rfl,G.stop⟩)⟩
    ·rw[adH hd]
     have G1:OkG l {g with steps:=g.steps+1,counts:=p_ g.counts k}:=⟨by simp only[];omega,by simp only[];omega,G.kind,G.stop,by simp only[p_,aaW];exact G.cnt,G.seen⟩
     have L:=gL R ck place N h (d+1) 0 _ [] _ (h10 (by omega)) G1
     rw[aar]at L
     generalize gK l ck place N h (d+1) 0 (cG h (st.take b).reverse) [] {g with steps:=g.steps+1,counts:=p_ g.counts k}=r at L⊢
     have hd1:=A.d1
     have L0:=L.s0
     have L1:=L.s1
     have Lh:=L.high (by omega)
     simp only[]at L0 Lh
     by_cases hk:r.2.kind=0
     ·rw[adI hk]
      have G2:OkG l {r.2 with high:=aV d r.2.high (st.length-b+1)}:=⟨by simp only[];omega,L1,hk,L.stop hk,L.cnt,L.seen⟩
      have ih:=gL R ck place N f d (a+1) pl _ _ (h9 r.1) G2
      have e1:(((a+1:Nat):Int))=(a:Int)+1:=rfl
      rw[e1]at ih
      exact⟨by have:=ih.s0;simp only[]at this;omega,ih.s1,ih.cnt,ih.seen,λhd=>by rw[ih.high hd];simp only[];rw[yC hd,Lh],ih.stop,ih.zero,ih.kinds⟩
     ·rw[adH hk]
      exact⟨by simp only[];omega,L1,L.cnt,L.seen,λ_=>Lh,L.stop,λ_=>rfl,L.kinds⟩
end Go.Proofs.YtcghbgmmgcljkaaGreatDoor
end
section
namespace Go.Proofs.YtcghbgmmgcljkaaGreatDoor
set_option maxRecDepth 20000
set_option maxHeartbeats 8000000
def V7:List (Option Nat):=[some 77,some 78,some 79,some 80,some 81,some 82,some 83,some 84,some 85,some 86,some 87,some 88,some 89,some 90,some 91,some 92,some 93,some 94,some 95,some 96]
theorem Su:QP ()=some (V7,()):=by rw[QP];rfl
def lt(b e:Nat)(l:List aB)(ck:Bool)(steps place high:Int)(en:Option bX)(argv:List aE)(z:aE)(f:aB)(d at1:Int)(res:Option aE)(cnt:List Int)(sn pl st:List Item):=
 ((b:Int),(e:Int),l,ck,steps,place,high,en,argv,z,f.name0,f.params,f.places,f.type0.base,f.type0.bits,f.type0.name0,f.type0.opt,f.type0.err,f.code,d,at1,res,V7,cnt,sn.map val,pl.map val,(st.map val).reverse,())
abbrev TuT:=ByteArray×Int×Int×Int×Int×ByteArray×Bool×Bool×List aQ×Int×Int×Option aE×List aB×Bool×Int×Int×Int×Option bX×List aE×List aE×List Int×List aE×Unit
def LpS(n:aQ×TuT->Option TuT)(op:Int)(seen stk:Bool):Prop:=
 ∀(b e:Nat) (l:List aB) (ck:Bool) (steps place high:Int) (argv:List aE) (z:aE) (f:aB) (d:Int) (a:Nat) (cnt:List Int) (sn pl st:List Item) {c:aQ},
  c.op=op->f.code[a]?=some c->¬steps=40000->0<=steps->steps<=40000->a<=3000->∀{at2 steps2 high2:Int} {res2:Option aE} {en2:Option bX} {pl2 st2:List Item} {cnt2:List Int} {sn2:List Item},
  n (c,tu f d ((a:Int)+1) none l ck (steps+1) place high none pl st cnt sn ())=some (tu f d at2 res2 l ck steps2 place high2 en2 pl2 st2 cnt2 sn2 ())->
  pl2.length=pl.length->cnt2.length=cnt.length->(seen=true->sn2.length=sn.length)->(stk=true->st2.length=st.length)->
  aX (lt b e l ck steps place high none argv z f d (a:Int) none cnt sn pl st)=if en2.isSome=true then some (aaL ((b:Int),(e:Int),l,ck,steps2,place,high2,en2,argv,cnt2,sn2.map val,val (cj 0),()))
   else aX (lt b e l ck steps2 place high2 en2 argv z f d at2 res2 cnt2 sn2 pl2 st2)
theorem lps:LpS fL 0 true false/\LpS fM 1 true false/\LpS fN 2 true false/\LpS fO 3 false false/\LpS fP 4 true false/\LpS fQ 5 true false/\LpS fR 6 true false/\LpS fS 7 true false/\LpS fT 8 true false/\LpS fU 9 true false/\LpS fV 10 true false/\LpS fW 11 true false/\LpS fX 12 true false/\LpS fY 13 true true/\LpS fZ 14 true true/\LpS f5 15 true false/\LpS n_93sae8a 16 false false/\LpS f6 17 true false/\LpS f8 18 true false/\LpS f_ 19 true true:=by
 refine⟨?_,?_,?_,?_,?_,?_,?_,?_,?_,?_,?_,?_,?_,?_,?_,?_,?_,?_,?_,?_⟩<;>(
  intro b e l ck steps place high argv z f d a cnt sn pl st c h hc hs h0 h1 ha at2 steps2 high2 res2 en2 pl2 st2 cnt2 sn2 hr e1 e2 e3 e4
  have w1:IntKind.i64.wrap ((a:Int)+1)=(a:Int)+1:=w64 (by omega) (by omega)
  have w2:IntKind.i64.wrap (steps+1)=steps+1:=w64 (by omega) (by omega)
  have hb:(steps==40000)=false:=by simpa using hs
  have ha0:(0:Int)<=(a:Int):=by omega
  have hq:((20:Nat):Int)=20:=rfl
  unfold tu at hr
  conv=>lhs;rw[aX]
  unfold lt V7
  first
   |simp only[ach,adE,hb,Z5,adF,ha0,Z_,hc,Z6,Z3,h,adz,ady,ada,ace,aa9,w1,w2,hr,aab,aa3,e1,e2,e3 rfl,e4 rfl,and_self,ac2,adw,hq]
   |simp only[ach,adE,hb,Z5,adF,ha0,Z_,hc,Z6,Z3,h,adz,ady,ada,ace,aa9,w1,w2,hr,aab,aa3,e1,e2,e3 rfl,and_self,ac2,adw,hq]
   |simp only[ach,adE,hb,Z5,adF,ha0,Z_,hc,Z6,Z3,h,adz,ady,ada,ace,aa9,w1,w2,hr,aab,aa3,e1,e2,and_self,ac2,adw,hq]
  rfl)
theorem Xn:LpS fL 0 true false:=lps.1
theorem Xo:LpS fM 1 true false:=lps.2.1
theorem Xp:LpS fN 2 true false:=lps.2.2.1
theorem Xq:LpS fO 3 false false:=lps.2.2.2.1
theorem Xr:LpS fP 4 true false:=lps.2.2.2.2.1
theorem WW:LpS fQ 5 true false:=lps.2.2.2.2.2.1
theorem Xs:LpS fR 6 true false:=lps.2.2.2.2.2.2.1
theorem WX:LpS fS 7 true false:=lps.2.2.2.2.2.2.2.1
theorem Xt:LpS fT 8 true false:=lps.2.2.2.2.2.2.2.2.1
theorem WY:LpS fU 9 true false:=lps.2.2.2.2.2.2.2.2.2.1
theorem Xu:LpS fV 10 true false:=lps.2.2.2.2.2.2.2.2.2.2.1
theorem WZ:LpS fW 11 true false:=lps.2.2.2.2.2.2.2.2.2.2.2.1
theorem W0:LpS fX 12 true false:=lps.2.2.2.2.2.2.2.2.2.2.2.2.1
theorem W4:LpS fY 13 true true:=lps.2.2.2.2.2.2.2.2.2.2.2.2.2.1
theorem Xv:LpS fZ 14 true true:=lps.2.2.2.2.2.2.2.2.2.2.2.2.2.2.1
theorem Xw:LpS f5 15 true false:=lps.2.2.2.2.2.2.2.2.2.2.2.2.2.2.2.1
theorem TQ:LpS n_93sae8a 16 false false:=lps.2.2.2.2.2.2.2.2.2.2.2.2.2.2.2.2.1
theorem Xx:LpS f6 17 true false:=lps.2.2.2.2.2.2.2.2.2.2.2.2.2.2.2.2.2.1
theorem Xy:LpS f8 18 true false:=lps.2.2.2.2.2.2.2.2.2.2.2.2.2.2.2.2.2.2.1
theorem W5:LpS f_ 19 true true:=lps.2.2.2.2.2.2.2.2.2.2.2.2.2.2.2.2.2.2.2
end Go.Proofs.YtcghbgmmgcljkaaGreatDoor
end
