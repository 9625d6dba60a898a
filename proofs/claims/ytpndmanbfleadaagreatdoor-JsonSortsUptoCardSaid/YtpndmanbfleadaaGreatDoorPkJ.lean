/-
  Texts of this claim, joined by a program of mine: what the theorem uses.
-/
import Derived.Test.YtpndmanbfleadaaGreatDoorCards
import Derived.Test.YtpndmanbfleadaaGreatDoorTie
import Derived.Test.YtpndmanbfleadaaGreatDoorPkF
import Derived.Test.YtpndmanbfleadaaGreatDoorPkI
import Derived.WalkKit
import Derived.ProofKit
import Derived.OpenShut
import Derived.LaidMore
import Derived.Lay
import Derived.SevenTiedAt
import Derived.Stop.Joined
import Derived.Deep.DeepHandedRow
open ByteArray renaming empty→O7
open List renaming all_eq_true→OD,append_nil→Pj
open Option.some renaming inj→P_
noncomputable section
set_option linter.unusedVariables false
section
namespace Go.Proofs.YtpndmanbfleadaaGreatDoor.jsonSorts
open Go.ChangeShapes Go.WideShapes Go.ChangeAt Go.RowKit Go.Awp Go.Tx
open Go.Proofs.Tryz (prog)
theorem HA:laidOutB prog=true:=by kernel_rfl
theorem own:ownKnob prog.godebug=none:=by kernel_rfl
theorem D7(x0:Tag)(h0:Ok vw (.st .tagT) x0)(m0:Nat)(b0:Bk vw (.st .tagT) x0 m0)(hm:m0<=1048576):c8 prog 6 [.d (aL szN A9 (.st .tagT) x0)] [] (.d (.v (.bool true))) []:=
 an (by kernel_rfl) (Kr (x0,()) (true,()) (.lf .bool true) (pP x0 h0 m0 b0 hm) rfl)
noncomputable def w0(os:Os):World:=World.laidAll prog os Rows.jsonSortsUptoRow.laid
theorem Ej(os:Os):laidMetH prog Rows.jsonSortsUptoRow.laid ((w0 os).forCall (λ_ _=>0) ⟨#[], #[.agg #[.int .i64 0, .int .i64 0, .string O7, .slice none 0 0, .slice none 0 0]],[]⟩).memory:=by
 rw[MakeChecks.laidMetH_plain _ _ _ (by kernel_rfl)];exact laidMet_laidAll _ (by kernel_rfl) (by kernel_rfl)
set_option maxRecDepth 100000 in
theorem reads(os:Os){H:Type}(enc:TypeId×Value->H):DataW.whole enc prog ((w0 os).forCall (λ_ _=>0) ⟨#[], #[.agg #[.int .i64 0, .int .i64 0, .string O7, .slice none 0 0, .slice none 0 0]],[]⟩).memory Tryz.f6.params.toList Rows.jsonSortsSpec.vars false #[.agg #[.int .i64 0, .int .i64 0, .string O7, .slice none 0 0, .slice none 0 0]].toList 8=some ([.agg [.lit (.int .i64 0), .lit (.int .i64 0), .lit (.string []), .nil, .nil]],[],[]):=by kernel_rfl
set_option maxRecDepth 100000 in
theorem Kh(os:Os)(started:os.Started)(H:Type)(enc:TypeId×Value->H)(F:Stop.Interp):
 ReturnsInHanded {} Tryz.checked os 6 .any ((Rows.OpenSpec.upto Rows.jsonSortsSpec).preRow enc prog Tryz.f6 Rows.jsonSortsUptoRow.domain false Rows.jsonSortsUptoRow.laid) (((Rows.OpenSpec.upto Rows.jsonSortsSpec).at F).post enc prog Tryz.f6 false true false false):=by
 have hok:Input.okWideB prog ((w0 os).forCall (λ_ _=>0) ⟨#[], #[.agg #[.int .i64 0, .int .i64 0, .string O7, .slice none 0 0, .slice none 0 0]],[]⟩) 6 ⟨#[], #[.agg #[.int .i64 0, .int .i64 0, .string O7, .slice none 0 0, .slice none 0 0]],[]⟩=true:=by kernel_rfl
 refine returnsInHanded_of_row (C:=Tryz.checked) (s:=(Rows.OpenSpec.upto Rows.jsonSortsSpec)) own started (by kernel_rfl) Tryz.func6
  ⟨w0 os,λ_ _=>0,⟨#[], #[.agg #[.int .i64 0, .int .i64 0, .string O7, .slice none 0 0, .slice none 0 0]],[]⟩,World.laidAll_os _ _ _,World.shaped_of_ZipB (by kernel_rfl) (by kernel_rfl),(Input.okWide_of_okWideB (base:=0) hok).1,(Input.okWide_of_okWideB hok).2,
   OpenSpec.preRow_of_cond 8 (reads os enc) (by kernel_rfl) (λk hk=>by cases hk;kernel_rfl) (by kernel_rfl) (Ej os),
   by simp only[Assume.holds];exact⟨by simp,by simp,λ_=>Modest.zero,by simp,by simp⟩⟩ ?_
 intro W base args ds gs before hval0 hW _ hcond _ hL _ _
 have hval:∀(j:Nat) t v,Tryz.f6.params[j]?=some t->args[j]?=some v->Value.okWide prog W .any base t v:=hval0
 have hW':=hW
 obtain⟨p,q,hA0,hV,rfl,hfz,hnd⟩:=hW'
 have hA:DataW.TrodAll enc prog W 0 (λ_=>true) true Tryz.f6.params.toList args.toList ds p:=hA0
 rw[Tryz.params6]at hA hval
 obtain⟨v0,vs0,d0,ds0,p0,q0,ha0,rfl,rfl,h0,r0⟩:=trodAll_cons hA
 obtain⟨rfl,rfl,rfl⟩:=trodAll_nil r0
 obtain rfl:args= #[v0]:=by cases args;simp_all
 obtain⟨rfl,rfl⟩:=trodVars_none hV
 have hk:Rows.uptoBulkAll ([d0]++[])<=1048576:=of_decide_eq_true (hcond _ rfl)
 have hlt0:∀x∈p0,x.block<W.heap.size:=λx hx=>by simpa using hW.lt x (by simp[hx])
 have hd0:=mW d0
 obtain⟨x0,ok0,hr0,hb0⟩:=CC facts (τ:=(.st .tagT)) rfl (hval 0 25 v0 rfl rfl) h0
 have hm:cL d0<=1048576:=by
  simp only[Pj,Rows.uptoBulkAll]at hk
  omega
 refine((D7 x0 ok0 _ hb0 hm).closed (W:=W) (vs:= #[v0]) (Bq hL) ⟨rfl,λi c x hc hx=> ?_⟩).mono λe W' ⟨he,hb⟩=> ?_
 ·match i with
  |0=>simp at hc hx;subst hc;subst hx;exact .d hr0
  |i+1=>simp at hc
 subst he
 exact⟨_,rfl,_,_,_,[],_,[],hW,trodAll_cons_mk (shut_bool Tryz.underlying4 _) trodAll_mk0,
  (trodAll_cons_mk (Below.trod HA (by kernel_rfl) (of_decide_eq_true (by kernel_rfl)) h0 hb hlt0) trodAll_mk0),rfl,hb.frame _,(λh=>by cases h)⟩
theorem row:Rows.JsonSortsUptoSaid:=
 OpenClaim.holds_of_cond 6 Tryz.f6 rfl rfl rfl rfl rfl rfl rfl ⟨rfl,rfl,rfl,rfl,rfl⟩ rfl rfl rfl rfl rfl (by kernel_rfl) Tryz.func6 (by kernel_rfl)
  (of_decide_eq_true (by kernel_rfl)) (by unfold Func.isWrapper;first|(rw[RS (by decide+kernel)];kernel_rfl)|(rw[RR (by decide+kernel)];exact⟨rfl,rfl⟩))
  (λos started H enc _ F=>by rw[OpenClaim.pre_eq_preRow];exact Kh os started H enc F)
theorem proved:Rows.JsonSortsUptoCardSaid:=
 Claim7.holds_tied_plain_at .later [] [.data, .data, .data, .data, .sentinel, .sentinel, .pinned, .pinned] true (true, "206fe8dbf8e52932ec9e8aabf78a392ee94f91dda865ff8bc96efe1930e8586b") true row (λ_ h=>by cases h) (by kernel_rfl) (λ_ h=>by cases h) jsonSortsUpto_row_tie rfl ⟨rfl,rfl⟩ (by kernel_rfl) rfl
  (λf fn hf hfn=>by
    obtain rfl:f=6:=P_ ((show prog.funcNamed "mandrel/mandrellaw20.JsonSorts" =some 6 by kernel_rfl).symm.trans hf)|>.symm
    obtain rfl:fn=Tryz.f6:=(P_ (Tryz.func6.symm.trans hfn)).symm
    exact⟨by kernel_rfl,λj t ht=>by
     rw[Tryz.params6]at ht
     have hm:t∈([25]:List TypeId):=by simpa using Array.mem_of_getElem? ht
     have hall:(([25]:List TypeId).all λu=> !prog.wantsStandIn u)=true:=by kernel_rfl
     exact(show prog.wantsStandIn t=false by simpa using OD.1 hall t hm)⟩)
  (by kernel_rfl)
end Go.Proofs.YtpndmanbfleadaaGreatDoor.jsonSorts
end
