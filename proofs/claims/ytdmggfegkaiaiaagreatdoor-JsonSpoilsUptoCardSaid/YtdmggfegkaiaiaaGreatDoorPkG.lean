/-
  Texts of this claim, joined by a program of mine: what the theorem uses.
-/
import Derived.Test.YtdmggfegkaiaiaaGreatDoorPkF
import Derived.Test.YtdmggfegkaiaiaaGreatDoorCards
import Derived.Test.YtdmggfegkaiaiaaGreatDoorTie
import Derived.Test.YtdmggfegkaiaiaaGreatDoorPkC
import Derived.WalkKit
import Derived.ProofKit
import Derived.OpenShut
import Derived.LaidMore
import Derived.Lay
import Derived.SevenTiedAt
import Derived.Stop.Joined
import Derived.Deep.DeepHandedRow
set_option linter.unusedSimpArgs false
set_option linter.unusedVariables false
section
namespace Go.Proofs.YtdmggfegkaiaiaaGreatDoor
open Go.Awp Go.Tx
set_option maxRecDepth 20000
theorem u64r (x : Int) : 0 ≤ IntKind.u64.wrap x := by
 unfold IntKind.wrap
 simp only [IntKind.bits, IntKind.signed, Bool.false_and]
 simp; omega
theorem u64id {x : Int} (h1 : 0 ≤ x) (h2 : x ≤ 9223372036854775807) : IntKind.u64.wrap x = x := by
 unfold IntKind.wrap
 simp only [IntKind.bits, IntKind.signed, Bool.false_and]
 simp; omega
theorem law11 (t : Tag) (i b : Int) (hf : t.Fit small) (hb : t.bulk ≤ half) : n_11 (t, i, b, ()) = some (true, ()) := by
 have hh2 : small ≤ big := by decide
 obtain ⟨x, hx⟩ := f13 t (Tag.Fit.mono hh2 t hf).wf
 obtain ⟨e, e1, e2, e3⟩ := write_j false t hf hb
 unfold n_11
 simp only [hx, known_true, sW]
 cases x with
 | true => simp only [known_true, sW]
 | false =>
  simp only [sW]
  by_cases he : e = 0
  ·obtain ⟨h59, hg, hl1, hl2⟩ := e3 he
   have hl := hl2 rfl
   have h27 : n_27 (t, ()) = some (ofL (wr false t 0), 0, ()) := by
    unfold n_27
    simp only [h59, sW]
   have hsz := ofL_size (wr false t 0)
   generalize ofL (wr false t 0) = a at h27 hsz
   have e0 : ((0 : Int) != 0) = false := rfl
   simp only [h27, e0, sW]
   by_cases hz : (a.size : Int) = 0
   ·simp only [hz, sW, known_true]
   ·have hu : IntKind.u64.wrap (a.size : Int) = (a.size : Int) := u64id (by omega) (by omega)
    have hr := u64r i
    generalize IntKind.u64.wrap i = j at hr
    have hm1 : 0 ≤ j.tmod (a.size : Int) := Int.tmod_nonneg _ hr
    have hm2 : j.tmod (a.size : Int) < (a.size : Int) := Int.tmod_lt_of_pos _ (by omega)
    rw [hu]
    generalize j.tmod (a.size : Int) = r at hm1 hm2
    have hw : IntKind.i64.wrap r = r := wrap64 (by omega) (by omega)
    have hw2 : IntKind.i64.wrap (r + 1) = r + 1 := wrap64 (by omega) (by omega)
    have ext : ∀ x y : Nat, (a.extract x y).size ≤ a.size := fun x y => by
     rw [← ba_size, ba_extract, List.length_drop, List.length_take, ba_size]; omega
    have hone : (Bs.bytes [b]).size = 1 := rfl
    have app : ∀ x y : ByteArray, (x ++ y).size = x.size + y.size := fun x y => by
     rw [← ba_size, ba_append, List.length_append, ba_size, ba_size]
    have s1 : (a.extract (Int.toNat 0) r.toNat).size + (Bs.bytes [b]).size ≤ 4294967296 := by
     have := ext (Int.toNat 0) r.toNat; omega
    have s2 : (a.extract (Int.toNat 0) r.toNat ++ Bs.bytes [b]).size + (a.extract (r + 1).toNat a.size).size ≤ 4294967296 := by
     have := ext (Int.toNat 0) r.toNat; have := ext (r + 1).toNat a.size; rw [app]; omega
    have q1 : ((0 : Int) ≤ 0 ∧ 0 ≤ r ∧ r ≤ (a.size : Int)) = True := eq_true ⟨by omega, by omega, by omega⟩
    have q2 : ((0 : Int) ≤ r + 1 ∧ r + 1 ≤ (a.size : Int) ∧ (a.size : Int) ≤ (a.size : Int)) = True := eq_true ⟨by omega, by omega, by omega⟩
    simp only [hz, sW, hw, hw2, q1, q2, s1, s2]
    obtain ⟨at', e', t', p1, p2, p3, _⟩ := parse_both (a.extract (Int.toNat 0) r.toNat ++ Bs.bytes [b] ++ a.extract (r + 1).toNat a.size)
    rw [p1, p2]
    simp only [sW, f18r t' p3, known_true]
  ·have h27 : n_27 (t, ()) = some (mt, e, ()) := by
    unfold n_27
    simp only [e2 he, sW]
   have e0 : (e != 0) = true := by simpa using he
   simp only [h27, e0, sW, known_true]
theorem jsonSpoils_true (t : Tag) (i b : Int) (h0 : Ok vw (.st .tagT) t) (h1 : Ok vw (.int .i64) i) (h2 : Ok vw (.int .u8) b) (m0 : Nat) (b0 : Bk vw (.st .tagT) t m0) (m1 : Nat) (b1 : Bk vw (.int .i64) i m1) (m2 : Nat) (b2 : Bk vw (.int .u8) b m2) (hm : m0 + m1 + m2 ≤ 1048576) :
  n_11 (t, i, b, ()) = some (true, ()) :=
 law11 t i b (fit_of_bk t m0 (Nat.le_trans (by omega) (show 1048576 ≤ small by decide)) b0) (Nat.le_trans (bulk_bk t m0 b0) (Nat.le_trans (by omega) (show 1048576 ≤ half by decide)))
end Go.Proofs.YtdmggfegkaiaiaaGreatDoor
end
section
namespace Go.Proofs.YtdmggfegkaiaiaaGreatDoor.jsonSpoils
open Go.ChangeShapes Go.WideShapes Go.ChangeAt Go.RowKit Go.Awp Go.Tx
theorem laidOut : laidOutB Tryz.prog = true := by kernel_rfl
theorem own : ownKnob Tryz.prog.godebug = none := by kernel_rfl
theorem contract (x0 : Tag) (x1 : Int) (x2 : Int) (h0 : Ok vw (.st .tagT) x0) (h1 : Ok vw (.int .i64) x1) (h2 : Ok vw (.int .u8) x2) (m0 : Nat) (b0 : Bk vw (.st .tagT) x0 m0) (m1 : Nat) (b1 : Bk vw (.int .i64) x1 m1) (m2 : Nat) (b2 : Bk vw (.int .u8) x2 m2) (hm : m0 + m1 + m2 ≤ 1048576) : FnOk Tryz.prog 11 [.d (encD szN encN (.st .tagT) x0), .d (encD szN encN (.int .i64) x1), .d (encD szN encN (.int .u8) x2)] [] (.d (.v (.bool true))) [] :=
 kcast (by kernel_rfl) (n_11_ok (x0, x1, x2, ()) (true, ()) (.lf .bool true) (jsonSpoils_true x0 x1 x2 h0 h1 h2 m0 b0 m1 b1 m2 b2 hm) rfl)
noncomputable def w0 (os : Os) : World := World.laidAll Tryz.prog os Rows.jsonSpoilsUptoRow.laid
theorem laid_met (os : Os) : laidMetH Tryz.prog Rows.jsonSpoilsUptoRow.laid ((w0 os).forCall (fun _ _ => 0) ⟨#[], #[.agg #[.int .i64 0, .int .i64 0, .string ByteArray.empty, .slice none 0 0, .slice none 0 0], .int .i64 0, .int .u8 0], []⟩).memory := by
 rw [MakeChecks.laidMetH_plain _ _ _ (by kernel_rfl)]; exact laidMet_laidAll _ (by kernel_rfl) (by kernel_rfl)
set_option maxRecDepth 100000 in
theorem reads (os : Os) {H : Type} (enc : TypeId × Value → H) : DataW.whole enc Tryz.prog ((w0 os).forCall (fun _ _ => 0) ⟨#[], #[.agg #[.int .i64 0, .int .i64 0, .string ByteArray.empty, .slice none 0 0, .slice none 0 0], .int .i64 0, .int .u8 0], []⟩).memory Tryz.f11.params.toList Rows.jsonSpoilsSpec.vars false #[.agg #[.int .i64 0, .int .i64 0, .string ByteArray.empty, .slice none 0 0, .slice none 0 0], .int .i64 0, .int .u8 0].toList 8 = some ([.agg [.lit (.int .i64 0), .lit (.int .i64 0), .lit (.string []), .nil, .nil], .lit (.int .i64 0), .lit (.int .u8 0)], [], []) := by kernel_rfl
set_option maxRecDepth 100000 in
theorem lifted (os : Os) (started : os.Started) (H : Type) (enc : TypeId × Value → H) (F : Stop.Interp) :
  ReturnsInHanded {} Tryz.checked os 11 .any ((Rows.OpenSpec.upto Rows.jsonSpoilsSpec).preRow enc Tryz.prog Tryz.f11 Rows.jsonSpoilsUptoRow.domain false Rows.jsonSpoilsUptoRow.laid) (((Rows.OpenSpec.upto Rows.jsonSpoilsSpec).at F).post enc Tryz.prog Tryz.f11 false true false false) := by
 have hok : Input.okWideB Tryz.prog ((w0 os).forCall (fun _ _ => 0) ⟨#[], #[.agg #[.int .i64 0, .int .i64 0, .string ByteArray.empty, .slice none 0 0, .slice none 0 0], .int .i64 0, .int .u8 0], []⟩) 11 ⟨#[], #[.agg #[.int .i64 0, .int .i64 0, .string ByteArray.empty, .slice none 0 0, .slice none 0 0], .int .i64 0, .int .u8 0], []⟩ = true := by kernel_rfl
 refine returnsInHanded_of_row (C := Tryz.checked) (s := (Rows.OpenSpec.upto Rows.jsonSpoilsSpec)) own started (by kernel_rfl) Tryz.func11
  ⟨w0 os, fun _ _ => 0, ⟨#[], #[.agg #[.int .i64 0, .int .i64 0, .string ByteArray.empty, .slice none 0 0, .slice none 0 0], .int .i64 0, .int .u8 0], []⟩, World.laidAll_os _ _ _, World.shaped_of_ZipB (by kernel_rfl) (by kernel_rfl), (Input.okWide_of_okWideB (base := 0) hok).1, (Input.okWide_of_okWideB hok).2,
   OpenSpec.preRow_of_cond 8 (reads os enc) (by kernel_rfl) (fun k hk => by cases hk; kernel_rfl) (by kernel_rfl) (laid_met os),
   by simp only [Assume.holds]; exact ⟨by simp, by simp, fun _ => Modest.zero, by simp, by simp⟩⟩ ?_
 intro W base args ds gs before hval0 hW _ hcond _ hL _ _
 have hval : ∀ (j : Nat) t v, Tryz.f11.params[j]? = some t → args[j]? = some v → Value.okWide Tryz.prog W .any base t v := hval0
 have hW' := hW
 obtain ⟨p, q, hA0, hV, rfl, hfz, hnd⟩ := hW'
 have hA : DataW.TrodAll enc Tryz.prog W 0 (fun _ => true) true Tryz.f11.params.toList args.toList ds p := hA0
 rw [Tryz.params11] at hA hval
 obtain ⟨v0, vs0, d0, ds0, p0, q0, ha0, rfl, rfl, h0, r0⟩ := trodAll_cons hA
 obtain ⟨v1, vs1, d1, ds1, p1, q1, ha1, rfl, rfl, h1, r1⟩ := trodAll_cons r0
 subst ha1
 obtain ⟨v2, vs2, d2, ds2, p2, q2, ha2, rfl, rfl, h2, r2⟩ := trodAll_cons r1
 subst ha2
 obtain ⟨rfl, rfl, rfl⟩ := trodAll_nil r2
 obtain rfl : args = #[v0, v1, v2] := by cases args; simp_all
 obtain ⟨rfl, rfl⟩ := trodVars_none hV
 have hk : Rows.uptoBulkAll ([d0, d1, d2] ++ []) ≤ 1048576 := of_decide_eq_true (hcond _ rfl)
 have hlt0 : ∀ x ∈ p0, x.block < W.heap.size := fun x hx => by simpa using hW.lt x (by simp [hx])
 have hd0 := dbulk_le d0
 have hlt1 : ∀ x ∈ p1, x.block < W.heap.size := fun x hx => by simpa using hW.lt x (by simp [hx])
 have hd1 := dbulk_le d1
 have hlt2 : ∀ x ∈ p2, x.block < W.heap.size := fun x hx => by simpa using hW.lt x (by simp [hx])
 have hd2 := dbulk_le d2
 obtain ⟨x0, ok0, hr0, hb0⟩ := open_valB facts (τ := (.st .tagT)) rfl (hval 0 25 v0 rfl rfl) h0
 obtain ⟨x1, ok1, hr1, hb1⟩ := open_valB facts (τ := (.int .i64)) rfl (hval 1 3 v1 rfl rfl) h1
 obtain ⟨x2, ok2, hr2, hb2⟩ := open_valB facts (τ := (.int .u8)) rfl (hval 2 5 v2 rfl rfl) h2
 have hm : dbulk d0 + dbulk d1 + dbulk d2 ≤ 1048576 := by
  simp only [List.append_nil, Rows.uptoBulkAll] at hk
  omega
 refine ((contract x0 x1 x2 ok0 ok1 ok2 _ hb0 _ hb1 _ hb2 hm).closed (W := W) (vs := #[v0, v1, v2]) (gmem_laid hL) ⟨rfl, fun i c x hc hx => ?_⟩).mono fun e W' ⟨he, hb⟩ => ?_
 ·match i with
  | 0 => simp at hc hx; subst hc; subst hx; exact .d hr0
  | 1 => simp at hc hx; subst hc; subst hx; exact .d hr1
  | 2 => simp at hc hx; subst hc; subst hx; exact .d hr2
  | i + 3 => simp at hc
 subst he
 exact ⟨_, rfl, _, _, _, [], _, [], hW, trodAll_cons_mk (shut_bool Tryz.underlying4 _) trodAll_mk0,
  (trodAll_cons_mk (Below.trod laidOut (by kernel_rfl) (of_decide_eq_true (by kernel_rfl)) h0 hb hlt0) (trodAll_cons_mk (Below.trod laidOut (by kernel_rfl) (of_decide_eq_true (by kernel_rfl)) h1 hb hlt1) (trodAll_cons_mk (Below.trod laidOut (by kernel_rfl) (of_decide_eq_true (by kernel_rfl)) h2 hb hlt2) trodAll_mk0))), rfl, hb.frame _, (fun h => by cases h)⟩
theorem row : Rows.JsonSpoilsUptoSaid :=
 OpenClaim.holds_of_cond 11 Tryz.f11 rfl rfl rfl rfl rfl rfl rfl ⟨rfl, rfl, rfl, rfl, rfl⟩ rfl rfl rfl rfl rfl (by kernel_rfl) Tryz.func11 (by kernel_rfl)
  (of_decide_eq_true (by kernel_rfl)) (by unfold Func.isWrapper; first | (rw [if_pos (by decide +kernel)]; kernel_rfl) | (rw [if_neg (by decide +kernel)]; exact ⟨rfl, rfl⟩))
  (fun os started H enc _ F => by rw [OpenClaim.pre_eq_preRow]; exact lifted os started H enc F)
theorem proved : Rows.JsonSpoilsUptoCardSaid :=
 Claim7.holds_tied_plain_at .later [] [.data, .data, .data, .data, .sentinel, .sentinel, .pinned, .pinned] true (true, "22100c2414b51b234e734a373bf0d765205aeba86125058e9a4f2bdf69e80eec") true row (fun _ h => by cases h) (by kernel_rfl) (fun _ h => by cases h) jsonSpoilsUpto_row_tie rfl ⟨rfl, rfl⟩ (by kernel_rfl) rfl
  (fun f fn hf hfn => by
    obtain rfl : f = 11 := Option.some.inj ((show Tryz.prog.funcNamed "mandrel/mandrellaw20.JsonSpoils" = some 11 by kernel_rfl).symm.trans hf) |>.symm
    obtain rfl : fn = Tryz.f11 := (Option.some.inj (Tryz.func11.symm.trans hfn)).symm
    exact ⟨by kernel_rfl, fun j t ht => by
     rw [Tryz.params11] at ht
     have hm : t ∈ ([25, 3, 5] : List TypeId) := by simpa using Array.mem_of_getElem? ht
     have hall : (([25, 3, 5] : List TypeId).all fun u => !Tryz.prog.wantsStandIn u) = true := by kernel_rfl
     exact (show Tryz.prog.wantsStandIn t = false by simpa using List.all_eq_true.1 hall t hm)⟩)
  (by kernel_rfl)
end Go.Proofs.YtdmggfegkaiaiaaGreatDoor.jsonSpoils
end
