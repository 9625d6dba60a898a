/-
  The row of JsonSames and its card: for every input the law returns true, and the input reads as it did.
-/
import Derived.Test.YtdmggfegkaiaiaaGreatDoorCards
import Derived.Test.YtdmggfegkaiaiaaGreatDoorTie
import Derived.Test.YtdmggfegkaiaiaaGreatDoorGlr
import Derived.Test.YtdmggfegkaiaiaaGreatDoorFact
import Derived.Test.YtdmggfegkaiaiaaGreatDoorLjS
import Derived.ProofKit
import Derived.OpenShut
import Derived.LaidMore
import Derived.Lay
import Derived.SevenTiedAt
import Derived.Stop.Joined
namespace Go.Proofs.YtdmggfegkaiaiaaGreatDoor.jsonSames
open Go.ChangeShapes Go.WideShapes Go.ChangeAt Go.RowKit Go.Awp Go.Tx
set_option linter.unusedVariables false

theorem laidOut : laidOutB Tryz.prog = true := by kernel_rfl
theorem own : ownKnob Tryz.prog.godebug = none := by kernel_rfl

theorem contract (x0 : Tag) (x1 : Tag) (h0 : Ok vw (.st .tagT) x0) (h1 : Ok vw (.st .tagT) x1) : FnOk Tryz.prog 4 [.d (encD szN encN (.st .tagT) x0), .d (encD szN encN (.st .tagT) x1)] [] (.d (.v (.bool true))) [] :=
  kcast (by kernel_rfl) (n_4_ok (x0, x1, ()) (true, ()) (.lf .bool true) (jsonSames_true x0 x1 h0 h1) rfl)

set_option maxRecDepth 100000 in
theorem lifted (os : Os) (started : os.Started) (H : Type) (enc : TypeId × Value → H) :
    ReturnsInHanded {} Tryz.checked os 4 .any (fun w args => (Rows.jsonSamesSpec.pre enc Tryz.prog Tryz.f4 Rows.jsonSamesRow.domain false w args ∧ laidMetH Tryz.prog Rows.jsonSamesRow.laid w) ∧ sizedMet enc Tryz.prog Tryz.f4 (OpenSpec.ofChange Rows.jsonSamesSpec) false w args)
      (Rows.jsonSamesSpec.post enc Tryz.prog Tryz.f4 false true false false) := by
  refine returnsInHanded_of_change_and (C := Tryz.checked) (X := fun w _ => laidMetH Tryz.prog Rows.jsonSamesRow.laid w) (fun _ _ _ hh h => h.of_heap hh) own started (by kernel_rfl) Tryz.func4
    (ChangeSpec.witness_shaped (enc := enc) (C := Tryz.checked) (os := os) (X := fun w _ => laidMetH Tryz.prog Rows.jsonSamesRow.laid w) false (World.laidAll Tryz.prog os Rows.jsonSamesRow.laid) #[.agg #[.int .i64 0, .int .i64 0, .string ByteArray.empty, .slice none 0 0, .slice none 0 0], .agg #[.int .i64 0, .int .i64 0, .string ByteArray.empty, .slice none 0 0, .slice none 0 0]] 8 (World.laidAll_os _ _ _)
      (World.shaped_of_ZipB (by kernel_rfl) (by kernel_rfl)) (by kernel_rfl) (by kernel_rfl) (by kernel_rfl)
      (by rw [MakeChecks.laidMetH_plain _ _ _ (by kernel_rfl)]; exact laidMet_laidAll _ (by kernel_rfl) (by kernel_rfl))) ?_
  intro W base args ds gs before hval0 hW hcnd _ hL _
  have hval : ∀ (j : Nat) t v, Tryz.f4.params[j]? = some t → args[j]? = some v → Value.okWide Tryz.prog W .any base t v := hval0
  have hW' := hW
  obtain ⟨p, q, hA0, hV, rfl, hfz, hnd⟩ := hW'
  have hA : DataW.TrodAll enc Tryz.prog W 0 (fun _ => true) true Tryz.f4.params.toList args.toList ds p := hA0
  rw [Tryz.params4] at hA hval
  obtain ⟨v0, vs0, d0, ds0, p0, q0, ha0, rfl, rfl, h0, r0⟩ := trodAll_cons hA
  obtain ⟨v1, vs1, d1, ds1, p1, q1, ha1, rfl, rfl, h1, r1⟩ := trodAll_cons r0
  subst ha1
  obtain ⟨rfl, rfl, rfl⟩ := trodAll_nil r1
  obtain rfl : args = #[v0, v1] := by cases args; simp_all
  obtain ⟨rfl, rfl⟩ := trodVars_none hV
  have hlt0 : ∀ x ∈ p0, x.block < W.heap.size := fun x hx => by simpa using hW.lt x (by simp [hx])
  have hlt1 : ∀ x ∈ p1, x.block < W.heap.size := fun x hx => by simpa using hW.lt x (by simp [hx])
  obtain ⟨x0, ok0, hr0⟩ := open_val facts (τ := (.st .tagT)) rfl (hval 0 25 v0 rfl rfl) h0
  obtain ⟨x1, ok1, hr1⟩ := open_val facts (τ := (.st .tagT)) rfl (hval 1 25 v1 rfl rfl) h1
  refine ((contract x0 x1 ok0 ok1).closed (W := W) (vs := #[v0, v1]) (gmem_laid hL) ⟨rfl, fun i c x hc hx => ?_⟩).mono fun e W' ⟨he, hb⟩ => ?_
  · match i with
    | 0 => simp at hc hx; subst hc; subst hx; exact .d hr0
    | 1 => simp at hc hx; subst hc; subst hx; exact .d hr1
    | i + 2 => simp at hc
  subst he
  exact ⟨_, rfl, _, _, _, [], _, [], hW, trodAll_cons_mk (shut_bool Tryz.underlying4 _) trodAll_mk0,
    (trodAll_cons_mk (Below.trod laidOut (by kernel_rfl) (of_decide_eq_true (by kernel_rfl)) h0 hb hlt0) (trodAll_cons_mk (Below.trod laidOut (by kernel_rfl) (of_decide_eq_true (by kernel_rfl)) h1 hb hlt1) trodAll_mk0)), rfl, hb.frame _, (fun h => by cases h)⟩

theorem row : Rows.JsonSamesSaid :=
  OpenClaim.holds_of_wide 4 Tryz.f4 rfl rfl rfl rfl rfl rfl rfl ⟨rfl, rfl, rfl, rfl, rfl⟩ rfl rfl rfl rfl rfl (by kernel_rfl) Tryz.func4 (by kernel_rfl)
    (of_decide_eq_true (by kernel_rfl)) (by unfold Func.isWrapper; first | (rw [if_pos (by decide +kernel)]; kernel_rfl) | (rw [if_neg (by decide +kernel)]; exact ⟨rfl, rfl⟩))
    (fun os started H enc _ => lifted os started H enc)

theorem proved : Rows.JsonSamesCardSaid :=
  Claim7.holds_tied_plain_at .later [] [.data, .data, .data, .data, .sentinel, .sentinel, .pinned, .pinned] true (true, "22100c2414b51b234e734a373bf0d765205aeba86125058e9a4f2bdf69e80eec") true row (fun _ h => by cases h) (by kernel_rfl) (fun _ h => by cases h) jsonSames_row_tie rfl ⟨rfl, rfl⟩ (by kernel_rfl) rfl
    (fun f fn hf hfn => by
      obtain rfl : f = 4 := Option.some.inj ((show Tryz.prog.funcNamed "mandrel/mandrellaw20.JsonSames" = some 4 by kernel_rfl).symm.trans hf) |>.symm
      obtain rfl : fn = Tryz.f4 := (Option.some.inj (Tryz.func4.symm.trans hfn)).symm
      exact ⟨by kernel_rfl, fun j t ht => by
        rw [Tryz.params4] at ht
        have hm : t ∈ ([25, 25] : List TypeId) := by simpa using Array.mem_of_getElem? ht
        have hall : (([25, 25] : List TypeId).all fun u => !Tryz.prog.wantsStandIn u) = true := by kernel_rfl
        exact (show Tryz.prog.wantsStandIn t = false by simpa using List.all_eq_true.1 hall t hm)⟩)
    (by kernel_rfl)

end Go.Proofs.YtdmggfegkaiaiaaGreatDoor.jsonSames
