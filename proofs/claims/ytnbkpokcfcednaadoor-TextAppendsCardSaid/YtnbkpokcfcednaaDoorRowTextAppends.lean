/-
  The row of TextAppends and its card: for every input the law returns true, and the input reads as it did.
-/
import Derived.Test.YtnbkpokcfcednaaDoorCards
import Derived.Test.YtnbkpokcfcednaaDoorTie
import Derived.Test.YtnbkpokcfcednaaDoorGlr
import Derived.Test.YtnbkpokcfcednaaDoorFact
import Derived.Test.YtnbkpokcfcednaaDoorLzC
import Derived.ProofKit
import Derived.OpenShut
import Derived.LaidMore
import Derived.Lay
import Derived.SevenTiedAt
import Derived.Stop.Joined
namespace Go.Proofs.YtnbkpokcfcednaaDoor.textAppends
open Go.ChangeShapes Go.WideShapes Go.ChangeAt Go.RowKit Go.Awp Go.Tx
set_option linter.unusedVariables false

theorem laidOut : laidOutB Tryd.prog = true := by kernel_rfl
theorem own : ownKnob Tryd.prog.godebug = none := by kernel_rfl

theorem contract (x0 : Formatted) (x1 : Formatted) (h0 : Ok vw (.st .formattedT) x0) (h1 : Ok vw (.st .formattedT) x1) : FnOk Tryd.prog 3 [.d (encD szN encN (.st .formattedT) x0), .d (encD szN encN (.st .formattedT) x1)] [] (.d (.v (.bool true))) [] :=
  kcast (by kernel_rfl) (n_3_ok (x0, x1, ()) (true, ()) (.lf .bool true) (appendsOk x0 x1 h0 h1) rfl)

set_option maxRecDepth 100000 in
theorem lifted (os : Os) (started : os.Started) (H : Type) (enc : TypeId × Value → H) :
    ReturnsInHanded {} Tryd.checked os 3 .any (fun w args => (Rows.textAppendsSpec.pre enc Tryd.prog Tryd.f3 Rows.textAppendsRow.domain false w args ∧ laidMetH Tryd.prog Rows.textAppendsRow.laid w) ∧ sizedMet enc Tryd.prog Tryd.f3 (OpenSpec.ofChange Rows.textAppendsSpec) false w args)
      (Rows.textAppendsSpec.post enc Tryd.prog Tryd.f3 false true false false) := by
  refine returnsInHanded_of_change_and (C := Tryd.checked) (X := fun w _ => laidMetH Tryd.prog Rows.textAppendsRow.laid w) (fun _ _ _ hh h => h.of_heap hh) own started (by kernel_rfl) Tryd.func3
    (ChangeSpec.witness_shaped (enc := enc) (C := Tryd.checked) (os := os) (X := fun w _ => laidMetH Tryd.prog Rows.textAppendsRow.laid w) false (World.laidAll Tryd.prog os Rows.textAppendsRow.laid) #[.agg #[.string ByteArray.empty, .slice none 0 0], .agg #[.string ByteArray.empty, .slice none 0 0]] 8 (World.laidAll_os _ _ _)
      (World.shaped_of_ZipB (by kernel_rfl) (by kernel_rfl)) (by kernel_rfl) (by kernel_rfl) (by kernel_rfl)
      (by rw [MakeChecks.laidMetH_plain _ _ _ (by kernel_rfl)]; exact laidMet_laidAll _ (by kernel_rfl) (by kernel_rfl))) ?_
  intro W base args ds gs before hval0 hW hcnd _ hL _
  have hval : ∀ (j : Nat) t v, Tryd.f3.params[j]? = some t → args[j]? = some v → Value.okWide Tryd.prog W .any base t v := hval0
  have hW' := hW
  obtain ⟨p, q, hA0, hV, rfl, hfz, hnd⟩ := hW'
  have hA : DataW.TrodAll enc Tryd.prog W 0 (fun _ => true) true Tryd.f3.params.toList args.toList ds p := hA0
  rw [Tryd.params3] at hA hval
  obtain ⟨v0, vs0, d0, ds0, p0, q0, ha0, rfl, rfl, h0, r0⟩ := trodAll_cons hA
  obtain ⟨v1, vs1, d1, ds1, p1, q1, ha1, rfl, rfl, h1, r1⟩ := trodAll_cons r0
  subst ha1
  obtain ⟨rfl, rfl, rfl⟩ := trodAll_nil r1
  obtain rfl : args = #[v0, v1] := by cases args; simp_all
  obtain ⟨rfl, rfl⟩ := trodVars_none hV
  have hlt0 : ∀ x ∈ p0, x.block < W.heap.size := fun x hx => by simpa using hW.lt x (by simp [hx])
  have hlt1 : ∀ x ∈ p1, x.block < W.heap.size := fun x hx => by simpa using hW.lt x (by simp [hx])
  obtain ⟨x0, ok0, hr0⟩ := open_val facts (τ := (.st .formattedT)) rfl (hval 0 24 v0 rfl rfl) h0
  obtain ⟨x1, ok1, hr1⟩ := open_val facts (τ := (.st .formattedT)) rfl (hval 1 24 v1 rfl rfl) h1
  refine ((contract x0 x1 ok0 ok1).closed (W := W) (vs := #[v0, v1]) (gmem_laid hL) ⟨rfl, fun i c x hc hx => ?_⟩).mono fun e W' ⟨he, hb⟩ => ?_
  · match i with
    | 0 => simp at hc hx; subst hc; subst hx; exact .d hr0
    | 1 => simp at hc hx; subst hc; subst hx; exact .d hr1
    | i + 2 => simp at hc
  subst he
  exact ⟨_, rfl, _, _, _, [], _, [], hW, trodAll_cons_mk (shut_bool Tryd.underlying4 _) trodAll_mk0,
    (trodAll_cons_mk (Below.trod laidOut (by kernel_rfl) (of_decide_eq_true (by kernel_rfl)) h0 hb hlt0) (trodAll_cons_mk (Below.trod laidOut (by kernel_rfl) (of_decide_eq_true (by kernel_rfl)) h1 hb hlt1) trodAll_mk0)), rfl, hb.frame _, (fun h => by cases h)⟩

theorem row : Rows.TextAppendsSaid :=
  OpenClaim.holds_of_wide 3 Tryd.f3 rfl rfl rfl rfl rfl rfl rfl ⟨rfl, rfl, rfl, rfl, rfl⟩ rfl rfl rfl rfl rfl (by kernel_rfl) Tryd.func3 (by kernel_rfl)
    (of_decide_eq_true (by kernel_rfl)) (by unfold Func.isWrapper; first | (rw [if_pos (by decide +kernel)]; kernel_rfl) | (rw [if_neg (by decide +kernel)]; exact ⟨rfl, rfl⟩))
    (fun os started H enc _ => lifted os started H enc)

theorem proved : Rows.TextAppendsCardSaid :=
  Claim7.holds_tied_plain_at .later [] [.data, .pinned] true (true, "b4b9d71edf896865a92108add42838a6ab594b8ee6264e373950ec4e57fd9156") false row (fun _ h => by cases h) (by kernel_rfl) (fun _ h => by cases h) textAppends_row_tie rfl ⟨rfl, rfl⟩ (by kernel_rfl) rfl
    (fun f fn hf hfn => by
      obtain rfl : f = 3 := Option.some.inj ((show Tryd.prog.funcNamed "mandrel/mandrellaw19.TextAppends" = some 3 by kernel_rfl).symm.trans hf) |>.symm
      obtain rfl : fn = Tryd.f3 := (Option.some.inj (Tryd.func3.symm.trans hfn)).symm
      exact ⟨by kernel_rfl, fun j t ht => by
        rw [Tryd.params3] at ht
        have hm : t ∈ ([24, 24] : List TypeId) := by simpa using Array.mem_of_getElem? ht
        have hall : (([24, 24] : List TypeId).all fun u => !Tryd.prog.wantsStandIn u) = true := by kernel_rfl
        exact (show Tryd.prog.wantsStandIn t = false by simpa using List.all_eq_true.1 hall t hm)⟩)
    (by kernel_rfl)

end Go.Proofs.YtnbkpokcfcednaaDoor.textAppends
