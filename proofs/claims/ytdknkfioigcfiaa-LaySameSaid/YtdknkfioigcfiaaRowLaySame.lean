/-
  The row of LaySame: for every input the law returns true, and the input reads as it did.
-/
import Derived.Test.YtdknkfioigcfiaaRows
import Derived.Test.YtdknkfioigcfiaaFact
import Derived.Test.YtdknkfioigcfiaaLwP
namespace Go.Proofs.Ytdknkfioigcfiaa.laySame
open Go.ChangeShapes Go.WideShapes Go.ChangeAt Go.RowKit Go.Awp Go.Tx
set_option linter.unusedVariables false

theorem laidOut : laidOutB Try.prog = true := by kernel_rfl
theorem own : ownKnob Try.prog.godebug = none := by kernel_rfl

theorem contract (x0 : Layout) (x1 : Layout) (h0 : Ok vw (.st .layoutT) x0) (h1 : Ok vw (.st .layoutT) x1) : FnOk Try.prog 6 [.d (encD szN encN (.st .layoutT) x0), .d (encD szN encN (.st .layoutT) x1)] [] (.d (.v (.bool true))) [] :=
  kcast (by kernel_rfl) (n_6_ok (x0, x1, ()) (true, ()) (.lf .bool true) (laySame_true x0 x1 h0 h1) rfl)

set_option maxRecDepth 100000 in
theorem lifted (os : Os) (started : os.Started) (H : Type) (enc : TypeId × Value → H) :
    ReturnsInHanded {} Try.checked os 6 .any (Rows.laySameSpec.pre6 enc Try.prog Try.f6 Rows.laySameRow.domain false) (Rows.laySameSpec.post enc Try.prog Try.f6 false true false false) := by
  refine returnsInHanded_of_change (C := Try.checked) own started (by kernel_rfl) Try.func6
    (ChangeSpec.witness6 (enc := enc) (C := Try.checked) false ⟨#[], #[.agg #[.int .i64 0, .int .i64 0, .bool false, .slice none 0 0], .agg #[.int .i64 0, .int .i64 0, .bool false, .slice none 0 0]], []⟩ 8 (by kernel_rfl) (by kernel_rfl) (by kernel_rfl) (by kernel_rfl)) ?_
  intro W base args ds gs before hval0 hW hcnd _
  have hval : ∀ (j : Nat) t v, Try.f6.params[j]? = some t → args[j]? = some v → Value.okWide Try.prog W .any base t v := hval0
  have hW' := hW
  obtain ⟨p, q, hA0, hV, rfl, hfz, hnd⟩ := hW'
  have hA : DataW.TrodAll enc Try.prog W 0 (fun _ => true) true Try.f6.params.toList args.toList ds p := hA0
  rw [Try.params6] at hA hval
  obtain ⟨v0, vs0, d0, ds0, p0, q0, ha0, rfl, rfl, h0, r0⟩ := trodAll_cons hA
  obtain ⟨v1, vs1, d1, ds1, p1, q1, ha1, rfl, rfl, h1, r1⟩ := trodAll_cons r0
  subst ha1
  obtain ⟨rfl, rfl, rfl⟩ := trodAll_nil r1
  obtain rfl : args = #[v0, v1] := by cases args; simp_all
  obtain ⟨rfl, rfl⟩ := trodVars_none hV
  have hlt0 : ∀ x ∈ p0, x.block < W.heap.size := fun x hx => by simpa using hW.lt x (by simp [hx])
  have hlt1 : ∀ x ∈ p1, x.block < W.heap.size := fun x hx => by simpa using hW.lt x (by simp [hx])
  obtain ⟨x0, ok0, hr0⟩ := open_val facts (τ := (.st .layoutT)) rfl (hval 0 24 v0 rfl rfl) h0
  obtain ⟨x1, ok1, hr1⟩ := open_val facts (τ := (.st .layoutT)) rfl (hval 1 24 v1 rfl rfl) h1
  refine ((contract x0 x1 ok0 ok1).closed (W := W) (vs := #[v0, v1]) ⟨rfl, fun i c x hc hx => ?_⟩).mono fun e W' ⟨he, hb⟩ => ?_
  · match i with
    | 0 => simp at hc hx; subst hc; subst hx; exact .d hr0
    | 1 => simp at hc hx; subst hc; subst hx; exact .d hr1
    | i + 2 => simp at hc
  subst he
  exact ⟨_, rfl, _, _, _, [], _, [], hW, trodAll_cons_mk (shut_bool Try.underlying4 _) trodAll_mk0,
    (trodAll_cons_mk (Below.trod laidOut (by kernel_rfl) (of_decide_eq_true (by kernel_rfl)) h0 hb hlt0) (trodAll_cons_mk (Below.trod laidOut (by kernel_rfl) (of_decide_eq_true (by kernel_rfl)) h1 hb hlt1) trodAll_mk0)), rfl, hb.frame _, (fun h => by cases h)⟩

theorem proved : Rows.LaySameSaid :=
  OpenClaim.holds_of_wide 6 Try.f6 rfl rfl rfl rfl rfl rfl rfl ⟨rfl, rfl, rfl, rfl, rfl⟩ rfl rfl rfl rfl rfl (by kernel_rfl) Try.func6 (by kernel_rfl)
    (of_decide_eq_true (by kernel_rfl)) (by unfold Func.isWrapper; first | (rw [if_pos (by decide +kernel)]; kernel_rfl) | (rw [if_neg (by decide +kernel)]; exact ⟨rfl, rfl⟩))
    (fun os started H enc _ => lifted os started H enc)

end Go.Proofs.Ytdknkfioigcfiaa.laySame
