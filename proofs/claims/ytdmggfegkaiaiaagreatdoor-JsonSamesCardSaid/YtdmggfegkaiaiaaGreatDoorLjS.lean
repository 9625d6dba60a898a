/-
  The law JsonSames in plain Lean.
-/
import Derived.Test.YtdmggfegkaiaiaaGreatDoorLjK
namespace Go.Proofs.YtdmggfegkaiaiaaGreatDoor
open Go.Awp Go.Tx
set_option linter.unusedSimpArgs false
set_option linter.unusedVariables false
set_option maxRecDepth 20000

theorem law4 (a b : Tag) (ha : a.Wf) (hb : b.Wf) : n_4 (a, b, ()) = some (true, ()) := by
  obtain ⟨x, hx⟩ := f13 a ha
  obtain ⟨y, hy⟩ := f13 b hb
  obtain ⟨r, r1, r2, _⟩ := f19 a ha b
  obtain ⟨s, s1, _, s3⟩ := f19 a ha a
  unfold n_4
  simp only [hx, hy, known_true, Option.bind_eq_bind, Option.bind_some, Option.bind_none, if_true, if_false, Bool.false_eq_true, Bool.true_eq_false, Int.toNat_natCast, Int.natCast_nonneg, beq_iff_eq, decide_eq_true_eq, Int.ofNat_lt]
  cases x with
  | true => simp only [known_true, Option.bind_eq_bind, Option.bind_some, Option.bind_none, if_true, if_false, Bool.false_eq_true, Bool.true_eq_false, Int.toNat_natCast, Int.natCast_nonneg, beq_iff_eq, decide_eq_true_eq, Int.ofNat_lt]
  | false =>
    cases y with
    | true => simp only [known_true, Option.bind_eq_bind, Option.bind_some, Option.bind_none, if_true, if_false, Bool.false_eq_true, Bool.true_eq_false, Int.toNat_natCast, Int.natCast_nonneg, beq_iff_eq, decide_eq_true_eq, Int.ofNat_lt]
    | false => simp only [r1, r2, s1, s3 rfl, known_true, Option.bind_eq_bind, Option.bind_some, Option.bind_none, if_true, if_false, Bool.false_eq_true, Bool.true_eq_false, Int.toNat_natCast, Int.natCast_nonneg, beq_iff_eq, decide_eq_true_eq, Int.ofNat_lt, BEq.rfl]

theorem jsonSames_true (a b : Tag) (h0 : Ok vw (.st .tagT) a) (h1 : Ok vw (.st .tagT) b) : n_4 (a, b, ()) = some (true, ()) := law4 a b (wf_of_ok a h0) (wf_of_ok b h1)

end Go.Proofs.YtdmggfegkaiaiaaGreatDoor
