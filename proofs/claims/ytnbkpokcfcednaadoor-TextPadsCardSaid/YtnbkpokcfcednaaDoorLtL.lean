/-
  The laws TextPads, TextCuts, TextPoints in plain Lean.
-/
import Derived.Test.YtnbkpokcfcednaaDoorLtH
import Derived.Test.YtnbkpokcfcednaaDoorLtK
namespace Go.Proofs.YtnbkpokcfcednaaDoor
open Go.Lib
set_option linter.unusedSimpArgs false
set_option linter.unusedVariables false
set_option maxRecDepth 20000

theorem law4 (s : ByteArray) (w : Int) {c : Int} (hc : 0 ≤ c ∧ c < 256) : n_4 (s, w, c, ()) = some (true, ()) := by
  unfold n_4
  by_cases h : (s.size : Int) > 20000
  · simp only [h, f9, Option.bind_eq_bind, Option.bind_some, Option.bind_none, if_true, if_false, Bool.false_eq_true, Bool.true_eq_false, Int.toNat_natCast, Int.natCast_nonneg, beq_iff_eq, decide_eq_true_eq, Int.ofNat_lt, decide_true, decide_false, Bool.not_true, Bool.not_false]
  · simp only [h, f11 s w hc, f12, f9, Option.bind_eq_bind, Option.bind_some, Option.bind_none, if_true, if_false, Bool.false_eq_true, Bool.true_eq_false, Int.toNat_natCast, Int.natCast_nonneg, beq_iff_eq, decide_eq_true_eq, Int.ofNat_lt, decide_true, decide_false, Bool.not_true, Bool.not_false, ba_beq]

theorem law6 (s : ByteArray) (a b : Int) : n_6 (s, a, b, ()) = some (true, ()) := by
  unfold n_6
  by_cases h : (s.size : Int) > 20000
  · simp only [h, f9, Option.bind_eq_bind, Option.bind_some, Option.bind_none, if_true, if_false, Bool.false_eq_true, Bool.true_eq_false, Int.toNat_natCast, Int.natCast_nonneg, beq_iff_eq, decide_eq_true_eq, Int.ofNat_lt, decide_true, decide_false, Bool.not_true, Bool.not_false]
  · have hs : s.size ≤ 1000000 := by omega
    simp only [h, f16, f17 hs, f18, f19 hs, f9, Option.bind_eq_bind, Option.bind_some, Option.bind_none, if_true, if_false, Bool.false_eq_true, Bool.true_eq_false, Int.toNat_natCast, Int.natCast_nonneg, beq_iff_eq, decide_eq_true_eq, Int.ofNat_lt, decide_true, decide_false, Bool.not_true, Bool.not_false, ba_beq, bne_self_eq_false]
    by_cases h2 : code s = 0
    · have := rev_twice h2
      have h3 : (revR s).2.1 = 0 := h2
      simp only [this, h3, bne_self_eq_false, Option.bind_eq_bind, Option.bind_some, Option.bind_none, if_true, if_false, Bool.false_eq_true, Bool.true_eq_false, Int.toNat_natCast, Int.natCast_nonneg, beq_iff_eq, decide_eq_true_eq, Int.ofNat_lt, decide_true, decide_false, Bool.not_true, Bool.not_false]
    · have h3 : ((revR s).2.1 != 0) = true := by simpa [revR] using h2
      simp only [h3, Option.bind_eq_bind, Option.bind_some, Option.bind_none, if_true, if_false, Bool.false_eq_true, Bool.true_eq_false, Int.toNat_natCast, Int.natCast_nonneg, beq_iff_eq, decide_eq_true_eq, Int.ofNat_lt, decide_true, decide_false, Bool.not_true, Bool.not_false]

theorem txt_pts {s : ByteArray} (h : code s = 0) : txt (pts s) = (s, 0, ()) := by
  obtain ⟨h1, h2⟩ := code0 h
  have hg := good_pts (pts_pt s)
  have hfull : (pts s).flatMap encodeRune = s.data.toList := P_full (by rw [ba_size]; exact h2)
  have ho : off (pts s) = false := by
    unfold off
    rw [List.any_eq_false]
    intro x hx
    simpa using pts_pt s x hx
  have ht : tot (pts s) = s.size := by unfold tot; rw [hg, hfull, ba_size]
  unfold txt
  rw [if_neg (by omega), if_neg (by rw [ho]; decide), hg, hfull, ba_eta]

theorem pts_txt {ns : List Int} (h : (txt ns).2.1 = 0) : code (txt ns).1 = 0 ∧ pts (txt ns).1 = ns := by
  by_cases h1 : tot ns > 4096
  · unfold txt at h; rw [if_pos h1] at h; cases h
  by_cases h2 : off ns = true
  · unfold txt at h; rw [if_neg h1, if_pos h2] at h; cases h
  have hp : ∀ x ∈ ns, isPt x := by
    have := Bool.not_eq_true _ ▸ h2
    unfold off at this
    rw [List.any_eq_false] at this
    intro x hx
    simpa using this x hx
  have hg := good_pts hp
  have ht : (txt ns).1 = ⟨(ns.flatMap encodeRune).toArray⟩ := by
    unfold txt; rw [if_neg h1, if_neg h2, hg]
  have hP := P_enc hp
  unfold tot at h1
  rw [hg] at h1
  rw [ht]
  have hs : (⟨(ns.flatMap encodeRune).toArray⟩ : ByteArray).size = (ns.flatMap encodeRune).length := by rw [← ba_size]
  constructor
  · unfold code fit
    rw [hs, if_neg h1]
    simp only [hP, if_true]
  · unfold pts
    simp only [hP]

theorem law7 (s : ByteArray) (ns : List Int) : n_7 (s, ns, ()) = some (true, ()) := by
  unfold n_7
  by_cases h : (s.size : Int) > 20000
  · simp only [h, f9, Option.bind_eq_bind, Option.bind_some, Option.bind_none, if_true, if_false, Bool.false_eq_true, Bool.true_eq_false, Int.toNat_natCast, Int.natCast_nonneg, beq_iff_eq, decide_eq_true_eq, Int.ofNat_lt, decide_true, decide_false, Bool.not_true, Bool.not_false]
  by_cases hn : (ns.length : Int) > 20000
  · simp only [h, hn, f9, Option.bind_eq_bind, Option.bind_some, Option.bind_none, if_true, if_false, Bool.false_eq_true, Bool.true_eq_false, Int.toNat_natCast, Int.natCast_nonneg, beq_iff_eq, decide_eq_true_eq, Int.ofNat_lt, decide_true, decide_false, Bool.not_true, Bool.not_false]
  have hs : s.size ≤ 1000000 := by omega
  have hn2 : ns.length ≤ 1000000 := by omega
  have hp := pts_len s
  have hl : (if code s = 0 then pts s else []).length ≤ 1000000 := by
    split
    · omega
    · simp
  simp only [h, hn, f20, f21 hs, f22, f23 hs, f24, f25 hs, f27 hn2, f28 hn2, f9, Option.bind_eq_bind, Option.bind_some, Option.bind_none, if_true, if_false, Bool.false_eq_true, Bool.true_eq_false, Int.toNat_natCast, Int.natCast_nonneg, beq_iff_eq, decide_eq_true_eq, Int.ofNat_lt, decide_true, decide_false, Bool.not_true, Bool.not_false, ba_beq, bne_self_eq_false, f26 (show (if code s = 0 then pts s else []).length ≤ 1000000000 by omega), f27 hl]
  rw [if_neg (by simp)]
  simp only [f27 hl, f27 hn2, f28 hn2, Option.bind_eq_bind, Option.bind_some, Option.bind_none, if_true, if_false, Bool.false_eq_true, Bool.true_eq_false, Int.toNat_natCast, Int.natCast_nonneg, beq_iff_eq, decide_eq_true_eq, Int.ofNat_lt, decide_true, decide_false, Bool.not_true, Bool.not_false, bne_self_eq_false, f22]
  have key : ((txt ns).2.1 = 0) → n_26 (if code (txt ns).1 = 0 then pts (txt ns).1 else [], ns, ()) = some (true, ()) := by
    intro h0
    obtain ⟨k1, k2⟩ := pts_txt h0
    rw [if_pos k1, k2]
    exact f26 (by omega)
  by_cases h2 : code s = 0
  · simp only [h2, if_true, txt_pts h2, bne_self_eq_false, Option.bind_eq_bind, Option.bind_some, Option.bind_none, if_true, if_false, Bool.false_eq_true, Bool.true_eq_false, Int.toNat_natCast, Int.natCast_nonneg, beq_iff_eq, decide_eq_true_eq, Int.ofNat_lt, decide_true, decide_false, Bool.not_true, Bool.not_false]
    by_cases h3 : (txt ns).2.1 = 0
    · have k1 := (pts_txt h3).1
      have := key h3
      rw [if_pos k1] at this
      simp [h3, k1, this]
    · simp [h3]
  · have h2' : (code s != 0) = true := by simpa using h2
    simp only [h2', if_true]
    by_cases h3 : (txt ns).2.1 = 0
    · have k1 := (pts_txt h3).1
      have := key h3
      rw [if_pos k1] at this
      simp [h3, k1, this]
    · simp [h3]

end Go.Proofs.YtnbkpokcfcednaaDoor
