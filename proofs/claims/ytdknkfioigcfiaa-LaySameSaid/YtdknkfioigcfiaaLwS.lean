/-
  A layout that the machine can hold fits.
-/
import Derived.Test.YtdknkfioigcfiaaLwI
import Derived.Test.YtdknkfioigcfiaaFact
namespace Go.Proofs.Ytdknkfioigcfiaa
open Go.Tx
set_option linter.unusedSimpArgs false
set_option linter.unusedVariables false

theorem ok_int64 {n : Int} (h : Ok vw (.int .i64) n) : -9223372036854775808 ≤ n ∧ n ≤ 9223372036854775807 := by
  cases h with
  | int h => simpa [Lit.wf, IntKind.min, IntKind.max, IntKind.signed, IntKind.bits] using h

theorem ok_sl {e : Ty SN} {xs : List (den NN e)} (h : Ok vw (.sl e) xs) : xs.length ≤ 9223372036854775807 ∧ ∀ x ∈ xs, Ok vw e x := by
  cases h with
  | sl h1 h2 =>
    have hmx : (maxLen : Nat) = 9223372036854775807 := by decide
    rw [hmx] at h1
    exact ⟨h1, h2⟩

theorem ok_st {i : SN} {x : NN i} (h : Ok vw (.st i) x) : ∀ l ∈ cellsN i x, Ok vw l.t l.x := by
  cases h with
  | st h => exact h

theorem fits_of_ok : ∀ l : Layout, Ok vw (.st .layoutT) l → l.Fits := by
  refine Layout.ind fun l ih h => ?_
  have hc := ok_st h
  have h0 := ok_int64 (hc ⟨.int .i64, l.kind⟩ (by simp [cellsN]))
  have h1 := ok_int64 (hc ⟨.int .i64, l.n⟩ (by simp [cellsN]))
  obtain ⟨h2, h3⟩ := ok_sl (hc ⟨.sl (.st .layoutT), l.parts⟩ (by simp [cellsN]))
  intro q hq
  rw [l.all_eq] at hq
  rcases List.mem_cons.1 hq with rfl | hq
  · exact ⟨h0, h1, h2⟩
  · have : ∀ ps : List Layout, (∀ p ∈ ps, p.Fits) → q ∈ Layout.allL ps → q.fit := by
      intro ps
      induction ps with
      | nil => intro _ hq; simp [Layout.allL] at hq
      | cons p r ihr =>
        intro hp hq
        rw [Layout.allL, List.mem_append] at hq
        rcases hq with hq | hq
        · exact hp p List.mem_cons_self q hq
        · exact ihr (fun p' hp' => hp p' (List.mem_cons_of_mem _ hp')) hq
    exact this l.parts (fun p hp => ih p hp (h3 p hp)) hq

theorem laySizes_true (l : Layout) (t : Target) (h0 : Ok vw (.st .layoutT) l) (h1 : Ok vw (.st .targetT) t) : n_3 (l, t, ()) = some (true, ()) := law3 l t (fits_of_ok l h0)
theorem layValidates_true (l : Layout) (t : Target) (h0 : Ok vw (.st .layoutT) l) (h1 : Ok vw (.st .targetT) t) : n_5 (l, t, ()) = some (true, ()) := law5 l t (fits_of_ok l h0)

end Go.Proofs.Ytdknkfioigcfiaa
