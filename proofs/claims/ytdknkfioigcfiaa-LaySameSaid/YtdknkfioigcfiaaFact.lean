/-
  The types of the program are what the view says. Made by a program of mine.
-/
import Derived.Test.YtdknkfioigcfiaaView
import Derived.Test.YtdknkfioigcfiaaTxR
namespace Go.Proofs.Ytdknkfioigcfiaa
open Go.Awp Go.Tx
set_option linter.unusedVariables false
set_option maxRecDepth 100000

def structOf (P : Program) (t : TypeId) : Array Field := match P.underlying t with
  | some (.struct fs) => fs
  | _ => #[]

theorem tf2 : tyFact vw Try.prog 2 (.int .i64) := (by kernel_rfl : Try.prog.underlying 2 = some (.int .i64))
theorem tf3 : tyFact vw Try.prog 3 (.int .i64) := (by kernel_rfl : Try.prog.underlying 3 = some (.int .i64))
theorem tf4 : tyFact vw Try.prog 4 .bool := (by kernel_rfl : Try.prog.underlying 4 = some .bool)
theorem tf5 : tyFact vw Try.prog 5 (.int .u8) := (by kernel_rfl : Try.prog.underlying 5 = some (.int .u8))
theorem tf6 : tyFact vw Try.prog 6 (.int .u8) := (by kernel_rfl : Try.prog.underlying 6 = some (.int .u8))
theorem tf9 : tyFact vw Try.prog 9 .str := (by kernel_rfl : Try.prog.underlying 9 = some .string)
theorem tf10 : tyFact vw Try.prog 10 .str := (by kernel_rfl : Try.prog.underlying 10 = some .string)
theorem tf11 : tyFact vw Try.prog 11 .str := (by kernel_rfl : Try.prog.underlying 11 = some .string)
theorem tf12 : tyFact vw Try.prog 12 (.int .u64) := (by kernel_rfl : Try.prog.underlying 12 = some (.int .u64))
theorem tf21 : tyFact vw Try.prog 21 (.int .i32) := (by kernel_rfl : Try.prog.underlying 21 = some (.int .i32))
theorem tf22 : tyFact vw Try.prog 22 (.sl (.st .layoutT)) := ⟨24, by kernel_rfl, by kernel_rfl, by kernel_rfl, by kernel_rfl⟩
theorem tf24 : tyFact vw Try.prog 24 (.st .layoutT) := ⟨structOf Try.prog 24, by kernel_rfl, by kernel_rfl, by kernel_rfl⟩
theorem tf26 : tyFact vw Try.prog 26 (.st .targetT) := ⟨structOf Try.prog 26, by kernel_rfl, by kernel_rfl, by kernel_rfl⟩
theorem tf29 : tyFact vw Try.prog 29 (.int .i64) := (by kernel_rfl : Try.prog.underlying 29 = some (.int .i64))
theorem tf33 : tyFact vw Try.prog 33 (.sl (.int .i64)) := ⟨3, by kernel_rfl, by kernel_rfl, by kernel_rfl, by kernel_rfl⟩
theorem tf53 : tyFact vw Try.prog 53 (.st .roomT) := ⟨structOf Try.prog 53, by kernel_rfl, by kernel_rfl, by kernel_rfl⟩
theorem tf57 : tyFact vw Try.prog 57 (.st .placeT) := ⟨structOf Try.prog 57, by kernel_rfl, by kernel_rfl, by kernel_rfl⟩
theorem tf62 : tyFact vw Try.prog 62 (.st .countedT) := ⟨structOf Try.prog 62, by kernel_rfl, by kernel_rfl, by kernel_rfl⟩
theorem tf69 : tyFact vw Try.prog 69 (.sl .bool) := ⟨4, by kernel_rfl, by kernel_rfl, by kernel_rfl, by kernel_rfl⟩
theorem tf79 : tyFact vw Try.prog 79 (.sl (.sl (.int .i64))) := ⟨33, by kernel_rfl, by kernel_rfl, by kernel_rfl, by kernel_rfl⟩
theorem tf96 : tyFact vw Try.prog 96 (.int .u32) := (by kernel_rfl : Try.prog.underlying 96 = some (.int .u32))
theorem tf97 : tyFact vw Try.prog 97 (.int .u8) := (by kernel_rfl : Try.prog.underlying 97 = some (.int .u8))
theorem tf98 : tyFact vw Try.prog 98 (.int .u8) := (by kernel_rfl : Try.prog.underlying 98 = some (.int .u8))
theorem tf101 : tyFact vw Try.prog 101 (.int .i32) := (by kernel_rfl : Try.prog.underlying 101 = some (.int .i32))
theorem tf102 : tyFact vw Try.prog 102 (.int .i32) := (by kernel_rfl : Try.prog.underlying 102 = some (.int .i32))

theorem leaves_cons {ls : List (Leaf NN)} {t : Ty SN} {ts : List (Ty SN)} (h : ls.map (·.t) = t :: ts) : ∃ (x : den NN t) (ls' : List (Leaf NN)), ls = ⟨t, x⟩ :: ls' ∧ ls'.map (·.t) = ts := by
  match ls, h with
  | ⟨t', x⟩ :: r, h =>
    simp only [List.map_cons, List.cons.injEq] at h
    obtain ⟨h1, h2⟩ := h
    subst h1
    exact ⟨x, r, rfl, h2⟩
theorem leaves_nil {ls : List (Leaf NN)} (h : ls.map (·.t) = []) : ls = [] := by simpa using h

theorem facts : Facts vw Try.prog where
  ty := fun t τ h => by
    have h : tyN t = some τ := h
    unfold tyN at h
    split at h
    · cases h; exact tf2
    · cases h; exact tf3
    · cases h; exact tf4
    · cases h; exact tf5
    · cases h; exact tf6
    · cases h; exact tf9
    · cases h; exact tf10
    · cases h; exact tf11
    · cases h; exact tf12
    · cases h; exact tf21
    · cases h; exact tf22
    · cases h; exact tf24
    · cases h; exact tf26
    · cases h; exact tf29
    · cases h; exact tf33
    · cases h; exact tf53
    · cases h; exact tf57
    · cases h; exact tf62
    · cases h; exact tf69
    · cases h; exact tf79
    · cases h; exact tf96
    · cases h; exact tf97
    · cases h; exact tf98
    · cases h; exact tf101
    · cases h; exact tf102
    · cases h
  tys := fun i x => by cases i <;> rfl
  of := fun i ls h => by
    cases i with
    | layoutT =>
      obtain ⟨a0, l0, rfl, h0⟩ := leaves_cons h
      obtain ⟨a1, l1, rfl, h1⟩ := leaves_cons h0
      obtain ⟨a2, l2, rfl, h2⟩ := leaves_cons h1
      obtain ⟨a3, l3, rfl, h3⟩ := leaves_cons h2
      obtain rfl := leaves_nil h3
      exact ⟨_, rfl⟩
    | targetT =>
      obtain ⟨a0, l0, rfl, h0⟩ := leaves_cons h
      obtain ⟨a1, l1, rfl, h1⟩ := leaves_cons h0
      obtain rfl := leaves_nil h1
      exact ⟨_, rfl⟩
    | roomT =>
      obtain ⟨a0, l0, rfl, h0⟩ := leaves_cons h
      obtain ⟨a1, l1, rfl, h1⟩ := leaves_cons h0
      obtain rfl := leaves_nil h1
      exact ⟨_, rfl⟩
    | placeT =>
      obtain ⟨a0, l0, rfl, h0⟩ := leaves_cons h
      obtain ⟨a1, l1, rfl, h1⟩ := leaves_cons h0
      obtain rfl := leaves_nil h1
      exact ⟨_, rfl⟩
    | countedT =>
      obtain ⟨a0, l0, rfl, h0⟩ := leaves_cons h
      obtain ⟨a1, l1, rfl, h1⟩ := leaves_cons h0
      obtain ⟨a2, l2, rfl, h2⟩ := leaves_cons h1
      obtain rfl := leaves_nil h2
      exact ⟨_, rfl⟩

end Go.Proofs.Ytdknkfioigcfiaa
