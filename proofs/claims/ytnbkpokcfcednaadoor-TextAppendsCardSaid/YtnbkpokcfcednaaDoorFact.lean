/-
  The types of the program are what the view says. Made by a program of mine.
-/
import Derived.Test.YtnbkpokcfcednaaDoorView
import Derived.Test.YtnbkpokcfcednaaDoorTxR
namespace Go.Proofs.YtnbkpokcfcednaaDoor
open Go.Awp Go.Tx
set_option linter.unusedVariables false
set_option maxRecDepth 100000

def structOf (P : Program) (t : TypeId) : Array Field := match P.underlying t with
  | some (.struct fs) => fs
  | _ => #[]

theorem tf2 : tyFact vw Tryd.prog 2 (.int .i64) := (by kernel_rfl : Tryd.prog.underlying 2 = some (.int .i64))
theorem tf3 : tyFact vw Tryd.prog 3 (.int .i64) := (by kernel_rfl : Tryd.prog.underlying 3 = some (.int .i64))
theorem tf4 : tyFact vw Tryd.prog 4 .bool := (by kernel_rfl : Tryd.prog.underlying 4 = some .bool)
theorem tf5 : tyFact vw Tryd.prog 5 (.int .u8) := (by kernel_rfl : Tryd.prog.underlying 5 = some (.int .u8))
theorem tf6 : tyFact vw Tryd.prog 6 (.int .u8) := (by kernel_rfl : Tryd.prog.underlying 6 = some (.int .u8))
theorem tf9 : tyFact vw Tryd.prog 9 .str := (by kernel_rfl : Tryd.prog.underlying 9 = some .string)
theorem tf10 : tyFact vw Tryd.prog 10 .str := (by kernel_rfl : Tryd.prog.underlying 10 = some .string)
theorem tf11 : tyFact vw Tryd.prog 11 .str := (by kernel_rfl : Tryd.prog.underlying 11 = some .string)
theorem tf12 : tyFact vw Tryd.prog 12 (.int .u64) := (by kernel_rfl : Tryd.prog.underlying 12 = some (.int .u64))
theorem tf21 : tyFact vw Tryd.prog 21 (.int .i32) := (by kernel_rfl : Tryd.prog.underlying 21 = some (.int .i32))
theorem tf22 : tyFact vw Tryd.prog 22 (.sl (.st .tagT)) := ⟨52, by kernel_rfl, by kernel_rfl, by kernel_rfl, by kernel_rfl⟩
theorem tf24 : tyFact vw Tryd.prog 24 (.st .formattedT) := ⟨structOf Tryd.prog 24, by kernel_rfl, by kernel_rfl, by kernel_rfl⟩
theorem tf27 : tyFact vw Tryd.prog 27 (.int .i64) := (by kernel_rfl : Tryd.prog.underlying 27 = some (.int .i64))
theorem tf33 : tyFact vw Tryd.prog 33 (.sl (.int .u8)) := ⟨5, by kernel_rfl, by kernel_rfl, by kernel_rfl, by kernel_rfl⟩
theorem tf40 : tyFact vw Tryd.prog 40 (.sl (.int .i64)) := ⟨3, by kernel_rfl, by kernel_rfl, by kernel_rfl, by kernel_rfl⟩
theorem tf50 : tyFact vw Tryd.prog 50 (.sl .str) := ⟨9, by kernel_rfl, by kernel_rfl, by kernel_rfl, by kernel_rfl⟩
theorem tf52 : tyFact vw Tryd.prog 52 (.st .tagT) := ⟨structOf Tryd.prog 52, by kernel_rfl, by kernel_rfl, by kernel_rfl⟩
theorem tf53 : tyFact vw Tryd.prog 53 (.sl (.st .pieceT)) := ⟨57, by kernel_rfl, by kernel_rfl, by kernel_rfl, by kernel_rfl⟩
theorem tf57 : tyFact vw Tryd.prog 57 (.st .pieceT) := ⟨structOf Tryd.prog 57, by kernel_rfl, by kernel_rfl, by kernel_rfl⟩
theorem tf75 : tyFact vw Tryd.prog 75 (.sl (.st .partT)) := ⟨81, by kernel_rfl, by kernel_rfl, by kernel_rfl, by kernel_rfl⟩
theorem tf81 : tyFact vw Tryd.prog 81 (.st .partT) := ⟨structOf Tryd.prog 81, by kernel_rfl, by kernel_rfl, by kernel_rfl⟩
theorem tf84 : tyFact vw Tryd.prog 84 (.sl (.int .i32)) := ⟨21, by kernel_rfl, by kernel_rfl, by kernel_rfl, by kernel_rfl⟩
theorem tf119 : tyFact vw Tryd.prog 119 (.int .u64) := (by kernel_rfl : Tryd.prog.underlying 119 = some (.int .u64))
theorem tf125 : tyFact vw Tryd.prog 125 (.st .acceptRangeT) := ⟨structOf Tryd.prog 125, by kernel_rfl, by kernel_rfl, by kernel_rfl⟩
theorem tf127 : tyFact vw Tryd.prog 127 (.int .u32) := (by kernel_rfl : Tryd.prog.underlying 127 = some (.int .u32))
theorem tf132 : tyFact vw Tryd.prog 132 (.int .u64) := (by kernel_rfl : Tryd.prog.underlying 132 = some (.int .u64))
theorem tf141 : tyFact vw Tryd.prog 141 (.int .u8) := (by kernel_rfl : Tryd.prog.underlying 141 = some (.int .u8))
theorem tf142 : tyFact vw Tryd.prog 142 (.int .u8) := (by kernel_rfl : Tryd.prog.underlying 142 = some (.int .u8))
theorem tf144 : tyFact vw Tryd.prog 144 (.int .i32) := (by kernel_rfl : Tryd.prog.underlying 144 = some (.int .i32))
theorem tf145 : tyFact vw Tryd.prog 145 (.int .i32) := (by kernel_rfl : Tryd.prog.underlying 145 = some (.int .i32))

theorem leaves_cons {ls : List (Leaf NN)} {t : Ty SN} {ts : List (Ty SN)} (h : ls.map (·.t) = t :: ts) : ∃ (x : den NN t) (ls' : List (Leaf NN)), ls = ⟨t, x⟩ :: ls' ∧ ls'.map (·.t) = ts := by
  match ls, h with
  | ⟨t', x⟩ :: r, h =>
    simp only [List.map_cons, List.cons.injEq] at h
    obtain ⟨h1, h2⟩ := h
    subst h1
    exact ⟨x, r, rfl, h2⟩
theorem leaves_nil {ls : List (Leaf NN)} (h : ls.map (·.t) = []) : ls = [] := by simpa using h

theorem facts : Facts vw Tryd.prog where
  ty := fun t τ h => by
    have h : tyN t = some τ := h
    unfold tyN at h
    split at h
    · cases h; exact tf2
    · cases h; exact tf3
    · cases h; exact tf4
    · cases h; exact tf5
    · cases h; exact tf6
    · cases h; exact tf9
    · cases h; exact tf10
    · cases h; exact tf11
    · cases h; exact tf12
    · cases h; exact tf21
    · cases h; exact tf22
    · cases h; exact tf24
    · cases h; exact tf27
    · cases h; exact tf33
    · cases h; exact tf40
    · cases h; exact tf50
    · cases h; exact tf52
    · cases h; exact tf53
    · cases h; exact tf57
    · cases h; exact tf75
    · cases h; exact tf81
    · cases h; exact tf84
    · cases h; exact tf119
    · cases h; exact tf125
    · cases h; exact tf127
    · cases h; exact tf132
    · cases h; exact tf141
    · cases h; exact tf142
    · cases h; exact tf144
    · cases h; exact tf145
    · cases h
  tys := fun i x => by cases i <;> rfl
  of := fun i ls h => by
    cases i with
    | tagT =>
      obtain ⟨a0, l0, rfl, h0⟩ := leaves_cons h
      obtain ⟨a1, l1, rfl, h1⟩ := leaves_cons h0
      obtain ⟨a2, l2, rfl, h2⟩ := leaves_cons h1
      obtain ⟨a3, l3, rfl, h3⟩ := leaves_cons h2
      obtain ⟨a4, l4, rfl, h4⟩ := leaves_cons h3
      obtain rfl := leaves_nil h4
      exact ⟨_, rfl⟩
    | formattedT =>
      obtain ⟨a0, l0, rfl, h0⟩ := leaves_cons h
      obtain ⟨a1, l1, rfl, h1⟩ := leaves_cons h0
      obtain rfl := leaves_nil h1
      exact ⟨_, rfl⟩
    | pieceT =>
      obtain ⟨a0, l0, rfl, h0⟩ := leaves_cons h
      obtain ⟨a1, l1, rfl, h1⟩ := leaves_cons h0
      obtain ⟨a2, l2, rfl, h2⟩ := leaves_cons h1
      obtain ⟨a3, l3, rfl, h3⟩ := leaves_cons h2
      obtain rfl := leaves_nil h3
      exact ⟨_, rfl⟩
    | partT =>
      obtain ⟨a0, l0, rfl, h0⟩ := leaves_cons h
      obtain ⟨a1, l1, rfl, h1⟩ := leaves_cons h0
      obtain ⟨a2, l2, rfl, h2⟩ := leaves_cons h1
      obtain ⟨a3, l3, rfl, h3⟩ := leaves_cons h2
      obtain rfl := leaves_nil h3
      exact ⟨_, rfl⟩
    | acceptRangeT =>
      obtain ⟨a0, l0, rfl, h0⟩ := leaves_cons h
      obtain ⟨a1, l1, rfl, h1⟩ := leaves_cons h0
      obtain rfl := leaves_nil h1
      exact ⟨_, rfl⟩

end Go.Proofs.YtnbkpokcfcednaaDoor
