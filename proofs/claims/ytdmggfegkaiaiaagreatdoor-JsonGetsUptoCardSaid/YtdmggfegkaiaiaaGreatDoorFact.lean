/-
  The types of the program are what the view says. Made by a program of mine.
-/
import Derived.Test.YtdmggfegkaiaiaaGreatDoorView
import Derived.Test.YtdmggfegkaiaiaaGreatDoorTxR
namespace Go.Proofs.YtdmggfegkaiaiaaGreatDoor
open Go.Awp Go.Tx
set_option linter.unusedVariables false
set_option maxRecDepth 100000

def structOf (P : Program) (t : TypeId) : Array Field := match P.underlying t with
  | some (.struct fs) => fs
  | _ => #[]

theorem tf2 : tyFact vw Tryz.prog 2 (.int .i64) := (by kernel_rfl : Tryz.prog.underlying 2 = some (.int .i64))
theorem tf3 : tyFact vw Tryz.prog 3 (.int .i64) := (by kernel_rfl : Tryz.prog.underlying 3 = some (.int .i64))
theorem tf4 : tyFact vw Tryz.prog 4 .bool := (by kernel_rfl : Tryz.prog.underlying 4 = some .bool)
theorem tf5 : tyFact vw Tryz.prog 5 (.int .u8) := (by kernel_rfl : Tryz.prog.underlying 5 = some (.int .u8))
theorem tf6 : tyFact vw Tryz.prog 6 (.int .u8) := (by kernel_rfl : Tryz.prog.underlying 6 = some (.int .u8))
theorem tf9 : tyFact vw Tryz.prog 9 .str := (by kernel_rfl : Tryz.prog.underlying 9 = some .string)
theorem tf10 : tyFact vw Tryz.prog 10 .str := (by kernel_rfl : Tryz.prog.underlying 10 = some .string)
theorem tf11 : tyFact vw Tryz.prog 11 .str := (by kernel_rfl : Tryz.prog.underlying 11 = some .string)
theorem tf12 : tyFact vw Tryz.prog 12 (.int .u64) := (by kernel_rfl : Tryz.prog.underlying 12 = some (.int .u64))
theorem tf21 : tyFact vw Tryz.prog 21 (.int .i32) := (by kernel_rfl : Tryz.prog.underlying 21 = some (.int .i32))
theorem tf22 : tyFact vw Tryz.prog 22 (.sl .str) := ⟨9, by kernel_rfl, by kernel_rfl, by kernel_rfl, by kernel_rfl⟩
theorem tf23 : tyFact vw Tryz.prog 23 (.sl (.st .tagT)) := ⟨25, by kernel_rfl, by kernel_rfl, by kernel_rfl, by kernel_rfl⟩
theorem tf25 : tyFact vw Tryz.prog 25 (.st .tagT) := ⟨structOf Tryz.prog 25, by kernel_rfl, by kernel_rfl, by kernel_rfl⟩
theorem tf29 : tyFact vw Tryz.prog 29 (.int .i64) := (by kernel_rfl : Tryz.prog.underlying 29 = some (.int .i64))
theorem tf46 : tyFact vw Tryz.prog 46 (.int .u64) := (by kernel_rfl : Tryz.prog.underlying 46 = some (.int .u64))
theorem tf47 : tyFact vw Tryz.prog 47 (.sl (.int .u8)) := ⟨5, by kernel_rfl, by kernel_rfl, by kernel_rfl, by kernel_rfl⟩
theorem tf64 : tyFact vw Tryz.prog 64 (.st .sizeT) := ⟨structOf Tryz.prog 64, by kernel_rfl, by kernel_rfl, by kernel_rfl⟩
theorem tf70 : tyFact vw Tryz.prog 70 (.st .readerT) := ⟨structOf Tryz.prog 70, by kernel_rfl, by kernel_rfl, by kernel_rfl⟩
theorem tf74 : tyFact vw Tryz.prog 74 (.st .mandrelref20ReaderT) := ⟨structOf Tryz.prog 74, by kernel_rfl, by kernel_rfl, by kernel_rfl⟩
theorem tf123 : tyFact vw Tryz.prog 123 (.st .acceptRangeT) := ⟨structOf Tryz.prog 123, by kernel_rfl, by kernel_rfl, by kernel_rfl⟩
theorem tf133 : tyFact vw Tryz.prog 133 (.int .i64) := (by kernel_rfl : Tryz.prog.underlying 133 = some (.int .i64))
theorem tf140 : tyFact vw Tryz.prog 140 (.int .u32) := (by kernel_rfl : Tryz.prog.underlying 140 = some (.int .u32))
theorem tf142 : tyFact vw Tryz.prog 142 (.int .u64) := (by kernel_rfl : Tryz.prog.underlying 142 = some (.int .u64))
theorem tf143 : tyFact vw Tryz.prog 143 (.int .i64) := (by kernel_rfl : Tryz.prog.underlying 143 = some (.int .i64))
theorem tf157 : tyFact vw Tryz.prog 157 (.int .u64) := (by kernel_rfl : Tryz.prog.underlying 157 = some (.int .u64))
theorem tf181 : tyFact vw Tryz.prog 181 (.st .errorStringT) := ⟨structOf Tryz.prog 181, by kernel_rfl, by kernel_rfl, by kernel_rfl⟩
theorem tf218 : tyFact vw Tryz.prog 218 (.int .u8) := (by kernel_rfl : Tryz.prog.underlying 218 = some (.int .u8))
theorem tf219 : tyFact vw Tryz.prog 219 (.int .u8) := (by kernel_rfl : Tryz.prog.underlying 219 = some (.int .u8))
theorem tf221 : tyFact vw Tryz.prog 221 (.int .i32) := (by kernel_rfl : Tryz.prog.underlying 221 = some (.int .i32))
theorem tf222 : tyFact vw Tryz.prog 222 (.int .i32) := (by kernel_rfl : Tryz.prog.underlying 222 = some (.int .i32))

theorem leaves_cons {ls : List (Leaf NN)} {t : Ty SN} {ts : List (Ty SN)} (h : ls.map (·.t) = t :: ts) : ∃ (x : den NN t) (ls' : List (Leaf NN)), ls = ⟨t, x⟩ :: ls' ∧ ls'.map (·.t) = ts := by
  match ls, h with
  | ⟨t', x⟩ :: r, h =>
    simp only [List.map_cons, List.cons.injEq] at h
    obtain ⟨h1, h2⟩ := h
    subst h1
    exact ⟨x, r, rfl, h2⟩
theorem leaves_nil {ls : List (Leaf NN)} (h : ls.map (·.t) = []) : ls = [] := by simpa using h

theorem facts : Facts vw Tryz.prog where
  ty := fun t τ h => by
    have h : tyN t = some τ := h
    unfold tyN at h
    split at h
    · cases h; exact tf2
    · cases h; exact tf3
    · cases h; exact tf4
    · cases h; exact tf5
    · cases h; exact tf6
    · cases h; exact tf9
    · cases h; exact tf10
    · cases h; exact tf11
    · cases h; exact tf12
    · cases h; exact tf21
    · cases h; exact tf22
    · cases h; exact tf23
    · cases h; exact tf25
    · cases h; exact tf29
    · cases h; exact tf46
    · cases h; exact tf47
    · cases h; exact tf64
    · cases h; exact tf70
    · cases h; exact tf74
    · cases h; exact tf123
    · cases h; exact tf133
    · cases h; exact tf140
    · cases h; exact tf142
    · cases h; exact tf143
    · cases h; exact tf157
    · cases h; exact tf181
    · cases h; exact tf218
    · cases h; exact tf219
    · cases h; exact tf221
    · cases h; exact tf222
    · cases h
  tys := fun i x => by cases i <;> rfl
  of := fun i ls h => by
    cases i with
    | tagT =>
      obtain ⟨a0, l0, rfl, h0⟩ := leaves_cons h
      obtain ⟨a1, l1, rfl, h1⟩ := leaves_cons h0
      obtain ⟨a2, l2, rfl, h2⟩ := leaves_cons h1
      obtain ⟨a3, l3, rfl, h3⟩ := leaves_cons h2
      obtain ⟨a4, l4, rfl, h4⟩ := leaves_cons h3
      obtain rfl := leaves_nil h4
      exact ⟨_, rfl⟩
    | sizeT =>
      obtain ⟨a0, l0, rfl, h0⟩ := leaves_cons h
      obtain ⟨a1, l1, rfl, h1⟩ := leaves_cons h0
      obtain ⟨a2, l2, rfl, h2⟩ := leaves_cons h1
      obtain rfl := leaves_nil h2
      exact ⟨_, rfl⟩
    | readerT =>
      obtain ⟨a0, l0, rfl, h0⟩ := leaves_cons h
      obtain ⟨a1, l1, rfl, h1⟩ := leaves_cons h0
      obtain rfl := leaves_nil h1
      exact ⟨_, rfl⟩
    | mandrelref20ReaderT =>
      obtain ⟨a0, l0, rfl, h0⟩ := leaves_cons h
      obtain ⟨a1, l1, rfl, h1⟩ := leaves_cons h0
      obtain ⟨a2, l2, rfl, h2⟩ := leaves_cons h1
      obtain rfl := leaves_nil h2
      exact ⟨_, rfl⟩
    | acceptRangeT =>
      obtain ⟨a0, l0, rfl, h0⟩ := leaves_cons h
      obtain ⟨a1, l1, rfl, h1⟩ := leaves_cons h0
      obtain rfl := leaves_nil h1
      exact ⟨_, rfl⟩
    | errorStringT =>
      obtain ⟨a0, l0, rfl, h0⟩ := leaves_cons h
      obtain rfl := leaves_nil h0
      exact ⟨_, rfl⟩

end Go.Proofs.YtdmggfegkaiaiaaGreatDoor
