/-
  The struct types of the translation, in Lean. Made by a program of mine.
-/
import Derived.Test.YtdmggfegkaiaiaaGreatDoorTxQ
import Derived.Test.YtdmggfegkaiaiaaGreatDoorTy
import Derived.Test.YtdmggfegkaiaiaaGreatDoorGlob
namespace Go.Proofs.YtdmggfegkaiaiaaGreatDoor
open Go.Awp Go.Tx
set_option linter.unusedVariables false
set_option linter.unusedSimpArgs false

structure Tag where
  kind : Int
  n : Int
  text : ByteArray
  names : (List ByteArray)
  parts : (List Tag)

mutual
noncomputable def Tag.enc : Tag → List D
  | ⟨a0, a1, a2, a3, a4⟩ => [.v (.int .i64 a0)] ++ [.v (.int .i64 a1)] ++ [.v (.string a2)] ++ [.sl 1 (List.map (fun y => [.v (.string y)]) a3)] ++ [.sl 5 (Tag.encL a4)]
noncomputable def Tag.encL : List Tag → List (List D)
  | [] => []
  | x :: r => Tag.enc x :: Tag.encL r
end
theorem Tag.encL_map : ∀ l : List Tag, Tag.encL l = l.map Tag.enc
  | [] => by simp [Tag.encL]
  | x :: r => by simp [Tag.encL, Tag.encL_map r]

structure Size where
  depth : Int
  pieces : Int
  bytes : Int
  deriving DecidableEq

noncomputable def Size.enc (x : Size) : List D := [.v (.int .i64 x.depth)] ++ [.v (.int .i64 x.pieces)] ++ [.v (.int .i64 x.bytes)]

structure Reader where
  s : ByteArray
  at0 : Int


noncomputable def Reader.enc (x : Reader) : List D := [.v (.string x.s)] ++ [.v (.int .i64 x.at0)]

structure Mandrelref20Reader where
  s : ByteArray
  at0 : Int
  wrong : Bool


noncomputable def Mandrelref20Reader.enc (x : Mandrelref20Reader) : List D := [.v (.string x.s)] ++ [.v (.int .i64 x.at0)] ++ [.v (.bool x.wrong)]

structure AcceptRange where
  lo : Int
  hi : Int
  deriving DecidableEq

noncomputable def AcceptRange.enc (x : AcceptRange) : List D := [.v (.int .u8 x.lo)] ++ [.v (.int .u8 x.hi)]

structure ErrorString where
  s : ByteArray


noncomputable def ErrorString.enc (x : ErrorString) : List D := [.v (.string x.s)]

inductive SN where
  | tagT
  | sizeT
  | readerT
  | mandrelref20ReaderT
  | acceptRangeT
  | errorStringT
  deriving DecidableEq

abbrev NN : SN → Type
  | .tagT => Tag
  | .sizeT => Size
  | .readerT => Reader
  | .mandrelref20ReaderT => Mandrelref20Reader
  | .acceptRangeT => AcceptRange
  | .errorStringT => ErrorString

noncomputable def szN : SN → Nat
  | .tagT => 5
  | .sizeT => 3
  | .readerT => 2
  | .mandrelref20ReaderT => 3
  | .acceptRangeT => 2
  | .errorStringT => 1

noncomputable def tysN : SN → List (Ty SN)
  | .tagT => [(.int .i64), (.int .i64), .str, (.sl .str), (.sl (.st .tagT))]
  | .sizeT => [(.int .i64), (.int .i64), (.int .i64)]
  | .readerT => [.str, (.int .i64)]
  | .mandrelref20ReaderT => [.str, (.int .i64), .bool]
  | .acceptRangeT => [(.int .u8), (.int .u8)]
  | .errorStringT => [.str]

noncomputable def cellsN : (i : SN) → NN i → List (Leaf NN)
  | .tagT, x => [⟨(.int .i64), x.kind⟩, ⟨(.int .i64), x.n⟩, ⟨.str, x.text⟩, ⟨(.sl .str), x.names⟩, ⟨(.sl (.st .tagT)), x.parts⟩]
  | .sizeT, x => [⟨(.int .i64), x.depth⟩, ⟨(.int .i64), x.pieces⟩, ⟨(.int .i64), x.bytes⟩]
  | .readerT, x => [⟨.str, x.s⟩, ⟨(.int .i64), x.at0⟩]
  | .mandrelref20ReaderT, x => [⟨.str, x.s⟩, ⟨(.int .i64), x.at0⟩, ⟨.bool, x.wrong⟩]
  | .acceptRangeT, x => [⟨(.int .u8), x.lo⟩, ⟨(.int .u8), x.hi⟩]
  | .errorStringT, x => [⟨.str, x.s⟩]

noncomputable def encN : (i : SN) → NN i → List D
  | .tagT, x => Tag.enc x
  | .sizeT, x => Size.enc x
  | .readerT, x => Reader.enc x
  | .mandrelref20ReaderT, x => Mandrelref20Reader.enc x
  | .acceptRangeT, x => AcceptRange.enc x
  | .errorStringT, x => ErrorString.enc x

noncomputable def ofN : (i : SN) → List (Leaf NN) → Option (NN i)
  | .tagT, [⟨(.int .i64), a0⟩, ⟨(.int .i64), a1⟩, ⟨.str, a2⟩, ⟨(.sl .str), a3⟩, ⟨(.sl (.st .tagT)), a4⟩] => some ⟨a0, a1, a2, a3, a4⟩
  | .sizeT, [⟨(.int .i64), a0⟩, ⟨(.int .i64), a1⟩, ⟨(.int .i64), a2⟩] => some ⟨a0, a1, a2⟩
  | .readerT, [⟨.str, a0⟩, ⟨(.int .i64), a1⟩] => some ⟨a0, a1⟩
  | .mandrelref20ReaderT, [⟨.str, a0⟩, ⟨(.int .i64), a1⟩, ⟨.bool, a2⟩] => some ⟨a0, a1, a2⟩
  | .acceptRangeT, [⟨(.int .u8), a0⟩, ⟨(.int .u8), a1⟩] => some ⟨a0, a1⟩
  | .errorStringT, [⟨.str, a0⟩] => some ⟨a0⟩
  | _, _ => none

noncomputable def tyN : TypeId → Option (Ty SN)
  | 2 => some (.int .i64)
  | 3 => some (.int .i64)
  | 4 => some .bool
  | 5 => some (.int .u8)
  | 6 => some (.int .u8)
  | 9 => some .str
  | 10 => some .str
  | 11 => some .str
  | 12 => some (.int .u64)
  | 21 => some (.int .i32)
  | 22 => some (.sl .str)
  | 23 => some (.sl (.st .tagT))
  | 25 => some (.st .tagT)
  | 29 => some (.int .i64)
  | 46 => some (.int .u64)
  | 47 => some (.sl (.int .u8))
  | 64 => some (.st .sizeT)
  | 70 => some (.st .readerT)
  | 74 => some (.st .mandrelref20ReaderT)
  | 123 => some (.st .acceptRangeT)
  | 133 => some (.int .i64)
  | 140 => some (.int .u32)
  | 142 => some (.int .u64)
  | 143 => some (.int .i64)
  | 157 => some (.int .u64)
  | 181 => some (.st .errorStringT)
  | 218 => some (.int .u8)
  | 219 => some (.int .u8)
  | 221 => some (.int .i32)
  | 222 => some (.int .i32)
  | _ => none

theorem enc_cellsN (i : SN) (x : NN i) : encN i x = (cellsN i x).map fun l => encD szN encN l.t l.x := by
  cases i <;> cases x <;> simp [encN, cellsN, encD, encR, tsz, szN, Tag.enc, Size.enc, Reader.enc, Mandrelref20Reader.enc, AcceptRange.enc, ErrorString.enc, Tag.encL_map]
theorem of_cellsN (i : SN) (ls : List (Leaf NN)) (x : NN i) (h : ofN i ls = some x) : cellsN i x = ls := by
  unfold ofN at h
  split at h <;> first
    | (cases h; rfl)
    | (cases h; done)
theorem len_cellsN (i : SN) (x : NN i) : (cellsN i x).length = szN i := by cases i <;> rfl
theorem one_cellsN (i : SN) (x : NN i) : ∀ l ∈ cellsN i x, l.t.cell = true := by
  have h : (cellsN i x).all (fun l => l.t.cell) = true := by cases i <;> rfl
  exact List.all_eq_true.1 h

/-- The types of the translation. -/
noncomputable def vw : View where
  ι := SN
  dec := inferInstance
  N := NN
  sz := szN
  tys := tysN
  cells := cellsN
  ofCells := ofN
  enc := encN
  ty := tyN
  enc_cells := enc_cellsN
  of_cells := of_cellsN
  len_cells := len_cellsN
  one_cells := one_cellsN

end Go.Proofs.YtdmggfegkaiaiaaGreatDoor
