/-
  The struct types of the translation, in Lean. Made by a program of mine.
-/
import Derived.Test.YtnbkpokcfcednaaDoorTxQ
import Derived.Test.YtnbkpokcfcednaaDoorTy
import Derived.Test.YtnbkpokcfcednaaDoorGlob
namespace Go.Proofs.YtnbkpokcfcednaaDoor
open Go.Awp Go.Tx
set_option linter.unusedVariables false
set_option linter.unusedSimpArgs false

structure Tag where
  kind : Int
  n : Int
  text : ByteArray
  names : (List ByteArray)
  parts : (List Tag)

mutual
noncomputable def Tag.enc : Tag → List D
  | ⟨a0, a1, a2, a3, a4⟩ => [.v (.int .i64 a0)] ++ [.v (.int .i64 a1)] ++ [.v (.string a2)] ++ [.sl 1 (List.map (fun y => [.v (.string y)]) a3)] ++ [.sl 5 (Tag.encL a4)]
noncomputable def Tag.encL : List Tag → List (List D)
  | [] => []
  | x :: r => Tag.enc x :: Tag.encL r
end
theorem Tag.encL_map : ∀ l : List Tag, Tag.encL l = l.map Tag.enc
  | [] => by simp [Tag.encL]
  | x :: r => by simp [Tag.encL, Tag.encL_map r]

structure Formatted where
  format : ByteArray
  args : (List Tag)


noncomputable def Formatted.enc (x : Formatted) : List D := [.v (.string x.format)] ++ [.sl 5 (Tag.encL x.args)]

structure Piece where
  text : ByteArray
  letter : Int
  side : Int
  width : Int


noncomputable def Piece.enc (x : Piece) : List D := [.v (.string x.text)] ++ [.v (.int .u8 x.letter)] ++ [.v (.int .u8 x.side)] ++ [.v (.int .i64 x.width)]

structure Part where
  text : ByteArray
  letter : Int
  side : Int
  width : Int


noncomputable def Part.enc (x : Part) : List D := [.v (.string x.text)] ++ [.v (.int .u8 x.letter)] ++ [.v (.int .u8 x.side)] ++ [.v (.int .i64 x.width)]

structure AcceptRange where
  lo : Int
  hi : Int
  deriving DecidableEq

noncomputable def AcceptRange.enc (x : AcceptRange) : List D := [.v (.int .u8 x.lo)] ++ [.v (.int .u8 x.hi)]

inductive SN where
  | tagT
  | formattedT
  | pieceT
  | partT
  | acceptRangeT
  deriving DecidableEq

abbrev NN : SN → Type
  | .tagT => Tag
  | .formattedT => Formatted
  | .pieceT => Piece
  | .partT => Part
  | .acceptRangeT => AcceptRange

noncomputable def szN : SN → Nat
  | .tagT => 5
  | .formattedT => 2
  | .pieceT => 4
  | .partT => 4
  | .acceptRangeT => 2

noncomputable def tysN : SN → List (Ty SN)
  | .tagT => [(.int .i64), (.int .i64), .str, (.sl .str), (.sl (.st .tagT))]
  | .formattedT => [.str, (.sl (.st .tagT))]
  | .pieceT => [.str, (.int .u8), (.int .u8), (.int .i64)]
  | .partT => [.str, (.int .u8), (.int .u8), (.int .i64)]
  | .acceptRangeT => [(.int .u8), (.int .u8)]

noncomputable def cellsN : (i : SN) → NN i → List (Leaf NN)
  | .tagT, x => [⟨(.int .i64), x.kind⟩, ⟨(.int .i64), x.n⟩, ⟨.str, x.text⟩, ⟨(.sl .str), x.names⟩, ⟨(.sl (.st .tagT)), x.parts⟩]
  | .formattedT, x => [⟨.str, x.format⟩, ⟨(.sl (.st .tagT)), x.args⟩]
  | .pieceT, x => [⟨.str, x.text⟩, ⟨(.int .u8), x.letter⟩, ⟨(.int .u8), x.side⟩, ⟨(.int .i64), x.width⟩]
  | .partT, x => [⟨.str, x.text⟩, ⟨(.int .u8), x.letter⟩, ⟨(.int .u8), x.side⟩, ⟨(.int .i64), x.width⟩]
  | .acceptRangeT, x => [⟨(.int .u8), x.lo⟩, ⟨(.int .u8), x.hi⟩]

noncomputable def encN : (i : SN) → NN i → List D
  | .tagT, x => Tag.enc x
  | .formattedT, x => Formatted.enc x
  | .pieceT, x => Piece.enc x
  | .partT, x => Part.enc x
  | .acceptRangeT, x => AcceptRange.enc x

noncomputable def ofN : (i : SN) → List (Leaf NN) → Option (NN i)
  | .tagT, [⟨(.int .i64), a0⟩, ⟨(.int .i64), a1⟩, ⟨.str, a2⟩, ⟨(.sl .str), a3⟩, ⟨(.sl (.st .tagT)), a4⟩] => some ⟨a0, a1, a2, a3, a4⟩
  | .formattedT, [⟨.str, a0⟩, ⟨(.sl (.st .tagT)), a1⟩] => some ⟨a0, a1⟩
  | .pieceT, [⟨.str, a0⟩, ⟨(.int .u8), a1⟩, ⟨(.int .u8), a2⟩, ⟨(.int .i64), a3⟩] => some ⟨a0, a1, a2, a3⟩
  | .partT, [⟨.str, a0⟩, ⟨(.int .u8), a1⟩, ⟨(.int .u8), a2⟩, ⟨(.int .i64), a3⟩] => some ⟨a0, a1, a2, a3⟩
  | .acceptRangeT, [⟨(.int .u8), a0⟩, ⟨(.int .u8), a1⟩] => some ⟨a0, a1⟩
  | _, _ => none

noncomputable def tyN : TypeId → Option (Ty SN)
  | 2 => some (.int .i64)
  | 3 => some (.int .i64)
  | 4 => some .bool
  | 5 => some (.int .u8)
  | 6 => some (.int .u8)
  | 9 => some .str
  | 10 => some .str
  | 11 => some .str
  | 12 => some (.int .u64)
  | 21 => some (.int .i32)
  | 22 => some (.sl (.st .tagT))
  | 24 => some (.st .formattedT)
  | 27 => some (.int .i64)
  | 33 => some (.sl (.int .u8))
  | 40 => some (.sl (.int .i64))
  | 50 => some (.sl .str)
  | 52 => some (.st .tagT)
  | 53 => some (.sl (.st .pieceT))
  | 57 => some (.st .pieceT)
  | 75 => some (.sl (.st .partT))
  | 81 => some (.st .partT)
  | 84 => some (.sl (.int .i32))
  | 119 => some (.int .u64)
  | 125 => some (.st .acceptRangeT)
  | 127 => some (.int .u32)
  | 132 => some (.int .u64)
  | 141 => some (.int .u8)
  | 142 => some (.int .u8)
  | 144 => some (.int .i32)
  | 145 => some (.int .i32)
  | _ => none

theorem enc_cellsN (i : SN) (x : NN i) : encN i x = (cellsN i x).map fun l => encD szN encN l.t l.x := by
  cases i <;> cases x <;> simp [encN, cellsN, encD, encR, tsz, szN, Tag.enc, Formatted.enc, Piece.enc, Part.enc, AcceptRange.enc, Tag.encL_map]
theorem of_cellsN (i : SN) (ls : List (Leaf NN)) (x : NN i) (h : ofN i ls = some x) : cellsN i x = ls := by
  unfold ofN at h
  split at h <;> first
    | (cases h; rfl)
    | (cases h; done)
theorem len_cellsN (i : SN) (x : NN i) : (cellsN i x).length = szN i := by cases i <;> rfl
theorem one_cellsN (i : SN) (x : NN i) : ∀ l ∈ cellsN i x, l.t.cell = true := by
  have h : (cellsN i x).all (fun l => l.t.cell) = true := by cases i <;> rfl
  exact List.all_eq_true.1 h

/-- The types of the translation. -/
noncomputable def vw : View where
  ι := SN
  dec := inferInstance
  N := NN
  sz := szN
  tys := tysN
  cells := cellsN
  ofCells := ofN
  enc := encN
  ty := tyN
  enc_cells := enc_cellsN
  of_cells := of_cellsN
  len_cells := len_cellsN
  one_cells := one_cellsN

end Go.Proofs.YtnbkpokcfcednaaDoor
