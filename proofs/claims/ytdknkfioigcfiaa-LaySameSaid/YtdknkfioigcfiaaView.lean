/-
  The struct types of the translation, in Lean. Made by a program of mine.
-/
import Derived.Test.YtdknkfioigcfiaaTxQ
import Derived.Test.YtdknkfioigcfiaaTy
namespace Go.Proofs.Ytdknkfioigcfiaa
open Go.Awp Go.Tx
set_option linter.unusedVariables false
set_option linter.unusedSimpArgs false

structure Layout where
  kind : Int
  n : Int
  flag : Bool
  parts : (List Layout)

mutual
noncomputable def Layout.enc : Layout → List D
  | ⟨a0, a1, a2, a3⟩ => [.v (.int .i64 a0)] ++ [.v (.int .i64 a1)] ++ [.v (.bool a2)] ++ [.sl 4 (Layout.encL a3)]
noncomputable def Layout.encL : List Layout → List (List D)
  | [] => []
  | x :: r => Layout.enc x :: Layout.encL r
end
theorem Layout.encL_map : ∀ l : List Layout, Layout.encL l = l.map Layout.enc
  | [] => by simp [Layout.encL]
  | x :: r => by simp [Layout.encL, Layout.encL_map r]

structure Target where
  word : Int
  big : Bool
  deriving DecidableEq

noncomputable def Target.enc (x : Target) : List D := [.v (.int .i64 x.word)] ++ [.v (.bool x.big)]

structure Room where
  size : Int
  align : Int
  deriving DecidableEq

noncomputable def Room.enc (x : Room) : List D := [.v (.int .i64 x.size)] ++ [.v (.int .i64 x.align)]

structure Place where
  size : Int
  align : Int
  deriving DecidableEq

noncomputable def Place.enc (x : Place) : List D := [.v (.int .i64 x.size)] ++ [.v (.int .i64 x.align)]

structure Counted where
  count : Int
  deep : Int
  large : Bool
  deriving DecidableEq

noncomputable def Counted.enc (x : Counted) : List D := [.v (.int .i64 x.count)] ++ [.v (.int .i64 x.deep)] ++ [.v (.bool x.large)]

inductive SN where
  | layoutT
  | targetT
  | roomT
  | placeT
  | countedT
  deriving DecidableEq

abbrev NN : SN → Type
  | .layoutT => Layout
  | .targetT => Target
  | .roomT => Room
  | .placeT => Place
  | .countedT => Counted

noncomputable def szN : SN → Nat
  | .layoutT => 4
  | .targetT => 2
  | .roomT => 2
  | .placeT => 2
  | .countedT => 3

noncomputable def tysN : SN → List (Ty SN)
  | .layoutT => [(.int .i64), (.int .i64), .bool, (.sl (.st .layoutT))]
  | .targetT => [(.int .i64), .bool]
  | .roomT => [(.int .i64), (.int .i64)]
  | .placeT => [(.int .i64), (.int .i64)]
  | .countedT => [(.int .i64), (.int .i64), .bool]

noncomputable def cellsN : (i : SN) → NN i → List (Leaf NN)
  | .layoutT, x => [⟨(.int .i64), x.kind⟩, ⟨(.int .i64), x.n⟩, ⟨.bool, x.flag⟩, ⟨(.sl (.st .layoutT)), x.parts⟩]
  | .targetT, x => [⟨(.int .i64), x.word⟩, ⟨.bool, x.big⟩]
  | .roomT, x => [⟨(.int .i64), x.size⟩, ⟨(.int .i64), x.align⟩]
  | .placeT, x => [⟨(.int .i64), x.size⟩, ⟨(.int .i64), x.align⟩]
  | .countedT, x => [⟨(.int .i64), x.count⟩, ⟨(.int .i64), x.deep⟩, ⟨.bool, x.large⟩]

noncomputable def encN : (i : SN) → NN i → List D
  | .layoutT, x => Layout.enc x
  | .targetT, x => Target.enc x
  | .roomT, x => Room.enc x
  | .placeT, x => Place.enc x
  | .countedT, x => Counted.enc x

noncomputable def ofN : (i : SN) → List (Leaf NN) → Option (NN i)
  | .layoutT, [⟨(.int .i64), a0⟩, ⟨(.int .i64), a1⟩, ⟨.bool, a2⟩, ⟨(.sl (.st .layoutT)), a3⟩] => some ⟨a0, a1, a2, a3⟩
  | .targetT, [⟨(.int .i64), a0⟩, ⟨.bool, a1⟩] => some ⟨a0, a1⟩
  | .roomT, [⟨(.int .i64), a0⟩, ⟨(.int .i64), a1⟩] => some ⟨a0, a1⟩
  | .placeT, [⟨(.int .i64), a0⟩, ⟨(.int .i64), a1⟩] => some ⟨a0, a1⟩
  | .countedT, [⟨(.int .i64), a0⟩, ⟨(.int .i64), a1⟩, ⟨.bool, a2⟩] => some ⟨a0, a1, a2⟩
  | _, _ => none

noncomputable def tyN : TypeId → Option (Ty SN)
  | 2 => some (.int .i64)
  | 3 => some (.int .i64)
  | 4 => some .bool
  | 5 => some (.int .u8)
  | 6 => some (.int .u8)
  | 9 => some .str
  | 10 => some .str
  | 11 => some .str
  | 12 => some (.int .u64)
  | 21 => some (.int .i32)
  | 22 => some (.sl (.st .layoutT))
  | 24 => some (.st .layoutT)
  | 26 => some (.st .targetT)
  | 29 => some (.int .i64)
  | 33 => some (.sl (.int .i64))
  | 53 => some (.st .roomT)
  | 57 => some (.st .placeT)
  | 62 => some (.st .countedT)
  | 69 => some (.sl .bool)
  | 79 => some (.sl (.sl (.int .i64)))
  | 96 => some (.int .u32)
  | 97 => some (.int .u8)
  | 98 => some (.int .u8)
  | 101 => some (.int .i32)
  | 102 => some (.int .i32)
  | _ => none

theorem enc_cellsN (i : SN) (x : NN i) : encN i x = (cellsN i x).map fun l => encD szN encN l.t l.x := by
  cases i <;> cases x <;> simp [encN, cellsN, encD, encR, tsz, szN, Layout.enc, Target.enc, Room.enc, Place.enc, Counted.enc, Layout.encL_map]
theorem of_cellsN (i : SN) (ls : List (Leaf NN)) (x : NN i) (h : ofN i ls = some x) : cellsN i x = ls := by
  unfold ofN at h
  split at h <;> first
    | (cases h; rfl)
    | (cases h; done)
theorem len_cellsN (i : SN) (x : NN i) : (cellsN i x).length = szN i := by cases i <;> rfl
theorem one_cellsN (i : SN) (x : NN i) : ∀ l ∈ cellsN i x, l.t.cell = true := by
  have h : (cellsN i x).all (fun l => l.t.cell) = true := by cases i <;> rfl
  exact List.all_eq_true.1 h

/-- The types of the translation. -/
noncomputable def vw : View where
  ι := SN
  dec := inferInstance
  N := NN
  sz := szN
  tys := tysN
  cells := cellsN
  ofCells := ofN
  enc := encN
  ty := tyN
  enc_cells := enc_cellsN
  of_cells := of_cellsN
  len_cells := len_cellsN
  one_cells := one_cellsN

end Go.Proofs.Ytdknkfioigcfiaa
