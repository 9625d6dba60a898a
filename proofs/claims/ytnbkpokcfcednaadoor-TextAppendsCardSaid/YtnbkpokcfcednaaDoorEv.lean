/-
  The native functions with fuel: the kernel can run them. Made by a program of mine.
-/
import Derived.Test.YtnbkpokcfcednaaDoorNatA
namespace Go.Proofs.YtnbkpokcfcednaaDoor
open Go.Awp Go.Tx
set_option linter.unusedVariables false
set_option maxRecDepth 100000

/-- What x answers, y answers. -/
def Le {α : Type} (x y : Option α) : Prop := ∀ a, x = some a → y = some a
theorem Le.refl {α : Type} (x : Option α) : Le x x := fun _ h => h
theorem Le.none {α : Type} (x : Option α) : Le none x := fun _ h => by cases h
theorem Le.bind {α β : Type} {x y : Option α} {f g : α → Option β} (h : Le x y) (h2 : ∀ a, Le (f a) (g a)) : Le (x >>= f) (y >>= g) := fun b hb => by
  cases x with
  | none => cases hb
  | some a => rw [h a rfl]; exact h2 a b hb
theorem Le.ite {α : Type} {c : Prop} {d : Decidable c} {x y z w : Option α} (h : Le x y) (h2 : Le z w) : Le (@ite _ c d x z) (@ite _ c d y w) := by
  cases d with
  | isTrue h3 => exact h
  | isFalse h3 => exact h2
theorem Le.both {α : Type} {x y z w : Option α} (h : Le x y) (h2 : Le z w) : Le (both x z) (both y w) := fun a ha => by
  obtain ⟨h3, h4⟩ := both_some ha
  exact both_mk (h a h3) (h2 a h4)

noncomputable def m_62 (k : Nat) (v : ByteArray × Int × Unit) : Option (Int × Unit) :=
  some (Lib.indexByte v.1.data.toList v.2.1.toNat.toUInt8, ())
theorem m_62_le (k : Nat) (v : ByteArray × Int × Unit) : Le (m_62 k v) (n_62 v) := by
  unfold m_62 n_62
  repeat' first | with_reducible exact Le.refl _ | with_reducible exact Le.none _ | with_reducible apply Le.bind | with_reducible apply Le.ite | with_reducible apply Le.both | (rintro (x | x) <;> dsimp only) | intro x

noncomputable def m_37 (k : Nat) (v : ByteArray × Int × Unit) : Option (Int × Unit) :=
  m_62 k (v.fst, v.snd.fst, ()) >>= fun x1 =>
  some ((x1.fst, ()))
theorem m_37_le (k : Nat) (v : ByteArray × Int × Unit) : Le (m_37 k v) (n_37 v) := by
  unfold m_37 n_37
  repeat' first | with_reducible exact Le.refl _ | with_reducible exact Le.none _ | with_reducible exact m_62_le _ _ | with_reducible apply Le.bind | with_reducible apply Le.ite | with_reducible apply Le.both | (rintro (x | x) <;> dsimp only) | intro x

noncomputable def m_69 (k : Nat) (v : Int × Unit) : Option (Bool × Unit) :=
  (if decide ((0 : Int) ≤ v.fst) = true then
      some ((v.fst, decide (v.fst < (55296 : Int)), ()))
    else some ((v.fst, false, ()))) >>= fun x1 =>
  if x1.snd.fst = true then
    some ((true, ()))
  else (if decide ((57343 : Int) < x1.fst) = true then
      some ((decide (x1.fst ≤ (1114111 : Int)), ()))
    else some ((false, ()))) >>= fun x2 =>
  if x2.fst = true then
    some ((true, ()))
  else some ((false, ()))
theorem m_69_le (k : Nat) (v : Int × Unit) : Le (m_69 k v) (n_69 v) := by
  unfold m_69 n_69
  repeat' first | with_reducible exact Le.refl _ | with_reducible exact Le.none _ | with_reducible apply Le.bind | with_reducible apply Le.ite | with_reducible apply Le.both | (rintro (x | x) <;> dsimp only) | intro x

noncomputable def m_71l38 : Nat → ByteArray × Int × Unit → Option (((Int × Unit) ⊕ (Unit)))
  | 0, _ => none
  | k + 1, v =>
    if (0 : Int) ≤ v.snd.fst then
      if v.snd.fst < (↑v.fst.size : Int) then
        if (Bs.dec v.fst v.snd.fst == (65533 : Int)) = true then
          some (Sum.inl (v.snd.fst, ()))
        else m_71l38 k (v.fst, v.snd.fst + Bs.wid v.fst v.snd.fst, ())
      else some (Sum.inr ())
    else none
theorem m_71l38_le : ∀ k v, Le (m_71l38 k v) (n_71l38 v)
  | 0, _ => Le.none _
  | k + 1, v => by
    rw [m_71l38, n_71l38]
    repeat' first | with_reducible exact Le.refl _ | with_reducible exact Le.none _ | with_reducible exact m_71l38_le _ _ | with_reducible apply Le.bind | with_reducible apply Le.ite | with_reducible apply Le.both | (rintro (x | x) <;> dsimp only) | intro x

noncomputable def m_71l12 : Nat → ByteArray × ByteArray × Int × Int × Int × Unit → Option ((Int × Int × Unit))
  | 0, _ => none
  | k + 1, v =>
    if decide (v.snd.snd.snd.snd.fst < (↑v.snd.fst.size : Int)) = true then
      if (0 : Int) ≤ IntKind.i64.wrap (v.snd.snd.snd.fst - v.snd.snd.snd.snd.fst) then
        v.fst[(IntKind.i64.wrap (v.snd.snd.snd.fst - v.snd.snd.snd.snd.fst)).toNat]? >>= fun x1 =>
        if (0 : Int) ≤ IntKind.i64.wrap (v.snd.snd.fst - v.snd.snd.snd.snd.fst) then
          v.snd.fst[(IntKind.i64.wrap (v.snd.snd.fst - v.snd.snd.snd.snd.fst)).toNat]? >>= fun x2 =>
          if ((↑x1.toNat : Int) != (↑x2.toNat : Int)) = true then
            none
          else m_71l12 k (v.fst, v.snd.fst, v.snd.snd.fst, v.snd.snd.snd.fst, IntKind.i64.wrap (v.snd.snd.snd.snd.fst + (1 : Int)), ())
        else none
      else none
    else some ((v.snd.snd.fst, v.snd.snd.snd.fst, ()))
theorem m_71l12_le : ∀ k v, Le (m_71l12 k v) (n_71l12 v)
  | 0, _ => Le.none _
  | k + 1, v => by
    rw [m_71l12, n_71l12]
    repeat' first | with_reducible exact Le.refl _ | with_reducible exact Le.none _ | with_reducible exact m_71l12_le _ _ | with_reducible apply Le.bind | with_reducible apply Le.ite | with_reducible apply Le.both | (rintro (x | x) <;> dsimp only) | intro x

noncomputable def m_71l5 (k : Nat) (v : ByteArray × ByteArray × Int × Int × Unit) : Option (((Int × Unit) ⊕ (Unit))) :=
  if decide (v.snd.snd.snd.fst < (↑v.fst.size : Int)) = true then
    (if (0 : Int) ≤ v.snd.snd.snd.fst then
        v.fst[v.snd.snd.snd.fst.toNat]? >>= fun x1 =>
        if (0 : Int) ≤ v.snd.snd.fst then
          v.snd.fst[v.snd.snd.fst.toNat]? >>= fun x2 =>
          if ((↑x1.toNat : Int) != (↑x2.toNat : Int)) = true then
            if (0 : Int) ≤ IntKind.i64.wrap (v.snd.snd.snd.fst + (1 : Int)) ∧ IntKind.i64.wrap (v.snd.snd.snd.fst + (1 : Int)) ≤ (↑v.fst.size : Int) ∧ (↑v.fst.size : Int) ≤ (↑v.fst.size : Int) then
              if (0 : Int) ≤ v.snd.snd.fst then
                v.snd.fst[v.snd.snd.fst.toNat]? >>= fun x3 =>
                m_37 k (v.fst.extract (IntKind.i64.wrap (v.snd.snd.snd.fst + (1 : Int))).toNat (↑v.fst.size : Int).toNat, (↑x3.toNat : Int), ()) >>= fun x4 =>
                if decide (x4.fst < (0 : Int)) = true then
                  some (Sum.inr ((-1 : Int), ()))
                else some (Sum.inl (v.fst, v.snd.fst, v.snd.snd.fst, IntKind.i64.wrap (v.snd.snd.snd.fst + IntKind.i64.wrap (x4.fst + (1 : Int))), ()))
              else none
            else none
          else some (Sum.inl (v.fst, v.snd.fst, v.snd.snd.fst, v.snd.snd.snd.fst, ()))
        else none
      else none) >>= fun x1 => match x1 with
      | .inl y1 => m_71l12 k (y1.fst, y1.snd.fst, y1.snd.snd.fst, y1.snd.snd.snd.fst, (1 : Int), ()) >>= fun x2 =>
        some (Sum.inl (IntKind.i64.wrap (x2.snd.fst - x2.fst), ()))
      | .inr y1 => some (Sum.inl y1)
  else some (Sum.inr ())
theorem m_71l5_le (k : Nat) (v : ByteArray × ByteArray × Int × Int × Unit) : Le (m_71l5 k v) (n_71l5 v) := by
  unfold m_71l5 n_71l5
  repeat' first | with_reducible exact Le.refl _ | with_reducible exact Le.none _ | with_reducible exact m_37_le _ _ | with_reducible exact m_71l12_le _ _ | with_reducible apply Le.bind | with_reducible apply Le.ite | with_reducible apply Le.both | (rintro (x | x) <;> dsimp only) | intro x

noncomputable def m_71 (k : Nat) (v : ByteArray × Int × Unit) : Option (Int × Unit) :=
  (if decide ((0 : Int) ≤ v.snd.fst) = true then
      some ((v.fst, v.snd.fst, decide (v.snd.fst < (128 : Int)), ()))
    else some ((v.fst, v.snd.fst, false, ()))) >>= fun x1 =>
  if x1.snd.snd.fst = true then
    m_37 k (x1.fst, IntKind.u8.wrap x1.snd.fst, ()) >>= fun x2 =>
    some ((x2.fst, ()))
  else if (x1.snd.fst == (65533 : Int)) = true then
    m_71l38 k (x1.fst, (0 : Int), ()) >>= fun x2 => match x2 with
      | .inl y2 => some y2
      | .inr y2 => some (((-1 : Int), ()))
  else m_69 k (x1.snd.fst, ()) >>= fun x2 =>
  if (!x2.fst) = true then
    some (((-1 : Int), ()))
  else m_71l5 k (x1.fst, Bs.enc1 x1.snd.fst, IntKind.i64.wrap ((↑(Bs.enc1 x1.snd.fst).size : Int) - (1 : Int)), IntKind.i64.wrap ((↑(Bs.enc1 x1.snd.fst).size : Int) - (1 : Int)), ()) >>= fun x3 => match x3 with
    | .inl y3 => some y3
    | .inr y3 => some (((-1 : Int), ()))
theorem m_71_le (k : Nat) (v : ByteArray × Int × Unit) : Le (m_71 k v) (n_71 v) := by
  unfold m_71 n_71
  repeat' first | with_reducible exact Le.refl _ | with_reducible exact Le.none _ | with_reducible exact m_71l38_le _ _ | with_reducible exact m_37_le _ _ | with_reducible exact m_71l5_le _ _ | with_reducible exact m_69_le _ _ | with_reducible apply Le.bind | with_reducible apply Le.ite | with_reducible apply Le.both | (rintro (x | x) <;> dsimp only) | intro x

noncomputable def m_72 (k : Nat) (v : Int × Unit) : Option (Bool × Unit) :=
  some ((decide (v.fst > (8 : Int)), ()))
theorem m_72_le (k : Nat) (v : Int × Unit) : Le (m_72 k v) (n_72 v) := by
  unfold m_72 n_72
  repeat' first | with_reducible exact Le.refl _ | with_reducible exact Le.none _ | with_reducible apply Le.bind | with_reducible apply Le.ite | with_reducible apply Le.both | (rintro (x | x) <;> dsimp only) | intro x

noncomputable def m_56l18 : Nat → ByteArray × ByteArray × Int × Unit → Option (((Int × Unit) ⊕ (Unit)))
  | 0, _ => none
  | k + 1, v =>
    if (0 : Int) ≤ v.snd.snd.fst then
      if v.snd.snd.fst < (↑v.snd.fst.size : Int) then
        m_71 k (v.fst, Bs.dec v.snd.fst v.snd.snd.fst, ()) >>= fun x1 =>
        if decide (x1.fst ≥ (0 : Int)) = true then
          some (Sum.inl (v.snd.snd.fst, ()))
        else m_56l18 k (v.fst, v.snd.fst, v.snd.snd.fst + Bs.wid v.snd.fst v.snd.snd.fst, ())
      else some (Sum.inr ())
    else none
theorem m_56l18_le : ∀ k v, Le (m_56l18 k v) (n_56l18 v)
  | 0, _ => Le.none _
  | k + 1, v => by
    rw [m_56l18, n_56l18]
    repeat' first | with_reducible exact Le.refl _ | with_reducible exact Le.none _ | with_reducible exact m_71_le _ _ | with_reducible exact m_56l18_le _ _ | with_reducible apply Le.bind | with_reducible apply Le.ite | with_reducible apply Le.both | (rintro (x | x) <;> dsimp only) | intro x

noncomputable def m_56x (k : Nat) (v : ByteArray × ByteArray × Unit) : Option (Int × Unit) :=
  if (v.snd.fst.toList == (ByteArray.mk #[]).toList) = true then
    some (((-1 : Int), ()))
  else if ((↑v.snd.fst.size : Int) == (1 : Int)) = true then
    v.snd.fst[Int.toNat (0 : Int)]? >>= fun x1 =>
    (if decide (IntKind.i32.wrap (↑x1.toNat : Int) ≥ (128 : Int)) = true then
        some ((v.fst, (65533 : Int), ()))
      else some ((v.fst, IntKind.i32.wrap (↑x1.toNat : Int), ()))) >>= fun x2 =>
    m_71 k (x2.fst, x2.snd.fst, ()) >>= fun x3 =>
    some ((x3.fst, ()))
  else m_72 k ((↑v.fst.size : Int), ()) >>= fun x1 =>
  if x1.fst = true then
    none
  else m_56l18 k (v.snd.fst, v.fst, (0 : Int), ()) >>= fun x2 => match x2 with
    | .inl y2 => some y2
    | .inr y2 => some (((-1 : Int), ()))
theorem m_56x_le (k : Nat) (v : ByteArray × ByteArray × Unit) : Le (m_56x k v) (n_56x v) := by
  unfold m_56x n_56x
  repeat' first | with_reducible exact Le.refl _ | with_reducible exact Le.none _ | with_reducible exact m_56l18_le _ _ | with_reducible exact m_72_le _ _ | with_reducible exact m_71_le _ _ | with_reducible apply Le.bind | with_reducible apply Le.ite | with_reducible apply Le.both | (rintro (x | x) <;> dsimp only) | intro x

noncomputable def m_56 (k : Nat) (v : ByteArray × ByteArray × Unit) : Option (Int × Unit) :=
  if v.1.size < 4294967281 ∧ 8 < v.1.size ∧ v.2.1 = ByteArray.mk #[123, 125] then some (Lib.indexAny v.1.data.toList v.2.1.data.toList, ()) else m_56x k v
theorem m_56_le (k : Nat) (v : ByteArray × ByteArray × Unit) : Le (m_56 k v) (n_56 v) := by
  unfold m_56 n_56
  repeat' first | with_reducible exact Le.refl _ | with_reducible exact Le.none _ | with_reducible exact m_56x_le _ _ | with_reducible apply Le.bind | with_reducible apply Le.ite | with_reducible apply Le.both | (rintro (x | x) <;> dsimp only) | intro x

noncomputable def m_75 (k : Nat) (v : ByteArray × ByteArray × Unit) : Option (Bool × Unit) :=
  (if decide ((↑v.fst.size : Int) ≥ (↑v.snd.fst.size : Int)) = true then
      if (0 : Int) ≤ (0 : Int) ∧ (0 : Int) ≤ (↑v.snd.fst.size : Int) ∧ (↑v.snd.fst.size : Int) ≤ (↑v.fst.size : Int) then
        some (((v.fst.extract (Int.toNat (0 : Int)) (↑v.snd.fst.size : Int).toNat).toList == v.snd.fst.toList, ()))
      else none
    else some ((false, ()))) >>= fun x1 =>
  some ((x1.fst, ()))
theorem m_75_le (k : Nat) (v : ByteArray × ByteArray × Unit) : Le (m_75 k v) (n_75 v) := by
  unfold m_75 n_75
  repeat' first | with_reducible exact Le.refl _ | with_reducible exact Le.none _ | with_reducible apply Le.bind | with_reducible apply Le.ite | with_reducible apply Le.both | (rintro (x | x) <;> dsimp only) | intro x

noncomputable def m_57 (k : Nat) (v : ByteArray × ByteArray × Unit) : Option (Bool × Unit) :=
  m_75 k (v.fst, v.snd.fst, ()) >>= fun x1 =>
  some ((x1.fst, ()))
theorem m_57_le (k : Nat) (v : ByteArray × ByteArray × Unit) : Le (m_57 k v) (n_57 v) := by
  unfold m_57 n_57
  repeat' first | with_reducible exact Le.refl _ | with_reducible exact Le.none _ | with_reducible exact m_75_le _ _ | with_reducible apply Le.bind | with_reducible apply Le.ite | with_reducible apply Le.both | (rintro (x | x) <;> dsimp only) | intro x

noncomputable def m_58l11 : Nat → ByteArray × Int × Int × Piece × Piece × Unit → Option ((ByteArray × Int × Int × Piece × Piece × Unit))
  | 0, _ => none
  | k + 1, v =>
    (if decide (v.snd.fst < (↑v.fst.size : Int)) = true then
        if (0 : Int) ≤ v.snd.fst then
          v.fst[v.snd.fst.toNat]? >>= fun x1 =>
          if decide ((↑x1.toNat : Int) ≥ (48 : Int)) = true then
            if (0 : Int) ≤ v.snd.fst then
              v.fst[v.snd.fst.toNat]? >>= fun x2 =>
              if decide ((↑x2.toNat : Int) ≤ (57 : Int)) = true then
                some ((v.fst, v.snd.fst, v.snd.snd.fst, decide (v.snd.fst < IntKind.i64.wrap (v.snd.snd.fst + (2 : Int))), v.snd.snd.snd.fst, v.snd.snd.snd.snd.fst, ()))
              else some ((v.fst, v.snd.fst, v.snd.snd.fst, false, v.snd.snd.snd.fst, v.snd.snd.snd.snd.fst, ()))
            else none
          else some ((v.fst, v.snd.fst, v.snd.snd.fst, false, v.snd.snd.snd.fst, v.snd.snd.snd.snd.fst, ()))
        else none
      else some ((v.fst, v.snd.fst, v.snd.snd.fst, false, v.snd.snd.snd.fst, v.snd.snd.snd.snd.fst, ()))) >>= fun x1 =>
    if x1.snd.snd.snd.fst = true then
      if (0 : Int) ≤ x1.snd.fst then
        x1.fst[x1.snd.fst.toNat]? >>= fun x2 =>
        m_58l11 k (x1.fst, IntKind.i64.wrap (x1.snd.fst + (1 : Int)), x1.snd.snd.fst, x1.snd.snd.snd.snd.fst, Piece.mk x1.snd.snd.snd.snd.snd.fst.text x1.snd.snd.snd.snd.snd.fst.letter x1.snd.snd.snd.snd.snd.fst.side (IntKind.i64.wrap (IntKind.i64.wrap ((10 : Int) * x1.snd.snd.snd.snd.snd.fst.width) + IntKind.i64.wrap (IntKind.u8.wrap ((↑x2.toNat : Int) - (48 : Int))))), ())
      else none
    else some ((x1.fst, x1.snd.fst, x1.snd.snd.fst, x1.snd.snd.snd.snd.fst, x1.snd.snd.snd.snd.snd.fst, ()))
theorem m_58l11_le : ∀ k v, Le (m_58l11 k v) (n_58l11 v)
  | 0, _ => Le.none _
  | k + 1, v => by
    rw [m_58l11, n_58l11]
    repeat' first | with_reducible exact Le.refl _ | with_reducible exact Le.none _ | with_reducible exact m_58l11_le _ _ | with_reducible apply Le.bind | with_reducible apply Le.ite | with_reducible apply Le.both | (rintro (x | x) <;> dsimp only) | intro x

noncomputable def m_58 (k : Nat) (v : ByteArray × Unit) : Option (Int × Bool × Piece × Unit) :=
  (if (v.fst.toList == (ByteArray.mk #[]).toList) = true then
      some ((v.fst, true, Piece.mk (ByteArray.mk #[]) (0 : Int) (0 : Int) (0 : Int), ()))
    else v.fst[Int.toNat (0 : Int)]? >>= fun x1 =>
    m_37 k (ByteArray.mk #[(100 : UInt8), (120 : UInt8), (98 : UInt8), (115 : UInt8), (116 : UInt8), (99 : UInt8), (106 : UInt8)], (↑x1.toNat : Int), ()) >>= fun x2 =>
    some ((v.fst, decide (x2.fst < (0 : Int)), Piece.mk (ByteArray.mk #[]) (0 : Int) (0 : Int) (0 : Int), ()))) >>= fun x1 =>
  if x1.snd.fst = true then
    some (((0 : Int), false, Piece.mk (ByteArray.mk #[]) (0 : Int) (0 : Int) (0 : Int), ()))
  else x1.fst[Int.toNat (0 : Int)]? >>= fun x2 =>
  (if (0 : Int) ≤ (1 : Int) ∧ (1 : Int) ≤ (↑x1.fst.size : Int) ∧ (↑x1.fst.size : Int) ≤ (↑x1.fst.size : Int) then
      m_57 k (x1.fst.extract (Int.toNat (1 : Int)) (↑x1.fst.size : Int).toNat, ByteArray.mk #[(58 : UInt8)], ()) >>= fun x3 =>
      if x3.fst = true then
        ((if decide (IntKind.i64.wrap ((1 : Int) + (1 : Int)) < (↑x1.fst.size : Int)) = true then
              x1.fst[(IntKind.i64.wrap ((1 : Int) + (1 : Int))).toNat]? >>= fun x4 =>
              m_37 k (ByteArray.mk #[(60 : UInt8), (62 : UInt8), (94 : UInt8)], (↑x4.toNat : Int), ()) >>= fun x5 =>
              some ((x1.fst, IntKind.i64.wrap ((1 : Int) + (1 : Int)), decide (x5.fst ≥ (0 : Int)), x1.snd.snd.fst, Piece.mk (ByteArray.mk #[]) (↑x2.toNat : Int) (0 : Int) (0 : Int), ()))
            else some ((x1.fst, IntKind.i64.wrap ((1 : Int) + (1 : Int)), false, x1.snd.snd.fst, Piece.mk (ByteArray.mk #[]) (↑x2.toNat : Int) (0 : Int) (0 : Int), ()))) >>= fun x4 =>
          if x4.snd.snd.fst = true then
            if (0 : Int) ≤ x4.snd.fst then
              x4.fst[x4.snd.fst.toNat]? >>= fun x5 =>
              some ((x4.fst, IntKind.i64.wrap (x4.snd.fst + (1 : Int)), x4.snd.snd.snd.fst, Piece.mk x4.snd.snd.snd.snd.fst.text x4.snd.snd.snd.snd.fst.letter (↑x5.toNat : Int) x4.snd.snd.snd.snd.fst.width, ()))
            else none
          else some ((x4.fst, x4.snd.fst, x4.snd.snd.snd.fst, x4.snd.snd.snd.snd.fst, ()))) >>= fun x4 =>
        m_58l11 k (x4.fst, x4.snd.fst, x4.snd.fst, x4.snd.snd.fst, x4.snd.snd.snd.fst, ()) >>= fun x5 =>
        (if (x5.snd.fst == x5.snd.snd.fst) = true then
            some ((x5.fst, x5.snd.fst, true, x5.snd.snd.snd.fst, x5.snd.snd.snd.snd.fst, ()))
          else if (0 : Int) ≤ x5.snd.snd.fst then
            x5.fst[x5.snd.snd.fst.toNat]? >>= fun x6 =>
            some ((x5.fst, x5.snd.fst, (↑x6.toNat : Int) == (48 : Int), x5.snd.snd.snd.fst, x5.snd.snd.snd.snd.fst, ()))
          else none) >>= fun x6 =>
        if x6.snd.snd.fst = true then
          some (Sum.inr ((0 : Int), false, Piece.mk (ByteArray.mk #[]) (0 : Int) (0 : Int) (0 : Int), ()))
        else some (Sum.inl (x6.fst, x6.snd.fst, x6.snd.snd.snd.fst, x6.snd.snd.snd.snd.fst, ()))
      else some (Sum.inl (x1.fst, (1 : Int), x1.snd.snd.fst, Piece.mk (ByteArray.mk #[]) (↑x2.toNat : Int) (0 : Int) (0 : Int), ()))
    else none) >>= fun x3 => match x3 with
    | .inl y3 => if (0 : Int) ≤ y3.snd.fst ∧ y3.snd.fst ≤ (↑y3.fst.size : Int) ∧ (↑y3.fst.size : Int) ≤ (↑y3.fst.size : Int) then
        m_57 k (y3.fst.extract y3.snd.fst.toNat (↑y3.fst.size : Int).toNat, ByteArray.mk #[(125 : UInt8)], ()) >>= fun x4 =>
        if (!x4.fst) = true then
          some (((0 : Int), false, Piece.mk (ByteArray.mk #[]) (0 : Int) (0 : Int) (0 : Int), ()))
        else some ((IntKind.i64.wrap (y3.snd.fst + (1 : Int)), true, y3.snd.snd.snd.fst, ()))
      else none
    | .inr y3 => some y3
theorem m_58_le (k : Nat) (v : ByteArray × Unit) : Le (m_58 k v) (n_58 v) := by
  unfold m_58 n_58
  repeat' first | with_reducible exact Le.refl _ | with_reducible exact Le.none _ | with_reducible exact m_37_le _ _ | with_reducible exact m_58l11_le _ _ | with_reducible exact m_57_le _ _ | with_reducible apply Le.bind | with_reducible apply Le.ite | with_reducible apply Le.both | (rintro (x | x) <;> dsimp only) | intro x

noncomputable def m_29l4 : Nat → ByteArray × (List Piece) × Unit → Option ((((List Piece) × Int × Unit) ⊕ ((List Piece) × Unit)))
  | 0, _ => none
  | k + 1, v =>
    if (!v.fst.toList == (ByteArray.mk #[]).toList) = true then
      m_56 k (v.fst, ByteArray.mk #[(123 : UInt8), (125 : UInt8)], ()) >>= fun x1 =>
      (if decide (x1.fst < (0 : Int)) = true then
          some ((v.fst, (↑v.fst.size : Int), v.snd.fst, ()))
        else some ((v.fst, x1.fst, v.snd.fst, ()))) >>= fun x2 =>
      if decide (x2.snd.fst > (0 : Int)) = true then
        if (0 : Int) ≤ (0 : Int) ∧ (0 : Int) ≤ x2.snd.fst ∧ x2.snd.fst ≤ (↑x2.fst.size : Int) then
          if x2.snd.snd.fst.length + [Piece.mk (x2.fst.extract (Int.toNat (0 : Int)) x2.snd.fst.toNat) (0 : Int) (0 : Int) (0 : Int)].length ≤ (4294967296 : Nat) then
            if (0 : Int) ≤ x2.snd.fst ∧ x2.snd.fst ≤ (↑x2.fst.size : Int) ∧ (↑x2.fst.size : Int) ≤ (↑x2.fst.size : Int) then
              m_29l4 k (x2.fst.extract x2.snd.fst.toNat (↑x2.fst.size : Int).toNat, x2.snd.snd.fst ++ [Piece.mk (x2.fst.extract (Int.toNat (0 : Int)) x2.snd.fst.toNat) (0 : Int) (0 : Int) (0 : Int)], ())
            else none
          else none
        else none
      else (m_57 k (x2.fst, ByteArray.mk #[(123 : UInt8), (123 : UInt8)], ()) >>= fun x3 =>
        if x3.fst = true then
          some ((x2.fst, true, x2.snd.snd.fst, ()))
        else m_57 k (x2.fst, ByteArray.mk #[(125 : UInt8), (125 : UInt8)], ()) >>= fun x4 =>
        some ((x2.fst, x4.fst, x2.snd.snd.fst, ()))) >>= fun x3 =>
      if x3.snd.fst = true then
        if (0 : Int) ≤ (0 : Int) ∧ (0 : Int) ≤ (1 : Int) ∧ (1 : Int) ≤ (↑x3.fst.size : Int) then
          if x3.snd.snd.fst.length + [Piece.mk (x3.fst.extract (Int.toNat (0 : Int)) (Int.toNat (1 : Int))) (0 : Int) (0 : Int) (0 : Int)].length ≤ (4294967296 : Nat) then
            if (0 : Int) ≤ (2 : Int) ∧ (2 : Int) ≤ (↑x3.fst.size : Int) ∧ (↑x3.fst.size : Int) ≤ (↑x3.fst.size : Int) then
              m_29l4 k (x3.fst.extract (Int.toNat (2 : Int)) (↑x3.fst.size : Int).toNat, x3.snd.snd.fst ++ [Piece.mk (x3.fst.extract (Int.toNat (0 : Int)) (Int.toNat (1 : Int))) (0 : Int) (0 : Int) (0 : Int)], ())
            else none
          else none
        else none
      else if (0 : Int) ≤ (1 : Int) ∧ (1 : Int) ≤ (↑x3.fst.size : Int) ∧ (↑x3.fst.size : Int) ≤ (↑x3.fst.size : Int) then
        m_58 k (x3.fst.extract (Int.toNat (1 : Int)) (↑x3.fst.size : Int).toNat, ()) >>= fun x4 =>
        (if (!x4.snd.fst) = true then
            some ((x3.fst, x4.fst, true, x3.snd.snd.fst, x4.snd.snd.fst, ()))
          else x3.fst[Int.toNat (0 : Int)]? >>= fun x5 =>
          some ((x3.fst, x4.fst, (↑x5.toNat : Int) == (125 : Int), x3.snd.snd.fst, x4.snd.snd.fst, ()))) >>= fun x5 =>
        if x5.snd.snd.fst = true then
          some (Sum.inl ([], (2 : Int), ()))
        else if x5.snd.snd.snd.fst.length + [x5.snd.snd.snd.snd.fst].length ≤ (4294967296 : Nat) then
          if (0 : Int) ≤ IntKind.i64.wrap ((1 : Int) + x5.snd.fst) ∧ IntKind.i64.wrap ((1 : Int) + x5.snd.fst) ≤ (↑x5.fst.size : Int) ∧ (↑x5.fst.size : Int) ≤ (↑x5.fst.size : Int) then
            m_29l4 k (x5.fst.extract (IntKind.i64.wrap ((1 : Int) + x5.snd.fst)).toNat (↑x5.fst.size : Int).toNat, x5.snd.snd.snd.fst ++ [x5.snd.snd.snd.snd.fst], ())
          else none
        else none
      else none
    else some (Sum.inr (v.snd.fst, ()))
theorem m_29l4_le : ∀ k v, Le (m_29l4 k v) (n_29l4 v)
  | 0, _ => Le.none _
  | k + 1, v => by
    rw [m_29l4, n_29l4]
    repeat' first | with_reducible exact Le.refl _ | with_reducible exact Le.none _ | with_reducible exact m_58_le _ _ | with_reducible exact m_57_le _ _ | with_reducible exact m_56_le _ _ | with_reducible exact m_29l4_le _ _ | with_reducible apply Le.bind | with_reducible apply Le.ite | with_reducible apply Le.both | (rintro (x | x) <;> dsimp only) | intro x

noncomputable def m_29 (k : Nat) (v : ByteArray × Unit) : Option ((List Piece) × Int × Unit) :=
  if decide ((↑v.fst.size : Int) > (4096 : Int)) = true then
    some (([], (3 : Int), ()))
  else m_29l4 k (v.fst, [], ()) >>= fun x1 => match x1 with
    | .inl y1 => some y1
    | .inr y1 => some ((y1.fst, (0 : Int), ()))
theorem m_29_le (k : Nat) (v : ByteArray × Unit) : Le (m_29 k v) (n_29 v) := by
  unfold m_29 n_29
  repeat' first | with_reducible exact Le.refl _ | with_reducible exact Le.none _ | with_reducible exact m_29l4_le _ _ | with_reducible apply Le.bind | with_reducible apply Le.ite | with_reducible apply Le.both | (rintro (x | x) <;> dsimp only) | intro x

noncomputable def m_49 (k : Nat) (v : ByteArray × Unit) : Option (Int × Int × Unit) :=
  some ((Lib.decodeGo v.1).1, (Lib.decodeGo v.1).2, ())
theorem m_49_le (k : Nat) (v : ByteArray × Unit) : Le (m_49 k v) (n_49 v) := by
  unfold m_49 n_49
  repeat' first | with_reducible exact Le.refl _ | with_reducible exact Le.none _ | with_reducible apply Le.bind | with_reducible apply Le.ite | with_reducible apply Le.both | (rintro (x | x) <;> dsimp only) | intro x

noncomputable def m_20l2 : Nat → ByteArray × ByteArray × Int × Unit → Option (((Int × Bool × Unit) ⊕ (ByteArray × Unit)))
  | 0, _ => none
  | k + 1, v =>
    if (0 : Int) ≤ v.snd.snd.fst then
      if v.snd.snd.fst < (↑v.snd.fst.size : Int) then
        if (Bs.dec v.snd.fst v.snd.snd.fst == (65533 : Int)) = true then
          if (0 : Int) ≤ v.snd.snd.fst ∧ v.snd.snd.fst ≤ (↑v.fst.size : Int) ∧ (↑v.fst.size : Int) ≤ (↑v.fst.size : Int) then
            m_49 k (v.fst.extract v.snd.snd.fst.toNat (↑v.fst.size : Int).toNat, ()) >>= fun x1 =>
            if decide (x1.snd.fst < (2 : Int)) = true then
              some (Sum.inl (v.snd.snd.fst, false, ()))
            else m_20l2 k (v.fst, v.snd.fst, v.snd.snd.fst + Bs.wid v.snd.fst v.snd.snd.fst, ())
          else none
        else m_20l2 k (v.fst, v.snd.fst, v.snd.snd.fst + Bs.wid v.snd.fst v.snd.snd.fst, ())
      else some (Sum.inr (v.fst, ()))
    else none
theorem m_20l2_le : ∀ k v, Le (m_20l2 k v) (n_20l2 v)
  | 0, _ => Le.none _
  | k + 1, v => by
    rw [m_20l2, n_20l2]
    repeat' first | with_reducible exact Le.refl _ | with_reducible exact Le.none _ | with_reducible exact m_49_le _ _ | with_reducible exact m_20l2_le _ _ | with_reducible apply Le.bind | with_reducible apply Le.ite | with_reducible apply Le.both | (rintro (x | x) <;> dsimp only) | intro x

noncomputable def m_20 (k : Nat) (v : ByteArray × Unit) : Option (Int × Bool × Unit) :=
  m_20l2 k (v.fst, v.fst, (0 : Int), ()) >>= fun x1 => match x1 with
    | .inl y1 => some y1
    | .inr y1 => some (((↑y1.fst.size : Int), true, ()))
theorem m_20_le (k : Nat) (v : ByteArray × Unit) : Le (m_20 k v) (n_20 v) := by
  unfold m_20 n_20
  repeat' first | with_reducible exact Le.refl _ | with_reducible exact Le.none _ | with_reducible exact m_20l2_le _ _ | with_reducible apply Le.bind | with_reducible apply Le.ite | with_reducible apply Le.both | (rintro (x | x) <;> dsimp only) | intro x

noncomputable def m_36 (k : Nat) (v : ByteArray × Unit) : Option (Int × Unit) :=
  if decide ((↑v.fst.size : Int) > (4096 : Int)) = true then
    some (((3 : Int), ()))
  else m_20 k (v.fst, ()) >>= fun x1 =>
  if (!x1.snd.fst) = true then
    some (((2 : Int), ()))
  else some (((0 : Int), ()))
theorem m_36_le (k : Nat) (v : ByteArray × Unit) : Le (m_36 k v) (n_36 v) := by
  unfold m_36 n_36
  repeat' first | with_reducible exact Le.refl _ | with_reducible exact Le.none _ | with_reducible exact m_20_le _ _ | with_reducible apply Le.bind | with_reducible apply Le.ite | with_reducible apply Le.both | (rintro (x | x) <;> dsimp only) | intro x

noncomputable def m_30 (k : Nat) (v : Tag × Unit) : Option (Bool × Unit) :=
  (if decide ((↑v.fst.names.length : Int) > (0 : Int)) = true then
      some ((true, v.fst, ()))
    else if decide ((↑v.fst.parts.length : Int) > (0 : Int)) = true then
      some ((true, v.fst, ()))
    else if (v.fst.kind != (3 : Int)) = true then
      if (v.fst.n != (0 : Int)) = true then
        some ((true, v.fst, ()))
      else if (v.fst.kind != (4 : Int)) = true then
        some ((!v.fst.text.toList == (ByteArray.mk #[]).toList, v.fst, ()))
      else some ((false, v.fst, ()))
    else if (v.fst.kind != (4 : Int)) = true then
      some ((!v.fst.text.toList == (ByteArray.mk #[]).toList, v.fst, ()))
    else some ((false, v.fst, ()))) >>= fun x1 =>
  if x1.fst = true then
    some ((false, ()))
  else (if (x1.snd.fst.kind == (1 : Int)) = true then
      some ((x1.snd.fst.kind, true, x1.snd.fst, ()))
    else some ((x1.snd.fst.kind, x1.snd.fst.kind == (2 : Int), x1.snd.fst, ()))) >>= fun x2 =>
  if x2.snd.fst = true then
    some ((true, ()))
  else if (x2.fst == (3 : Int)) = true then
    (if decide (x2.snd.snd.fst.n ≥ (-1099511627776 : Int)) = true then
        some ((decide (x2.snd.snd.fst.n ≤ (1099511627776 : Int)), ()))
      else some ((false, ()))) >>= fun x3 =>
    some ((x3.fst, ()))
  else if (x2.fst == (4 : Int)) = true then
    m_36 k (x2.snd.snd.fst.text, ()) >>= fun x3 =>
    some ((x3.fst == (0 : Int), ()))
  else some ((false, ()))
theorem m_30_le (k : Nat) (v : Tag × Unit) : Le (m_30 k v) (n_30 v) := by
  unfold m_30 n_30
  repeat' first | with_reducible exact Le.refl _ | with_reducible exact Le.none _ | with_reducible exact m_36_le _ _ | with_reducible apply Le.bind | with_reducible apply Le.ite | with_reducible apply Le.both | (rintro (x | x) <;> dsimp only) | intro x

noncomputable def m_59s4b14 (k : Nat) (v : Bool × (List Int) × Unit) : Option (Bool × (List Int) × Unit) :=
  some (true, v.2.1, ())
theorem m_59s4b14_le (k : Nat) (v : Bool × (List Int) × Unit) : Le (m_59s4b14 k v) (n_59s4b14 v) := by
  unfold m_59s4b14 n_59s4b14
  repeat' first | with_reducible exact Le.refl _ | with_reducible exact Le.none _ | with_reducible apply Le.bind | with_reducible apply Le.ite | with_reducible apply Le.both | (rintro (x | x) <;> dsimp only) | intro x

noncomputable def m_31s9b49 (k : Nat) (v : ByteArray × Bool × (List Int) × Unit) : Option (Int × Bool × (List Int) × Unit) :=
  m_59s4b14 k (v.snd.fst, v.snd.snd.fst, ()) >>= fun x1 =>
  if x1.snd.fst.length + v.fst.size ≤ (4294967296 : Nat) then
    some (((↑v.fst.size : Int), x1.fst, x1.snd.fst ++ Bs.ints v.fst, ()))
  else none
theorem m_31s9b49_le (k : Nat) (v : ByteArray × Bool × (List Int) × Unit) : Le (m_31s9b49 k v) (n_31s9b49 v) := by
  unfold m_31s9b49 n_31s9b49
  repeat' first | with_reducible exact Le.refl _ | with_reducible exact Le.none _ | with_reducible exact m_59s4b14_le _ _ | with_reducible apply Le.bind | with_reducible apply Le.ite | with_reducible apply Le.both | (rintro (x | x) <;> dsimp only) | intro x

noncomputable def m_52 (k : Nat) (v : Int × Unit) : Option (Bool × Unit) :=
  (if decide (v.fst ≥ (0 : Int)) = true then
      if decide (v.fst ≤ (1114111 : Int)) = true then
        m_69 k (IntKind.i32.wrap v.fst, ()) >>= fun x1 =>
        some ((x1.fst, ()))
      else some ((false, ()))
    else some ((false, ()))) >>= fun x1 =>
  some ((x1.fst, ()))
theorem m_52_le (k : Nat) (v : Int × Unit) : Le (m_52 k v) (n_52 v) := by
  unfold m_52 n_52
  repeat' first | with_reducible exact Le.refl _ | with_reducible exact Le.none _ | with_reducible exact m_69_le _ _ | with_reducible apply Le.bind | with_reducible apply Le.ite | with_reducible apply Le.both | (rintro (x | x) <;> dsimp only) | intro x

noncomputable def m_77 (k : Nat) (v : Int × Unit) : Option (Bool × Unit) :=
  (if decide (v.fst ≥ (2 : Int)) = true then
      some ((decide (v.fst ≤ (16 : Int)), ()))
    else some ((false, ()))) >>= fun x1 =>
  some ((x1.fst, ()))
theorem m_77_le (k : Nat) (v : Int × Unit) : Le (m_77 k v) (n_77 v) := by
  unfold m_77 n_77
  repeat' first | with_reducible exact Le.refl _ | with_reducible exact Le.none _ | with_reducible apply Le.bind | with_reducible apply Le.ite | with_reducible apply Le.both | (rintro (x | x) <;> dsimp only) | intro x

noncomputable def m_78l4 : Nat → Int × Int × ByteArray × Unit → Option ((Int × ByteArray × Unit))
  | 0, _ => none
  | k + 1, v =>
    if decide (v.fst ≥ v.snd.fst) = true then
      if v.snd.fst = (0 : Int) then
        none
      else if (0 : Int) ≤ v.fst.tmod v.snd.fst then
        (ByteArray.mk #[(48 : UInt8), (49 : UInt8), (50 : UInt8), (51 : UInt8), (52 : UInt8), (53 : UInt8), (54 : UInt8), (55 : UInt8), (56 : UInt8), (57 : UInt8), (97 : UInt8), (98 : UInt8), (99 : UInt8), (100 : UInt8), (101 : UInt8), (102 : UInt8)])[(v.fst.tmod v.snd.fst).toNat]? >>= fun x1 =>
        if (Bs.enc1 (↑x1.toNat : Int)).size + v.snd.snd.fst.size ≤ (4294967296 : Nat) then
          if v.snd.fst = (0 : Int) then
            none
          else m_78l4 k (IntKind.i64.wrap (v.fst.tdiv v.snd.fst), v.snd.fst, Bs.enc1 (↑x1.toNat : Int) ++ v.snd.snd.fst, ())
        else none
      else none
    else some ((v.fst, v.snd.snd.fst, ()))
theorem m_78l4_le : ∀ k v, Le (m_78l4 k v) (n_78l4 v)
  | 0, _ => Le.none _
  | k + 1, v => by
    rw [m_78l4, n_78l4]
    repeat' first | with_reducible exact Le.refl _ | with_reducible exact Le.none _ | with_reducible exact m_78l4_le _ _ | with_reducible apply Le.bind | with_reducible apply Le.ite | with_reducible apply Le.both | (rintro (x | x) <;> dsimp only) | intro x

noncomputable def m_78 : Nat → Int × Int × Unit → Option (ByteArray × Unit)
  | 0, _ => none
  | k + 1, v =>
    if decide (v.fst < (0 : Int)) = true then
      m_78 k (IntKind.i64.wrap ((0 : Int) - v.fst), v.snd.fst, ()) >>= fun x1 =>
      if (ByteArray.mk #[(45 : UInt8)]).size + x1.fst.size ≤ (4294967296 : Nat) then
        some ((ByteArray.mk #[(45 : UInt8)] ++ x1.fst, ()))
      else none
    else m_78l4 k (v.fst, v.snd.fst, ByteArray.mk #[], ()) >>= fun x1 =>
    if (0 : Int) ≤ x1.fst then
      (ByteArray.mk #[(48 : UInt8), (49 : UInt8), (50 : UInt8), (51 : UInt8), (52 : UInt8), (53 : UInt8), (54 : UInt8), (55 : UInt8), (56 : UInt8), (57 : UInt8), (97 : UInt8), (98 : UInt8), (99 : UInt8), (100 : UInt8), (101 : UInt8), (102 : UInt8)])[x1.fst.toNat]? >>= fun x2 =>
      if (Bs.enc1 (↑x2.toNat : Int)).size + x1.snd.fst.size ≤ (4294967296 : Nat) then
        some ((Bs.enc1 (↑x2.toNat : Int) ++ x1.snd.fst, ()))
      else none
    else none
theorem m_78_le : ∀ k v, Le (m_78 k v) (n_78 v)
  | 0, _ => Le.none _
  | k + 1, v => by
    rw [m_78, n_78]
    repeat' first | with_reducible exact Le.refl _ | with_reducible exact Le.none _ | with_reducible exact m_78l4_le _ _ | with_reducible exact m_78_le _ _ | with_reducible apply Le.bind | with_reducible apply Le.ite | with_reducible apply Le.both | (rintro (x | x) <;> dsimp only) | intro x

noncomputable def m_60 (k : Nat) (v : Int × Int × Unit) : Option (ByteArray × Int × Unit) :=
  (m_77 k (v.snd.fst, ()) >>= fun x1 =>
    if (!x1.fst) = true then
      some ((v.fst, v.snd.fst, true, ()))
    else if decide (v.fst < (-1099511627776 : Int)) = true then
      some ((v.fst, v.snd.fst, true, ()))
    else some ((v.fst, v.snd.fst, decide (v.fst > (1099511627776 : Int)), ()))) >>= fun x1 =>
  if x1.snd.snd.fst = true then
    some ((ByteArray.mk #[], (1 : Int), ()))
  else m_78 k (x1.fst, x1.snd.fst, ()) >>= fun x2 =>
  some ((x2.fst, (0 : Int), ()))
theorem m_60_le (k : Nat) (v : Int × Int × Unit) : Le (m_60 k v) (n_60 v) := by
  unfold m_60 n_60
  repeat' first | with_reducible exact Le.refl _ | with_reducible exact Le.none _ | with_reducible exact m_77_le _ _ | with_reducible exact m_78_le _ _ | with_reducible apply Le.bind | with_reducible apply Le.ite | with_reducible apply Le.both | (rintro (x | x) <;> dsimp only) | intro x

noncomputable def m_32 (k : Nat) (v : Int × Tag × Unit) : Option (ByteArray × Bool × Unit) :=
  (if (v.fst == (106 : Int)) = true then
      some (((Mp.get Mp.ieq v.snd.fst.kind (Mp.set Mp.ieq (4 : Int) (115 : Int) (Mp.set Mp.ieq (3 : Int) (100 : Int) (Mp.set Mp.ieq (2 : Int) (116 : Int) (Mp.set Mp.ieq (1 : Int) (116 : Int) []))))).getD (0 : Int), v.snd.fst, ()))
    else some ((v.fst, v.snd.fst, ()))) >>= fun x1 =>
  (if (x1.fst == (115 : Int)) = true then
      some (Sum.inr (x1.snd.fst.text, x1.snd.fst.kind == (4 : Int), ()))
    else if (x1.fst == (116 : Int)) = true then
      (both (if (x1.snd.fst.kind == (1 : Int)) = true then
            some (((Mp.get Mp.ieq x1.snd.fst.kind (Mp.set Mp.ieq (2 : Int) (ByteArray.mk #[(116 : UInt8), (114 : UInt8), (117 : UInt8), (101 : UInt8)]) (Mp.set Mp.ieq (1 : Int) (ByteArray.mk #[(102 : UInt8), (97 : UInt8), (108 : UInt8), (115 : UInt8), (101 : UInt8)]) []))).getD (ByteArray.mk #[]), true, ()))
          else some (((Mp.get Mp.ieq x1.snd.fst.kind (Mp.set Mp.ieq (2 : Int) (ByteArray.mk #[(116 : UInt8), (114 : UInt8), (117 : UInt8), (101 : UInt8)]) (Mp.set Mp.ieq (1 : Int) (ByteArray.mk #[(102 : UInt8), (97 : UInt8), (108 : UInt8), (115 : UInt8), (101 : UInt8)]) []))).getD (ByteArray.mk #[]), x1.snd.fst.kind == (2 : Int), ())))
          (if (x1.snd.fst.kind == (1 : Int)) = true then
            some (((Mp.get Mp.ieq x1.snd.fst.kind (Mp.set Mp.ieq (1 : Int) (ByteArray.mk #[(102 : UInt8), (97 : UInt8), (108 : UInt8), (115 : UInt8), (101 : UInt8)]) (Mp.set Mp.ieq (2 : Int) (ByteArray.mk #[(116 : UInt8), (114 : UInt8), (117 : UInt8), (101 : UInt8)]) []))).getD (ByteArray.mk #[]), true, ()))
          else some (((Mp.get Mp.ieq x1.snd.fst.kind (Mp.set Mp.ieq (1 : Int) (ByteArray.mk #[(102 : UInt8), (97 : UInt8), (108 : UInt8), (115 : UInt8), (101 : UInt8)]) (Mp.set Mp.ieq (2 : Int) (ByteArray.mk #[(116 : UInt8), (114 : UInt8), (117 : UInt8), (101 : UInt8)]) []))).getD (ByteArray.mk #[]), x1.snd.fst.kind == (2 : Int), ())))) >>= fun x2 =>
      some (Sum.inr (x2.fst, x2.snd.fst, ()))
    else if (x1.fst == (99 : Int)) = true then
      (if (x1.snd.fst.kind != (3 : Int)) = true then
          some ((true, x1.snd.fst, ()))
        else m_52 k (x1.snd.fst.n, ()) >>= fun x2 =>
        some ((!x2.fst, x1.snd.fst, ()))) >>= fun x2 =>
      if x2.fst = true then
        some (Sum.inr (ByteArray.mk #[], false, ()))
      else some (Sum.inr (Bs.enc1 (IntKind.i32.wrap x2.snd.fst.n), true, ()))
    else if (x1.fst == (120 : Int)) = true then
      some (Sum.inl ((16 : Int), x1.snd.fst, ()))
    else if (x1.fst == (98 : Int)) = true then
      some (Sum.inl ((2 : Int), x1.snd.fst, ()))
    else some (Sum.inl ((10 : Int), x1.snd.fst, ()))) >>= fun x2 => match x2 with
    | .inl y2 => m_60 k (y2.snd.fst.n, y2.fst, ()) >>= fun x3 =>
      some ((x3.fst, y2.snd.fst.kind == (3 : Int), ()))
    | .inr y2 => some y2
theorem m_32_le (k : Nat) (v : Int × Tag × Unit) : Le (m_32 k v) (n_32 v) := by
  unfold m_32 n_32
  repeat' first | with_reducible exact Le.refl _ | with_reducible exact Le.none _ | with_reducible exact m_60_le _ _ | with_reducible exact m_52_le _ _ | with_reducible apply Le.bind | with_reducible apply Le.ite | with_reducible apply Le.both | (rintro (x | x) <;> dsimp only) | intro x

noncomputable def m_51l2 : Nat → Int × ByteArray × Int × Unit → Option ((Int × Unit))
  | 0, _ => none
  | k + 1, v =>
    if (0 : Int) ≤ v.snd.snd.fst then
      if v.snd.snd.fst < (↑v.snd.fst.size : Int) then
        m_51l2 k (IntKind.i64.wrap (v.fst + (1 : Int)), v.snd.fst, v.snd.snd.fst + Bs.wid v.snd.fst v.snd.snd.fst, ())
      else some ((v.fst, ()))
    else none
theorem m_51l2_le : ∀ k v, Le (m_51l2 k v) (n_51l2 v)
  | 0, _ => Le.none _
  | k + 1, v => by
    rw [m_51l2, n_51l2]
    repeat' first | with_reducible exact Le.refl _ | with_reducible exact Le.none _ | with_reducible exact m_51l2_le _ _ | with_reducible apply Le.bind | with_reducible apply Le.ite | with_reducible apply Le.both | (rintro (x | x) <;> dsimp only) | intro x

noncomputable def m_51 (k : Nat) (v : ByteArray × Unit) : Option (Int × Unit) :=
  m_51l2 k ((0 : Int), v.fst, (0 : Int), ()) >>= fun x1 =>
  some ((x1.fst, ()))
theorem m_51_le (k : Nat) (v : ByteArray × Unit) : Le (m_51 k v) (n_51 v) := by
  unfold m_51 n_51
  repeat' first | with_reducible exact Le.refl _ | with_reducible exact Le.none _ | with_reducible exact m_51l2_le _ _ | with_reducible apply Le.bind | with_reducible apply Le.ite | with_reducible apply Le.both | (rintro (x | x) <;> dsimp only) | intro x

noncomputable def m_61 (k : Nat) (v : ByteArray × Int × Unit) : Option (ByteArray × Unit) :=
  if 0 ≤ v.2.1 ∧ v.2.1 ≤ 4294967296 ∧ (v.1.size : Int) * v.2.1 ≤ 140737488355328 then some (⟨(Lib.repeatL v.1.data.toList v.2.1.toNat).toArray⟩, ()) else none
theorem m_61_le (k : Nat) (v : ByteArray × Int × Unit) : Le (m_61 k v) (n_61 v) := by
  unfold m_61 n_61
  repeat' first | with_reducible exact Le.refl _ | with_reducible exact Le.none _ | with_reducible apply Le.bind | with_reducible apply Le.ite | with_reducible apply Le.both | (rintro (x | x) <;> dsimp only) | intro x

noncomputable def m_33 (k : Nat) (v : ByteArray × Int × Int × Unit) : Option (ByteArray × Unit) :=
  m_51 k (v.fst, ()) >>= fun x1 =>
  (if (v.snd.snd.fst == (60 : Int)) = true then
      some ((v.fst, max (0 : Int) (IntKind.i64.wrap (v.snd.fst - x1.fst)), (0 : Int), ()))
    else if (v.snd.snd.fst == (94 : Int)) = true then
      some ((v.fst, max (0 : Int) (IntKind.i64.wrap (v.snd.fst - x1.fst)), IntKind.i64.wrap ((max (0 : Int) (IntKind.i64.wrap (v.snd.fst - x1.fst))).tdiv (2 : Int)), ()))
    else some ((v.fst, max (0 : Int) (IntKind.i64.wrap (v.snd.fst - x1.fst)), max (0 : Int) (IntKind.i64.wrap (v.snd.fst - x1.fst)), ()))) >>= fun x2 =>
  m_61 k (ByteArray.mk #[(32 : UInt8)], x2.snd.snd.fst, ()) >>= fun x3 =>
  if x3.fst.size + x2.fst.size ≤ (4294967296 : Nat) then
    m_61 k (ByteArray.mk #[(32 : UInt8)], IntKind.i64.wrap (x2.snd.fst - x2.snd.snd.fst), ()) >>= fun x4 =>
    if (x3.fst ++ x2.fst).size + x4.fst.size ≤ (4294967296 : Nat) then
      some ((x3.fst ++ x2.fst ++ x4.fst, ()))
    else none
  else none
theorem m_33_le (k : Nat) (v : ByteArray × Int × Int × Unit) : Le (m_33 k v) (n_33 v) := by
  unfold m_33 n_33
  repeat' first | with_reducible exact Le.refl _ | with_reducible exact Le.none _ | with_reducible exact m_51_le _ _ | with_reducible exact m_61_le _ _ | with_reducible apply Le.bind | with_reducible apply Le.ite | with_reducible apply Le.both | (rintro (x | x) <;> dsimp only) | intro x

noncomputable def m_34s4b14 (k : Nat) (v : Bool × (List Int) × Unit) : Option (Int × Bool × (List Int) × Unit) :=
  some (((↑v.snd.fst.length : Int), v.fst, v.snd.fst, ()))
theorem m_34s4b14_le (k : Nat) (v : Bool × (List Int) × Unit) : Le (m_34s4b14 k v) (n_34s4b14 v) := by
  unfold m_34s4b14 n_34s4b14
  repeat' first | with_reducible exact Le.refl _ | with_reducible exact Le.none _ | with_reducible apply Le.bind | with_reducible apply Le.ite | with_reducible apply Le.both | (rintro (x | x) <;> dsimp only) | intro x

noncomputable def m_35s4b14 (k : Nat) (v : Bool × (List Int) × Unit) : Option (ByteArray × Unit) :=
  if (↑v.snd.fst.length : Int) = (↑v.snd.fst.length : Int) ∧ v.snd.fst.length ≤ (4294967296 : Nat) then
    some ((Bs.bytes v.snd.fst, ()))
  else none
theorem m_35s4b14_le (k : Nat) (v : Bool × (List Int) × Unit) : Le (m_35s4b14 k v) (n_35s4b14 v) := by
  unfold m_35s4b14 n_35s4b14
  repeat' first | with_reducible exact Le.refl _ | with_reducible exact Le.none _ | with_reducible apply Le.bind | with_reducible apply Le.ite | with_reducible apply Le.both | (rintro (x | x) <;> dsimp only) | intro x

noncomputable def m_10l6 : Nat → (List Tag) × (List Piece) × Int × (List Piece) × Int × Int × Unit → Option (((List Tag) × (List Piece) × Int × Unit))
  | 0, _ => none
  | k + 1, v =>
    if decide (v.snd.snd.snd.snd.snd.fst < v.snd.snd.snd.snd.fst) = true then
      (if (0 : Int) ≤ v.snd.snd.snd.snd.snd.fst then
          v.snd.snd.snd.fst[v.snd.snd.snd.snd.snd.fst.toNat]? >>= fun x1 =>
          if (x1.letter != (0 : Int)) = true then
            some ((v.fst, v.snd.fst, IntKind.i64.wrap (v.snd.snd.fst + (1 : Int)), v.snd.snd.snd.fst, v.snd.snd.snd.snd.fst, v.snd.snd.snd.snd.snd.fst, ()))
          else some ((v.fst, v.snd.fst, v.snd.snd.fst, v.snd.snd.snd.fst, v.snd.snd.snd.snd.fst, v.snd.snd.snd.snd.snd.fst, ()))
        else none) >>= fun x1 =>
      m_10l6 k (x1.fst, x1.snd.fst, x1.snd.snd.fst, x1.snd.snd.snd.fst, x1.snd.snd.snd.snd.fst, IntKind.i64.wrap (x1.snd.snd.snd.snd.snd.fst + (1 : Int)), ())
    else some ((v.fst, v.snd.fst, v.snd.snd.fst, ()))
theorem m_10l6_le : ∀ k v, Le (m_10l6 k v) (n_10l6 v)
  | 0, _ => Le.none _
  | k + 1, v => by
    rw [m_10l6, n_10l6]
    repeat' first | with_reducible exact Le.refl _ | with_reducible exact Le.none _ | with_reducible exact m_10l6_le _ _ | with_reducible apply Le.bind | with_reducible apply Le.ite | with_reducible apply Le.both | (rintro (x | x) <;> dsimp only) | intro x

noncomputable def m_10l14 : Nat → (List Tag) × (List Piece) × (List Tag) × Int × Int × Unit → Option (((ByteArray × Int × Unit) ⊕ ((List Tag) × (List Piece) × Unit)))
  | 0, _ => none
  | k + 1, v =>
    if decide (v.snd.snd.snd.snd.fst < v.snd.snd.snd.fst) = true then
      if (0 : Int) ≤ v.snd.snd.snd.snd.fst then
        v.snd.snd.fst[v.snd.snd.snd.snd.fst.toNat]? >>= fun x1 =>
        m_30 k (x1, ()) >>= fun x2 =>
        if (!x2.fst) = true then
          some (Sum.inl (ByteArray.mk #[], (1 : Int), ()))
        else m_10l14 k (v.fst, v.snd.fst, v.snd.snd.fst, v.snd.snd.snd.fst, IntKind.i64.wrap (v.snd.snd.snd.snd.fst + (1 : Int)), ())
      else none
    else some (Sum.inr (v.fst, v.snd.fst, ()))
theorem m_10l14_le : ∀ k v, Le (m_10l14 k v) (n_10l14 v)
  | 0, _ => Le.none _
  | k + 1, v => by
    rw [m_10l14, n_10l14]
    repeat' first | with_reducible exact Le.refl _ | with_reducible exact Le.none _ | with_reducible exact m_30_le _ _ | with_reducible exact m_10l14_le _ _ | with_reducible apply Le.bind | with_reducible apply Le.ite | with_reducible apply Le.both | (rintro (x | x) <;> dsimp only) | intro x

noncomputable def m_10l21 : Nat → (List Tag) × (List Piece) × Int × Int × Bool × (List Int) × Unit → Option (((ByteArray × Int × Unit) ⊕ (Bool × (List Int) × Unit)))
  | 0, _ => none
  | k + 1, v =>
    if decide (v.snd.snd.snd.fst < v.snd.snd.fst) = true then
      (if (0 : Int) ≤ v.snd.snd.snd.fst then
          v.snd.fst[v.snd.snd.snd.fst.toNat]? >>= fun x1 =>
          if (x1.letter == (0 : Int)) = true then
            m_31s9b49 k (x1.text, v.snd.snd.snd.snd.fst, v.snd.snd.snd.snd.snd.fst, ()) >>= fun x2 =>
            some (Sum.inl (v.fst, v.snd.fst, v.snd.snd.fst, v.snd.snd.snd.fst, x2.snd.fst, x2.snd.snd.fst, ()))
          else v.fst[Int.toNat (0 : Int)]? >>= fun x2 =>
          m_32 k (x1.letter, x2, ()) >>= fun x3 =>
          if (!x3.snd.fst) = true then
            some (Sum.inr (ByteArray.mk #[], (6 : Int), ()))
          else ((if (x1.side == (0 : Int)) = true then
                v.fst[Int.toNat (0 : Int)]? >>= fun x4 =>
                some ((v.fst, x3.fst, x1.side, v.snd.fst, v.snd.snd.fst, v.snd.snd.snd.fst, x4.kind != (3 : Int), v.snd.snd.snd.snd.fst, x1, v.snd.snd.snd.snd.snd.fst, ()))
              else some ((v.fst, x3.fst, x1.side, v.snd.fst, v.snd.snd.fst, v.snd.snd.snd.fst, false, v.snd.snd.snd.snd.fst, x1, v.snd.snd.snd.snd.snd.fst, ()))) >>= fun x4 =>
            if x4.snd.snd.snd.snd.snd.snd.fst = true then
              some ((x4.fst, x4.snd.fst, (60 : Int), x4.snd.snd.snd.fst, x4.snd.snd.snd.snd.fst, x4.snd.snd.snd.snd.snd.fst, x4.snd.snd.snd.snd.snd.snd.snd.fst, x4.snd.snd.snd.snd.snd.snd.snd.snd.fst, x4.snd.snd.snd.snd.snd.snd.snd.snd.snd.fst, ()))
            else some ((x4.fst, x4.snd.fst, x4.snd.snd.fst, x4.snd.snd.snd.fst, x4.snd.snd.snd.snd.fst, x4.snd.snd.snd.snd.snd.fst, x4.snd.snd.snd.snd.snd.snd.snd.fst, x4.snd.snd.snd.snd.snd.snd.snd.snd.fst, x4.snd.snd.snd.snd.snd.snd.snd.snd.snd.fst, ()))) >>= fun x4 =>
          if (0 : Int) ≤ (1 : Int) ∧ (1 : Int) ≤ (↑x4.fst.length : Int) ∧ (↑x4.fst.length : Int) ≤ (↑x4.fst.length : Int) then
            m_33 k (x4.snd.fst, x4.snd.snd.snd.snd.snd.snd.snd.fst.width, x4.snd.snd.fst, ()) >>= fun x5 =>
            m_31s9b49 k (x5.fst, x4.snd.snd.snd.snd.snd.snd.fst, x4.snd.snd.snd.snd.snd.snd.snd.snd.fst, ()) >>= fun x6 =>
            some (Sum.inl (List.drop (Int.toNat (1 : Int)) (List.take (↑x4.fst.length : Int).toNat x4.fst), x4.snd.snd.snd.fst, x4.snd.snd.snd.snd.fst, x4.snd.snd.snd.snd.snd.fst, x6.snd.fst, x6.snd.snd.fst, ()))
          else none
        else none) >>= fun x1 => match x1 with
        | .inl y1 => m_10l21 k (y1.fst, y1.snd.fst, y1.snd.snd.fst, IntKind.i64.wrap (y1.snd.snd.snd.fst + (1 : Int)), y1.snd.snd.snd.snd.fst, y1.snd.snd.snd.snd.snd.fst, ())
        | .inr y1 => some (Sum.inl y1)
    else some (Sum.inr (v.snd.snd.snd.snd.fst, v.snd.snd.snd.snd.snd.fst, ()))
theorem m_10l21_le : ∀ k v, Le (m_10l21 k v) (n_10l21 v)
  | 0, _ => Le.none _
  | k + 1, v => by
    rw [m_10l21, n_10l21]
    repeat' first | with_reducible exact Le.refl _ | with_reducible exact Le.none _ | with_reducible exact m_32_le _ _ | with_reducible exact m_31s9b49_le _ _ | with_reducible exact m_33_le _ _ | with_reducible exact m_10l21_le _ _ | with_reducible apply Le.bind | with_reducible apply Le.ite | with_reducible apply Le.both | (rintro (x | x) <;> dsimp only) | intro x

noncomputable def m_10 (k : Nat) (v : ByteArray × (List Tag) × Unit) : Option (ByteArray × Int × Unit) :=
  m_29 k (v.fst, ()) >>= fun x1 =>
  if (x1.snd.fst != (0 : Int)) = true then
    some ((ByteArray.mk #[], x1.snd.fst, ()))
  else m_10l6 k (v.snd.fst, x1.fst, (0 : Int), x1.fst, (↑x1.fst.length : Int), (0 : Int), ()) >>= fun x2 =>
  if (x2.snd.snd.fst != (↑x2.fst.length : Int)) = true then
    some ((ByteArray.mk #[], (10 : Int), ()))
  else m_10l14 k (x2.fst, x2.snd.fst, x2.fst, (↑x2.fst.length : Int), (0 : Int), ()) >>= fun x3 => match x3 with
    | .inl y3 => some y3
    | .inr y3 => some (y3.fst, y3.snd.fst, false, [], ()) >>= fun x4 =>
      m_10l21 k (x4.fst, x4.snd.fst, (↑x4.snd.fst.length : Int), (0 : Int), x4.snd.snd.fst, x4.snd.snd.snd.fst, ()) >>= fun x5 => match x5 with
        | .inl y5 => some y5
        | .inr y5 => m_34s4b14 k (y5.fst, y5.snd.fst, ()) >>= fun x6 =>
          if decide (x6.fst > (16384 : Int)) = true then
            some ((ByteArray.mk #[], (3 : Int), ()))
          else m_35s4b14 k (x6.snd.fst, x6.snd.snd.fst, ()) >>= fun x7 =>
          some ((x7.fst, (0 : Int), ()))
theorem m_10_le (k : Nat) (v : ByteArray × (List Tag) × Unit) : Le (m_10 k v) (n_10 v) := by
  unfold m_10 n_10
  repeat' first | with_reducible exact Le.refl _ | with_reducible exact Le.none _ | with_reducible exact m_34s4b14_le _ _ | with_reducible exact m_10l21_le _ _ | with_reducible exact m_35s4b14_le _ _ | with_reducible exact m_29_le _ _ | with_reducible exact m_10l14_le _ _ | with_reducible exact m_10l6_le _ _ | with_reducible apply Le.bind | with_reducible apply Le.ite | with_reducible apply Le.both | (rintro (x | x) <;> dsimp only) | intro x

noncomputable def m_84l4 : Nat → Int × Int × ByteArray × Unit → Option ((Int × ByteArray × Unit))
  | 0, _ => none
  | k + 1, v =>
    if decide (v.fst ≥ v.snd.fst) = true then
      if v.snd.fst = (0 : Int) then
        none
      else if v.snd.fst = (0 : Int) then
        none
      else if (0 : Int) ≤ v.fst.tmod v.snd.fst ∧ v.fst.tmod v.snd.fst ≤ IntKind.i64.wrap (v.fst.tmod v.snd.fst + (1 : Int)) ∧ IntKind.i64.wrap (v.fst.tmod v.snd.fst + (1 : Int)) ≤ (↑(ByteArray.mk #[(48 : UInt8), (49 : UInt8), (50 : UInt8), (51 : UInt8), (52 : UInt8), (53 : UInt8), (54 : UInt8), (55 : UInt8), (56 : UInt8), (57 : UInt8), (97 : UInt8), (98 : UInt8), (99 : UInt8), (100 : UInt8), (101 : UInt8), (102 : UInt8)]).size : Int) then
        if ((ByteArray.mk #[(48 : UInt8), (49 : UInt8), (50 : UInt8), (51 : UInt8), (52 : UInt8), (53 : UInt8), (54 : UInt8), (55 : UInt8), (56 : UInt8), (57 : UInt8), (97 : UInt8), (98 : UInt8), (99 : UInt8), (100 : UInt8), (101 : UInt8), (102 : UInt8)]).extract (v.fst.tmod v.snd.fst).toNat (IntKind.i64.wrap (v.fst.tmod v.snd.fst + (1 : Int))).toNat).size + v.snd.snd.fst.size ≤ (4294967296 : Nat) then
          if v.snd.fst = (0 : Int) then
            none
          else m_84l4 k (IntKind.i64.wrap (v.fst.tdiv v.snd.fst), v.snd.fst, (ByteArray.mk #[(48 : UInt8), (49 : UInt8), (50 : UInt8), (51 : UInt8), (52 : UInt8), (53 : UInt8), (54 : UInt8), (55 : UInt8), (56 : UInt8), (57 : UInt8), (97 : UInt8), (98 : UInt8), (99 : UInt8), (100 : UInt8), (101 : UInt8), (102 : UInt8)]).extract (v.fst.tmod v.snd.fst).toNat (IntKind.i64.wrap (v.fst.tmod v.snd.fst + (1 : Int))).toNat ++ v.snd.snd.fst, ())
        else none
      else none
    else some ((v.fst, v.snd.snd.fst, ()))
theorem m_84l4_le : ∀ k v, Le (m_84l4 k v) (n_84l4 v)
  | 0, _ => Le.none _
  | k + 1, v => by
    rw [m_84l4, n_84l4]
    repeat' first | with_reducible exact Le.refl _ | with_reducible exact Le.none _ | with_reducible exact m_84l4_le _ _ | with_reducible apply Le.bind | with_reducible apply Le.ite | with_reducible apply Le.both | (rintro (x | x) <;> dsimp only) | intro x

noncomputable def m_84 : Nat → Int × Int × Unit → Option (ByteArray × Unit)
  | 0, _ => none
  | k + 1, v =>
    if decide (v.fst < (0 : Int)) = true then
      m_84 k (IntKind.i64.wrap ((0 : Int) - v.fst), v.snd.fst, ()) >>= fun x1 =>
      if (ByteArray.mk #[(45 : UInt8)]).size + x1.fst.size ≤ (4294967296 : Nat) then
        some ((ByteArray.mk #[(45 : UInt8)] ++ x1.fst, ()))
      else none
    else m_84l4 k (v.fst, v.snd.fst, ByteArray.mk #[], ()) >>= fun x1 =>
    if (0 : Int) ≤ x1.fst ∧ x1.fst ≤ IntKind.i64.wrap (x1.fst + (1 : Int)) ∧ IntKind.i64.wrap (x1.fst + (1 : Int)) ≤ (↑(ByteArray.mk #[(48 : UInt8), (49 : UInt8), (50 : UInt8), (51 : UInt8), (52 : UInt8), (53 : UInt8), (54 : UInt8), (55 : UInt8), (56 : UInt8), (57 : UInt8), (97 : UInt8), (98 : UInt8), (99 : UInt8), (100 : UInt8), (101 : UInt8), (102 : UInt8)]).size : Int) then
      if ((ByteArray.mk #[(48 : UInt8), (49 : UInt8), (50 : UInt8), (51 : UInt8), (52 : UInt8), (53 : UInt8), (54 : UInt8), (55 : UInt8), (56 : UInt8), (57 : UInt8), (97 : UInt8), (98 : UInt8), (99 : UInt8), (100 : UInt8), (101 : UInt8), (102 : UInt8)]).extract x1.fst.toNat (IntKind.i64.wrap (x1.fst + (1 : Int))).toNat).size + x1.snd.fst.size ≤ (4294967296 : Nat) then
        some (((ByteArray.mk #[(48 : UInt8), (49 : UInt8), (50 : UInt8), (51 : UInt8), (52 : UInt8), (53 : UInt8), (54 : UInt8), (55 : UInt8), (56 : UInt8), (57 : UInt8), (97 : UInt8), (98 : UInt8), (99 : UInt8), (100 : UInt8), (101 : UInt8), (102 : UInt8)]).extract x1.fst.toNat (IntKind.i64.wrap (x1.fst + (1 : Int))).toNat ++ x1.snd.fst, ()))
      else none
    else none
theorem m_84_le : ∀ k v, Le (m_84 k v) (n_84 v)
  | 0, _ => Le.none _
  | k + 1, v => by
    rw [m_84, n_84]
    repeat' first | with_reducible exact Le.refl _ | with_reducible exact Le.none _ | with_reducible exact m_84l4_le _ _ | with_reducible exact m_84_le _ _ | with_reducible apply Le.bind | with_reducible apply Le.ite | with_reducible apply Le.both | (rintro (x | x) <;> dsimp only) | intro x

noncomputable def m_9 (k : Nat) (v : Unit) : Option (Bool × Unit) :=
  m_10 k (ByteArray.mk #[(123 : UInt8), (100 : UInt8), (58 : UInt8), (52 : UInt8), (125 : UInt8), (124 : UInt8), (123 : UInt8), (115 : UInt8), (58 : UInt8), (60 : UInt8), (51 : UInt8), (125 : UInt8), (124 : UInt8)], [Tag.mk (3 : Int) (12 : Int) (ByteArray.mk #[]) [] [], Tag.mk (4 : Int) (0 : Int) (ByteArray.mk #[(97 : UInt8)]) [] []], ()) >>= fun x1 =>
  m_20 k (ByteArray.mk #[(192 : UInt8), (128 : UInt8)], ()) >>= fun x2 =>
  (if (x1.fst.toList == (ByteArray.mk #[(32 : UInt8), (32 : UInt8), (49 : UInt8), (50 : UInt8), (124 : UInt8), (97 : UInt8), (32 : UInt8), (32 : UInt8), (124 : UInt8)]).toList) = true then
      if (x1.snd.fst == (0 : Int)) = true then
        if (x2.fst == (0 : Int)) = true then
          some ((!x2.snd.fst, ()))
        else some ((false, ()))
      else some ((false, ()))
    else some ((false, ()))) >>= fun x3 =>
  some ((x3.fst, ()))
theorem m_9_le (k : Nat) (v : Unit) : Le (m_9 k v) (n_9 v) := by
  unfold m_9 n_9
  repeat' first | with_reducible exact Le.refl _ | with_reducible exact Le.none _ | with_reducible exact m_20_le _ _ | with_reducible exact m_10_le _ _ | with_reducible apply Le.bind | with_reducible apply Le.ite | with_reducible apply Le.both | (rintro (x | x) <;> dsimp only) | intro x

end Go.Proofs.YtnbkpokcfcednaaDoor
