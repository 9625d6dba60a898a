/-
  Texts of this claim, joined by a program of mine: what the theorem uses.
-/
import Derived.Test.YtdmggfegkaiaiaaGreatDoorPkE
set_option linter.unusedVariables false
set_option linter.unusedSimpArgs false
section
namespace Go.Proofs.YtdmggfegkaiaiaaGreatDoor
open Go.Awp Go.Tx
open IntKind (i32)
open IntKind (u64)
open IntKind (u8)
open IntKind (i64)
set_option maxRecDepth 100000
def Le {α : Type} (x y : Option α) : Prop := ∀ a, x = some a → y = some a
theorem Le.refl {α : Type} (x : Option α) : Le x x := fun _ h => h
theorem Le.none {α : Type} (x : Option α) : Le none x := fun _ h => by cases h
theorem Le.bind {α β : Type} {x y : Option α} {f g : α → Option β} (h : Le x y) (h2 : ∀ a, Le (f a) (g a)) : Le (x >>= f) (y >>= g) := fun b hb => by
 cases x with
 | none => cases hb
 | some a => rw [h a rfl]; exact h2 a b hb
theorem Le.ite {α : Type} {c : Prop} {d : Decidable c} {x y z w : Option α} (h : Le x y) (h2 : Le z w) : Le (@ite _ c d x z) (@ite _ c d y w) := by
 cases d with
 | isTrue h3 => exact h
 | isFalse h3 => exact h2
theorem Le.both {α : Type} {x y z w : Option α} (h : Le x y) (h2 : Le z w) : Le (both x z) (both y w) := fun a ha => by
 obtain ⟨h3, h4⟩ := both_some ha
 exact both_mk (h a h3) (h2 a h4)
noncomputable def m_58l3 : Nat → (List ByteArray) × Int × Int × Tag × Size × Size × Unit → Option ((Tag × Size × Size × Unit))
 | 0, _ => none
 | k + 1, v =>
  if decide (v.2.2.1 < v.2.1) = true then
   if (0 : Int) ≤ v.2.2.1 then
    v.1[v.2.2.1.toNat]? >>= fun x1 =>
    m_58l3 k (v.1, v.2.1, i64.wrap (v.2.2.1 + (1 : Int)), v.2.2.2.1, v.2.2.2.2.1, Size.mk v.2.2.2.2.2.1.depth v.2.2.2.2.2.1.pieces (i64.wrap (v.2.2.2.2.2.1.bytes + (↑x1.size : Int))), ())
   else none
  else some ((v.2.2.2.1, v.2.2.2.2.1, v.2.2.2.2.2.1, ()))
theorem m_58l3_le : ∀ k v, Le (m_58l3 k v) (n_58l3 v)
 | 0, _ => Le.none _
 | k + 1, v => by
  rw [m_58l3, n_58l3]
  with_reducible repeat' first | exact Le.refl _ | exact Le.none _ | exact m_58l3_le _ _ | apply Le.bind | apply Le.ite | apply Le.both | intro x
mutual
noncomputable def m_58l8 : Nat → (List Tag) × Int × Int × Size × Size × Unit → Option ((Size × Size × Unit))
 | 0, _ => none
 | k + 1, v =>
  if decide (v.2.2.1 < v.2.1) = true then
   if (0 : Int) ≤ v.2.2.1 then
    v.1[v.2.2.1.toNat]? >>= fun x1 =>
    m_58 k (x1, ()) >>= fun x2 =>
    m_58l8 k (v.1, v.2.1, i64.wrap (v.2.2.1 + (1 : Int)), v.2.2.2.1, Size.mk (max v.2.2.2.2.1.depth x2.1.depth) (i64.wrap (v.2.2.2.2.1.pieces + x2.1.pieces)) (i64.wrap (v.2.2.2.2.1.bytes + x2.1.bytes)), ())
   else none
  else some ((v.2.2.2.1, v.2.2.2.2.1, ()))
noncomputable def m_58 : Nat → Tag × Unit → Option (Size × Unit)
 | 0, _ => none
 | k + 1, v =>
  m_58l3 k (v.1.names, (↑v.1.names.length : Int), (0 : Int), v.1, Size.mk (0 : Int) (0 : Int) (0 : Int), Size.mk (0 : Int) (1 : Int) (↑v.1.text.size : Int), ()) >>= fun x1 =>
  m_58l8 k (x1.1.parts, (↑x1.1.parts.length : Int), (0 : Int), x1.2.1, x1.2.2.1, ()) >>= fun x2 =>
  some ((Size.mk (i64.wrap (x2.2.1.depth + (1 : Int))) x2.2.1.pieces x2.2.1.bytes, ()))
end
theorem m_58l8_st (k : Nat) (h_58 : ∀ v, Le (m_58 k v) (n_58 v)) (h_58l8 : ∀ v, Le (m_58l8 k v) (n_58l8 v)) (v : (List Tag) × Int × Int × Size × Size × Unit) : Le (m_58l8 (k + 1) v) (n_58l8 v) := by
 rw [m_58l8, n_58l8]
 with_reducible repeat' first | exact Le.refl _ | exact Le.none _ | exact h_58 _ | exact h_58l8 _ | apply Le.bind | apply Le.ite | apply Le.both | intro x
theorem m_58_st (k : Nat) (h_58l8 : ∀ v, Le (m_58l8 k v) (n_58l8 v)) (v : Tag × Unit) : Le (m_58 (k + 1) v) (n_58 v) := by
 rw [m_58, n_58]
 with_reducible repeat' first | exact Le.refl _ | exact Le.none _ | exact m_58l3_le _ _ | exact h_58l8 _ | apply Le.bind | apply Le.ite | apply Le.both | intro x
theorem m_58l8_all : ∀ k, (∀ v, Le (m_58l8 k v) (n_58l8 v)) ∧ (∀ v, Le (m_58 k v) (n_58 v))
 | 0 => ⟨fun _ => Le.none _, fun _ => Le.none _⟩
 | k + 1 => by
  have h := m_58l8_all k
  exact ⟨m_58l8_st k (h.2) (h.1), m_58_st k (h.1)⟩
theorem m_58_le (k : Nat) (v : Tag × Unit) : Le (m_58 k v) (n_58 v) := have h := m_58l8_all k; h.2 v
noncomputable def m_86 (k : Nat) (v : ByteArray × Unit) : Option (Bool × Unit) :=
 n_87 (v.1, ()) >>= fun x1 =>
 some ((!x1.1, ()))
theorem m_86_le (k : Nat) (v : ByteArray × Unit) : Le (m_86 k v) (n_86 v) := by
 unfold m_86 n_86
 with_reducible repeat' first | exact Le.refl _ | exact Le.none _ | apply Le.bind | apply Le.ite | apply Le.both | intro x
noncomputable def m_117c86l2 : Nat → (List ByteArray) × Int × Int × Unit → Option (((Int × Unit) ⊕ (Unit)))
 | 0, _ => none
 | k + 1, v =>
  if decide (v.2.2.1 < v.2.1) = true then
   if (0 : Int) ≤ v.2.2.1 then
    v.1[v.2.2.1.toNat]? >>= fun x1 =>
    m_86 k (x1, ()) >>= fun x2 =>
    if x2.1 = true then
     some (Sum.inl (v.2.2.1, ()))
    else m_117c86l2 k (v.1, v.2.1, i64.wrap (v.2.2.1 + (1 : Int)), ())
   else none
  else some (Sum.inr ())
theorem m_117c86l2_le : ∀ k v, Le (m_117c86l2 k v) (n_117c86l2 v)
 | 0, _ => Le.none _
 | k + 1, v => by
  rw [m_117c86l2, n_117c86l2]
  with_reducible repeat' first | exact Le.refl _ | exact Le.none _ | exact m_86_le _ _ | exact m_117c86l2_le _ _ | apply Le.bind | apply Le.ite | apply Le.both | intro x
noncomputable def m_117c86 (k : Nat) (v : (List ByteArray) × Unit) : Option (Int × Unit) :=
 m_117c86l2 k (v.1, (↑v.1.length : Int), (0 : Int), ()) >>= fun x1 => match x1 with
  | .inl y1 => some y1
  | .inr y1 => some (((-1 : Int), ()))
theorem m_117c86_le (k : Nat) (v : (List ByteArray) × Unit) : Le (m_117c86 k v) (n_117c86 v) := by
 unfold m_117c86 n_117c86
 with_reducible repeat' first | exact Le.refl _ | exact Le.none _ | exact m_117c86l2_le _ _ | apply Le.bind | apply Le.ite | apply Le.both | (rintro (x | x) <;> dsimp only) | intro x
noncomputable def m_88c86 (k : Nat) (v : (List ByteArray) × Unit) : Option (Bool × Unit) :=
 m_117c86 k (v.1, ()) >>= fun x1 =>
 some ((decide (x1.1 ≥ (0 : Int)), ()))
theorem m_88c86_le (k : Nat) (v : (List ByteArray) × Unit) : Le (m_88c86 k v) (n_88c86 v) := by
 unfold m_88c86 n_88c86
 with_reducible repeat' first | exact Le.refl _ | exact Le.none _ | exact m_117c86_le _ _ | apply Le.bind | apply Le.ite | apply Le.both | intro x
mutual
noncomputable def m_118c90l2 : Nat → (List Tag) × Int × Int × Unit → Option (((Int × Unit) ⊕ (Unit)))
 | 0, _ => none
 | k + 1, v =>
  if decide (v.2.2.1 < v.2.1) = true then
   if (0 : Int) ≤ v.2.2.1 then
    v.1[v.2.2.1.toNat]? >>= fun x1 =>
    m_90 k (x1, ()) >>= fun x2 =>
    if x2.1 = true then
     some (Sum.inl (v.2.2.1, ()))
    else m_118c90l2 k (v.1, v.2.1, i64.wrap (v.2.2.1 + (1 : Int)), ())
   else none
  else some (Sum.inr ())
noncomputable def m_90 : Nat → Tag × Unit → Option (Bool × Unit)
 | 0, _ => none
 | k + 1, v =>
  m_61 k (v.1, ()) >>= fun x1 =>
  some ((!x1.1, ()))
noncomputable def m_61 : Nat → Tag × Unit → Option (Bool × Unit)
 | 0, _ => none
 | k + 1, v =>
  (if decide (v.1.kind < (0 : Int)) = true then
     some ((true, v.1, ()))
    else if decide (v.1.kind > (6 : Int)) = true then
     some ((true, v.1, ()))
    else if (v.1.kind != (3 : Int)) = true then
     if (v.1.n != (0 : Int)) = true then
      some ((true, v.1, ()))
     else if decide (v.1.n < (-9007199254740992 : Int)) = true then
      some ((true, v.1, ()))
     else if decide (v.1.n > (9007199254740992 : Int)) = true then
      some ((true, v.1, ()))
     else if (v.1.kind != (4 : Int)) = true then
      if (!v.1.text.toList == (ByteArray.mk #[]).toList) = true then
       some ((true, v.1, ()))
      else if decide (v.1.kind < (5 : Int)) = true then
       some ((decide ((↑v.1.parts.length : Int) > (0 : Int)), v.1, ()))
      else some ((false, v.1, ()))
     else if decide (v.1.kind < (5 : Int)) = true then
      some ((decide ((↑v.1.parts.length : Int) > (0 : Int)), v.1, ()))
     else some ((false, v.1, ()))
    else if decide (v.1.n < (-9007199254740992 : Int)) = true then
     some ((true, v.1, ()))
    else if decide (v.1.n > (9007199254740992 : Int)) = true then
     some ((true, v.1, ()))
    else if (v.1.kind != (4 : Int)) = true then
     if (!v.1.text.toList == (ByteArray.mk #[]).toList) = true then
      some ((true, v.1, ()))
     else if decide (v.1.kind < (5 : Int)) = true then
      some ((decide ((↑v.1.parts.length : Int) > (0 : Int)), v.1, ()))
     else some ((false, v.1, ()))
    else if decide (v.1.kind < (5 : Int)) = true then
     some ((decide ((↑v.1.parts.length : Int) > (0 : Int)), v.1, ()))
    else some ((false, v.1, ()))) >>= fun x1 =>
  if x1.1 = true then
   some ((false, ()))
  else (if (x1.2.1.kind == (6 : Int)) = true then
    if ((↑x1.2.1.names.length : Int) != (↑x1.2.1.parts.length : Int)) = true then
     some ((true, x1.2.1, ()))
    else if (x1.2.1.kind != (6 : Int)) = true then
     some ((decide ((↑x1.2.1.names.length : Int) > (0 : Int)), x1.2.1, ()))
    else some ((false, x1.2.1, ()))
   else if (x1.2.1.kind != (6 : Int)) = true then
    some ((decide ((↑x1.2.1.names.length : Int) > (0 : Int)), x1.2.1, ()))
   else some ((false, x1.2.1, ()))) >>= fun x2 =>
  if x2.1 = true then
   some ((false, ()))
  else (m_86 k (x2.2.1.text, ()) >>= fun x3 =>
   if (!x3.1) = true then
    m_88c86 k (x2.2.1.names, ()) >>= fun x4 =>
    if (!x4.1) = true then
     m_89c90 k (x2.2.1.parts, ()) >>= fun x5 =>
     some ((!x5.1, ()))
    else some ((false, ()))
   else some ((false, ()))) >>= fun x3 =>
  some ((x3.1, ()))
noncomputable def m_89c90 : Nat → (List Tag) × Unit → Option (Bool × Unit)
 | 0, _ => none
 | k + 1, v =>
  m_118c90 k (v.1, ()) >>= fun x1 =>
  some ((decide (x1.1 ≥ (0 : Int)), ()))
noncomputable def m_118c90 : Nat → (List Tag) × Unit → Option (Int × Unit)
 | 0, _ => none
 | k + 1, v =>
  m_118c90l2 k (v.1, (↑v.1.length : Int), (0 : Int), ()) >>= fun x1 => match x1 with
   | .inl y1 => some y1
   | .inr y1 => some (((-1 : Int), ()))
end
theorem m_118c90l2_st (k : Nat) (h_118c90l2 : ∀ v, Le (m_118c90l2 k v) (n_118c90l2 v)) (h_90 : ∀ v, Le (m_90 k v) (n_90 v)) (v : (List Tag) × Int × Int × Unit) : Le (m_118c90l2 (k + 1) v) (n_118c90l2 v) := by
 rw [m_118c90l2, n_118c90l2]
 with_reducible repeat' first | exact Le.refl _ | exact Le.none _ | exact h_118c90l2 _ | exact h_90 _ | apply Le.bind | apply Le.ite | apply Le.both | intro x
theorem m_90_st (k : Nat) (h_61 : ∀ v, Le (m_61 k v) (n_61 v)) (v : Tag × Unit) : Le (m_90 (k + 1) v) (n_90 v) := by
 rw [m_90, n_90]
 with_reducible repeat' first | exact Le.refl _ | exact Le.none _ | exact h_61 _ | apply Le.bind | apply Le.ite | apply Le.both | intro x
theorem m_61_st (k : Nat) (h_89c90 : ∀ v, Le (m_89c90 k v) (n_89c90 v)) (v : Tag × Unit) : Le (m_61 (k + 1) v) (n_61 v) := by
 rw [m_61, n_61]
 with_reducible repeat' first | exact Le.refl _ | exact Le.none _ | exact m_86_le _ _ | exact m_88c86_le _ _ | exact h_89c90 _ | apply Le.bind | apply Le.ite | apply Le.both | intro x
theorem m_89c90_st (k : Nat) (h_118c90 : ∀ v, Le (m_118c90 k v) (n_118c90 v)) (v : (List Tag) × Unit) : Le (m_89c90 (k + 1) v) (n_89c90 v) := by
 rw [m_89c90, n_89c90]
 with_reducible repeat' first | exact Le.refl _ | exact Le.none _ | exact h_118c90 _ | apply Le.bind | apply Le.ite | apply Le.both | intro x
theorem m_118c90_st (k : Nat) (h_118c90l2 : ∀ v, Le (m_118c90l2 k v) (n_118c90l2 v)) (v : (List Tag) × Unit) : Le (m_118c90 (k + 1) v) (n_118c90 v) := by
 rw [m_118c90, n_118c90]
 with_reducible repeat' first | exact Le.refl _ | exact Le.none _ | exact h_118c90l2 _ | apply Le.bind | apply Le.ite | apply Le.both | (rintro (x | x) <;> dsimp only) | intro x
theorem m_118c90l2_all : ∀ k, (∀ v, Le (m_118c90l2 k v) (n_118c90l2 v)) ∧ (∀ v, Le (m_90 k v) (n_90 v)) ∧ (∀ v, Le (m_61 k v) (n_61 v)) ∧ (∀ v, Le (m_89c90 k v) (n_89c90 v)) ∧ (∀ v, Le (m_118c90 k v) (n_118c90 v))
 | 0 => ⟨fun _ => Le.none _, fun _ => Le.none _, fun _ => Le.none _, fun _ => Le.none _, fun _ => Le.none _⟩
 | k + 1 => by
  have h := m_118c90l2_all k
  exact ⟨m_118c90l2_st k (h.1) (h.2.1), m_90_st k (h.2.2.1), m_61_st k (h.2.2.2.1), m_89c90_st k (h.2.2.2.2), m_118c90_st k (h.1)⟩
theorem m_61_le (k : Nat) (v : Tag × Unit) : Le (m_61 k v) (n_61 v) := have h := m_118c90l2_all k; h.2.2.1 v
noncomputable def m_62l3 : Nat → (List ByteArray) × Int × Int × Tag × (List (ByteArray × Bool)) × Unit → Option (((Bool × Unit) ⊕ (Tag × Unit)))
 | 0, _ => none
 | k + 1, v =>
  if decide (v.2.2.1 < v.2.1) = true then
   if (0 : Int) ≤ v.2.2.1 then
    v.1[v.2.2.1.toNat]? >>= fun x1 =>
    if (Mp.get Mp.seq x1 v.2.2.2.2.1).getD false = true then
     some (Sum.inl (true, ()))
    else m_62l3 k (v.1, v.2.1, i64.wrap (v.2.2.1 + (1 : Int)), v.2.2.2.1, Mp.set Mp.seq x1 true v.2.2.2.2.1, ())
   else none
  else some (Sum.inr (v.2.2.2.1, ()))
theorem m_62l3_le : ∀ k v, Le (m_62l3 k v) (n_62l3 v)
 | 0, _ => Le.none _
 | k + 1, v => by
  rw [m_62l3, n_62l3]
  with_reducible repeat' first | exact Le.refl _ | exact Le.none _ | exact m_62l3_le _ _ | apply Le.bind | apply Le.ite | apply Le.both | intro x
mutual
noncomputable def m_118c62l2 : Nat → (List Tag) × Int × Int × Unit → Option (((Int × Unit) ⊕ (Unit)))
 | 0, _ => none
 | k + 1, v =>
  if decide (v.2.2.1 < v.2.1) = true then
   if (0 : Int) ≤ v.2.2.1 then
    v.1[v.2.2.1.toNat]? >>= fun x1 =>
    m_62 k (x1, ()) >>= fun x2 =>
    if x2.1 = true then
     some (Sum.inl (v.2.2.1, ()))
    else m_118c62l2 k (v.1, v.2.1, i64.wrap (v.2.2.1 + (1 : Int)), ())
   else none
  else some (Sum.inr ())
noncomputable def m_62 : Nat → Tag × Unit → Option (Bool × Unit)
 | 0, _ => none
 | k + 1, v =>
  m_62l3 k (v.1.names, (↑v.1.names.length : Int), (0 : Int), v.1, [], ()) >>= fun x1 => match x1 with
   | .inl y1 => some y1
   | .inr y1 => m_89c62 k (y1.1.parts, ()) >>= fun x2 =>
    some ((x2.1, ()))
noncomputable def m_89c62 : Nat → (List Tag) × Unit → Option (Bool × Unit)
 | 0, _ => none
 | k + 1, v =>
  m_118c62 k (v.1, ()) >>= fun x1 =>
  some ((decide (x1.1 ≥ (0 : Int)), ()))
noncomputable def m_118c62 : Nat → (List Tag) × Unit → Option (Int × Unit)
 | 0, _ => none
 | k + 1, v =>
  m_118c62l2 k (v.1, (↑v.1.length : Int), (0 : Int), ()) >>= fun x1 => match x1 with
   | .inl y1 => some y1
   | .inr y1 => some (((-1 : Int), ()))
end
theorem m_118c62l2_st (k : Nat) (h_118c62l2 : ∀ v, Le (m_118c62l2 k v) (n_118c62l2 v)) (h_62 : ∀ v, Le (m_62 k v) (n_62 v)) (v : (List Tag) × Int × Int × Unit) : Le (m_118c62l2 (k + 1) v) (n_118c62l2 v) := by
 rw [m_118c62l2, n_118c62l2]
 with_reducible repeat' first | exact Le.refl _ | exact Le.none _ | exact h_118c62l2 _ | exact h_62 _ | apply Le.bind | apply Le.ite | apply Le.both | intro x
theorem m_62_st (k : Nat) (h_89c62 : ∀ v, Le (m_89c62 k v) (n_89c62 v)) (v : Tag × Unit) : Le (m_62 (k + 1) v) (n_62 v) := by
 rw [m_62, n_62]
 with_reducible repeat' first | exact Le.refl _ | exact Le.none _ | exact m_62l3_le _ _ | exact h_89c62 _ | apply Le.bind | apply Le.ite | apply Le.both | (rintro (x | x) <;> dsimp only) | intro x
theorem m_89c62_st (k : Nat) (h_118c62 : ∀ v, Le (m_118c62 k v) (n_118c62 v)) (v : (List Tag) × Unit) : Le (m_89c62 (k + 1) v) (n_89c62 v) := by
 rw [m_89c62, n_89c62]
 with_reducible repeat' first | exact Le.refl _ | exact Le.none _ | exact h_118c62 _ | apply Le.bind | apply Le.ite | apply Le.both | intro x
theorem m_118c62_st (k : Nat) (h_118c62l2 : ∀ v, Le (m_118c62l2 k v) (n_118c62l2 v)) (v : (List Tag) × Unit) : Le (m_118c62 (k + 1) v) (n_118c62 v) := by
 rw [m_118c62, n_118c62]
 with_reducible repeat' first | exact Le.refl _ | exact Le.none _ | exact h_118c62l2 _ | apply Le.bind | apply Le.ite | apply Le.both | (rintro (x | x) <;> dsimp only) | intro x
theorem m_118c62l2_all : ∀ k, (∀ v, Le (m_118c62l2 k v) (n_118c62l2 v)) ∧ (∀ v, Le (m_62 k v) (n_62 v)) ∧ (∀ v, Le (m_89c62 k v) (n_89c62 v)) ∧ (∀ v, Le (m_118c62 k v) (n_118c62 v))
 | 0 => ⟨fun _ => Le.none _, fun _ => Le.none _, fun _ => Le.none _, fun _ => Le.none _⟩
 | k + 1 => by
  have h := m_118c62l2_all k
  exact ⟨m_118c62l2_st k (h.1) (h.2.1), m_62_st k (h.2.2.1), m_89c62_st k (h.2.2.2), m_118c62_st k (h.1)⟩
theorem m_62_le (k : Nat) (v : Tag × Unit) : Le (m_62 k v) (n_62 v) := have h := m_118c62l2_all k; h.2.1 v
noncomputable def m_29 (k : Nat) (v : Tag × Unit) : Option (Int × Unit) :=
 m_58 k (v.1, ()) >>= fun x1 =>
 (if decide (x1.1.depth > (20 : Int)) = true then
    some ((true, v.1, ()))
   else if decide (x1.1.pieces > (500 : Int)) = true then
    some ((true, v.1, ()))
   else some ((decide (x1.1.bytes > (4096 : Int)), v.1, ()))) >>= fun x2 =>
 if x2.1 = true then
  some (((3 : Int), ()))
 else m_61 k (x2.2.1, ()) >>= fun x3 =>
 if (!x3.1) = true then
  some (((1 : Int), ()))
 else m_62 k (x2.2.1, ()) >>= fun x4 =>
 if x4.1 = true then
  some (((5 : Int), ()))
 else some (((0 : Int), ()))
theorem m_29_le (k : Nat) (v : Tag × Unit) : Le (m_29 k v) (n_29 v) := by
 unfold m_29 n_29
 with_reducible repeat' first | exact Le.refl _ | exact Le.none _ | exact m_58_le _ _ | exact m_61_le _ _ | exact m_62_le _ _ | apply Le.bind | apply Le.ite | apply Le.both | intro x
noncomputable def m_77l2 : Nat → (List ByteArray) × ByteArray × Int × Int × Unit → Option (((Int × Unit) ⊕ (Unit)))
 | 0, _ => none
 | k + 1, v =>
  if decide (v.2.2.2.1 < v.2.2.1) = true then
   if (0 : Int) ≤ v.2.2.2.1 then
    v.1[v.2.2.2.1.toNat]? >>= fun x1 =>
    if (v.2.1.toList == x1.toList) = true then
     some (Sum.inl (v.2.2.2.1, ()))
    else m_77l2 k (v.1, v.2.1, v.2.2.1, i64.wrap (v.2.2.2.1 + (1 : Int)), ())
   else none
  else some (Sum.inr ())
theorem m_77l2_le : ∀ k v, Le (m_77l2 k v) (n_77l2 v)
 | 0, _ => Le.none _
 | k + 1, v => by
  rw [m_77l2, n_77l2]
  with_reducible repeat' first | exact Le.refl _ | exact Le.none _ | exact m_77l2_le _ _ | apply Le.bind | apply Le.ite | apply Le.both | intro x
noncomputable def m_77 (k : Nat) (v : (List ByteArray) × ByteArray × Unit) : Option (Int × Unit) :=
 m_77l2 k (v.1, v.2.1, (↑v.1.length : Int), (0 : Int), ()) >>= fun x1 => match x1 with
  | .inl y1 => some y1
  | .inr y1 => some (((-1 : Int), ()))
theorem m_77_le (k : Nat) (v : (List ByteArray) × ByteArray × Unit) : Le (m_77 k v) (n_77 v) := by
 unfold m_77 n_77
 with_reducible repeat' first | exact Le.refl _ | exact Le.none _ | exact m_77l2_le _ _ | apply Le.bind | apply Le.ite | apply Le.both | (rintro (x | x) <;> dsimp only) | intro x
noncomputable def m_55 (k : Nat) (v : Tag × ByteArray × Unit) : Option (Int × Unit) :=
 if (v.1.kind == (6 : Int)) = true then
  m_77 k (v.1.names, v.2.1, ()) >>= fun x1 =>
  some ((x1.1, ()))
 else n_78 (v.2.1, ()) >>= fun x1 =>
 (if (v.1.kind != (5 : Int)) = true then
    some ((x1.1, true, ()))
   else if x1.2.1 = true then
    some ((x1.1, true, ()))
   else if decide (x1.1 < (0 : Int)) = true then
    some ((x1.1, true, ()))
   else if decide (x1.1 > (↑v.1.parts.length : Int)) = true then
    some ((x1.1, true, ()))
   else n_79 (x1.1, ()) >>= fun x2 =>
   some ((x1.1, !x2.1.toList == v.2.1.toList, ()))) >>= fun x2 =>
 if x2.2.1 = true then
  some (((-1 : Int), ()))
 else some ((x2.1, ()))
theorem m_55_le (k : Nat) (v : Tag × ByteArray × Unit) : Le (m_55 k v) (n_55 v) := by
 unfold m_55 n_55
 with_reducible repeat' first | exact Le.refl _ | exact Le.none _ | exact m_77_le _ _ | apply Le.bind | apply Le.ite | apply Le.both | intro x
noncomputable def m_44l2 : Nat → (List ByteArray) × Int × Int × Tag × Tag × Unit → Option (((Bool × Tag × Unit) ⊕ (Tag × Tag × Unit)))
 | 0, _ => none
 | k + 1, v =>
  if decide (v.2.2.1 < v.2.1) = true then
   if (0 : Int) ≤ v.2.2.1 then
    v.1[v.2.2.1.toNat]? >>= fun x1 =>
    m_55 k (v.2.2.2.1, x1, ()) >>= fun x2 =>
    (if decide (x2.1 < (0 : Int)) = true then
       some ((x2.1, v.1, v.2.1, v.2.2.1, true, v.2.2.2.1, v.2.2.2.2.1, ()))
      else some ((x2.1, v.1, v.2.1, v.2.2.1, decide (x2.1 ≥ (↑v.2.2.2.1.parts.length : Int)), v.2.2.2.1, v.2.2.2.2.1, ()))) >>= fun x3 =>
    if x3.2.2.2.2.1 = true then
     some (Sum.inl (false, Tag.mk (0 : Int) (0 : Int) (ByteArray.mk #[]) [] [], ()))
    else if (0 : Int) ≤ x3.1 then
     x3.2.2.2.2.2.1.parts[x3.1.toNat]? >>= fun x4 =>
     m_44l2 k (x3.2.1, x3.2.2.1, i64.wrap (x3.2.2.2.1 + (1 : Int)), x4, x3.2.2.2.2.2.2.1, ())
    else none
   else none
  else some (Sum.inr (v.2.2.2.1, v.2.2.2.2.1, ()))
theorem m_44l2_le : ∀ k v, Le (m_44l2 k v) (n_44l2 v)
 | 0, _ => Le.none _
 | k + 1, v => by
  rw [m_44l2, n_44l2]
  with_reducible repeat' first | exact Le.refl _ | exact Le.none _ | exact m_55_le _ _ | exact m_44l2_le _ _ | apply Le.bind | apply Le.ite | apply Le.both | intro x
noncomputable def m_44 (k : Nat) (v : Tag × (List ByteArray) × Unit) : Option (Bool × Tag × Unit) :=
 m_44l2 k (v.2.1, (↑v.2.1.length : Int), (0 : Int), v.1, Tag.mk (0 : Int) (0 : Int) (ByteArray.mk #[]) [] [], ()) >>= fun x1 => match x1 with
  | .inl y1 => some y1
  | .inr y1 => some ((true, y1.1, ()))
theorem m_44_le (k : Nat) (v : Tag × (List ByteArray) × Unit) : Le (m_44 k v) (n_44 v) := by
 unfold m_44 n_44
 with_reducible repeat' first | exact Le.refl _ | exact Le.none _ | exact m_44l2_le _ _ | apply Le.bind | apply Le.ite | apply Le.both | (rintro (x | x) <;> dsimp only) | intro x
mutual
noncomputable def m_45l4 : Nat → (List Tag) × Int × Int × Tag × Tag × (List Tag) × Unit → Option ((Tag × Tag × (List Tag) × Unit))
 | 0, _ => none
 | k + 1, v =>
  if decide (v.2.2.1 < v.2.1) = true then
   if (0 : Int) ≤ v.2.2.1 then
    v.1[v.2.2.1.toNat]? >>= fun x1 =>
    m_45 k (x1, ()) >>= fun x2 =>
    if v.2.2.2.2.2.1.length + [x2.1].length ≤ (4294967296 : Nat) then
     m_45l4 k (v.1, v.2.1, i64.wrap (v.2.2.1 + (1 : Int)), v.2.2.2.1, v.2.2.2.2.1, v.2.2.2.2.2.1 ++ [x2.1], ())
    else none
   else none
  else some ((v.2.2.2.1, v.2.2.2.2.1, v.2.2.2.2.2.1, ()))
noncomputable def m_45 : Nat → Tag × Unit → Option (Tag × Unit)
 | 0, _ => none
 | k + 1, v =>
  n_75 (v.1.names, ()) >>= fun x1 =>
  m_45l4 k (v.1.parts, (↑v.1.parts.length : Int), (0 : Int), Tag.mk v.1.kind v.1.n v.1.text x1.1 v.1.parts, Tag.mk (0 : Int) (0 : Int) (ByteArray.mk #[]) [] [], [], ()) >>= fun x2 =>
  some ((Tag.mk x2.1.kind x2.1.n x2.1.text x2.1.names x2.2.2.1, ()))
end
theorem m_45l4_st (k : Nat) (h_45 : ∀ v, Le (m_45 k v) (n_45 v)) (h_45l4 : ∀ v, Le (m_45l4 k v) (n_45l4 v)) (v : (List Tag) × Int × Int × Tag × Tag × (List Tag) × Unit) : Le (m_45l4 (k + 1) v) (n_45l4 v) := by
 rw [m_45l4, n_45l4]
 with_reducible repeat' first | exact Le.refl _ | exact Le.none _ | exact h_45 _ | exact h_45l4 _ | apply Le.bind | apply Le.ite | apply Le.both | intro x
theorem m_45_st (k : Nat) (h_45l4 : ∀ v, Le (m_45l4 k v) (n_45l4 v)) (v : Tag × Unit) : Le (m_45 (k + 1) v) (n_45 v) := by
 rw [m_45, n_45]
 with_reducible repeat' first | exact Le.refl _ | exact Le.none _ | exact h_45l4 _ | apply Le.bind | apply Le.ite | apply Le.both | intro x
theorem m_45l4_all : ∀ k, (∀ v, Le (m_45l4 k v) (n_45l4 v)) ∧ (∀ v, Le (m_45 k v) (n_45 v))
 | 0 => ⟨fun _ => Le.none _, fun _ => Le.none _⟩
 | k + 1 => by
  have h := m_45l4_all k
  exact ⟨m_45l4_st k (h.2) (h.1), m_45_st k (h.1)⟩
theorem m_45_le (k : Nat) (v : Tag × Unit) : Le (m_45 k v) (n_45 v) := have h := m_45l4_all k; h.2 v
noncomputable def m_16 (k : Nat) (v : Tag × (List ByteArray) × Unit) : Option (Bool × Int × Tag × Unit) :=
 m_29 k (v.1, ()) >>= fun x1 =>
 if (x1.1 != (0 : Int)) = true then
  some ((false, x1.1, Tag.mk (0 : Int) (0 : Int) (ByteArray.mk #[]) [] [], ()))
 else m_44 k (v.1, v.2.1, ()) >>= fun x2 =>
 m_45 k (x2.2.1, ()) >>= fun x3 =>
 some ((x2.1, (0 : Int), x3.1, ()))
theorem m_16_le (k : Nat) (v : Tag × (List ByteArray) × Unit) : Le (m_16 k v) (n_16 v) := by
 unfold m_16 n_16
 with_reducible repeat' first | exact Le.refl _ | exact Le.none _ | exact m_29_le _ _ | exact m_44_le _ _ | exact m_45_le _ _ | apply Le.bind | apply Le.ite | apply Le.both | intro x
noncomputable def m_97s5bd0 (k : Nat) (v : ByteArray × Reader × Unit) : Option (Bool × Reader × Unit) :=
 (if (v.2.1.at0 == (↑v.2.1.s.size : Int)) = true then
    some ((true, v.2.1, ()))
   else if (0 : Int) ≤ v.2.1.at0 ∧ v.2.1.at0 ≤ i64.wrap (v.2.1.at0 + (1 : Int)) ∧ i64.wrap (v.2.1.at0 + (1 : Int)) ≤ (↑v.2.1.s.size : Int) then
    n_122 (v.1, v.2.1.s.extract v.2.1.at0.toNat (i64.wrap (v.2.1.at0 + (1 : Int))).toNat, ()) >>= fun x1 =>
    some ((!x1.1, v.2.1, ()))
   else none) >>= fun x1 =>
 if x1.1 = true then
  some ((false, x1.2.1, ()))
 else some ((true, Reader.mk x1.2.1.s (i64.wrap (x1.2.1.at0 + (1 : Int))), ()))
theorem m_97s5bd0_le (k : Nat) (v : ByteArray × Reader × Unit) : Le (m_97s5bd0 k v) (n_97s5bd0 v) := by
 unfold m_97s5bd0 n_97s5bd0
 with_reducible repeat' first | exact Le.refl _ | exact Le.none _ | apply Le.bind | apply Le.ite | apply Le.both | intro x
noncomputable def m_66s0e1dl0 : Nat → Reader × Unit → Option ((Reader × Unit))
 | 0, _ => none
 | k + 1, v =>
  m_97s5bd0 k (ByteArray.mk #[32, 10, 9, 13], v.1, ()) >>= fun x1 =>
  if x1.1 = true then
   m_66s0e1dl0 k (x1.2.1, ())
  else some ((x1.2.1, ()))
theorem m_66s0e1dl0_le : ∀ k v, Le (m_66s0e1dl0 k v) (n_66s0e1dl0 v)
 | 0, _ => Le.none _
 | k + 1, v => by
  rw [m_66s0e1dl0, n_66s0e1dl0]
  with_reducible repeat' first | exact Le.refl _ | exact Le.none _ | exact m_97s5bd0_le _ _ | exact m_66s0e1dl0_le _ _ | apply Le.bind | apply Le.ite | apply Le.both | intro x
noncomputable def m_66s0e1d (k : Nat) (v : Reader × Unit) : Option (Reader × Unit) :=
 m_66s0e1dl0 k (v.1, ()) >>= fun x1 =>
 some ((x1.1, ()))
theorem m_66s0e1d_le (k : Nat) (v : Reader × Unit) : Le (m_66s0e1d k v) (n_66s0e1d v) := by
 unfold m_66s0e1d n_66s0e1d
 with_reducible repeat' first | exact Le.refl _ | exact Le.none _ | exact m_66s0e1dl0_le _ _ | apply Le.bind | apply Le.ite | apply Le.both | intro x
noncomputable def m_92s5bd0l2 : Nat → ByteArray × Int × Int × Reader × Unit → Option (((Bool × Reader × Unit) ⊕ (Reader × Unit)))
 | 0, _ => none
 | k + 1, v =>
  if decide (v.2.2.1 < v.2.1) = true then
   if (0 : Int) ≤ v.2.2.1 ∧ v.2.2.1 ≤ i64.wrap (v.2.2.1 + (1 : Int)) ∧ i64.wrap (v.2.2.1 + (1 : Int)) ≤ (↑v.1.size : Int) then
    m_97s5bd0 k (v.1.extract v.2.2.1.toNat (i64.wrap (v.2.2.1 + (1 : Int))).toNat, v.2.2.2.1, ()) >>= fun x1 =>
    if (!x1.1) = true then
     some (Sum.inl (false, x1.2.1, ()))
    else m_92s5bd0l2 k (v.1, v.2.1, i64.wrap (v.2.2.1 + (1 : Int)), x1.2.1, ())
   else none
  else some (Sum.inr (v.2.2.2.1, ()))
theorem m_92s5bd0l2_le : ∀ k v, Le (m_92s5bd0l2 k v) (n_92s5bd0l2 v)
 | 0, _ => Le.none _
 | k + 1, v => by
  rw [m_92s5bd0l2, n_92s5bd0l2]
  with_reducible repeat' first | exact Le.refl _ | exact Le.none _ | exact m_97s5bd0_le _ _ | exact m_92s5bd0l2_le _ _ | apply Le.bind | apply Le.ite | apply Le.both | intro x
noncomputable def m_92s5bd0 (k : Nat) (v : ByteArray × Reader × Unit) : Option (Bool × Reader × Unit) :=
 m_92s5bd0l2 k (v.1, (↑v.1.size : Int), (0 : Int), v.2.1, ()) >>= fun x1 => match x1 with
  | .inl y1 => some y1
  | .inr y1 => some ((true, y1.1, ()))
theorem m_92s5bd0_le (k : Nat) (v : ByteArray × Reader × Unit) : Le (m_92s5bd0 k v) (n_92s5bd0 v) := by
 unfold m_92s5bd0 n_92s5bd0
 with_reducible repeat' first | exact Le.refl _ | exact Le.none _ | exact m_92s5bd0l2_le _ _ | apply Le.bind | apply Le.ite | apply Le.both | (rintro (x | x) <;> dsimp only) | intro x
noncomputable def m_93s0e1dl6 : Nat → Bool × Int × Reader × Tag × Unit → Option ((Bool × Int × Reader × Tag × Unit))
 | 0, _ => none
 | k + 1, v =>
  (n_91s0e1d (v.2.2.1, ()) >>= fun x1 =>
    if decide (x1.1 ≥ (48 : Int)) = true then
     n_91s0e1d (x1.2.1, ()) >>= fun x2 =>
     some ((v.1, v.2.1, decide (x2.1 ≤ (57 : Int)), x2.2.1, v.2.2.2.1, ()))
    else some ((v.1, v.2.1, false, x1.2.1, v.2.2.2.1, ()))) >>= fun x1 =>
  if x1.2.2.1 = true then
   n_91s0e1d (x1.2.2.2.1, ()) >>= fun x2 =>
   m_93s0e1dl6 k (x1.1, min (i64.wrap (i64.wrap ((10 : Int) * x1.2.1) + i64.wrap (u8.wrap (x2.1 - (48 : Int))))) (576460752303423488 : Int), Reader.mk x2.2.1.s (i64.wrap (x2.2.1.at0 + (1 : Int))), x1.2.2.2.2.1, ())
  else some ((x1.1, x1.2.1, x1.2.2.2.1, x1.2.2.2.2.1, ()))
theorem m_93s0e1dl6_le : ∀ k v, Le (m_93s0e1dl6 k v) (n_93s0e1dl6 v)
 | 0, _ => Le.none _
 | k + 1, v => by
  rw [m_93s0e1dl6, n_93s0e1dl6]
  with_reducible repeat' first | exact Le.refl _ | exact Le.none _ | exact m_93s0e1dl6_le _ _ | apply Le.bind | apply Le.ite | apply Le.both | intro x
noncomputable def m_93s0e1d (k : Nat) (v : Reader × Unit) : Option (Bool × Reader × Tag × Unit) :=
 m_97s5bd0 k (ByteArray.mk #[45], v.1, ()) >>= fun x1 =>
 (m_97s5bd0 k (ByteArray.mk #[48], x1.2.1, ()) >>= fun x2 =>
   if x2.1 = true then
    some (Sum.inl (x1.1, (0 : Int), x2.2.1, Tag.mk (0 : Int) (0 : Int) (ByteArray.mk #[]) [] [], ()))
   else (n_91s0e1d (x2.2.1, ()) >>= fun x3 =>
    if decide (x3.1 ≥ (49 : Int)) = true then
     n_91s0e1d (x3.2.1, ()) >>= fun x4 =>
     some ((x1.1, (0 : Int), decide (x4.1 ≤ (57 : Int)), x4.2.1, Tag.mk (0 : Int) (0 : Int) (ByteArray.mk #[]) [] [], ()))
    else some ((x1.1, (0 : Int), false, x3.2.1, Tag.mk (0 : Int) (0 : Int) (ByteArray.mk #[]) [] [], ()))) >>= fun x3 =>
   if x3.2.2.1 = true then
    m_93s0e1dl6 k (x3.1, x3.2.1, x3.2.2.2.1, x3.2.2.2.2.1, ()) >>= fun x4 =>
    some (Sum.inl (x4.1, x4.2.1, x4.2.2.1, x4.2.2.2.1, ()))
   else some (Sum.inr (false, x3.2.2.2.1, Tag.mk (0 : Int) (0 : Int) (ByteArray.mk #[]) [] [], ()))) >>= fun x2 => match x2 with
   | .inl y2 => (if y2.1 = true then
      some ((i64.wrap ((0 : Int) - y2.2.1), y2.2.2.1, y2.2.2.2.1, ()))
     else some ((y2.2.1, y2.2.2.1, y2.2.2.2.1, ()))) >>= fun x3 =>
    some ((true, x3.2.1, Tag.mk (3 : Int) x3.1 (ByteArray.mk #[]) [] [], ()))
   | .inr y2 => some y2
theorem m_93s0e1d_le (k : Nat) (v : Reader × Unit) : Le (m_93s0e1d k v) (n_93s0e1d v) := by
 unfold m_93s0e1d n_93s0e1d
 with_reducible repeat' first | exact Le.refl _ | exact Le.none _ | exact m_93s0e1dl6_le _ _ | exact m_97s5bd0_le _ _ | apply Le.bind | apply Le.ite | apply Le.both | (rintro (x | x) <;> dsimp only) | intro x
noncomputable def m_113s555c (k : Nat) (v : ByteArray × Bool × (List Int) × Unit) : Option (Int × Bool × (List Int) × Unit) :=
 n_145s143f (v.2.1, v.2.2.1, ()) >>= fun x1 =>
 if x1.2.1.length + v.1.size ≤ (4294967296 : Nat) then
  some (((↑v.1.size : Int), x1.1, x1.2.1 ++ Bs.ints v.1, ()))
 else none
theorem m_113s555c_le (k : Nat) (v : ByteArray × Bool × (List Int) × Unit) : Le (m_113s555c k v) (n_113s555c v) := by
 unfold m_113s555c n_113s555c
 with_reducible repeat' first | exact Le.refl _ | exact Le.none _ | apply Le.bind | apply Le.ite | apply Le.both | intro x
noncomputable def m_147 (k : Nat) (v : ByteArray × Int × Unit) : Option (Int × Unit) :=
 n_171 (v.1, v.2.1, ()) >>= fun x1 =>
 some ((x1.1, ()))
theorem m_147_le (k : Nat) (v : ByteArray × Int × Unit) : Le (m_147 k v) (n_147 v) := by
 unfold m_147 n_147
 with_reducible repeat' first | exact Le.refl _ | exact Le.none _ | apply Le.bind | apply Le.ite | apply Le.both | intro x
noncomputable def m_150sadb0l11 : Nat → Int × (List Int) × Int × Int × Reader × Unit → Option ((Int × Reader × Unit))
 | 0, _ => none
 | k + 1, v =>
  if decide (v.2.2.2.1 < v.2.2.1) = true then
   if (0 : Int) ≤ v.2.2.2.1 then
    v.2.1[v.2.2.2.1.toNat]? >>= fun x1 =>
    m_147 k (ByteArray.mk #[48, 49, 50, 51, 52, 53, 54, 55, 56, 57, 97, 98, 99, 100, 101, 102, 65, 66, 67, 68, 69, 70], x1, ()) >>= fun x2 =>
    m_150sadb0l11 k (i32.wrap (i32.wrap ((16 : Int) * v.1) + i32.wrap x2.1), v.2.1, v.2.2.1, i64.wrap (v.2.2.2.1 + (1 : Int)), v.2.2.2.2.1, ())
   else none
  else some ((v.1, v.2.2.2.2.1, ()))
theorem m_150sadb0l11_le : ∀ k v, Le (m_150sadb0l11 k v) (n_150sadb0l11 v)
 | 0, _ => Le.none _
 | k + 1, v => by
  rw [m_150sadb0l11, n_150sadb0l11]
  with_reducible repeat' first | exact Le.refl _ | exact Le.none _ | exact m_147_le _ _ | exact m_150sadb0l11_le _ _ | apply Le.bind | apply Le.ite | apply Le.both | intro x
noncomputable def m_150sadb0 (k : Nat) (v : ByteArray × ByteArray × Reader × Unit) : Option (Int × Bool × Reader × Unit) :=
 (m_97s5bd0 k (v.1, v.2.2.1, ()) >>= fun x1 =>
   if x1.1 = true then
    some (Sum.inl (v.2.2.1.at0, ByteArray.mk #[48, 49, 50, 51, 52, 53, 54, 55, 56, 57, 97, 98, 99, 100, 101, 102, 65, 66, 67, 68, 69, 70], x1.2.1, ()))
   else m_97s5bd0 k (ByteArray.mk #[100, 68], x1.2.1, ()) >>= fun x2 =>
   if x2.1 = true then
    some (Sum.inl (v.2.2.1.at0, v.2.1, x2.2.1, ()))
   else some (Sum.inr ((0 : Int), false, x2.2.1, ()))) >>= fun x1 => match x1 with
   | .inl y1 => (m_97s5bd0 k (y1.2.1, y1.2.2.1, ()) >>= fun x2 =>
     if (!x2.1) = true then
      some ((y1.1, true, x2.2.1, ()))
     else m_97s5bd0 k (ByteArray.mk #[48, 49, 50, 51, 52, 53, 54, 55, 56, 57, 97, 98, 99, 100, 101, 102, 65, 66, 67, 68, 69, 70], x2.2.1, ()) >>= fun x3 =>
     if (!x3.1) = true then
      some ((y1.1, true, x3.2.1, ()))
     else m_97s5bd0 k (ByteArray.mk #[48, 49, 50, 51, 52, 53, 54, 55, 56, 57, 97, 98, 99, 100, 101, 102, 65, 66, 67, 68, 69, 70], x3.2.1, ()) >>= fun x4 =>
     some ((y1.1, !x4.1, x4.2.1, ()))) >>= fun x2 =>
    if x2.2.1 = true then
     some (((0 : Int), false, x2.2.2.1, ()))
    else if (0 : Int) ≤ x2.1 ∧ x2.1 ≤ x2.2.2.1.at0 ∧ x2.2.2.1.at0 ≤ (↑x2.2.2.1.s.size : Int) then
     n_173 (x2.2.2.1.s.extract x2.1.toNat x2.2.2.1.at0.toNat, ()) >>= fun x3 =>
     m_150sadb0l11 k ((0 : Int), Bs.ints x3.1, (↑(Bs.ints x3.1).length : Int), (0 : Int), x2.2.2.1, ()) >>= fun x4 =>
     some ((x4.1, true, x4.2.1, ()))
    else none
   | .inr y1 => some y1
theorem m_150sadb0_le (k : Nat) (v : ByteArray × ByteArray × Reader × Unit) : Le (m_150sadb0 k v) (n_150sadb0 v) := by
 unfold m_150sadb0 n_150sadb0
 with_reducible repeat' first | exact Le.refl _ | exact Le.none _ | exact m_150sadb0l11_le _ _ | exact m_97s5bd0_le _ _ | apply Le.bind | apply Le.ite | apply Le.both | (rintro (x | x) <;> dsimp only) | intro x
noncomputable def m_119s0e1d (k : Nat) (v : Reader × Unit) : Option (Int × Bool × Reader × Unit) :=
 n_91s0e1d (v.1, ()) >>= fun x1 =>
 m_147 k (ByteArray.mk #[34, 92, 47, 98, 102, 110, 114, 116], x1.1, ()) >>= fun x2 =>
 (if decide (x1.2.1.at0 < (↑x1.2.1.s.size : Int)) = true then
    some ((x2.1, decide (x2.1 ≥ (0 : Int)), x1.2.1, ()))
   else some ((x2.1, false, x1.2.1, ()))) >>= fun x3 =>
 if x3.2.1 = true then
  if (0 : Int) ≤ x3.1 then
   (ByteArray.mk #[34, 92, 47, 8, 12, 10, 13, 9])[x3.1.toNat]? >>= fun x4 =>
   some ((i32.wrap (↑x4.toNat : Int), true, Reader.mk x3.2.2.1.s (i64.wrap (x3.2.2.1.at0 + (1 : Int))), ()))
  else none
 else m_97s5bd0 k (ByteArray.mk #[117], x3.2.2.1, ()) >>= fun x4 =>
 if (!x4.1) = true then
  some (((0 : Int), false, x4.2.1, ()))
 else m_150sadb0 k (ByteArray.mk #[48, 49, 50, 51, 52, 53, 54, 55, 56, 57, 97, 98, 99, 101, 102, 65, 66, 67, 69, 70], ByteArray.mk #[48, 49, 50, 51, 52, 53, 54, 55, 56, 57, 97, 98, 65, 66], x4.2.1, ()) >>= fun x5 =>
 (if (!x5.2.1) = true then
    some ((x5.1, x5.2.1, true, x5.2.2.1, ()))
   else if decide (x5.1 < (55296 : Int)) = true then
    some ((x5.1, x5.2.1, true, x5.2.2.1, ()))
   else some ((x5.1, x5.2.1, decide (x5.1 ≥ (56320 : Int)), x5.2.2.1, ()))) >>= fun x6 =>
 if x6.2.2.1 = true then
  some ((x6.1, x6.2.1, x6.2.2.2.1, ()))
 else m_92s5bd0 k (ByteArray.mk #[92, 117], x6.2.2.2.1, ()) >>= fun x7 =>
 if (!x7.1) = true then
  some (((0 : Int), false, x7.2.1, ()))
 else m_150sadb0 k (ByteArray.mk #[], ByteArray.mk #[99, 100, 101, 102, 67, 68, 69, 70], x7.2.1, ()) >>= fun x8 =>
 some ((i32.wrap (i32.wrap (i32.wrap ((65536 : Int) + Bs.ishl i32 (i32.wrap (x6.1 - (55296 : Int))) (10 : Int)) + x8.1) - (56320 : Int)), x8.2.1, x8.2.2.1, ()))
theorem m_119s0e1d_le (k : Nat) (v : Reader × Unit) : Le (m_119s0e1d k v) (n_119s0e1d v) := by
 unfold m_119s0e1d n_119s0e1d
 with_reducible repeat' first | exact Le.refl _ | exact Le.none _ | exact m_150sadb0_le _ _ | exact m_92s5bd0_le _ _ | exact m_147_le _ _ | exact m_97s5bd0_le _ _ | apply Le.bind | apply Le.ite | apply Le.both | intro x
noncomputable def m_151s43b2 (k : Nat) (v : Int × (List Int) × Unit) : Option ((List Int) × Unit) :=
 if decide (IntKind.u32.wrap v.1 ≤ (127 : Int)) = true then
  if v.2.1.length + [u8.wrap v.1].length ≤ (4294967296 : Nat) then
   some ((v.2.1 ++ [u8.wrap v.1], ()))
  else none
 else n_174s43b2 (v.1, v.2.1, ()) >>= fun x1 =>
 some ((x1.1, ()))
theorem m_151s43b2_le (k : Nat) (v : Int × (List Int) × Unit) : Le (m_151s43b2 k v) (n_151s43b2 v) := by
 unfold m_151s43b2 n_151s43b2
 with_reducible repeat' first | exact Le.refl _ | exact Le.none _ | apply Le.bind | apply Le.ite | apply Le.both | intro x
noncomputable def m_120s6702 (k : Nat) (v : Int × Bool × (List Int) × Unit) : Option (Int × Bool × (List Int) × Unit) :=
 n_145s143f (v.2.1, v.2.2.1, ()) >>= fun x1 =>
 m_151s43b2 k (v.1, x1.2.1, ()) >>= fun x2 =>
 some ((i64.wrap ((↑x2.1.length : Int) - (↑x1.2.1.length : Int)), x1.1, x2.1, ()))
theorem m_120s6702_le (k : Nat) (v : Int × Bool × (List Int) × Unit) : Le (m_120s6702 k v) (n_120s6702 v) := by
 unfold m_120s6702 n_120s6702
 with_reducible repeat' first | exact Le.refl _ | exact Le.none _ | exact m_151s43b2_le _ _ | apply Le.bind | apply Le.ite | apply Le.both | intro x
noncomputable def m_121s0e1dl22 : Nat → Int × Int × Int × Int × Reader × Unit → Option (((Bool × Reader × Unit) ⊕ (Reader × Unit)))
 | 0, _ => none
 | k + 1, v =>
  if decide (v.2.2.2.1 < v.2.2.1) = true then
   n_152s07d3 (v.1, v.2.1, v.2.2.2.2.1, ()) >>= fun x1 =>
   if (!x1.1) = true then
    some (Sum.inl (false, x1.2.1, ()))
   else m_121s0e1dl22 k ((128 : Int), (191 : Int), v.2.2.1, i64.wrap (v.2.2.2.1 + (1 : Int)), x1.2.1, ())
  else some (Sum.inr (v.2.2.2.2.1, ()))
theorem m_121s0e1dl22_le : ∀ k v, Le (m_121s0e1dl22 k v) (n_121s0e1dl22 v)
 | 0, _ => Le.none _
 | k + 1, v => by
  rw [m_121s0e1dl22, n_121s0e1dl22]
  with_reducible repeat' first | exact Le.refl _ | exact Le.none _ | exact m_121s0e1dl22_le _ _ | apply Le.bind | apply Le.ite | apply Le.both | intro x
noncomputable def m_121s0e1d (k : Nat) (v : Reader × Unit) : Option (Bool × Reader × Unit) :=
 if (0 : Int) ≤ v.1.at0 then
  v.1.s[v.1.at0.toNat]? >>= fun x1 =>
  (if decide ((↑x1.toNat : Int) < (128 : Int)) = true then
     some (Sum.inl ((↑x1.toNat : Int), (128 : Int), (191 : Int), (0 : Int), v.1, ()))
    else (if decide ((↑x1.toNat : Int) < (194 : Int)) = true then
      some (((↑x1.toNat : Int), (128 : Int), (191 : Int), true, v.1, ()))
     else some (((↑x1.toNat : Int), (128 : Int), (191 : Int), decide ((↑x1.toNat : Int) > (244 : Int)), v.1, ()))) >>= fun x2 =>
    if x2.2.2.2.1 = true then
     some (Sum.inr (false, x2.2.2.2.2.1, ()))
    else if decide (x2.1 < (224 : Int)) = true then
     some (Sum.inl (x2.1, x2.2.1, x2.2.2.1, (1 : Int), x2.2.2.2.2.1, ()))
    else if decide (x2.1 < (240 : Int)) = true then
     some (Sum.inl (x2.1, x2.2.1, x2.2.2.1, (2 : Int), x2.2.2.2.2.1, ()))
    else some (Sum.inl (x2.1, x2.2.1, x2.2.2.1, (3 : Int), x2.2.2.2.2.1, ()))) >>= fun x2 => match x2 with
    | .inl y2 => (if (y2.1 == (224 : Int)) = true then
       some (((160 : Int), y2.2.2.1, y2.2.2.2.1, y2.2.2.2.2.1, ()))
      else if (y2.1 == (237 : Int)) = true then
       some ((y2.2.1, (159 : Int), y2.2.2.2.1, y2.2.2.2.2.1, ()))
      else if (y2.1 == (240 : Int)) = true then
       some (((144 : Int), y2.2.2.1, y2.2.2.2.1, y2.2.2.2.2.1, ()))
      else if (y2.1 == (244 : Int)) = true then
       some ((y2.2.1, (143 : Int), y2.2.2.2.1, y2.2.2.2.2.1, ()))
      else some ((y2.2.1, y2.2.2.1, y2.2.2.2.1, y2.2.2.2.2.1, ()))) >>= fun x3 =>
     m_121s0e1dl22 k (x3.1, x3.2.1, x3.2.2.1, (0 : Int), Reader.mk x3.2.2.2.1.s (i64.wrap (x3.2.2.2.1.at0 + (1 : Int))), ()) >>= fun x4 => match x4 with
      | .inl y4 => some y4
      | .inr y4 => some ((true, y4.1, ()))
    | .inr y2 => some y2
 else none
theorem m_121s0e1d_le (k : Nat) (v : Reader × Unit) : Le (m_121s0e1d k v) (n_121s0e1d v) := by
 unfold m_121s0e1d n_121s0e1d
 with_reducible repeat' first | exact Le.refl _ | exact Le.none _ | exact m_121s0e1dl22_le _ _ | apply Le.bind | apply Le.ite | apply Le.both | (rintro (x | x) <;> dsimp only) | intro x
noncomputable def m_94s0e1dl3 : Nat → Reader × Bool × (List Int) × Unit → Option ((ByteArray × Bool × Reader × Unit))
 | 0, _ => none
 | k + 1, v =>
  n_91s0e1d (v.1, ()) >>= fun x1 =>
  if (x1.1 == (34 : Int)) = true then
   n_83s143f (v.2.1, v.2.2.1, ()) >>= fun x2 =>
   some ((x2.1, true, Reader.mk x1.2.1.s (i64.wrap (x1.2.1.at0 + (1 : Int))), ()))
  else if decide (x1.1 < (32 : Int)) = true then
   some ((ByteArray.mk #[], false, x1.2.1, ()))
  else if (x1.1 == (92 : Int)) = true then
   m_119s0e1d k (Reader.mk x1.2.1.s (i64.wrap (x1.2.1.at0 + (1 : Int))), ()) >>= fun x2 =>
   if (!x2.2.1) = true then
    some ((ByteArray.mk #[], false, x2.2.2.1, ()))
   else m_120s6702 k (x2.1, v.2.1, v.2.2.1, ()) >>= fun x3 =>
   m_94s0e1dl3 k (x2.2.2.1, x3.2.1, x3.2.2.1, ())
  else m_121s0e1d k (x1.2.1, ()) >>= fun x2 =>
  if (!x2.1) = true then
   some ((ByteArray.mk #[], false, x2.2.1, ()))
  else if (0 : Int) ≤ x1.2.1.at0 ∧ x1.2.1.at0 ≤ x2.2.1.at0 ∧ x2.2.1.at0 ≤ (↑x2.2.1.s.size : Int) then
   m_113s555c k (x2.2.1.s.extract x1.2.1.at0.toNat x2.2.1.at0.toNat, v.2.1, v.2.2.1, ()) >>= fun x3 =>
   m_94s0e1dl3 k (x2.2.1, x3.2.1, x3.2.2.1, ())
  else none
theorem m_94s0e1dl3_le : ∀ k v, Le (m_94s0e1dl3 k v) (n_94s0e1dl3 v)
 | 0, _ => Le.none _
 | k + 1, v => by
  rw [m_94s0e1dl3, n_94s0e1dl3]
  with_reducible repeat' first | exact Le.refl _ | exact Le.none _ | exact m_119s0e1d_le _ _ | exact m_121s0e1d_le _ _ | exact m_120s6702_le _ _ | exact m_113s555c_le _ _ | exact m_94s0e1dl3_le _ _ | apply Le.bind | apply Le.ite | apply Le.both | intro x
noncomputable def m_94s0e1d (k : Nat) (v : Reader × Unit) : Option (ByteArray × Bool × Reader × Unit) :=
 some (v.1, false, [], ()) >>= fun x1 =>
 m_94s0e1dl3 k (Reader.mk x1.1.s (i64.wrap (x1.1.at0 + (1 : Int))), x1.2.1, x1.2.2.1, ()) >>= fun x2 =>
 some x2
theorem m_94s0e1d_le (k : Nat) (v : Reader × Unit) : Le (m_94s0e1d k v) (n_94s0e1d v) := by
 unfold m_94s0e1d n_94s0e1d
 with_reducible repeat' first | exact Le.refl _ | exact Le.none _ | exact m_94s0e1dl3_le _ _ | apply Le.bind | apply Le.ite | apply Le.both | intro x
mutual
noncomputable def m_65s0e1d : Nat → Reader × Unit → Option (Bool × Reader × Tag × Unit)
 | 0, _ => none
 | k + 1, v =>
  m_66s0e1d k (v.1, ()) >>= fun x1 =>
  n_91s0e1d (x1.1, ()) >>= fun x2 =>
  if (x2.1 == (110 : Int)) = true then
   m_92s5bd0 k (ByteArray.mk #[110, 117, 108, 108], x2.2.1, ()) >>= fun x3 =>
   some ((x3.1, x3.2.1, Tag.mk (0 : Int) (0 : Int) (ByteArray.mk #[]) [] [], ()))
  else if (x2.1 == (102 : Int)) = true then
   m_92s5bd0 k (ByteArray.mk #[102, 97, 108, 115, 101], x2.2.1, ()) >>= fun x3 =>
   some ((x3.1, x3.2.1, Tag.mk (1 : Int) (0 : Int) (ByteArray.mk #[]) [] [], ()))
  else if (x2.1 == (116 : Int)) = true then
   m_92s5bd0 k (ByteArray.mk #[116, 114, 117, 101], x2.2.1, ()) >>= fun x3 =>
   some ((x3.1, x3.2.1, Tag.mk (2 : Int) (0 : Int) (ByteArray.mk #[]) [] [], ()))
  else (if (x2.1 == (45 : Int)) = true then
    some ((x2.1, true, x2.2.1, Tag.mk (0 : Int) (0 : Int) (ByteArray.mk #[]) [] [], ()))
   else if decide (x2.1 ≥ (48 : Int)) = true then
    some ((x2.1, decide (x2.1 ≤ (57 : Int)), x2.2.1, Tag.mk (0 : Int) (0 : Int) (ByteArray.mk #[]) [] [], ()))
   else some ((x2.1, false, x2.2.1, Tag.mk (0 : Int) (0 : Int) (ByteArray.mk #[]) [] [], ()))) >>= fun x3 =>
  if x3.2.1 = true then
   m_93s0e1d k (x3.2.2.1, ()) >>= fun x4 =>
   some ((x4.1, x4.2.1, x4.2.2.1, ()))
  else if (x3.1 == (34 : Int)) = true then
   m_94s0e1d k (x3.2.2.1, ()) >>= fun x4 =>
   some ((x4.2.1, x4.2.2.1, Tag.mk (4 : Int) (0 : Int) x4.1 [] [], ()))
  else if (x3.1 == (91 : Int)) = true then
   m_95s0e1d k (x3.2.2.1, ()) >>= fun x4 =>
   some ((x4.1, x4.2.1, x4.2.2.1, ()))
  else if (x3.1 == (123 : Int)) = true then
   m_96s0e1d k (x3.2.2.1, ()) >>= fun x4 =>
   some ((x4.1, x4.2.1, x4.2.2.1, ()))
  else some ((false, x3.2.2.1, Tag.mk (0 : Int) (0 : Int) (ByteArray.mk #[]) [] [], ()))
noncomputable def m_96s0e1d : Nat → Reader × Unit → Option (Bool × Reader × Tag × Unit)
 | 0, _ => none
 | k + 1, v =>
  some (v.1, Tag.mk (0 : Int) (0 : Int) (ByteArray.mk #[]) [] [], (6 : Int), (0 : Int), ByteArray.mk #[], [], [], ()) >>= fun x1 =>
  m_66s0e1d k (Reader.mk x1.1.s (i64.wrap (x1.1.at0 + (1 : Int))), ()) >>= fun x2 =>
  m_97s5bd0 k (ByteArray.mk #[125], x2.1, ()) >>= fun x3 =>
  if x3.1 = true then
   some ((true, x3.2.1, Tag.mk x1.2.2.1 x1.2.2.2.1 x1.2.2.2.2.1 x1.2.2.2.2.2.1 x1.2.2.2.2.2.2.1, ()))
  else m_66s0e1d k (x3.2.1, ()) >>= fun x4 =>
  n_91s0e1d (x4.1, ()) >>= fun x5 =>
  if (x5.1 != (34 : Int)) = true then
   some ((false, x5.2.1, Tag.mk (0 : Int) (0 : Int) (ByteArray.mk #[]) [] [], ()))
  else m_94s0e1d k (x5.2.1, ()) >>= fun x6 =>
  if (!x6.2.1) = true then
   some ((false, x6.2.2.1, Tag.mk (0 : Int) (0 : Int) (ByteArray.mk #[]) [] [], ()))
  else m_66s0e1d k (x6.2.2.1, ()) >>= fun x7 =>
  m_97s5bd0 k (ByteArray.mk #[58], x7.1, ()) >>= fun x8 =>
  if (!x8.1) = true then
   some ((false, x8.2.1, Tag.mk (0 : Int) (0 : Int) (ByteArray.mk #[]) [] [], ()))
  else m_65s0e1d k (x8.2.1, ()) >>= fun x9 =>
  if (!x9.1) = true then
   some ((false, x9.2.1, Tag.mk (0 : Int) (0 : Int) (ByteArray.mk #[]) [] [], ()))
  else if x1.2.2.2.2.2.1.length + [x6.1].length ≤ (4294967296 : Nat) then
   if x1.2.2.2.2.2.2.1.length + [x9.2.2.1].length ≤ (4294967296 : Nat) then
    m_66s0e1d k (x9.2.1, ()) >>= fun x10 =>
    m_97s5bd0 k (ByteArray.mk #[44], x10.1, ()) >>= fun x11 =>
    if x11.1 = true then
     m_96s0e1dg1 k (x11.2.1, x1.2.1, x1.2.2.1, x1.2.2.2.1, x1.2.2.2.2.1, x1.2.2.2.2.2.1 ++ [x6.1], x1.2.2.2.2.2.2.1 ++ [x9.2.2.1], ()) >>= fun x12 =>
     some x12
    else m_97s5bd0 k (ByteArray.mk #[125], x11.2.1, ()) >>= fun x12 =>
    some ((x12.1, x12.2.1, Tag.mk x1.2.2.1 x1.2.2.2.1 x1.2.2.2.2.1 (x1.2.2.2.2.2.1 ++ [x6.1]) (x1.2.2.2.2.2.2.1 ++ [x9.2.2.1]), ()))
   else none
  else none
noncomputable def m_96s0e1dg1 : Nat → Reader × Tag × Int × Int × ByteArray × (List ByteArray) × (List Tag) × Unit → Option ((Bool × Reader × Tag × Unit))
 | 0, _ => none
 | k + 1, v =>
  m_66s0e1d k (v.1, ()) >>= fun x1 =>
  n_91s0e1d (x1.1, ()) >>= fun x2 =>
  if (x2.1 != (34 : Int)) = true then
   some ((false, x2.2.1, Tag.mk (0 : Int) (0 : Int) (ByteArray.mk #[]) [] [], ()))
  else m_94s0e1d k (x2.2.1, ()) >>= fun x3 =>
  if (!x3.2.1) = true then
   some ((false, x3.2.2.1, Tag.mk (0 : Int) (0 : Int) (ByteArray.mk #[]) [] [], ()))
  else m_66s0e1d k (x3.2.2.1, ()) >>= fun x4 =>
  m_97s5bd0 k (ByteArray.mk #[58], x4.1, ()) >>= fun x5 =>
  if (!x5.1) = true then
   some ((false, x5.2.1, Tag.mk (0 : Int) (0 : Int) (ByteArray.mk #[]) [] [], ()))
  else m_65s0e1d k (x5.2.1, ()) >>= fun x6 =>
  if (!x6.1) = true then
   some ((false, x6.2.1, Tag.mk (0 : Int) (0 : Int) (ByteArray.mk #[]) [] [], ()))
  else if v.2.2.2.2.2.1.length + [x3.1].length ≤ (4294967296 : Nat) then
   if v.2.2.2.2.2.2.1.length + [x6.2.2.1].length ≤ (4294967296 : Nat) then
    m_66s0e1d k (x6.2.1, ()) >>= fun x7 =>
    m_97s5bd0 k (ByteArray.mk #[44], x7.1, ()) >>= fun x8 =>
    if x8.1 = true then
     m_96s0e1dg1 k (x8.2.1, v.2.1, v.2.2.1, v.2.2.2.1, v.2.2.2.2.1, v.2.2.2.2.2.1 ++ [x3.1], v.2.2.2.2.2.2.1 ++ [x6.2.2.1], ())
    else m_97s5bd0 k (ByteArray.mk #[125], x8.2.1, ()) >>= fun x9 =>
    some ((x9.1, x9.2.1, Tag.mk v.2.2.1 v.2.2.2.1 v.2.2.2.2.1 (v.2.2.2.2.2.1 ++ [x3.1]) (v.2.2.2.2.2.2.1 ++ [x6.2.2.1]), ()))
   else none
  else none
noncomputable def m_95s0e1d : Nat → Reader × Unit → Option (Bool × Reader × Tag × Unit)
 | 0, _ => none
 | k + 1, v =>
  some (v.1, Tag.mk (0 : Int) (0 : Int) (ByteArray.mk #[]) [] [], (5 : Int), (0 : Int), ByteArray.mk #[], [], [], ()) >>= fun x1 =>
  m_66s0e1d k (Reader.mk x1.1.s (i64.wrap (x1.1.at0 + (1 : Int))), ()) >>= fun x2 =>
  m_97s5bd0 k (ByteArray.mk #[93], x2.1, ()) >>= fun x3 =>
  if x3.1 = true then
   some ((true, x3.2.1, Tag.mk x1.2.2.1 x1.2.2.2.1 x1.2.2.2.2.1 x1.2.2.2.2.2.1 x1.2.2.2.2.2.2.1, ()))
  else m_65s0e1d k (x3.2.1, ()) >>= fun x4 =>
  if (!x4.1) = true then
   some ((false, x4.2.1, Tag.mk (0 : Int) (0 : Int) (ByteArray.mk #[]) [] [], ()))
  else if x1.2.2.2.2.2.2.1.length + [x4.2.2.1].length ≤ (4294967296 : Nat) then
   m_66s0e1d k (x4.2.1, ()) >>= fun x5 =>
   m_97s5bd0 k (ByteArray.mk #[44], x5.1, ()) >>= fun x6 =>
   if x6.1 = true then
    m_95s0e1dg1 k (x6.2.1, x1.2.1, x1.2.2.1, x1.2.2.2.1, x1.2.2.2.2.1, x1.2.2.2.2.2.1, x1.2.2.2.2.2.2.1 ++ [x4.2.2.1], ()) >>= fun x7 =>
    some x7
   else m_97s5bd0 k (ByteArray.mk #[93], x6.2.1, ()) >>= fun x7 =>
   some ((x7.1, x7.2.1, Tag.mk x1.2.2.1 x1.2.2.2.1 x1.2.2.2.2.1 x1.2.2.2.2.2.1 (x1.2.2.2.2.2.2.1 ++ [x4.2.2.1]), ()))
  else none
noncomputable def m_95s0e1dg1 : Nat → Reader × Tag × Int × Int × ByteArray × (List ByteArray) × (List Tag) × Unit → Option ((Bool × Reader × Tag × Unit))
 | 0, _ => none
 | k + 1, v =>
  m_65s0e1d k (v.1, ()) >>= fun x1 =>
  if (!x1.1) = true then
   some ((false, x1.2.1, Tag.mk (0 : Int) (0 : Int) (ByteArray.mk #[]) [] [], ()))
  else if v.2.2.2.2.2.2.1.length + [x1.2.2.1].length ≤ (4294967296 : Nat) then
   m_66s0e1d k (x1.2.1, ()) >>= fun x2 =>
   m_97s5bd0 k (ByteArray.mk #[44], x2.1, ()) >>= fun x3 =>
   if x3.1 = true then
    m_95s0e1dg1 k (x3.2.1, v.2.1, v.2.2.1, v.2.2.2.1, v.2.2.2.2.1, v.2.2.2.2.2.1, v.2.2.2.2.2.2.1 ++ [x1.2.2.1], ())
   else m_97s5bd0 k (ByteArray.mk #[93], x3.2.1, ()) >>= fun x4 =>
   some ((x4.1, x4.2.1, Tag.mk v.2.2.1 v.2.2.2.1 v.2.2.2.2.1 v.2.2.2.2.2.1 (v.2.2.2.2.2.2.1 ++ [x1.2.2.1]), ()))
  else none
end
theorem m_65s0e1d_st (k : Nat) (h_95s0e1d : ∀ v, Le (m_95s0e1d k v) (n_95s0e1d v)) (h_96s0e1d : ∀ v, Le (m_96s0e1d k v) (n_96s0e1d v)) (v : Reader × Unit) : Le (m_65s0e1d (k + 1) v) (n_65s0e1d v) := by
 rw [m_65s0e1d, n_65s0e1d]
 with_reducible repeat' first | exact Le.refl _ | exact Le.none _ | exact m_66s0e1d_le _ _ | exact m_94s0e1d_le _ _ | exact m_92s5bd0_le _ _ | exact m_93s0e1d_le _ _ | exact h_95s0e1d _ | exact h_96s0e1d _ | apply Le.bind | apply Le.ite | apply Le.both | intro x
theorem m_96s0e1d_st (k : Nat) (h_65s0e1d : ∀ v, Le (m_65s0e1d k v) (n_65s0e1d v)) (h_96s0e1dg1 : ∀ v, Le (m_96s0e1dg1 k v) (n_96s0e1dg1 v)) (v : Reader × Unit) : Le (m_96s0e1d (k + 1) v) (n_96s0e1d v) := by
 rw [m_96s0e1d, n_96s0e1d]
 with_reducible repeat' first | exact Le.refl _ | exact Le.none _ | exact m_66s0e1d_le _ _ | exact m_94s0e1d_le _ _ | exact m_97s5bd0_le _ _ | exact h_65s0e1d _ | exact h_96s0e1dg1 _ | apply Le.bind | apply Le.ite | apply Le.both | intro x
theorem m_96s0e1dg1_st (k : Nat) (h_65s0e1d : ∀ v, Le (m_65s0e1d k v) (n_65s0e1d v)) (h_96s0e1dg1 : ∀ v, Le (m_96s0e1dg1 k v) (n_96s0e1dg1 v)) (v : Reader × Tag × Int × Int × ByteArray × (List ByteArray) × (List Tag) × Unit) : Le (m_96s0e1dg1 (k + 1) v) (n_96s0e1dg1 v) := by
 rw [m_96s0e1dg1, n_96s0e1dg1]
 with_reducible repeat' first | exact Le.refl _ | exact Le.none _ | exact m_66s0e1d_le _ _ | exact m_94s0e1d_le _ _ | exact m_97s5bd0_le _ _ | exact h_65s0e1d _ | exact h_96s0e1dg1 _ | apply Le.bind | apply Le.ite | apply Le.both | intro x
theorem m_95s0e1d_st (k : Nat) (h_65s0e1d : ∀ v, Le (m_65s0e1d k v) (n_65s0e1d v)) (h_95s0e1dg1 : ∀ v, Le (m_95s0e1dg1 k v) (n_95s0e1dg1 v)) (v : Reader × Unit) : Le (m_95s0e1d (k + 1) v) (n_95s0e1d v) := by
 rw [m_95s0e1d, n_95s0e1d]
 with_reducible repeat' first | exact Le.refl _ | exact Le.none _ | exact m_66s0e1d_le _ _ | exact m_97s5bd0_le _ _ | exact h_65s0e1d _ | exact h_95s0e1dg1 _ | apply Le.bind | apply Le.ite | apply Le.both | intro x
theorem m_95s0e1dg1_st (k : Nat) (h_65s0e1d : ∀ v, Le (m_65s0e1d k v) (n_65s0e1d v)) (h_95s0e1dg1 : ∀ v, Le (m_95s0e1dg1 k v) (n_95s0e1dg1 v)) (v : Reader × Tag × Int × Int × ByteArray × (List ByteArray) × (List Tag) × Unit) : Le (m_95s0e1dg1 (k + 1) v) (n_95s0e1dg1 v) := by
 rw [m_95s0e1dg1, n_95s0e1dg1]
 with_reducible repeat' first | exact Le.refl _ | exact Le.none _ | exact m_66s0e1d_le _ _ | exact m_97s5bd0_le _ _ | exact h_65s0e1d _ | exact h_95s0e1dg1 _ | apply Le.bind | apply Le.ite | apply Le.both | intro x
theorem m_65s0e1d_all : ∀ k, (∀ v, Le (m_65s0e1d k v) (n_65s0e1d v)) ∧ (∀ v, Le (m_96s0e1d k v) (n_96s0e1d v)) ∧ (∀ v, Le (m_96s0e1dg1 k v) (n_96s0e1dg1 v)) ∧ (∀ v, Le (m_95s0e1d k v) (n_95s0e1d v)) ∧ (∀ v, Le (m_95s0e1dg1 k v) (n_95s0e1dg1 v))
 | 0 => ⟨fun _ => Le.none _, fun _ => Le.none _, fun _ => Le.none _, fun _ => Le.none _, fun _ => Le.none _⟩
 | k + 1 => by
  have h := m_65s0e1d_all k
  exact ⟨m_65s0e1d_st k (h.2.2.2.1) (h.2.1), m_96s0e1d_st k (h.1) (h.2.2.1), m_96s0e1dg1_st k (h.1) (h.2.2.1), m_95s0e1d_st k (h.1) (h.2.2.2.2), m_95s0e1dg1_st k (h.1) (h.2.2.2.2)⟩
theorem m_65s0e1d_le (k : Nat) (v : Reader × Unit) : Le (m_65s0e1d k v) (n_65s0e1d v) := have h := m_65s0e1d_all k; h.1 v
noncomputable def m_31 (k : Nat) (v : ByteArray × Unit) : Option (Int × Int × Tag × Unit) :=
 if decide ((↑v.1.size : Int) > (65536 : Int)) = true then
  some (((0 : Int), (3 : Int), Tag.mk (0 : Int) (0 : Int) (ByteArray.mk #[]) [] [], ()))
 else m_65s0e1d k (Reader.mk v.1 (0 : Int), ()) >>= fun x1 =>
 (if x1.1 = true then
    m_66s0e1d k (x1.2.1, ()) >>= fun x2 =>
    some ((v.1, x1.1, Tag.mk (0 : Int) (0 : Int) (ByteArray.mk #[]) [] [], x2.1, x1.2.2.1, ()))
   else some ((v.1, x1.1, Tag.mk (0 : Int) (0 : Int) (ByteArray.mk #[]) [] [], x1.2.1, x1.2.2.1, ()))) >>= fun x2 =>
 (if (!x2.2.1) = true then
    some ((x2.1, true, x2.2.2.1, x2.2.2.2.1, x2.2.2.2.2.1, ()))
   else some ((x2.1, decide (x2.2.2.2.1.at0 < (↑x2.1.size : Int)), x2.2.2.1, x2.2.2.2.1, x2.2.2.2.2.1, ()))) >>= fun x3 =>
 if x3.2.1 = true then
  some ((x3.2.2.2.1.at0, (2 : Int), Tag.mk (0 : Int) (0 : Int) (ByteArray.mk #[]) [] [], ()))
 else m_29 k (x3.2.2.2.2.1, ()) >>= fun x4 =>
 if (x4.1 != (0 : Int)) = true then
  some (((0 : Int), x4.1, Tag.mk (0 : Int) (0 : Int) (ByteArray.mk #[]) [] [], ()))
 else some (((↑x3.1.size : Int), (0 : Int), x3.2.2.2.2.1, ()))
theorem m_31_le (k : Nat) (v : ByteArray × Unit) : Le (m_31 k v) (n_31 v) := by
 unfold m_31 n_31
 with_reducible repeat' first | exact Le.refl _ | exact Le.none _ | exact m_65s0e1d_le _ _ | exact m_66s0e1d_le _ _ | exact m_29_le _ _ | apply Le.bind | apply Le.ite | apply Le.both | intro x
noncomputable def m_15 (k : Nat) (v : Unit) : Option (Bool × Unit) :=
 m_31 k (ByteArray.mk #[123, 34, 97, 34, 58, 91, 49, 44, 50, 93, 125], ()) >>= fun x1 =>
 m_16 k (x1.2.2.1, [ByteArray.mk #[97], ByteArray.mk #[49]], ()) >>= fun x2 =>
 m_31 k (ByteArray.mk #[91, 49, 44, 93], ()) >>= fun x3 =>
 (if (x1.2.1 == (0 : Int)) = true then
    if (x1.1 == (11 : Int)) = true then
     if (x2.2.1 == (0 : Int)) = true then
      if x2.1 = true then
       if (x2.2.2.1.kind == (3 : Int)) = true then
        if (x2.2.2.1.n == (2 : Int)) = true then
         if (x3.2.1 == (2 : Int)) = true then
          some ((x3.1 == (3 : Int), ()))
         else some ((false, ()))
        else some ((false, ()))
       else some ((false, ()))
      else some ((false, ()))
     else some ((false, ()))
    else some ((false, ()))
   else some ((false, ()))) >>= fun x4 =>
 some ((x4.1, ()))
theorem m_15_le (k : Nat) (v : Unit) : Le (m_15 k v) (n_15 v) := by
 unfold m_15 n_15
 with_reducible repeat' first | exact Le.refl _ | exact Le.none _ | exact m_31_le _ _ | exact m_16_le _ _ | apply Le.bind | apply Le.ite | apply Le.both | intro x
noncomputable def m_179l10 : Nat → ByteArray × Int × Int × Bool × Unit → Option (((Bool × Unit) ⊕ (Int × Unit)))
 | 0, _ => none
 | k + 1, v =>
  if decide (v.2.2.1 < (↑v.1.size : Int)) = true then
   ((if (0 : Int) ≤ v.2.2.1 then
       v.1[v.2.2.1.toNat]? >>= fun x1 =>
       if decide ((48 : Int) ≤ (↑x1.toNat : Int)) = true then
        if (0 : Int) ≤ v.2.2.1 then
         v.1[v.2.2.1.toNat]? >>= fun x2 =>
         if decide ((↑x2.toNat : Int) ≤ (57 : Int)) = true then
          some ((v.1, v.2.1, v.2.2.1, v.2.2.2.1, true, ()))
         else if v.2.2.2.1 = true then
          if (0 : Int) ≤ v.2.2.1 then
           v.1[v.2.2.1.toNat]? >>= fun x3 =>
           n_178 ((↑x3.toNat : Int), ()) >>= fun x4 =>
           if decide ((97 : Int) ≤ x4.1) = true then
            if (0 : Int) ≤ v.2.2.1 then
             v.1[v.2.2.1.toNat]? >>= fun x5 =>
             n_178 ((↑x5.toNat : Int), ()) >>= fun x6 =>
             some ((v.1, v.2.1, v.2.2.1, v.2.2.2.1, decide (x6.1 ≤ (102 : Int)), ()))
            else none
           else some ((v.1, v.2.1, v.2.2.1, v.2.2.2.1, false, ()))
          else none
         else some ((v.1, v.2.1, v.2.2.1, v.2.2.2.1, false, ()))
        else none
       else if v.2.2.2.1 = true then
        if (0 : Int) ≤ v.2.2.1 then
         v.1[v.2.2.1.toNat]? >>= fun x2 =>
         n_178 ((↑x2.toNat : Int), ()) >>= fun x3 =>
         if decide ((97 : Int) ≤ x3.1) = true then
          if (0 : Int) ≤ v.2.2.1 then
           v.1[v.2.2.1.toNat]? >>= fun x4 =>
           n_178 ((↑x4.toNat : Int), ()) >>= fun x5 =>
           some ((v.1, v.2.1, v.2.2.1, v.2.2.2.1, decide (x5.1 ≤ (102 : Int)), ()))
          else none
         else some ((v.1, v.2.1, v.2.2.1, v.2.2.2.1, false, ()))
        else none
       else some ((v.1, v.2.1, v.2.2.1, v.2.2.2.1, false, ()))
      else none) >>= fun x1 =>
     if x1.2.2.2.2.1 = true then
      some (Sum.inl (x1.1, (48 : Int), x1.2.2.1, x1.2.2.2.1, ()))
     else if (0 : Int) ≤ x1.2.2.1 then
      x1.1[x1.2.2.1.toNat]? >>= fun x2 =>
      if ((↑x2.toNat : Int) == (95 : Int)) = true then
       if (x1.2.1 != (48 : Int)) = true then
        some (Sum.inr (false, ()))
       else some (Sum.inl (x1.1, (95 : Int), x1.2.2.1, x1.2.2.2.1, ()))
      else if (x1.2.1 == (95 : Int)) = true then
       some (Sum.inr (false, ()))
      else some (Sum.inl (x1.1, (33 : Int), x1.2.2.1, x1.2.2.2.1, ()))
     else none) >>= fun x1 => match x1 with
     | .inl y1 => m_179l10 k (y1.1, y1.2.1, i64.wrap (y1.2.2.1 + (1 : Int)), y1.2.2.2.1, ())
     | .inr y1 => some (Sum.inl y1)
  else some (Sum.inr (v.2.1, ()))
theorem m_179l10_le : ∀ k v, Le (m_179l10 k v) (n_179l10 v)
 | 0, _ => Le.none _
 | k + 1, v => by
  rw [m_179l10, n_179l10]
  with_reducible repeat' first | exact Le.refl _ | exact Le.none _ | exact m_179l10_le _ _ | apply Le.bind | apply Le.ite | apply Le.both | (rintro (x | x) <;> dsimp only) | intro x
noncomputable def m_179 (k : Nat) (v : ByteArray × Unit) : Option (Bool × Unit) :=
 ((if decide ((↑v.1.size : Int) ≥ (1 : Int)) = true then
     v.1[Int.toNat (0 : Int)]? >>= fun x1 =>
     if ((↑x1.toNat : Int) == (45 : Int)) = true then
      some ((v.1, (94 : Int), (0 : Int), true, ()))
     else v.1[Int.toNat (0 : Int)]? >>= fun x2 =>
     some ((v.1, (94 : Int), (0 : Int), (↑x2.toNat : Int) == (43 : Int), ()))
    else some ((v.1, (94 : Int), (0 : Int), false, ()))) >>= fun x1 =>
   if x1.2.2.2.1 = true then
    if (0 : Int) ≤ (1 : Int) ∧ (1 : Int) ≤ (↑x1.1.size : Int) ∧ (↑x1.1.size : Int) ≤ (↑x1.1.size : Int) then
     some ((x1.1.extract (Int.toNat (1 : Int)) (↑x1.1.size : Int).toNat, x1.2.1, x1.2.2.1, ()))
    else none
   else some ((x1.1, x1.2.1, x1.2.2.1, ()))) >>= fun x1 =>
 ((if decide ((↑x1.1.size : Int) ≥ (2 : Int)) = true then
     x1.1[Int.toNat (0 : Int)]? >>= fun x2 =>
     if ((↑x2.toNat : Int) == (48 : Int)) = true then
      x1.1[Int.toNat (1 : Int)]? >>= fun x3 =>
      n_178 ((↑x3.toNat : Int), ()) >>= fun x4 =>
      if (x4.1 == (98 : Int)) = true then
       some ((x1.1, x1.2.1, x1.2.2.1, false, true, ()))
      else x1.1[Int.toNat (1 : Int)]? >>= fun x5 =>
      n_178 ((↑x5.toNat : Int), ()) >>= fun x6 =>
      if (x6.1 == (111 : Int)) = true then
       some ((x1.1, x1.2.1, x1.2.2.1, false, true, ()))
      else x1.1[Int.toNat (1 : Int)]? >>= fun x7 =>
      n_178 ((↑x7.toNat : Int), ()) >>= fun x8 =>
      some ((x1.1, x1.2.1, x1.2.2.1, false, x8.1 == (120 : Int), ()))
     else some ((x1.1, x1.2.1, x1.2.2.1, false, false, ()))
    else some ((x1.1, x1.2.1, x1.2.2.1, false, false, ()))) >>= fun x2 =>
   if x2.2.2.2.2.1 = true then
    x2.1[Int.toNat (1 : Int)]? >>= fun x3 =>
    n_178 ((↑x3.toNat : Int), ()) >>= fun x4 =>
    some ((x2.1, (48 : Int), (2 : Int), x4.1 == (120 : Int), ()))
   else some ((x2.1, x2.2.1, x2.2.2.1, x2.2.2.2.1, ()))) >>= fun x2 =>
 m_179l10 k (x2.1, x2.2.1, x2.2.2.1, x2.2.2.2.1, ()) >>= fun x3 => match x3 with
  | .inl y3 => some y3
  | .inr y3 => some ((y3.1 != (95 : Int), ()))
theorem m_179_le (k : Nat) (v : ByteArray × Unit) : Le (m_179 k v) (n_179 v) := by
 unfold m_179 n_179
 with_reducible repeat' first | exact Le.refl _ | exact Le.none _ | exact m_179l10_le _ _ | apply Le.bind | apply Le.ite | apply Le.both | (rintro (x | x) <;> dsimp only) | intro x
noncomputable def m_163l36 : Nat → Int × Bool × ByteArray × Int × Int × Bool × Int × (List Int) × Int × Int × Unit → Option (((Int × Bool × Unit) ⊕ (ByteArray × Bool × Int × Unit)))
 | 0, _ => none
 | k + 1, v =>
  if decide (v.2.2.2.2.2.2.2.2.2.1 < v.2.2.2.2.2.2.2.2.1) = true then
   (if (0 : Int) ≤ v.2.2.2.2.2.2.2.2.2.1 then
      v.2.2.2.2.2.2.2.1[v.2.2.2.2.2.2.2.2.2.1.toNat]? >>= fun x1 =>
      ((if (x1 == (95 : Int)) = true then
          some ((v.1, v.2.1, v.2.2.1, v.2.2.2.1, v.2.2.2.2.1, v.2.2.2.2.2.1, v.2.2.2.2.2.2.1, x1, v.2.2.2.2.2.2.2.1, v.2.2.2.2.2.2.2.2.1, v.2.2.2.2.2.2.2.2.2.1, v.2.1, ()))
         else some ((v.1, v.2.1, v.2.2.1, v.2.2.2.1, v.2.2.2.2.1, v.2.2.2.2.2.1, v.2.2.2.2.2.2.1, x1, v.2.2.2.2.2.2.2.1, v.2.2.2.2.2.2.2.2.1, v.2.2.2.2.2.2.2.2.2.1, false, ()))) >>= fun x2 =>
        if x2.2.2.2.2.2.2.2.2.2.2.2.1 = true then
         some (Sum.inr (Sum.inr (x2.1, x2.2.1, x2.2.2.1, x2.2.2.2.1, x2.2.2.2.2.1, true, x2.2.2.2.2.2.2.1, x2.2.2.2.2.2.2.2.2.1, x2.2.2.2.2.2.2.2.2.2.1, x2.2.2.2.2.2.2.2.2.2.2.1, ())))
        else (if decide ((48 : Int) ≤ x2.2.2.2.2.2.2.2.1) = true then
          some ((x2.1, x2.2.1, x2.2.2.1, x2.2.2.2.1, x2.2.2.2.2.1, x2.2.2.2.2.2.1, x2.2.2.2.2.2.2.1, x2.2.2.2.2.2.2.2.1, x2.2.2.2.2.2.2.2.2.1, x2.2.2.2.2.2.2.2.2.2.1, x2.2.2.2.2.2.2.2.2.2.2.1, decide (x2.2.2.2.2.2.2.2.1 ≤ (57 : Int)), ()))
         else some ((x2.1, x2.2.1, x2.2.2.1, x2.2.2.2.1, x2.2.2.2.2.1, x2.2.2.2.2.2.1, x2.2.2.2.2.2.2.1, x2.2.2.2.2.2.2.2.1, x2.2.2.2.2.2.2.2.2.1, x2.2.2.2.2.2.2.2.2.2.1, x2.2.2.2.2.2.2.2.2.2.2.1, false, ()))) >>= fun x3 =>
        if x3.2.2.2.2.2.2.2.2.2.2.2.1 = true then
         some (Sum.inl (x3.1, x3.2.1, x3.2.2.1, x3.2.2.2.1, x3.2.2.2.2.1, x3.2.2.2.2.2.1, x3.2.2.2.2.2.2.1, u8.wrap (x3.2.2.2.2.2.2.2.1 - (48 : Int)), x3.2.2.2.2.2.2.2.2.1, x3.2.2.2.2.2.2.2.2.2.1, x3.2.2.2.2.2.2.2.2.2.2.1, ()))
        else (n_178 (x3.2.2.2.2.2.2.2.1, ()) >>= fun x4 =>
         if decide ((97 : Int) ≤ x4.1) = true then
          n_178 (x3.2.2.2.2.2.2.2.1, ()) >>= fun x5 =>
          some ((x3.1, x3.2.1, x3.2.2.1, x3.2.2.2.1, x3.2.2.2.2.1, x3.2.2.2.2.2.1, x3.2.2.2.2.2.2.1, x3.2.2.2.2.2.2.2.1, x3.2.2.2.2.2.2.2.2.1, x3.2.2.2.2.2.2.2.2.2.1, x3.2.2.2.2.2.2.2.2.2.2.1, decide (x5.1 ≤ (122 : Int)), ()))
         else some ((x3.1, x3.2.1, x3.2.2.1, x3.2.2.2.1, x3.2.2.2.2.1, x3.2.2.2.2.2.1, x3.2.2.2.2.2.2.1, x3.2.2.2.2.2.2.2.1, x3.2.2.2.2.2.2.2.2.1, x3.2.2.2.2.2.2.2.2.2.1, x3.2.2.2.2.2.2.2.2.2.2.1, false, ()))) >>= fun x4 =>
        if x4.2.2.2.2.2.2.2.2.2.2.2.1 = true then
         n_178 (x4.2.2.2.2.2.2.2.1, ()) >>= fun x5 =>
         some (Sum.inl (x4.1, x4.2.1, x4.2.2.1, x4.2.2.2.1, x4.2.2.2.2.1, x4.2.2.2.2.2.1, x4.2.2.2.2.2.2.1, u8.wrap (u8.wrap (x5.1 - (97 : Int)) + (10 : Int)), x4.2.2.2.2.2.2.2.2.1, x4.2.2.2.2.2.2.2.2.2.1, x4.2.2.2.2.2.2.2.2.2.2.1, ()))
        else some (Sum.inr (Sum.inl ((0 : Int), true, ())))) >>= fun x2 => match x2 with
        | .inl y2 => if decide (y2.2.2.2.2.2.2.2.1 ≥ u8.wrap y2.1) = true then
          some (Sum.inr ((0 : Int), true, ()))
         else if decide (y2.2.2.2.2.2.2.1 ≥ y2.2.2.2.1) = true then
          some (Sum.inr (y2.2.2.2.2.1, true, ()))
         else (if decide (u64.wrap (u64.wrap (y2.2.2.2.2.2.2.1 * u64.wrap y2.1) + u64.wrap y2.2.2.2.2.2.2.2.1) < u64.wrap (y2.2.2.2.2.2.2.1 * u64.wrap y2.1)) = true then
           some ((y2.1, y2.2.1, y2.2.2.1, y2.2.2.2.1, y2.2.2.2.2.1, y2.2.2.2.2.2.1, u64.wrap (u64.wrap (y2.2.2.2.2.2.2.1 * u64.wrap y2.1) + u64.wrap y2.2.2.2.2.2.2.2.1), y2.2.2.2.2.2.2.2.2.1, y2.2.2.2.2.2.2.2.2.2.1, y2.2.2.2.2.2.2.2.2.2.2.1, true, ()))
          else some ((y2.1, y2.2.1, y2.2.2.1, y2.2.2.2.1, y2.2.2.2.2.1, y2.2.2.2.2.2.1, u64.wrap (u64.wrap (y2.2.2.2.2.2.2.1 * u64.wrap y2.1) + u64.wrap y2.2.2.2.2.2.2.2.1), y2.2.2.2.2.2.2.2.2.1, y2.2.2.2.2.2.2.2.2.2.1, y2.2.2.2.2.2.2.2.2.2.2.1, decide (u64.wrap (u64.wrap (y2.2.2.2.2.2.2.1 * u64.wrap y2.1) + u64.wrap y2.2.2.2.2.2.2.2.1) > y2.2.2.2.2.1), ()))) >>= fun x3 =>
         if x3.2.2.2.2.2.2.2.2.2.2.1 = true then
          some (Sum.inr (x3.2.2.2.2.1, true, ()))
         else some (Sum.inl (x3.1, x3.2.1, x3.2.2.1, x3.2.2.2.1, x3.2.2.2.2.1, x3.2.2.2.2.2.1, x3.2.2.2.2.2.2.1, x3.2.2.2.2.2.2.2.1, x3.2.2.2.2.2.2.2.2.1, x3.2.2.2.2.2.2.2.2.2.1, ()))
        | .inr (.inl y2) => some (Sum.inr y2)
        | .inr (.inr y2) => some (Sum.inl (y2.1, y2.2.1, y2.2.2.1, y2.2.2.2.1, y2.2.2.2.2.1, y2.2.2.2.2.2.1, y2.2.2.2.2.2.2.1, y2.2.2.2.2.2.2.2.1, y2.2.2.2.2.2.2.2.2.1, y2.2.2.2.2.2.2.2.2.2.1, ()))
     else none) >>= fun x1 => match x1 with
     | .inl y1 => m_163l36 k (y1.1, y1.2.1, y1.2.2.1, y1.2.2.2.1, y1.2.2.2.2.1, y1.2.2.2.2.2.1, y1.2.2.2.2.2.2.1, y1.2.2.2.2.2.2.2.1, y1.2.2.2.2.2.2.2.2.1, i64.wrap (y1.2.2.2.2.2.2.2.2.2.1 + (1 : Int)), ())
     | .inr y1 => some (Sum.inl y1)
  else some (Sum.inr (v.2.2.1, v.2.2.2.2.2.1, v.2.2.2.2.2.2.1, ()))
theorem m_163l36_le : ∀ k v, Le (m_163l36 k v) (n_163l36 v)
 | 0, _ => Le.none _
 | k + 1, v => by
  rw [m_163l36, n_163l36]
  with_reducible repeat' first | exact Le.refl _ | exact Le.none _ | exact m_163l36_le _ _ | apply Le.bind | apply Le.ite | apply Le.both | (rintro (x | x | x) <;> dsimp only) | (rintro (x | x) <;> dsimp only) | intro x
noncomputable def m_163 (k : Nat) (v : ByteArray × Int × Int × Unit) : Option (Int × Bool × Unit) :=
 if (v.1.toList == (ByteArray.mk #[]).toList) = true then
  some (((0 : Int), true, ()))
 else ((if decide ((2 : Int) ≤ v.2.1) = true then
    some ((v.1, v.2.1, v.2.2.1, v.2.1 == (0 : Int), v.1, decide (v.2.1 ≤ (36 : Int)), ()))
   else some ((v.1, v.2.1, v.2.2.1, v.2.1 == (0 : Int), v.1, false, ()))) >>= fun x1 =>
  if x1.2.2.2.2.2.1 = true then
   some (Sum.inl (x1.1, x1.2.1, x1.2.2.1, x1.2.2.2.1, x1.2.2.2.2.1, ()))
  else if (x1.2.1 == (0 : Int)) = true then
   x1.1[Int.toNat (0 : Int)]? >>= fun x2 =>
   if ((↑x2.toNat : Int) == (48 : Int)) = true then
    (if decide ((↑x1.1.size : Int) ≥ (3 : Int)) = true then
       x1.1[Int.toNat (1 : Int)]? >>= fun x3 =>
       n_178 ((↑x3.toNat : Int), ()) >>= fun x4 =>
       some ((x1.1, x1.2.2.1, x1.2.2.2.1, x1.2.2.2.2.1, x4.1 == (98 : Int), ()))
      else some ((x1.1, x1.2.2.1, x1.2.2.2.1, x1.2.2.2.2.1, false, ()))) >>= fun x3 =>
    if x3.2.2.2.2.1 = true then
     if (0 : Int) ≤ (2 : Int) ∧ (2 : Int) ≤ (↑x3.1.size : Int) ∧ (↑x3.1.size : Int) ≤ (↑x3.1.size : Int) then
      some (Sum.inl (x3.1.extract (Int.toNat (2 : Int)) (↑x3.1.size : Int).toNat, (2 : Int), x3.2.1, x3.2.2.1, x3.2.2.2.1, ()))
     else none
    else (if decide ((↑x3.1.size : Int) ≥ (3 : Int)) = true then
      x3.1[Int.toNat (1 : Int)]? >>= fun x4 =>
      n_178 ((↑x4.toNat : Int), ()) >>= fun x5 =>
      some ((x3.1, x3.2.1, x3.2.2.1, x3.2.2.2.1, x5.1 == (111 : Int), ()))
     else some ((x3.1, x3.2.1, x3.2.2.1, x3.2.2.2.1, false, ()))) >>= fun x4 =>
    if x4.2.2.2.2.1 = true then
     if (0 : Int) ≤ (2 : Int) ∧ (2 : Int) ≤ (↑x4.1.size : Int) ∧ (↑x4.1.size : Int) ≤ (↑x4.1.size : Int) then
      some (Sum.inl (x4.1.extract (Int.toNat (2 : Int)) (↑x4.1.size : Int).toNat, (8 : Int), x4.2.1, x4.2.2.1, x4.2.2.2.1, ()))
     else none
    else (if decide ((↑x4.1.size : Int) ≥ (3 : Int)) = true then
      x4.1[Int.toNat (1 : Int)]? >>= fun x5 =>
      n_178 ((↑x5.toNat : Int), ()) >>= fun x6 =>
      some ((x4.1, x4.2.1, x4.2.2.1, x4.2.2.2.1, x6.1 == (120 : Int), ()))
     else some ((x4.1, x4.2.1, x4.2.2.1, x4.2.2.2.1, false, ()))) >>= fun x5 =>
    if x5.2.2.2.2.1 = true then
     if (0 : Int) ≤ (2 : Int) ∧ (2 : Int) ≤ (↑x5.1.size : Int) ∧ (↑x5.1.size : Int) ≤ (↑x5.1.size : Int) then
      some (Sum.inl (x5.1.extract (Int.toNat (2 : Int)) (↑x5.1.size : Int).toNat, (16 : Int), x5.2.1, x5.2.2.1, x5.2.2.2.1, ()))
     else none
    else if (0 : Int) ≤ (1 : Int) ∧ (1 : Int) ≤ (↑x5.1.size : Int) ∧ (↑x5.1.size : Int) ≤ (↑x5.1.size : Int) then
     some (Sum.inl (x5.1.extract (Int.toNat (1 : Int)) (↑x5.1.size : Int).toNat, (8 : Int), x5.2.1, x5.2.2.1, x5.2.2.2.1, ()))
    else none
   else some (Sum.inl (x1.1, (10 : Int), x1.2.2.1, x1.2.2.2.1, x1.2.2.2.2.1, ()))
  else some (Sum.inr ((0 : Int), true, ()))) >>= fun x1 => match x1 with
  | .inl y1 => (if (y1.2.2.1 == (0 : Int)) = true then
     some (Sum.inl (y1.1, y1.2.1, (64 : Int), y1.2.2.2.1, y1.2.2.2.2.1, ()))
    else (if decide (y1.2.2.1 < (0 : Int)) = true then
      some ((y1.1, y1.2.1, y1.2.2.1, y1.2.2.2.1, y1.2.2.2.2.1, true, ()))
     else some ((y1.1, y1.2.1, y1.2.2.1, y1.2.2.2.1, y1.2.2.2.2.1, decide (y1.2.2.1 > (64 : Int)), ()))) >>= fun x2 =>
    if x2.2.2.2.2.2.1 = true then
     some (Sum.inr ((0 : Int), true, ()))
    else some (Sum.inl (x2.1, x2.2.1, x2.2.2.1, x2.2.2.2.1, x2.2.2.2.2.1, ()))) >>= fun x2 => match x2 with
    | .inl y2 => (if (y2.2.1 == (10 : Int)) = true then
       some ((y2.1, y2.2.1, y2.2.2.1, y2.2.2.2.1, y2.2.2.2.2.1, (1844674407370955162 : Int), ()))
      else if (y2.2.1 == (16 : Int)) = true then
       some ((y2.1, y2.2.1, y2.2.2.1, y2.2.2.2.1, y2.2.2.2.2.1, (1152921504606846976 : Int), ()))
      else if u64.wrap y2.2.1 = (0 : Int) then
       none
      else some ((y2.1, y2.2.1, y2.2.2.1, y2.2.2.2.1, y2.2.2.2.2.1, u64.wrap (u64.wrap (Int.tdiv (18446744073709551615 : Int) (u64.wrap y2.2.1)) + (1 : Int)), ()))) >>= fun x3 =>
     if (0 : Int) ≤ u64.wrap x3.2.2.1 then
      m_163l36 k (x3.2.1, x3.2.2.2.1, x3.2.2.2.2.1, x3.2.2.2.2.2.1, u64.wrap (Bs.ishl u64 (1 : Int) (u64.wrap x3.2.2.1) - (1 : Int)), false, (0 : Int), Bs.ints x3.1, (↑(Bs.ints x3.1).length : Int), (0 : Int), ()) >>= fun x4 => match x4 with
       | .inl y4 => some y4
       | .inr y4 => (if y4.2.1 = true then
          m_179 k (y4.1, ()) >>= fun x5 =>
          some ((y4.2.2.1, !x5.1, ()))
         else some ((y4.2.2.1, false, ()))) >>= fun x5 =>
        if x5.2.1 = true then
         some (((0 : Int), true, ()))
        else some ((x5.1, false, ()))
     else none
    | .inr y2 => some y2
  | .inr y1 => some y1
theorem m_163_le (k : Nat) (v : ByteArray × Int × Int × Unit) : Le (m_163 k v) (n_163 v) := by
 unfold m_163 n_163
 with_reducible repeat' first | exact Le.refl _ | exact Le.none _ | exact m_163l36_le _ _ | exact m_179_le _ _ | apply Le.bind | apply Le.ite | apply Le.both | (rintro (x | x) <;> dsimp only) | intro x
noncomputable def m_176 (k : Nat) (v : ByteArray × Int × Int × Unit) : Option (Int × Unit) :=
 m_163 k (v.1, v.2.1, v.2.2.1, ()) >>= fun x1 =>
 if x1.2.1 = true then
  none
 else some ((x1.1, ()))
theorem m_176_le (k : Nat) (v : ByteArray × Int × Int × Unit) : Le (m_176 k v) (n_176 v) := by
 unfold m_176 n_176
 with_reducible repeat' first | exact Le.refl _ | exact Le.none _ | exact m_163_le _ _ | apply Le.bind | apply Le.ite | apply Le.both | intro x
end Go.Proofs.YtdmggfegkaiaiaaGreatDoor
end
section
namespace Go.Proofs.YtdmggfegkaiaiaaGreatDoor
open Go.Awp Go.Tx
open IntKind (i64)
set_option maxRecDepth 20000
abbrev mt : ByteArray := ByteArray.mk #[]
theorem number2 (s : ByteArray) (b : Bool) (z : Tag) (sg : Int) {k : Nat} (hk : In s k) (h0 : inr 49 57 s k = true) : ∃ k' r r', In s k' ∧ k < k' ∧ NE r r' ∧
  n_93s0e1dl6 (b, 0, Rd s k, z, ()) = some (b, r, Rd s k', z, ()) ∧ n_101sa2e4l9 (sg, hv s k - 48, Rr s (k + 1) false, ()) = some (sg, r', Rr s k' false, ()) := by
 obtain ⟨h1, h2⟩ := (inr_hv (by decide) s k).1 h0
 have hw : IntKind.u8.wrap (hv s k - 48) = hv s k - 48 := u8w (by omega) (by omega)
 have hw2 : i64.wrap (hv s k - 48) = hv s k - 48 := wrap64 (by omega) (by omega)
 have hw4 : min (i64.wrap (i64.wrap (10 * 0) + (hv s k - 48))) 576460752303423488 = hv s k - 48 := by
  rw [wrap64 (x := 10 * 0) (by omega) (by omega), wrap64 (by omega) (by omega)]; omega
 have hn : NE (hv s k - 48) (hv s k - 48) := ⟨by omega, by omega, by omega, by omega, Or.inl rfl⟩
 obtain ⟨k', r, r', a1, a2, a3, a4, a5⟩ := digitsl s b z sg _ (k + 1) _ _ (inr_in hk h0) rfl hn
 refine ⟨k', r, r', a1, by omega, a3, ?_, a5⟩
 rw [n_93s0e1dl6]
 have e1 : hv s k ≥ 48 := by omega
 simp only [t91 s hk, sW, e1, h2, wk hk, hw, hw2, hw4]
 exact a4
def NR (n m : Int) : Prop := n = m ∨ far n ∧ far m
theorem number {s : ByteArray} {k : Nat} (hk : In s k) : ∃ ok k' t r, In s k' ∧ k ≤ k' ∧ n_93s0e1d (Rd s k, ()) = some (ok, Rd s k', t, ()) ∧ n_101sa2e4 (Rr s k false, ()) = some (r, Rr s k' (!ok), ()) ∧
  (ok = true → k < k' ∧ ∃ n, t = Tag.mk 3 n mt [] [] ∧ NR n r) := by
 have main : ∀ (k : Nat) (hk : In s k) (b : Bool), ∃ ok k' t r, In s k' ∧ k ≤ k' ∧ (ok = true → k < k' ∧ ∃ n, t = Tag.mk 3 n mt [] [] ∧ NR n r) ∧
   ((n_97s5bd0 (ByteArray.mk #[48], Rd s k, ()) >>= fun x2 =>
  if x2.1 = true then
   some (Sum.inl (b, (0 : Int), x2.2.1, Tag.mk 0 0 (ByteArray.mk #[]) [] [], ()))
  else (n_91s0e1d (x2.2.1, ()) >>= fun x3 =>
   if decide (x3.1 ≥ 49) = true then
    n_91s0e1d (x3.2.1, ()) >>= fun x4 =>
    some ((b, (0 : Int), decide (x4.1 ≤ 57), x4.2.1, Tag.mk 0 0 (ByteArray.mk #[]) [] [], ()))
   else some ((b, 0, false, x3.2.1, Tag.mk 0 0 (ByteArray.mk #[]) [] [], ()))) >>= fun x3 =>
  if x3.2.2.1 = true then
   n_93s0e1dl6 (x3.1, x3.2.1, x3.2.2.2.1, x3.2.2.2.2.1, ()) >>= fun x4 =>
   some (Sum.inl (x4.1, x4.2.1, x4.2.2.1, x4.2.2.2.1, ()))
  else some (Sum.inr (false, x3.2.2.2.1, Tag.mk 0 0 (ByteArray.mk #[]) [] [], ()))) >>= fun x2 => match x2 with
  | .inl y2 => (if y2.1 = true then
     some ((i64.wrap (0 - y2.2.1), y2.2.2.1, y2.2.2.2.1, ()))
    else some ((y2.2.1, y2.2.2.1, y2.2.2.2.1, ()))) >>= fun x3 =>
   some ((true, x3.2.1, Tag.mk 3 x3.1 (ByteArray.mk #[]) [] [], ()))
  | .inr y2 => some y2) = some (ok, Rd s k', t, ()) ∧
   (n_98s5873 (ByteArray.mk #[48], Rr s k false, ()) >>= fun x2 =>
 if x2.1 = true then
  some ((0, Mandrelref20Reader.mk x2.2.1.s (i64.wrap (x2.2.1.at0 + 1)) x2.2.1.wrong, ()))
 else n_123s1978 (49, 57, x2.2.1, ()) >>= fun x3 =>
 n_101sa2e4l9 (if b = true then -1 else 1, i64.wrap (i64.wrap x3.1 - 48), x3.2.1, ()) >>= fun x4 =>
 some ((i64.wrap (x4.1 * x4.2.1), x4.2.2.1, ()))) = some (r, Rr s k' (!ok), ()) := by
  intro k hk b
  rcases Bool.eq_false_or_eq_true (hit (ByteArray.mk #[48]) s k) with h | h
  ·refine ⟨true, k + 1, Tag.mk 3 0 mt [] [], 0, hit_in hk h, by omega, fun _ => ⟨by omega, 0, rfl, Or.inl rfl⟩, ?_, ?_⟩
   ·simp only [t97 _ s hk, h, sW]
    cases b <;> rfl
   ·simp only [t98 (ByteArray.mk #[48]) s (by decide) hk, h, sW, wk hk]
    rfl
  ·simp only [t97 _ s hk, t98 (ByteArray.mk #[48]) s (by decide) hk, h, sW, t91 s hk, t123 _ _ s hk]
   rcases Bool.eq_false_or_eq_true (inr 49 57 s k) with h0 | h0
   ·obtain ⟨h1, h2⟩ := (inr_hv (by decide) s k).1 h0
    have hw : i64.wrap (i64.wrap (hv s k) - 48) = hv s k - 48 := by rw [wrap64 (x := hv s k) (by omega) (by omega), wrap64 (by omega) (by omega)]
    obtain ⟨k', r, r', a1, a2, ⟨a3, b1, b2, b3, b4⟩, a4, a5⟩ := number2 s b (Tag.mk 0 0 mt [] []) (if b = true then -1 else 1) hk h0
    have e1 : hv s k ≥ 49 := h1
    refine ⟨true, k', Tag.mk 3 (if b = true then i64.wrap (0 - r) else r) mt [] [], i64.wrap ((if b = true then -1 else 1) * r'), a1, by omega, fun _ => ⟨a2, _, rfl, ?_⟩, ?_, ?_⟩
    ·cases b with
     | true =>
      simp only [if_true]
      rw [wrap64 (by omega) (by omega), wrap64 (by omega) (by omega)]
      unfold NR far
      omega
     | false =>
      simp only [if_false, Bool.false_eq_true]
      rw [wrap64 (by omega) (by omega)]
      unfold NR far
      omega
    ·simp only [e1, h2, sW, a4]
     cases b <;> rfl
    ·simp only [h0, hw, sW, a5]
     rfl
   ·have hh := (inr_hvf (by decide) s k).1 h0
    have hw : i64.wrap (i64.wrap 0 - 48) = -48 := by decide
    refine ⟨false, k, Tag.mk 0 0 mt [] [], i64.wrap ((if b = true then -1 else 1) * (-48)), hk, Nat.le_refl _, (fun h => by cases h), ?_, ?_⟩
    ·by_cases h1 : hv s k ≥ 49
     ·have h2 : ¬ hv s k ≤ 57 := fun h => hh ⟨h1, h⟩
      simp only [h1, h2, sW]
     ·simp only [h1, sW]
    ·simp only [h0, hw, sW]
     rw [n_101sa2e4l9]
     simp only [sW, t100 _ _ s true hk, Bool.not_true, Bool.false_and]
     rfl
 unfold n_93s0e1d n_101sa2e4
 rcases Bool.eq_false_or_eq_true (hit (ByteArray.mk #[45]) s k) with h | h
 ·obtain ⟨ok, k', t, r, a1, a2, a3, a4, a5⟩ := main (k + 1) (hit_in hk h) true
  refine ⟨ok, k', t, r, a1, by omega, ?_, ?_, fun h => ⟨by have := (a3 h).1; omega, (a3 h).2⟩⟩
  ·simp only [t97 _ s hk, h, if_true, Option.bind_eq_bind, Option.bind_some] at a4 ⊢
   exact a4
  ·simp only [t98 (ByteArray.mk #[45]) s (by decide) hk, h, if_true, Option.bind_eq_bind, Option.bind_some, wk hk] at a5 ⊢
   exact a5
 ·obtain ⟨ok, k', t, r, a1, a2, a3, a4, a5⟩ := main k hk false
  refine ⟨ok, k', t, r, a1, a2, ?_, ?_, a3⟩
  ·simp only [t97 (ByteArray.mk #[45]) s hk, h, Bool.false_eq_true, if_false, Option.bind_eq_bind, Option.bind_some] at a4 ⊢
   exact a4
  ·simp only [t98 (ByteArray.mk #[45]) s (by decide) hk, h, Bool.false_eq_true, if_false, Option.bind_eq_bind, Option.bind_some] at a5 ⊢
   exact a5
end Go.Proofs.YtdmggfegkaiaiaaGreatDoor
end
section
namespace Go.Proofs.YtdmggfegkaiaiaaGreatDoor
open Go.Awp Go.Tx
open IntKind (i32)
set_option maxRecDepth 20000
abbrev allH : ByteArray := ByteArray.mk #[48, 49, 50, 51, 52, 53, 54, 55, 56, 57, 97, 98, 99, 100, 101, 102, 65, 66, 67, 68, 69, 70]
abbrev fstH : ByteArray := ByteArray.mk #[48, 49, 50, 51, 52, 53, 54, 55, 56, 57, 97, 98, 99, 101, 102, 65, 66, 67, 69, 70]
abbrev behH : ByteArray := ByteArray.mk #[48, 49, 50, 51, 52, 53, 54, 55, 56, 57, 97, 98, 65, 66]
abbrev lowH : ByteArray := ByteArray.mk #[99, 100, 101, 102, 67, 68, 69, 70]
abbrev dD : ByteArray := ByteArray.mk #[100, 68]
theorem all_bytes {P : UInt8 → Prop} [DecidablePred P] (h : (List.range 256).all (fun n => decide (P (UInt8.ofNat n))) = true) (c : UInt8) : P c := by
 have h1 := List.all_eq_true.1 h c.toNat (List.mem_range.2 c.toNat_lt)
 have h2 : UInt8.ofNat c.toNat = c := by simp
 rw [h2] at h1
 simpa using h1
def hexv (c : UInt8) : Int := Lib.indexByte allH.data.toList (Lib.lowerB c)
theorem hex_facts (c : UInt8) : allH.data.toList.contains c = true → 0 ≤ hexv c ∧ hexv c ≤ 15 ∧ c.toNat < 128 ∧ (hexv c = 13 ↔ dD.data.toList.contains c = true) ∧ fstH.data.toList.contains c = !dD.data.toList.contains c :=
 all_bytes (P := fun c => allH.data.toList.contains c = true → 0 ≤ hexv c ∧ hexv c ≤ 15 ∧ c.toNat < 128 ∧ (hexv c = 13 ↔ dD.data.toList.contains c = true) ∧ fstH.data.toList.contains c = !dD.data.toList.contains c) (by kernel_rfl) c
theorem sub_all (c : UInt8) : (fstH.data.toList.contains c = true → allH.data.toList.contains c = true) ∧ (behH.data.toList.contains c = true → allH.data.toList.contains c = true) ∧ (lowH.data.toList.contains c = true → allH.data.toList.contains c = true) ∧ (dD.data.toList.contains c = true → allH.data.toList.contains c = true) :=
 all_bytes (P := fun c => (fstH.data.toList.contains c = true → allH.data.toList.contains c = true) ∧ (behH.data.toList.contains c = true → allH.data.toList.contains c = true) ∧ (lowH.data.toList.contains c = true → allH.data.toList.contains c = true) ∧ (dD.data.toList.contains c = true → allH.data.toList.contains c = true)) (by kernel_rfl) c
theorem t176 (c : UInt8) (h : allH.data.toList.contains c = true) : n_176 (Bs.bytes [(c.toNat : Int)], 16, 8, ()) = some (hexv c, ()) := by
 have h2 : c ∈ allH.data.toList := by simpa using h
 simp only [allH, List.mem_cons, List.not_mem_nil, or_false] at h2
 rcases h2 with rfl | rfl | rfl | rfl | rfl | rfl | rfl | rfl | rfl | rfl | rfl | rfl | rfl | rfl | rfl | rfl | rfl | rfl | rfl | rfl | rfl | rfl <;> exact m_176_le 30 _ _ (by kernel_rfl)
def hx (s : ByteArray) (k : Nat) : Int := match s[k]? with | some c => hexv c | none => 0
theorem hit_get {b s : ByteArray} {k : Nat} (h : hit b s k = true) : ∃ c, s[k]? = some c ∧ b.data.toList.contains c = true := by
 unfold hit at h
 split at h
 ·rename_i c hc; exact ⟨c, hc, h⟩
 ·cases h
theorem t155 (b s : ByteArray) (hb : b.size ≤ 65536) (hin : ∀ c, b.data.toList.contains c = true → allH.data.toList.contains c = true) {k : Nat} (hk : In s k) :
  n_155s5873 (b, Rr s k false, ()) = some (if hit b s k = true then hx s k else 0, if hit b s k = true then Rr s (k + 1) false else Rr s k true, ()) := by
 unfold n_155s5873
 simp only [t98 b s hb hk, sW]
 rcases Bool.eq_false_or_eq_true (hit b s k) with h | h
 ·obtain ⟨c, hc, h1⟩ := hit_get h
  have h2 := hex_facts c (hin c h1)
  have e : hx s k = hexv c := by unfold hx; rw [hc]
  simp only [h, sW, Bool.not_true, hc, t176 c (hin c h1), wk hk, e, wrap64 (x := hexv c) (by omega) (by omega)]
 ·simp only [h, sW, Bool.not_false]
  rfl
theorem t155w (b s : ByteArray) (k : Nat) : n_155s5873 (b, Rr s k true, ()) = some (0, Rr s k true, ()) := by
 unfold n_155s5873
 simp only [t98w, sW, Bool.not_false]
 rfl
def fourT (second s : ByteArray) (k : Nat) : Int × Bool × Nat :=
 if hit second s (k + 1) = true then
  if hit allH s (k + 2) = true then
   if hit allH s (k + 3) = true then (4096 * hx s k + 256 * hx s (k + 1) + 16 * hx s (k + 2) + hx s (k + 3), true, k + 4)
   else (0, false, k + 3)
  else (0, false, k + 2)
 else (0, false, k + 1)
def four (first behind s : ByteArray) (k : Nat) : Int × Bool × Nat :=
 if (hit first s k || hit dD s k) = true then fourT (if hit first s k = true then allH else behind) s k else (0, false, k)
theorem w32 {x : Int} (h1 : -2147483648 ≤ x) (h2 : x ≤ 2147483647) : i32.wrap x = x := by
 unfold IntKind.wrap
 simp only [IntKind.bits, IntKind.signed, Bool.true_and]
 split <;> rename_i h <;> simp at h <;> omega
theorem t147 (b : ByteArray) (x : Int) : n_147 (b, x, ()) = some (Lib.indexByte b.data.toList x.toNat.toUInt8, ()) := by
 unfold n_147 n_171
 simp only [sW]
theorem step150 (acc : Int) (xs : List Int) (i : Nat) (r : Reader) (x : Int) (hx : xs[i]? = some x) (hn : xs.length ≤ 65536) :
  n_150sadb0l11 (acc, xs, (xs.length : Int), (i : Int), r, ()) = n_150sadb0l11 (i32.wrap (i32.wrap (16 * acc) + i32.wrap (Lib.indexByte allH.data.toList x.toNat.toUInt8)), xs, (xs.length : Int), ((i + 1 : Nat) : Int), r, ()) := by
 have hlt := (List.getElem?_eq_some_iff.1 hx).1
 rw [n_150sadb0l11]
 simp only [sW, hlt, hx, t147, wrap_succ hlt (by omega)]
theorem end150 (acc : Int) (xs : List Int) (r : Reader) : n_150sadb0l11 (acc, xs, (xs.length : Int), (xs.length : Int), r, ()) = some (acc, r, ()) := by
 rw [n_150sadb0l11]
 simp only [Int.lt_irrefl, decide_false, sW]
theorem ba_four {s : ByteArray} {k : Nat} {c0 c1 c2 c3 : UInt8} (h0 : s[k]? = some c0) (h1 : s[k + 1]? = some c1) (h2 : s[k + 2]? = some c2) (h3 : s[k + 3]? = some c3) : (s.extract k (k + 4)).data.toList = [c0, c1, c2, c3] := by
 rw [ba_get] at h0 h1 h2 h3
 obtain ⟨k0, h0⟩ := List.getElem?_eq_some_iff.1 h0
 obtain ⟨k1, h1⟩ := List.getElem?_eq_some_iff.1 h1
 obtain ⟨k2, h2⟩ := List.getElem?_eq_some_iff.1 h2
 obtain ⟨k3, h3⟩ := List.getElem?_eq_some_iff.1 h3
 rw [ba_extract, List.drop_take]
 have : k + 4 - k = 4 := by omega
 rw [this, List.drop_eq_getElem_cons k0, List.drop_eq_getElem_cons k1, List.drop_eq_getElem_cons k2, List.drop_eq_getElem_cons k3, h0, h1, h2, h3]
 rfl
theorem low_hex (c : UInt8) : Lib.indexByte allH.data.toList ((((Lib.lowerB c).toNat : Int)).toNat.toUInt8) = hexv c := by
 have : (((Lib.lowerB c).toNat : Int)).toNat.toUInt8 = Lib.lowerB c := by
  rw [Int.toNat_natCast]; simp
 rw [this]; rfl
theorem wrap_32 (a d : Int) (h1 : 0 ≤ a) (h2 : a ≤ 65536) (h3 : 0 ≤ d) (h4 : d ≤ 15) : i32.wrap (i32.wrap (16 * a) + i32.wrap d) = 16 * a + d := by
 rw [w32 (x := 16 * a) (by omega) (by omega), w32 (x := d) (by omega) (by omega), w32 (by omega) (by omega)]
theorem val150 (s : ByteArray) (k : Nat) (r : Reader) {c0 c1 c2 c3 : UInt8} (h0 : s[k]? = some c0) (h1 : s[k + 1]? = some c1) (h2 : s[k + 2]? = some c2) (h3 : s[k + 3]? = some c3)
  (g0 : allH.data.toList.contains c0 = true) (g1 : allH.data.toList.contains c1 = true) (g2 : allH.data.toList.contains c2 = true) (g3 : allH.data.toList.contains c3 = true) :
  (n_173 (s.extract k (k + 4), ()) >>= fun x3 => n_150sadb0l11 (0, Bs.ints x3.1, (↑(Bs.ints x3.1).length : Int), 0, r, ()) >>= fun x4 => some ((x4.1, true, x4.2.1, ()))) = some (4096 * hx s k + 256 * hx s (k + 1) + 16 * hx s (k + 2) + hx s (k + 3), true, r, ()) := by
 have e := ba_four h0 h1 h2 h3
 obtain ⟨a0, b0, l0, _⟩ := hex_facts c0 g0
 obtain ⟨a1, b1, l1, _⟩ := hex_facts c1 g1
 obtain ⟨a2, b2, l2, _⟩ := hex_facts c2 g2
 obtain ⟨a3, b3, l3, _⟩ := hex_facts c3 g3
 have sz : (s.extract k (k + 4)).size = 4 := by rw [← ba_size, e]; rfl
 have e173 : n_173 (s.extract k (k + 4), ()) = some (⟨(Lib.toLowerA [c0, c1, c2, c3]).toArray⟩, ()) := by
  unfold n_173
  rw [e, if_pos]
  exact ⟨by rw [sz]; decide, by simp [l0, l1, l2, l3]⟩
 have e2 : Bs.ints ⟨(Lib.toLowerA [c0, c1, c2, c3]).toArray⟩ = [((Lib.lowerB c0).toNat : Int), ((Lib.lowerB c1).toNat : Int), ((Lib.lowerB c2).toNat : Int), ((Lib.lowerB c3).toNat : Int)] := rfl
 have x0 : hx s k = hexv c0 := by unfold hx; rw [h0]
 have x1 : hx s (k + 1) = hexv c1 := by unfold hx; rw [h1]
 have x2 : hx s (k + 2) = hexv c2 := by unfold hx; rw [h2]
 have x3 : hx s (k + 3) = hexv c3 := by unfold hx; rw [h3]
 simp only [e173, sW, e2, x0, x1, x2, x3]
 have s0 := step150 0 [((Lib.lowerB c0).toNat : Int), ((Lib.lowerB c1).toNat : Int), ((Lib.lowerB c2).toNat : Int), ((Lib.lowerB c3).toNat : Int)] 0 r _ rfl (by simp)
 rw [low_hex, wrap_32 0 (hexv c0) (by omega) (by omega) (by omega) (by omega)] at s0
 have s1 := step150 (16 * 0 + hexv c0) [((Lib.lowerB c0).toNat : Int), ((Lib.lowerB c1).toNat : Int), ((Lib.lowerB c2).toNat : Int), ((Lib.lowerB c3).toNat : Int)] 1 r _ rfl (by simp)
 rw [low_hex, wrap_32 _ (hexv c1) (by omega) (by omega) (by omega) (by omega)] at s1
 have s2 := step150 (16 * (16 * 0 + hexv c0) + hexv c1) [((Lib.lowerB c0).toNat : Int), ((Lib.lowerB c1).toNat : Int), ((Lib.lowerB c2).toNat : Int), ((Lib.lowerB c3).toNat : Int)] 2 r _ rfl (by simp)
 rw [low_hex, wrap_32 _ (hexv c2) (by omega) (by omega) (by omega) (by omega)] at s2
 have s3 := step150 (16 * (16 * (16 * 0 + hexv c0) + hexv c1) + hexv c2) [((Lib.lowerB c0).toNat : Int), ((Lib.lowerB c1).toNat : Int), ((Lib.lowerB c2).toNat : Int), ((Lib.lowerB c3).toNat : Int)] 3 r _ rfl (by simp)
 rw [low_hex, wrap_32 _ (hexv c3) (by omega) (by omega) (by omega) (by omega)] at s3
 have s4 := end150 (16 * (16 * (16 * (16 * 0 + hexv c0) + hexv c1) + hexv c2) + hexv c3) [((Lib.lowerB c0).toNat : Int), ((Lib.lowerB c1).toNat : Int), ((Lib.lowerB c2).toNat : Int), ((Lib.lowerB c3).toNat : Int)] r
 have all := s0.trans (s1.trans (s2.trans (s3.trans s4)))
 simp only [Int.natCast_zero, Int.ofNat_eq_natCast, List.drop_zero] at all
 rw [all]
 simp only [sW]
 congr 2
 omega
end Go.Proofs.YtdmggfegkaiaiaaGreatDoor
end
section
namespace Go.Proofs.YtdmggfegkaiaiaaGreatDoor
open Go.Awp Go.Tx
open IntKind (i64)
set_option maxRecDepth 20000
theorem fourT_in (second : ByteArray) {s : ByteArray} {k : Nat} (hk : In s (k + 1)) : In s (fourT second s k).2.2 ∧ k ≤ (fourT second s k).2.2 := by
 unfold fourT
 split
 ·rename_i h1
  have h2 := hit_in hk h1
  split
  ·rename_i h3
   have h4 := hit_in h2 h3
   split
   ·rename_i h5; exact ⟨hit_in h4 h5, by dsimp only; omega⟩
   ·exact ⟨h4, by dsimp only; omega⟩
  ·exact ⟨h2, by dsimp only; omega⟩
 ·exact ⟨hk, by dsimp only; omega⟩
theorem four_in (first behind : ByteArray) {s : ByteArray} {k : Nat} (hk : In s k) : In s (four first behind s k).2.2 ∧ k ≤ (four first behind s k).2.2 := by
 unfold four
 rcases Bool.eq_false_or_eq_true (hit first s k || hit dD s k) with h | h
 ·rw [if_pos h]
  have h0 : In s (k + 1) := by
   rcases Bool.eq_false_or_eq_true (hit first s k) with g | g
   ·exact hit_in hk g
   ·rw [g, Bool.false_or] at h; exact hit_in hk h
  exact fourT_in _ h0
 ·rw [if_neg (by rw [h]; decide)]
  exact ⟨hk, Nat.le_refl _⟩
theorem fourT_val {second s : ByteArray} {k : Nat} {c0 : UInt8} (hb : ∀ c, second.data.toList.contains c = true → allH.data.toList.contains c = true) (e0 : s[k]? = some c0) (h : (fourT second s k).2.1 = true) :
  ∃ c1 c2 c3, s[k + 1]? = some c1 ∧ s[k + 2]? = some c2 ∧ s[k + 3]? = some c3 ∧ allH.data.toList.contains c1 = true ∧ allH.data.toList.contains c2 = true ∧ allH.data.toList.contains c3 = true ∧
   (fourT second s k).1 = 4096 * hexv c0 + 256 * hexv c1 + 16 * hexv c2 + hexv c3 ∧ (fourT second s k).2.2 = k + 4 := by
 unfold fourT at h ⊢
 split at h
 ·rename_i g1
  rw [if_pos g1]
  split at h
  ·rename_i g2
   rw [if_pos g2]
   split at h
   ·rename_i g3
    rw [if_pos g3]
    obtain ⟨c1, e1, a1⟩ := hit_get g1
    obtain ⟨c2, e2, a2⟩ := hit_get g2
    obtain ⟨c3, e3, a3⟩ := hit_get g3
    refine ⟨c1, c2, c3, e1, e2, e3, hb c1 a1, a2, a3, ?_, rfl⟩
    unfold hx
    rw [e0, e1, e2, e3]
   ·cases h
  ·cases h
 ·cases h
theorem four_val {first behind s : ByteArray} {k : Nat} (hf : ∀ c, first.data.toList.contains c = true → allH.data.toList.contains c = true) (hb : ∀ c, behind.data.toList.contains c = true → allH.data.toList.contains c = true) (h : (four first behind s k).2.1 = true) :
  ∃ c0 c1 c2 c3, s[k]? = some c0 ∧ s[k + 1]? = some c1 ∧ s[k + 2]? = some c2 ∧ s[k + 3]? = some c3 ∧ allH.data.toList.contains c0 = true ∧ allH.data.toList.contains c1 = true ∧ allH.data.toList.contains c2 = true ∧ allH.data.toList.contains c3 = true ∧
   (four first behind s k).1 = 4096 * hexv c0 + 256 * hexv c1 + 16 * hexv c2 + hexv c3 ∧ (four first behind s k).2.2 = k + 4 := by
 unfold four at h ⊢
 rcases Bool.eq_false_or_eq_true (hit first s k) with q | q
 ·obtain ⟨c0, e0, a0⟩ := hit_get q
  simp only [q, Bool.true_or, if_true] at h ⊢
  obtain ⟨c1, c2, c3, r⟩ := fourT_val (fun _ h => h) e0 h
  exact ⟨c0, c1, c2, c3, e0, r.1, r.2.1, r.2.2.1, hf c0 a0, r.2.2.2⟩
 ·rcases Bool.eq_false_or_eq_true (hit dD s k) with q2 | q2
  ·obtain ⟨c0, e0, a0⟩ := hit_get q2
   simp only [q, q2, Bool.false_or, if_true, Bool.false_eq_true, if_false] at h ⊢
   obtain ⟨c1, c2, c3, r⟩ := fourT_val hb e0 h
   exact ⟨c0, c1, c2, c3, e0, r.1, r.2.1, r.2.2.1, (sub_all c0).2.2.2 a0, r.2.2.2⟩
  ·simp only [q, q2, Bool.false_or, Bool.false_eq_true, if_false] at h
theorem t150 (first behind : ByteArray) {s : ByteArray} (hf : ∀ c, first.data.toList.contains c = true → allH.data.toList.contains c = true) (hb : ∀ c, behind.data.toList.contains c = true → allH.data.toList.contains c = true) {k : Nat} (hk : In s k) :
  n_150sadb0 (first, behind, Rd s k, ()) = some ((four first behind s k).1, (four first behind s k).2.1, Rd s (four first behind s k).2.2, ()) := by
 have main : ∀ (second : ByteArray) (hs : ∀ c, second.data.toList.contains c = true → allH.data.toList.contains c = true) (hk1 : In s (k + 1)) (c0 : UInt8), s[k]? = some c0 → allH.data.toList.contains c0 = true →
   ((n_97s5bd0 (second, Rd s (k + 1), ()) >>= fun x2 =>
     if (!x2.1) = true then
      some (((k : Int), true, x2.2.1, ()))
     else n_97s5bd0 (allH, x2.2.1, ()) >>= fun x3 =>
     if (!x3.1) = true then
      some (((k : Int), true, x3.2.1, ()))
     else n_97s5bd0 (allH, x3.2.1, ()) >>= fun x4 =>
     some (((k : Int), !x4.1, x4.2.1, ()))) >>= fun x2 =>
   if x2.2.1 = true then
    some ((0, false, x2.2.2.1, ()))
   else if 0 ≤ x2.1 ∧ x2.1 ≤ x2.2.2.1.at0 ∧ x2.2.2.1.at0 ≤ (↑x2.2.2.1.s.size : Int) then
    n_173 (x2.2.2.1.s.extract x2.1.toNat x2.2.2.1.at0.toNat, ()) >>= fun x3 =>
    n_150sadb0l11 (0, Bs.ints x3.1, (↑(Bs.ints x3.1).length : Int), 0, x2.2.2.1, ()) >>= fun x4 =>
    some ((x4.1, true, x4.2.1, ()))
   else none) = (if hit second s (k + 1) = true then if hit allH s (k + 2) = true then if hit allH s (k + 3) = true then some (4096 * hx s k + 256 * hx s (k + 1) + 16 * hx s (k + 2) + hx s (k + 3), true, Rd s (k + 4), ()) else some (0, false, Rd s (k + 3), ()) else some (0, false, Rd s (k + 2), ()) else some (0, false, Rd s (k + 1), ())) := by
  intro second hs hk1 c0 e0 a0
  rcases Bool.eq_false_or_eq_true (hit second s (k + 1)) with h1 | h1
  ·have hk2 := hit_in hk1 h1
   obtain ⟨c1, e1, a1⟩ := hit_get h1
   rcases Bool.eq_false_or_eq_true (hit allH s (k + 2)) with h2 | h2
   ·have hk3 := hit_in hk2 h2
    obtain ⟨c2, e2, a2⟩ := hit_get h2
    rcases Bool.eq_false_or_eq_true (hit allH s (k + 3)) with h3 | h3
    ·have hk4 := hit_in hk3 h3
     obtain ⟨c3, e3, a3⟩ := hit_get h3
     have q : (((k : Int) ≤ ((k + 3 + 1 : Nat) : Int)) ∧ ((k + 3 + 1 : Nat) : Int) ≤ (s.size : Int)) = True := eq_true ⟨by omega, by have := hk4.le; omega⟩
     have v := val150 s k (Rd s (k + 4)) e0 e1 e2 e3 a0 (hs c1 a1) a2 a3
     simp only [sW] at v
     simp only [t97 _ s hk1, t97 _ s hk2, t97 _ s hk3, h1, h2, h3, sW, Bool.not_true, Bool.not_false, q, true_and]
     exact v
    ·simp only [t97 _ s hk1, t97 _ s hk2, t97 _ s hk3, h1, h2, h3, sW, Bool.not_true, Bool.not_false]
   ·simp only [t97 _ s hk1, t97 _ s hk2, h1, h2, sW, Bool.not_true, Bool.not_false]
  ·simp only [t97 _ s hk1, h1, sW, Bool.not_true, Bool.not_false]
 unfold n_150sadb0 four fourT
 rcases Bool.eq_false_or_eq_true (hit first s k) with h | h
 ·obtain ⟨c0, e0, a0⟩ := hit_get h
  have m := main allH (fun _ h => h) (hit_in hk h) c0 e0 (hf c0 a0)
  simp only [t97 first s hk, h, sW, Bool.true_or] at m ⊢
  rw [m]
  split
  ·split
   ·split <;> rfl
   ·rfl
  ·rfl
 ·rcases Bool.eq_false_or_eq_true (hit dD s k) with h2 | h2
  ·obtain ⟨c0, e0, a0⟩ := hit_get h2
   have m := main behind hb (hit_in hk h2) c0 e0 ((sub_all c0).2.2.2 a0)
   simp only [t97 first s hk, t97 dD s hk, h, h2, sW, Bool.false_or] at m ⊢
   rw [m]
   split
   ·split
    ·split <;> rfl
    ·rfl
   ·rfl
  ·simp only [t97 first s hk, t97 dD s hk, h, h2, sW, Bool.false_or]
theorem t154 {s : ByteArray} {k : Nat} (hk : In s k) : ∃ n, n_154sa2e4 (Rr s k false, ()) = some (n, Rr s (four fstH behH s k).2.2 (!(four fstH behH s k).2.1), ()) ∧ ((four fstH behH s k).2.1 = true → n = (four fstH behH s k).1) := by
 have hAll : ∀ c, allH.data.toList.contains c = true → allH.data.toList.contains c = true := fun _ h => h
 have hBeh : ∀ c, behH.data.toList.contains c = true → allH.data.toList.contains c = true := fun c => (sub_all c).2.1
 unfold n_154sa2e4
 rcases Bool.eq_false_or_eq_true (hit allH s k) with h | h
 ·obtain ⟨c0, e0, a0⟩ := hit_get h
  obtain ⟨g1, g2, _, g3, g4⟩ := hex_facts c0 a0
  have x0 : hx s k = hexv c0 := by unfold hx; rw [e0]
  have hd : hit dD s k = dD.data.toList.contains c0 := by unfold hit; rw [e0]
  have hf : hit fstH s k = fstH.data.toList.contains c0 := by unfold hit; rw [e0]
  have hor : (hit fstH s k || hit dD s k) = true := by rw [hd, hf, g4, Bool.not_or_self]
  have hk1 := hit_in hk h
  have hsec : ∀ b : ByteArray, (∀ c, b.data.toList.contains c = true → allH.data.toList.contains c = true) → b.size ≤ 65536 → (if hit fstH s k = true then allH else behH) = b →
    ∃ n, ((n_155s5873 (b, Rr s (k + 1) false, ()) >>= fun x2 => some ((i64.wrap (i64.wrap (16 * hx s k) + x2.1), x2.2.1, ()))) >>= fun x2 =>
     n_155s5873 (allH, x2.2.1, ()) >>= fun x3 => n_155s5873 (allH, x3.2.1, ()) >>= fun x4 =>
     some ((i64.wrap (i64.wrap (16 * i64.wrap (i64.wrap (16 * x2.1) + x3.1)) + x4.1), x4.2.1, ()))) = some (n, Rr s (four fstH behH s k).2.2 (!(four fstH behH s k).2.1), ()) ∧ ((four fstH behH s k).2.1 = true → n = (four fstH behH s k).1) := by
   intro b hb hb6 hsel
   unfold four
   rw [if_pos hor, hsel]
   unfold fourT
   rcases Bool.eq_false_or_eq_true (hit b s (k + 1)) with h1 | h1
   ·have hk2 := hit_in hk1 h1
    obtain ⟨c1, e1, a1⟩ := hit_get h1
    obtain ⟨p1, p2, _⟩ := hex_facts c1 (hb c1 a1)
    have x1 : hx s (k + 1) = hexv c1 := by unfold hx; rw [e1]
    rcases Bool.eq_false_or_eq_true (hit allH s (k + 2)) with h2 | h2
    ·have hk3 := hit_in hk2 h2
     obtain ⟨c2, e2, a2⟩ := hit_get h2
     obtain ⟨p3, p4, _⟩ := hex_facts c2 a2
     have x2 : hx s (k + 2) = hexv c2 := by unfold hx; rw [e2]
     rcases Bool.eq_false_or_eq_true (hit allH s (k + 3)) with h3 | h3
     ·obtain ⟨c3, e3, a3⟩ := hit_get h3
      obtain ⟨p5, p6, _⟩ := hex_facts c3 a3
      have x3 : hx s (k + 3) = hexv c3 := by unfold hx; rw [e3]
      simp only [t155 b s hb6 hb hk1, t155 allH s (by decide) hAll hk2, t155 allH s (by decide) hAll hk3, h1, h2, h3, sW, x0, x1, x2, x3]
      refine ⟨_, rfl, fun _ => ?_⟩
      rw [wrap64 (x := 16 * hexv c0) (by omega) (by omega), wrap64 (x := 16 * hexv c0 + hexv c1) (by omega) (by omega), wrap64 (x := 16 * (16 * hexv c0 + hexv c1)) (by omega) (by omega),
       wrap64 (x := 16 * (16 * hexv c0 + hexv c1) + hexv c2) (by omega) (by omega), wrap64 (x := 16 * (16 * (16 * hexv c0 + hexv c1) + hexv c2)) (by omega) (by omega), wrap64 (by omega) (by omega)]
      omega
     ·simp only [t155 b s hb6 hb hk1, t155 allH s (by decide) hAll hk2, t155 allH s (by decide) hAll hk3, h1, h2, h3, sW]
      exact ⟨_, rfl, fun h => by cases h⟩
    ·simp only [t155 b s hb6 hb hk1, t155 allH s (by decide) hAll hk2, t155w, h1, h2, sW]
     exact ⟨_, rfl, fun h => by cases h⟩
   ·simp only [t155 b s hb6 hb hk1, t155w, h1, sW]
    exact ⟨_, rfl, fun h => by cases h⟩
  simp only [t155 allH s (by decide) hAll hk, h, sW]
  by_cases h13 : hx s k = 13
  ·have hdd : dD.data.toList.contains c0 = true := g3.1 (by rw [← x0]; exact h13)
   obtain ⟨n, n1, n2⟩ := hsec behH hBeh (by decide) (by rw [hf, g4, hdd]; rfl)
   refine ⟨n, ?_, n2⟩
   simp only [h13, sW] at n1 ⊢
   exact n1
  ·have hdd : dD.data.toList.contains c0 = false := by
    rcases Bool.eq_false_or_eq_true (dD.data.toList.contains c0) with q | q
    ·exact (h13 (by rw [x0]; exact g3.2 q)).elim
    ·exact q
   obtain ⟨n, n1, n2⟩ := hsec allH hAll (by decide) (by rw [hf, g4, hdd]; rfl)
   refine ⟨n, ?_, n2⟩
   simp only [h13, sW] at n1 ⊢
   exact n1
 ·have hor : (hit fstH s k || hit dD s k) = false := by
   unfold hit at h ⊢
   cases hc : s[k]? with
   | none => rfl
   | some c =>
    rw [hc] at h
    dsimp only at h ⊢
    rcases Bool.eq_false_or_eq_true (fstH.data.toList.contains c) with q | q
    ·rw [(sub_all c).1 q] at h; cases h
    ·rcases Bool.eq_false_or_eq_true (dD.data.toList.contains c) with q2 | q2
     ·rw [(sub_all c).2.2.2 q2] at h; cases h
     ·rw [q, q2]; rfl
  have e : four fstH behH s k = (0, false, k) := by unfold four; rw [hor]; rfl
  rw [e]
  have h013 : ¬ ((0 : Int) = 13) := by decide
  simp only [t155 allH s (by decide) hAll hk, h, sW, t155w, h013]
  exact ⟨_, rfl, fun h => by cases h⟩
end Go.Proofs.YtdmggfegkaiaiaaGreatDoor
end
section
namespace Go.Proofs.YtdmggfegkaiaiaaGreatDoor
open Go.Awp Go.Tx
open IntKind (i32)
open IntKind (u8)
set_option maxRecDepth 20000
theorem u8mod {x : Int} (h : 0 ≤ x) : u8.wrap x = x % 256 := by
 unfold IntKind.wrap
 simp only [IntKind.bits, IntKind.signed, Bool.false_and]
 simp
theorem u32id {x : Int} (h : 0 ≤ x) (h2 : x ≤ 2147483647) : IntKind.u32.wrap x = x := by
 unfold IntKind.wrap
 simp only [IntKind.bits, IntKind.signed, Bool.false_and]
 simp; omega
theorem fin_int {P : Int → Prop} [DecidablePred P] (m : Nat) (h : (List.range m).all (fun n => decide (P (n : Int))) = true) {x : Int} (h1 : 0 ≤ x) (h2 : x < (m : Int)) : P x := by
 have h3 := List.all_eq_true.1 h x.toNat (List.mem_range.2 (by omega))
 have h4 : ((x.toNat : Nat) : Int) = x := by omega
 rw [h4] at h3
 simpa using h3
theorem or192 {x : Int} (h1 : 0 ≤ x) (h2 : x < (32 : Nat)) : Bs.ior u8 192 x = 192 + x := fin_int (P := fun x => Bs.ior u8 192 x = 192 + x) 32 (by kernel_rfl) h1 h2
theorem or128 {x : Int} (h1 : 0 ≤ x) (h2 : x < (64 : Nat)) : Bs.ior u8 128 x = 128 + x := fin_int (P := fun x => Bs.ior u8 128 x = 128 + x) 64 (by kernel_rfl) h1 h2
theorem or224 {x : Int} (h1 : 0 ≤ x) (h2 : x < (16 : Nat)) : Bs.ior u8 224 x = 224 + x := fin_int (P := fun x => Bs.ior u8 224 x = 224 + x) 16 (by kernel_rfl) h1 h2
theorem or240 {x : Int} (h1 : 0 ≤ x) (h2 : x < (8 : Nat)) : Bs.ior u8 240 x = 240 + x := fin_int (P := fun x => Bs.ior u8 240 x = 240 + x) 8 (by kernel_rfl) h1 h2
theorem and63 {x : Int} (h1 : 0 ≤ x) (h2 : x < (256 : Nat)) : Bs.iand u8 x 63 = x % 64 := fin_int (P := fun x => Bs.iand u8 x 63 = x % 64) 256 (by kernel_rfl) h1 h2
theorem low6 {x : Int} (h : 0 ≤ x) : Bs.ior u8 128 (Bs.iand u8 (u8.wrap x) 63) = 128 + x % 64 := by
 rw [u8mod h, and63 (by omega) (by omega), or128 (by omega) (by omega)]; omega
theorem shr {x : Int} (h : 0 ≤ x) : Bs.ishr i32 x 6 = x / 64 ∧ Bs.ishr i32 x 12 = x / 4096 ∧ Bs.ishr i32 x 18 = x / 262144 := by
 unfold Bs.ishr
 have e1 : ((2 : Int) ^ min (6 : Int).toNat i32.bits) = 64 := by decide
 have e2 : ((2 : Int) ^ min (12 : Int).toNat i32.bits) = 4096 := by decide
 have e3 : ((2 : Int) ^ min (18 : Int).toNat i32.bits) = 262144 := by decide
 rw [e1, e2, e3]
 exact ⟨Int.fdiv_eq_ediv_of_nonneg _ (by decide), Int.fdiv_eq_ediv_of_nonneg _ (by decide), Int.fdiv_eq_ediv_of_nonneg _ (by decide)⟩
theorem byI {m : Nat} (h : m < 256) : ((UInt8.ofNat m).toNat : Int) = (m : Int) := by
 rw [UInt8.toNat_ofNat']; omega
def encI (n : Int) : List Int :=
 if n ≤ 127 then [n]
 else if n ≤ 2047 then [192 + n / 64, 128 + n % 64]
 else if n < 55296 ∨ 57343 < n ∧ n ≤ 65535 then [224 + n / 4096, 128 + n / 64 % 64, 128 + n % 64]
 else if 65535 < n ∧ n ≤ 1114111 then [240 + n / 262144, 128 + n / 4096 % 64, 128 + n / 64 % 64, 128 + n % 64]
 else [239, 191, 189]
theorem encI_len (n : Int) : 1 ≤ (encI n).length ∧ (encI n).length ≤ 4 := by
 unfold encI
 split
 ·simp
 ·split
  ·simp
  ·split
   ·simp
   ·split <;> simp
theorem enc_bytes {n : Int} (h : 0 ≤ n) : Bs.ints (Bs.enc1 n) = encI n := by
 obtain ⟨m, rfl⟩ : ∃ m : Nat, n = (m : Int) := ⟨n.toNat, by omega⟩
 unfold Bs.enc1 Utf8.encode
 have hv : Utf8.valid (m : Int) = true ↔ m < 55296 ∨ 57344 ≤ m ∧ m ≤ 1114111 := by
  unfold Utf8.valid
  simp only [Bool.or_eq_true, Bool.and_eq_true, decide_eq_true_eq]
  omega
 unfold encI
 by_cases v : m < 55296 ∨ 57344 ≤ m ∧ m ≤ 1114111
 ·have hv' := hv.2 v
  simp only [hv', if_true, Int.toNat_natCast]
  have n127 : ((m : Int) ≤ 127) = (m < 128) := by apply propext; omega
  have n2047 : ((m : Int) ≤ 2047) = (m < 2048) := by apply propext; omega
  simp only [n127, n2047]
  by_cases h1 : m < 128
  ·simp only [h1, if_true, Bs.ints, List.map_cons, List.map_nil, byI (show m < 256 by omega)]
  ·by_cases h2 : m < 2048
   ·simp only [h1, h2, if_true, if_false, Bs.ints, List.map_cons, List.map_nil]
    rw [byI (by omega), byI (by omega)]
    congr 1
   ·by_cases h3 : m < 65536
    ·have c3 : ((m : Int) < 55296 ∨ 57343 < (m : Int) ∧ (m : Int) ≤ 65535) = True := eq_true (by omega)
     simp only [h1, h2, h3, c3, if_true, if_false, Bs.ints, List.map_cons, List.map_nil]
     rw [byI (by omega), byI (by omega), byI (by omega)]
     congr 1
    ·have c3 : ((m : Int) < 55296 ∨ 57343 < (m : Int) ∧ (m : Int) ≤ 65535) = False := eq_false (by omega)
     have c4 : (65535 < (m : Int) ∧ (m : Int) ≤ 1114111) = True := eq_true (by omega)
     simp only [h1, h2, h3, c3, c4, if_true, if_false, Bs.ints, List.map_cons, List.map_nil]
     rw [byI (by omega), byI (by omega), byI (by omega), byI (by omega)]
     congr 1
 ·have hv' : Utf8.valid (m : Int) = false := by
   rw [← Bool.not_eq_true, hv]; exact v
  have c1 : ((m : Int) ≤ 127) = False := eq_false (by omega)
  have c2 : ((m : Int) ≤ 2047) = False := eq_false (by omega)
  have c3 : ((m : Int) < 55296 ∨ 57343 < (m : Int) ∧ (m : Int) ≤ 65535) = False := eq_false (by omega)
  have c4 : (65535 < (m : Int) ∧ (m : Int) ≤ 1114111) = False := eq_false (by omega)
  simp only [hv', Bool.false_eq_true, if_false, Utf8.runeError, c1, c2, c3, c4]
  rfl
theorem t120 {n : Int} (h : 0 ≤ n) (h2 : n ≤ 2147483647) (b : Bool) (xs : List Int) (hx : xs.length ≤ 1000000) : ∃ m, n_120s6702 (n, b, xs, ()) = some (m, true, xs ++ encI n, ()) := by
 have e145 : n_145s143f (b, xs, ()) = some (true, xs, ()) := rfl
 have main : n_151s43b2 (n, xs, ()) = some (xs ++ encI n, ()) := by
  unfold n_151s43b2 encI
  rw [u32id h h2]
  by_cases h1 : n ≤ 127
  ·have hl : xs.length + 1 ≤ 4294967296 := by omega
   simp only [h1, sW, List.length_cons, List.length_nil, Nat.zero_add, hl, u8mod h]
   have : n % 256 = n := by omega
   rw [this]
  ·simp only [h1, sW]
   unfold n_174s43b2
   obtain ⟨s1, s2, s3⟩ := shr h
   have d1 : 0 ≤ n / 64 := by omega
   have d2 : 0 ≤ n / 4096 := by omega
   have d3 : 0 ≤ n / 262144 := by omega
   simp only [s1, s2, s3, u32id h h2]
   by_cases h3 : n ≤ 2047
   ·have hl : xs.length + (0 + 1 + 1) ≤ 4294967296 := by omega
    have e1 : u8.wrap (n / 64) = n / 64 := by rw [u8mod d1]; omega
    simp only [h3, sW, List.length_cons, List.length_nil, hl, low6 h, e1, or192 d1 (show n / 64 < (32 : Nat) by omega)]
   ·simp only [h3, sW]
    have three : n_174s43b2 (n, xs, ()) = n_174s43b2 (n, xs, ()) := rfl
    by_cases h4 : n < 55296
    ·have hl : xs.length + (0 + 1 + 1 + 1) ≤ 4294967296 := by omega
     have e1 : u8.wrap (n / 4096) = n / 4096 := by rw [u8mod d2]; omega
     simp only [h4, sW, true_or, List.length_cons, List.length_nil, hl, s1, s2, low6 h, low6 d1, e1, or224 d2 (show n / 4096 < (16 : Nat) by omega)]
    ·by_cases h5 : 57343 < n
     ·by_cases h6 : n ≤ 65535
      ·have hl : xs.length + (0 + 1 + 1 + 1) ≤ 4294967296 := by omega
       have e1 : u8.wrap (n / 4096) = n / 4096 := by rw [u8mod d2]; omega
       simp only [h4, h5, h6, sW, true_or, and_self, or_true, false_or, List.length_cons, List.length_nil, hl, s1, s2, low6 h, low6 d1, e1, or224 d2 (show n / 4096 < (16 : Nat) by omega)]
      ·have h7 : n > 65535 := by omega
       have h7' : 65535 < n := by omega
       by_cases h8 : n ≤ 1114111
       ·have hl : xs.length + (0 + 1 + 1 + 1 + 1) ≤ 4294967296 := by omega
        have e1 : u8.wrap (n / 262144) = n / 262144 := by rw [u8mod d3]; omega
        simp only [h4, h5, h6, h7, h7', h8, sW, and_false, or_self, and_self, List.length_cons, List.length_nil, hl, s1, s2, s3, low6 h, low6 d1, low6 d2, e1, or240 d3 (show n / 262144 < (8 : Nat) by omega)]
       ·have hl : xs.length + (0 + 1 + 1 + 1) ≤ 4294967296 := by omega
        simp only [h4, h5, h6, h7, h7', h8, sW, and_false, or_self, and_self, List.length_cons, List.length_nil, hl]
     ·have h6 : ¬ n > 65535 := by omega
      have h6' : ¬ 65535 < n := by omega
      have hl : xs.length + (0 + 1 + 1 + 1) ≤ 4294967296 := by omega
      simp only [h4, h5, h6, h6', sW, false_and, or_self, List.length_cons, List.length_nil, hl]
 unfold n_120s6702
 simp only [e145, sW, main]
 exact ⟨_, rfl⟩
end Go.Proofs.YtdmggfegkaiaiaaGreatDoor
end
section
namespace Go.Proofs.YtdmggfegkaiaiaaGreatDoor
open Go.Awp Go.Tx
set_option maxRecDepth 20000
abbrev letJ : ByteArray := ByteArray.mk #[34, 92, 47, 98, 102, 110, 114, 116]
abbrev bytJ : ByteArray := ByteArray.mk #[34, 92, 47, 8, 12, 10, 13, 9]
abbrev letR : ByteArray := ByteArray.mk #[34, 92, 47, 110, 114, 116, 98, 102]
abbrev bytR : ByteArray := ByteArray.mk #[34, 92, 47, 10, 13, 9, 8, 12]
def letter (c : UInt8) : Option UInt8 := match c.toNat with | 34 => some 34 | 92 => some 92 | 47 => some 47 | 98 => some 8 | 102 => some 12 | 110 => some 10 | 114 => some 13 | 116 => some 9 | _ => none
theorem letter_J (c : UInt8) : decide (0 ≤ Lib.indexByte letJ.data.toList c) = (letter c).isSome ∧ letter c = (if 0 ≤ Lib.indexByte letJ.data.toList c then bytJ.data.toList[(Lib.indexByte letJ.data.toList c).toNat]? else none) :=
 all_bytes (P := fun c => decide (0 ≤ Lib.indexByte letJ.data.toList c) = (letter c).isSome ∧ letter c = (if 0 ≤ Lib.indexByte letJ.data.toList c then bytJ.data.toList[(Lib.indexByte letJ.data.toList c).toNat]? else none)) (by kernel_rfl) c
theorem letter_R (c : UInt8) : letter c = ((letR.data.toList.zip bytR.data.toList).find? (fun p => p.1 == c)).map (·.2) :=
 all_bytes (P := fun c => letter c = ((letR.data.toList.zip bytR.data.toList).find? (fun p => p.1 == c)).map (·.2)) (by kernel_rfl) c
theorem letter_small {c d : UInt8} (h : letter c = some d) : d.toNat ≤ 127 := by
 have := all_bytes (P := fun c => ((letter c).getD 0).toNat ≤ 127) (by kernel_rfl) c
 rw [h] at this
 exact this
theorem one_ext {tt : ByteArray} {i : Nat} {d : UInt8} (h : tt[i]? = some d) : tt.extract i (i + 1) = ⟨#[d]⟩ := ba_ext (by rw [ba_one h])
theorem t124l (s : ByteArray) {k : Nat} (hk : In s k) (c : UInt8) (hc : s[k]? = some c) (from' tt : ByteArray) (hft : from'.size = tt.size) (hf : from'.size ≤ 65536) : ∀ (m i : Nat), from'.size - i = m →
  n_124sa2e4l4 (from', tt, (i : Int), Rr s k false, ()) = some (match ((from'.data.toList.zip tt.data.toList).drop i).find? (fun p => p.1 == c) with | some p => .inl (⟨#[p.2]⟩, Rr s (k + 1) false, ()) | none => .inr (Rr s k false, ())) := by
 have hz : (from'.data.toList.zip tt.data.toList).length = from'.size := by rw [List.length_zip, ba_size, ba_size, hft]; exact Nat.min_self _
 intro m
 induction m with
 | zero =>
  intro i hi
  have hlt : ¬ i < from'.size := by omega
  rw [n_124sa2e4l4, List.drop_eq_nil_of_le (by omega)]
  simp only [sW, hlt, List.find?_nil]
 | succ m ih =>
  intro i hi
  have hlt : i < from'.size := by omega
  have e2 : ((i : Int) ≤ ((i + 1 : Nat) : Int) ∧ ((i + 1 : Nat) : Int) ≤ (from'.size : Int)) = True := eq_true ⟨by omega, by omega⟩
  have e3 : ((i : Int) ≤ ((i + 1 : Nat) : Int) ∧ ((i + 1 : Nat) : Int) ≤ (tt.size : Int)) = True := eq_true ⟨by omega, by omega⟩
  have hl1 : i < from'.data.toList.length := by rw [ba_size]; exact hlt
  have hl2 : i < tt.data.toList.length := by rw [ba_size]; omega
  have g1 : from'[i]? = some from'.data.toList[i] := by rw [ba_get, List.getElem?_eq_getElem hl1]
  have g2 : tt[i]? = some tt.data.toList[i] := by rw [ba_get, List.getElem?_eq_getElem hl2]
  have hd : (from'.data.toList.zip tt.data.toList).drop i = (from'.data.toList[i], tt.data.toList[i]) :: (from'.data.toList.zip tt.data.toList).drop (i + 1) := by
   rw [List.drop_eq_getElem_cons (by omega), List.getElem_zip]
  have h98 := t98 (from'.extract i (i + 1)) s (by have := ba_one g1; rw [← ba_size, this]; simp) hk
  have hh : hit (from'.extract i (i + 1)) s k = (from'.data.toList[i] == c) := by
   unfold hit
   rw [hc, ba_one g1]
   simp only [List.contains_cons, List.contains_nil, Bool.or_false]
   exact Bool.eq_iff_iff.2 ⟨fun h => by rw [beq_iff_eq] at h ⊢; exact h.symm, fun h => by rw [beq_iff_eq] at h ⊢; exact h.symm⟩
  rw [n_124sa2e4l4, hd, List.find?_cons]
  simp only [sW, hlt, wrap_succ hlt (by omega), e2, e3, true_and, h98, hh]
  by_cases h : from'.data.toList[i] = c
  ·simp only [h, BEq.rfl, sW, wk hk, one_ext g2]
  ·simp only [h, beq_eq_false_iff_ne.2 h, sW]
   exact ih (i + 1) (by omega)
theorem t124n (s : ByteArray) {k : Nat} (hc : s[k]? = none) (hk : In s k) (from' tt : ByteArray) (hft : from'.size = tt.size) (hf : from'.size ≤ 65536) : ∀ (m i : Nat), from'.size - i = m →
  n_124sa2e4l4 (from', tt, (i : Int), Rr s k false, ()) = some (.inr (Rr s k false, ())) := by
 intro m
 induction m with
 | zero =>
  intro i hi
  have hlt : ¬ i < from'.size := by omega
  rw [n_124sa2e4l4]
  simp only [sW, hlt]
 | succ m ih =>
  intro i hi
  have hlt : i < from'.size := by omega
  have e2 : ((i : Int) ≤ ((i + 1 : Nat) : Int) ∧ ((i + 1 : Nat) : Int) ≤ (from'.size : Int)) = True := eq_true ⟨by omega, by omega⟩
  have hl1 : i < from'.data.toList.length := by rw [ba_size]; exact hlt
  have g1 : from'[i]? = some from'.data.toList[i] := by rw [ba_get, List.getElem?_eq_getElem hl1]
  have h98 := t98 (from'.extract i (i + 1)) s (by have := ba_one g1; rw [← ba_size, this]; simp) hk
  have hh : hit (from'.extract i (i + 1)) s k = false := by unfold hit; rw [hc]
  rw [n_124sa2e4l4]
  simp only [sW, hlt, wrap_succ hlt (by omega), e2, true_and, h98, hh]
  exact ih (i + 1) (by omega)
theorem lowhalf {s : ByteArray} {k : Nat} (hk : In s k) : ∃ a b c d, (∀ {α : Type} (F : Int → Int → Int → Int → α),
  (n_155s5873 (dD, Rr s k false, ()) >>= fun x7 => n_155s5873 (lowH, x7.2.1, ()) >>= fun x8 => n_155s5873 (allH, x8.2.1, ()) >>= fun x9 => n_155s5873 (allH, x9.2.1, ()) >>= fun x10 =>
    some (F x7.1 x8.1 x9.1 x10.1, x10.2.1, ())) = some (F a b c d, Rr s (four mt lowH s k).2.2 (!(four mt lowH s k).2.1), ())) ∧
  ((four mt lowH s k).2.1 = true → 0 ≤ a ∧ a ≤ 15 ∧ 0 ≤ b ∧ b ≤ 15 ∧ 0 ≤ c ∧ c ≤ 15 ∧ 0 ≤ d ∧ d ≤ 15 ∧ (four mt lowH s k).1 = 4096 * a + 256 * b + 16 * c + d) := by
 have hAll : ∀ c, allH.data.toList.contains c = true → allH.data.toList.contains c = true := fun _ h => h
 have hLow : ∀ c, lowH.data.toList.contains c = true → allH.data.toList.contains c = true := fun c => (sub_all c).2.2.1
 have hdD : ∀ c, dD.data.toList.contains c = true → allH.data.toList.contains c = true := fun c => (sub_all c).2.2.2
 have hmt : hit mt s k = false := by unfold hit; cases s[k]? <;> rfl
 unfold four
 rw [hmt]
 simp only [Bool.false_or, Bool.false_eq_true, if_false]
 unfold fourT
 rcases Bool.eq_false_or_eq_true (hit dD s k) with h | h
 ·have hk1 := hit_in hk h
  obtain ⟨c0, e0, a0⟩ := hit_get h
  obtain ⟨p0, q0, _⟩ := hex_facts c0 (hdD c0 a0)
  have x0 : hx s k = hexv c0 := by unfold hx; rw [e0]
  rcases Bool.eq_false_or_eq_true (hit lowH s (k + 1)) with h1 | h1
  ·have hk2 := hit_in hk1 h1
   obtain ⟨c1, e1, a1⟩ := hit_get h1
   obtain ⟨p1, q1, _⟩ := hex_facts c1 (hLow c1 a1)
   have x1 : hx s (k + 1) = hexv c1 := by unfold hx; rw [e1]
   rcases Bool.eq_false_or_eq_true (hit allH s (k + 2)) with h2 | h2
   ·have hk3 := hit_in hk2 h2
    obtain ⟨c2, e2, a2⟩ := hit_get h2
    obtain ⟨p2, q2, _⟩ := hex_facts c2 a2
    have x2 : hx s (k + 2) = hexv c2 := by unfold hx; rw [e2]
    rcases Bool.eq_false_or_eq_true (hit allH s (k + 3)) with h3 | h3
    ·obtain ⟨c3, e3, a3⟩ := hit_get h3
     obtain ⟨p3, q3, _⟩ := hex_facts c3 a3
     have x3 : hx s (k + 3) = hexv c3 := by unfold hx; rw [e3]
     simp only [t155 dD s (by decide) hdD hk, t155 lowH s (by decide) hLow hk1, t155 allH s (by decide) hAll hk2, t155 allH s (by decide) hAll hk3, h, h1, h2, h3, sW, x0, x1, x2, x3]
     exact ⟨_, _, _, _, fun F => rfl, fun _ => ⟨p0, q0, p1, q1, p2, q2, p3, q3, rfl⟩⟩
    ·simp only [t155 dD s (by decide) hdD hk, t155 lowH s (by decide) hLow hk1, t155 allH s (by decide) hAll hk2, t155 allH s (by decide) hAll hk3, h, h1, h2, h3, sW]
     exact ⟨_, _, _, _, fun F => rfl, fun h => by cases h⟩
   ·simp only [t155 dD s (by decide) hdD hk, t155 lowH s (by decide) hLow hk1, t155 allH s (by decide) hAll hk2, t155w, h, h1, h2, sW]
    exact ⟨_, _, _, _, fun F => rfl, fun h => by cases h⟩
  ·simp only [t155 dD s (by decide) hdD hk, t155 lowH s (by decide) hLow hk1, t155w, h, h1, sW]
   exact ⟨_, _, _, _, fun F => rfl, fun h => by cases h⟩
 ·simp only [t155 dD s (by decide) hdD hk, t155w, h, sW]
  exact ⟨_, _, _, _, fun F => rfl, fun h => by cases h⟩
end Go.Proofs.YtdmggfegkaiaiaaGreatDoor
end
section
namespace Go.Proofs.YtdmggfegkaiaiaaGreatDoor
open Go.Awp Go.Tx
open IntKind (i32)
open IntKind (i64)
set_option maxRecDepth 20000
noncomputable def tail124 (x3 : Int × Mandrelref20Reader × Unit) : Option (ByteArray × Mandrelref20Reader × Unit) :=
   ((if decide (x3.1 ≥ 55296) = true then
       some ((x3.1, decide (x3.1 < 56320), x3.2.1, ()))
      else some ((x3.1, false, x3.2.1, ()))) >>= fun x4 =>
     if x4.2.1 = true then
      n_123s1978 (92, 92, x4.2.2.1, ()) >>= fun x5 =>
      n_123s1978 (117, 117, x5.2.1, ()) >>= fun x6 =>
      n_155s5873 (dD, x6.2.1, ()) >>= fun x7 =>
      n_155s5873 (lowH, x7.2.1, ()) >>= fun x8 =>
      n_155s5873 (allH, x8.2.1, ()) >>= fun x9 =>
      n_155s5873 (allH, x9.2.1, ()) >>= fun x10 =>
      some ((i64.wrap (i64.wrap (i64.wrap (65536 + Bs.ishl i64 (i64.wrap (x4.1 - 55296)) 10) + i64.wrap (i64.wrap (16 * i64.wrap (i64.wrap (16 * i64.wrap (i64.wrap (16 * x7.1) + x8.1)) + x9.1)) + x10.1)) - 56320), x10.2.1, ()))
     else some ((x4.1, x4.2.2.1, ()))) >>= fun x4 =>
   if x4.2.1.wrong = true then
    some ((ByteArray.mk #[], x4.2.1, ()))
   else some ((Bs.enc1 (i32.wrap x4.1), x4.2.1, ()))
theorem tail_w (n : Int) (s : ByteArray) {k : Nat} (hk : In s k) : tail124 (n, Rr s k true, ()) = some (mt, Rr s k true, ()) := by
 unfold tail124
 by_cases h1 : n ≥ 55296
 ·by_cases h2 : n < 56320
  ·simp only [h1, h2, sW, t123w _ _ s hk, t155w]
  ·simp only [h1, h2, sW]
 ·simp only [h1, sW]
theorem t154w (s : ByteArray) (k : Nat) : ∃ n, n_154sa2e4 (Rr s k true, ()) = some (n, Rr s k true, ()) := by
 have h013 : ¬ ((0 : Int) = 13) := by decide
 unfold n_154sa2e4
 simp only [t155w, sW, h013]
 exact ⟨_, rfl⟩
theorem word2 {s : ByteArray} {k : Nat} (hk : In s k) : n_92s5bd0 (ByteArray.mk #[92, 117], Rd s k, ()) =
  if inr 92 92 s k = true then (if inr 117 117 s (k + 1) = true then some (true, Rd s (k + 2), ()) else some (false, Rd s (k + 1), ())) else some (false, Rd s k, ()) := by
 have e0 := hit_one (w := ByteArray.mk #[92, 117]) (s := s) (i := 0) (k := k) (c := 92) (by rfl)
 have e1 := hit_one (w := ByteArray.mk #[92, 117]) (s := s) (i := 1) (k := k + 1) (c := 117) (by rfl)
 have c92 : (((92 : UInt8).toNat : Nat) : Int) = 92 := rfl
 have c117 : (((117 : UInt8).toNat : Nat) : Int) = 117 := rfl
 rw [c92] at e0
 rw [c117] at e1
 have sz : ((ByteArray.mk #[92, 117]).size : Int) = 2 := rfl
 have w1 : i64.wrap (0 + 1) = 1 := by decide
 have w2 : i64.wrap (1 + 1) = 2 := by decide
 have d0 : decide ((0 : Int) < 2) = true := by decide
 have d1 : decide ((1 : Int) < 2) = true := by decide
 have d2 : decide ((2 : Int) < 2) = false := by decide
 have q0 : ((0 : Int) ≤ 0 ∧ (0 : Int) ≤ 1 ∧ (1 : Int) ≤ 2) = True := by simp
 have q1 : ((0 : Int) ≤ 1 ∧ (1 : Int) ≤ 2 ∧ (2 : Int) ≤ 2) = True := by simp
 have t0 : (0 : Int).toNat = 0 := rfl
 have t1 : (1 : Int).toNat = 1 := rfl
 have t2 : (2 : Int).toNat = 2 := rfl
 unfold n_92s5bd0
 simp only [sz]
 rw [n_92s5bd0l2]
 simp only [sz, w1, d0, q0, t0, t1, if_true, Option.bind_eq_bind, t97 _ s hk, e0, Option.bind_some]
 rcases Bool.eq_false_or_eq_true (inr 92 92 s k) with h | h
 ·have hk1 := inr_in hk h
  simp only [h, Bool.not_true, Bool.false_eq_true, if_false, if_true]
  rw [n_92s5bd0l2]
  simp only [sz, w2, d1, q1, t1, t2, if_true, Option.bind_eq_bind, t97 _ s hk1, e1, Option.bind_some]
  rcases Bool.eq_false_or_eq_true (inr 117 117 s (k + 1)) with h1 | h1
  ·simp only [h1, Bool.not_true, Bool.false_eq_true, if_false, if_true]
   rw [n_92s5bd0l2]
   simp only [d2, Bool.false_eq_true, if_false, Option.bind_some]
  ·simp only [h1, Bool.not_false, Bool.false_eq_true, if_false, if_true, Option.bind_some]
 ·simp only [h, Bool.not_false, Bool.false_eq_true, if_false, if_true, Option.bind_some]
theorem hit_117 (s : ByteArray) (k : Nat) : hit (ByteArray.mk #[117]) s k = inr 117 117 s k := by
 have := hit_one (w := ByteArray.mk #[117]) (s := s) (i := 0) (k := k) (c := 117) (by rfl)
 exact this
theorem shl10 (k : IntKind) (x : Int) (hk : min (10 : Int).toNat k.bits = 10) : Bs.ishl k x 10 = k.wrap (x * 1024) := by
 unfold Bs.ishl
 rw [hk]; rfl
theorem escape {s : ByteArray} {k : Nat} (hk : In s k) : ∃ ok k' n e, In s k' ∧ k ≤ k' ∧ n_119s0e1d (Rd s k, ()) = some (n, ok, Rd s k', ()) ∧ n_124sa2e4 (Rr s k false, ()) = some (e, Rr s k' (!ok), ()) ∧
  (ok = true → 0 ≤ n ∧ n ≤ 2147483647 ∧ Bs.ints e = encI n ∧ k < k') ∧ (ok = false → e = mt) := by
 have hFst : ∀ c, fstH.data.toList.contains c = true → allH.data.toList.contains c = true := fun c => (sub_all c).1
 have hBeh : ∀ c, behH.data.toList.contains c = true → allH.data.toList.contains c = true := fun c => (sub_all c).2.1
 have hLow : ∀ c, lowH.data.toList.contains c = true → allH.data.toList.contains c = true := fun c => (sub_all c).2.2.1
 have hMt : ∀ c, mt.data.toList.contains c = true → allH.data.toList.contains c = true := fun c h => by simp [mt] at h
 have doc : n_124sa2e4l4 (letR, bytR, 0, Rr s k false, ()) = some (.inr (Rr s k false, ())) → n_124sa2e4 (Rr s k false, ()) = (n_123s1978 (117, 117, Rr s k false, ()) >>= fun x2 => n_154sa2e4 (x2.2.1, ()) >>= fun x3 => tail124 x3) := by
  intro h
  unfold n_124sa2e4
  simp only [h, Option.bind_eq_bind, Option.bind_some]
  rfl
 have fail : ∀ (hl : n_124sa2e4l4 (letR, bytR, 0, Rr s k false, ()) = some (.inr (Rr s k false, ()))) (h : inr 117 117 s k = false), n_124sa2e4 (Rr s k false, ()) = some (mt, Rr s k true, ()) := by
  intro hl h
  obtain ⟨n, hn⟩ := t154w s k
  rw [doc hl]
  simp only [t123 _ _ s hk, h, sW, hn, tail_w n s hk]
 cases hc : s[k]? with
 | none =>
  have hend := get_none hk hc
  have hl := t124n s hc hk letR bytR rfl (by decide) _ 0 rfl
  simp only [Int.natCast_zero, Int.ofNat_eq_natCast, List.drop_zero] at hl
  have h : inr 117 117 s k = false := by unfold inr; rw [hc]
  have hlt : ¬ ((k : Int) < (s.size : Int)) := by omega
  refine ⟨false, k, 0, mt, hk, Nat.le_refl _, ?_, fail hl h, fun h => (by cases h), fun _ => rfl⟩
  unfold n_119s0e1d
  simp only [t91 s hk, t147, Option.bind_eq_bind, Option.bind_some, hlt, decide_false, Bool.false_eq_true, if_false, t97 _ s hk, hit_117, h, Bool.not_false, if_true]
 | some c =>
  have hlt' := get_lt hc
  have hlt : ((k : Int) < (s.size : Int)) := by omega
  have hl := t124l s hk c hc letR bytR rfl (by decide) _ 0 rfl
  simp only [Int.natCast_zero, Int.ofNat_eq_natCast, List.drop_zero] at hl
  have hR := letter_R c
  obtain ⟨hJ1, hJ2⟩ := letter_J c
  have hcc : (c.toNat : Int).toNat.toUInt8 = c := by rw [Int.toNat_natCast]; simp
  cases hlet : letter c with
  | some d =>
   have hd := letter_small hlet
   rw [hlet] at hJ1 hJ2 hR
   have h0 : 0 ≤ Lib.indexByte letJ.data.toList c := by simpa using hJ1
   rw [if_pos h0] at hJ2
   have hw : i32.wrap (d.toNat : Int) = (d.toNat : Int) := w32 (by omega) (by omega)
   cases hfd : ((letR.data.toList.zip bytR.data.toList).find? (fun p => p.1 == c)) with
   | none => rw [hfd] at hR; cases hR
   | some p =>
    rw [hfd] at hR hl
    have hp : p.2 = d := by simpa using hR.symm
    refine ⟨true, k + 1, (d.toNat : Int), ⟨#[d]⟩, hk.next hc, by omega, ?_, ?_, fun _ => ⟨by omega, by omega, ?_, by omega⟩, fun h => by cases h⟩
    ·unfold n_119s0e1d
     have h0' : Lib.indexByte letJ.data.toList c ≥ 0 := h0
     simp only [t91 s hk, t147, hv_some hc, hcc, hlt, Option.bind_eq_bind, Option.bind_some, decide_true, if_true, h0', h0, ba_get bytJ, ← hJ2, hw, wk hk]
    ·unfold n_124sa2e4
     simp only [hl, Option.bind_eq_bind, Option.bind_some, hp]
     rfl
    ·unfold encI
     rw [if_pos (by omega)]
     rfl
  | none =>
   rw [hlet] at hJ1 hJ2 hR
   have h0 : ¬ 0 ≤ Lib.indexByte letJ.data.toList c := by simpa using hJ1
   have h0' : ¬ Lib.indexByte letJ.data.toList c ≥ 0 := h0
   have hfd : ((letR.data.toList.zip bytR.data.toList).find? (fun p => p.1 == c)) = none := by
    cases hfd : ((letR.data.toList.zip bytR.data.toList).find? (fun p => p.1 == c)) with
    | none => rfl
    | some p => rw [hfd] at hR; cases hR
   rw [hfd] at hl
   rcases Bool.eq_false_or_eq_true (inr 117 117 s k) with h | h
   ·have hk1 := inr_in hk h
    obtain ⟨u, hu1, hu2⟩ := t154 hk1
    obtain ⟨i1, i2⟩ := four_in fstH behH hk1
    have j150 := t150 fstH behH hFst hBeh hk1
    have prog : n_119s0e1d (Rd s k, ()) = (n_150sadb0 (fstH, behH, Rd s (k + 1), ()) >>= fun x5 =>
      (if (!x5.2.1) = true then
         some ((x5.1, x5.2.1, true, x5.2.2.1, ()))
        else if decide (x5.1 < 55296) = true then
         some ((x5.1, x5.2.1, true, x5.2.2.1, ()))
        else some ((x5.1, x5.2.1, decide (x5.1 ≥ 56320), x5.2.2.1, ()))) >>= fun x6 =>
      if x6.2.2.1 = true then
       some ((x6.1, x6.2.1, x6.2.2.2.1, ()))
      else n_92s5bd0 (ByteArray.mk #[92, 117], x6.2.2.2.1, ()) >>= fun x7 =>
      if (!x7.1) = true then
       some ((0, false, x7.2.1, ()))
      else n_150sadb0 (mt, lowH, x7.2.1, ()) >>= fun x8 =>
      some ((i32.wrap (i32.wrap (i32.wrap (65536 + Bs.ishl i32 (i32.wrap (x6.1 - 55296)) 10) + x8.1) - 56320), x8.2.1, x8.2.2.1, ()))) := by
     unfold n_119s0e1d
     simp only [t91 s hk, t147, hv_some hc, hcc, hlt, Option.bind_eq_bind, Option.bind_some, decide_true, if_true, h0', decide_false, Bool.false_eq_true, if_false, t97 _ s hk, hit_117, h, Bool.not_true]
    have docu : n_124sa2e4 (Rr s k false, ()) = tail124 (u, Rr s (four fstH behH s (k + 1)).2.2 (!(four fstH behH s (k + 1)).2.1), ()) := by
     rw [doc hl]
     simp only [t123 _ _ s hk, h, if_true, Option.bind_eq_bind, Option.bind_some, hu1]
    rw [prog, docu, j150]
    rcases Bool.eq_false_or_eq_true (four fstH behH s (k + 1)).2.1 with g | g
    ·obtain ⟨c0, c1, c2, c3, e0, e1, e2, e3, a0, a1, a2, a3, v1, v2⟩ := four_val hFst hBeh g
     obtain ⟨p0, q0, _⟩ := hex_facts c0 a0
     obtain ⟨p1, q1, _⟩ := hex_facts c1 a1
     obtain ⟨p2, q2, _⟩ := hex_facts c2 a2
     obtain ⟨p3, q3, _⟩ := hex_facts c3 a3
     have hu := hu2 g
     rw [v2] at i1
     rw [g, v2, hu]
     have r1 : 0 ≤ (four fstH behH s (k + 1)).1 := by omega
     have r2 : (four fstH behH s (k + 1)).1 ≤ 65535 := by omega
     generalize (four fstH behH s (k + 1)).1 = n at r1 r2
     unfold tail124
     simp only [Bool.not_true, Bool.false_eq_true, if_false, Option.bind_eq_bind, Option.bind_some]
     by_cases b1 : n < 55296
     ·have b1' : ¬ n ≥ 55296 := by omega
      refine ⟨true, k + 1 + 4, n, Bs.enc1 n, i1, by omega, ?_, ?_, fun _ => ⟨r1, by omega, enc_bytes r1, by omega⟩, fun h => by cases h⟩
      ·simp only [b1, decide_true, if_true, Option.bind_some]
      ·simp only [b1', decide_false, Bool.false_eq_true, if_false, Option.bind_some, w32 (x := n) (by omega) (by omega)]
       rfl
     ·have b1' : n ≥ 55296 := by omega
      by_cases b2 : n ≥ 56320
      ·have b2' : ¬ n < 56320 := by omega
       refine ⟨true, k + 1 + 4, n, Bs.enc1 n, i1, by omega, ?_, ?_, fun _ => ⟨r1, by omega, enc_bytes r1, by omega⟩, fun h => by cases h⟩
       ·simp only [b1, b2, decide_true, decide_false, Bool.false_eq_true, if_false, if_true, Option.bind_some]
       ·simp only [b1', b2', decide_true, decide_false, Bool.false_eq_true, if_false, if_true, Option.bind_some, w32 (x := n) (by omega) (by omega)]
        rfl
      ·have b2' : n < 56320 := by omega
       simp only [b1, b1', b2, b2', decide_true, decide_false, Bool.false_eq_true, if_false, if_true, Option.bind_some, word2 i1, t123 _ _ s i1]
       rcases Bool.eq_false_or_eq_true (inr 92 92 s (k + 1 + 4)) with y1 | y1
       ·have i2 := inr_in i1 y1
        simp only [y1, if_true, t123 _ _ s i2]
        rcases Bool.eq_false_or_eq_true (inr 117 117 s (k + 1 + 4 + 1)) with y2 | y2
        ·have i3 := inr_in i2 y2
         obtain ⟨a, b, cc, d, hF, hV⟩ := lowhalf i3
         obtain ⟨i4, i5⟩ := four_in mt lowH i3
         simp only [y2, if_true, Option.bind_some, Bool.not_true, Bool.false_eq_true, if_false, t150 mt lowH hMt hLow i3]
         have hF' := hF fun a b c d => i64.wrap (i64.wrap (i64.wrap (65536 + Bs.ishl i64 (i64.wrap (n - 55296)) 10) + i64.wrap (i64.wrap (16 * i64.wrap (i64.wrap (16 * i64.wrap (i64.wrap (16 * a) + b)) + c)) + d)) - 56320)
         simp only [Option.bind_eq_bind] at hF'
         rw [hF']
         simp only [Option.bind_some]
         rcases Bool.eq_false_or_eq_true (four mt lowH s (k + 1 + 4 + 1 + 1)).2.1 with z | z
         ·obtain ⟨l1, l2, l3, l4, l5, l6, l7, l8, lv⟩ := hV z
          rw [z, lv]
          refine ⟨true, (four mt lowH s (k + 1 + 4 + 1 + 1)).2.2, 65536 + (n - 55296) * 1024 + (4096 * a + 256 * b + 16 * cc + d) - 56320, Bs.enc1 (65536 + (n - 55296) * 1024 + (4096 * a + 256 * b + 16 * cc + d) - 56320), i4, by omega, ?_, ?_, fun _ => ⟨by omega, by omega, enc_bytes (by omega), by omega⟩, fun h => by cases h⟩
          ·rw [w32 (x := n - 55296) (by omega) (by omega), shl10 _ _ (by decide), w32 (x := (n - 55296) * 1024) (by omega) (by omega), w32 (x := 65536 + (n - 55296) * 1024) (by omega) (by omega), w32 (x := 65536 + (n - 55296) * 1024 + (4096 * a + 256 * b + 16 * cc + d)) (by omega) (by omega), w32 (by omega) (by omega)]
          ·simp only [Bool.not_true, Bool.false_eq_true, if_false]
           have big64 : i64.wrap (i64.wrap (i64.wrap (65536 + Bs.ishl i64 (i64.wrap (n - 55296)) 10) + i64.wrap (i64.wrap (16 * i64.wrap (i64.wrap (16 * i64.wrap (i64.wrap (16 * a) + b)) + cc)) + d)) - 56320) = 65536 + (n - 55296) * 1024 + (4096 * a + 256 * b + 16 * cc + d) - 56320 := by
            rw [wrap64 (x := n - 55296) (by omega) (by omega), shl10 _ _ (by decide), wrap64 (x := (n - 55296) * 1024) (by omega) (by omega), wrap64 (x := 65536 + (n - 55296) * 1024) (by omega) (by omega),
             wrap64 (x := 16 * a) (by omega) (by omega), wrap64 (x := 16 * a + b) (by omega) (by omega), wrap64 (x := 16 * (16 * a + b)) (by omega) (by omega), wrap64 (x := 16 * (16 * a + b) + cc) (by omega) (by omega), wrap64 (x := 16 * (16 * (16 * a + b) + cc)) (by omega) (by omega), wrap64 (x := 16 * (16 * (16 * a + b) + cc) + d) (by omega) (by omega), wrap64 (x := 65536 + (n - 55296) * 1024 + (16 * (16 * (16 * a + b) + cc) + d)) (by omega) (by omega), wrap64 (by omega) (by omega)]
            omega
           rw [big64, w32 (by omega) (by omega)]
         ·rw [z]
          refine ⟨false, (four mt lowH s (k + 1 + 4 + 1 + 1)).2.2, _, mt, i4, by omega, rfl, ?_, fun h => (by cases h), fun _ => rfl⟩
          simp only [Bool.not_false, if_true]
        ·refine ⟨false, k + 1 + 4 + 1, 0, mt, i2, by omega, ?_, ?_, fun h => (by cases h), fun _ => rfl⟩
         ·simp only [y2, Bool.false_eq_true, if_false, Option.bind_some, Bool.not_false, if_true]
         ·simp only [y2, Bool.false_eq_true, if_false, Option.bind_some, t155w, if_true]
          rfl
       ·refine ⟨false, k + 1 + 4, 0, mt, i1, by omega, ?_, ?_, fun h => (by cases h), fun _ => rfl⟩
        ·simp only [y1, Bool.false_eq_true, if_false, Option.bind_some, Bool.not_false, if_true]
        ·simp only [y1, Bool.false_eq_true, if_false, Option.bind_some, t123w _ _ s i1, t155w, if_true]
         rfl
    ·rw [g]
     refine ⟨false, (four fstH behH s (k + 1)).2.2, (four fstH behH s (k + 1)).1, mt, i1, by omega, ?_, ?_, fun h => (by cases h), fun _ => rfl⟩
     ·simp only [Option.bind_eq_bind, Option.bind_some, Bool.not_false, if_true]
     ·exact tail_w u s i1
   ·refine ⟨false, k, 0, mt, hk, Nat.le_refl _, ?_, fail hl h, fun h => (by cases h), fun _ => rfl⟩
    unfold n_119s0e1d
    simp only [t91 s hk, t147, hv_some hc, hcc, hlt, Option.bind_eq_bind, Option.bind_some, decide_true, if_true, h0', decide_false, Bool.false_eq_true, if_false, t97 _ s hk, hit_117, h, Bool.not_false]
end Go.Proofs.YtdmggfegkaiaiaaGreatDoor
end
section
namespace Go.Proofs.YtdmggfegkaiaiaaGreatDoor
open Go.Awp Go.Tx
set_option maxRecDepth 20000
theorem l23w (s : ByteArray) {k : Nat} (hk : In s k) (f : Int) (n : Nat) (hn : n ≤ 3) : ∀ (m i : Nat) (lo hi : Int), n - i = m → n_125sa2e4l23 (f, lo, hi, (n : Int), (i : Int), Rr s k true, ()) = some (f, Rr s k true, ()) := by
 intro m
 induction m with
 | zero =>
  intro i lo hi hi'
  have hlt : ¬ i < n := by omega
  rw [n_125sa2e4l23]
  simp only [sW, hlt]
 | succ m ih =>
  intro i lo hi hi'
  have hlt : i < n := by omega
  rw [n_125sa2e4l23]
  simp only [sW, hlt, t123w _ _ s hk, wrap_succ hlt (by omega)]
  exact ih (i + 1) _ _ (by omega)
theorem l22 (s : ByteArray) (f : Int) (n : Nat) (hn : n ≤ 3) : ∀ (m i k : Nat) (lo hi : Int), In s k → n - i = m → ∃ ok k', In s k' ∧ k ≤ k' ∧ k' ≤ k + m ∧
  n_121s0e1dl22 (lo, hi, (n : Int), (i : Int), Rd s k, ()) = some (if ok = true then .inr (Rd s k', ()) else .inl (false, Rd s k', ())) ∧ n_125sa2e4l23 (f, lo, hi, (n : Int), (i : Int), Rr s k false, ()) = some (f, Rr s k' (!ok), ()) := by
 intro m
 induction m with
 | zero =>
  intro i k lo hi hk hi'
  have hlt : ¬ i < n := by omega
  refine ⟨true, k, hk, Nat.le_refl _, Nat.le_refl _, ?_, ?_⟩
  ·rw [n_121s0e1dl22]; simp only [sW, hlt]
  ·rw [n_125sa2e4l23]; simp only [sW, hlt]; rfl
 | succ m ih =>
  intro i k lo hi hk hi'
  have hlt : i < n := by omega
  rw [n_121s0e1dl22, n_125sa2e4l23]
  simp only [sW, hlt, wrap_succ hlt (by omega), t152 _ _ s hk, t123 _ _ s hk]
  rcases Bool.eq_false_or_eq_true (inr lo hi s k) with h | h
  ·obtain ⟨ok, k', a1, a2, a3, a4, a5⟩ := ih (i + 1) (k + 1) 128 191 (inr_in hk h) (by omega)
   refine ⟨ok, k', a1, by omega, by omega, ?_, ?_⟩
   ·simp only [h, sW, Bool.not_true]; exact a4
   ·simp only [h, sW]; exact a5
  ·refine ⟨false, k, hk, Nat.le_refl _, by omega, ?_, ?_⟩
   ·simp only [h, sW, Bool.not_false]
   ·simp only [h, sW]; exact l23w s hk f n hn _ (i + 1) _ _ rfl
theorem point {s : ByteArray} {k : Nat} (hk : In s k) (h32 : 32 ≤ hv s k) : ∃ ok k' e, In s k' ∧ k ≤ k' ∧ n_121s0e1d (Rd s k, ()) = some (ok, Rd s k', ()) ∧ n_125sa2e4 (Rr s k false, ()) = some (e, Rr s k' (!ok), ()) ∧
  (ok = true → e = s.extract k k' ∧ k < k' ∧ k' ≤ k + 4) ∧ (ok = false → e = mt) := by
 obtain ⟨g0, g1⟩ := hv_rng s k
 have hin : inr 32 255 s k = true := (inr_hv (by decide) s k).2 ⟨h32, g1⟩
 obtain ⟨c, hc, _, _⟩ := inr_get hin
 have hcv := hv_some hc
 have hk1 := inr_in hk hin
 have hsz := hk.sz
 have hle := hk.le
 have tail : ∀ (m : Nat), m ≤ 3 → ∃ ok k' e, In s k' ∧ k ≤ k' ∧
   ((if (hv s k == 224) = true then
       some (((160 : Int), (191 : Int), (m : Int), Rd s k, ()))
      else if (hv s k == 237) = true then
       some ((128, 159, (m : Int), Rd s k, ()))
      else if (hv s k == 240) = true then
       some ((144, 191, (m : Int), Rd s k, ()))
      else if (hv s k == 244) = true then
       some ((128, 143, (m : Int), Rd s k, ()))
      else some ((128, 191, (m : Int), Rd s k, ()))) >>= fun x3 =>
     n_121s0e1dl22 (x3.1, x3.2.1, x3.2.2.1, 0, Reader.mk x3.2.2.2.1.s (IntKind.i64.wrap (x3.2.2.2.1.at0 + 1)), ()) >>= fun x4 => match x4 with
      | .inl y4 => some y4
      | .inr y4 => some ((true, y4.1, ()))) = some (ok, Rd s k', ()) ∧
   ((if (hv s k == 224) = true then
   some (((k : Int), (160 : Int), (191 : Int), (m : Int), Rr s (k + 1) false, ()))
  else if (hv s k == 237) = true then
   some (((k : Int), 128, 159, (m : Int), Rr s (k + 1) false, ()))
  else if (hv s k == 240) = true then
   some (((k : Int), 144, 191, (m : Int), Rr s (k + 1) false, ()))
  else if (hv s k == 244) = true then
   some (((k : Int), 128, 143, (m : Int), Rr s (k + 1) false, ()))
  else some (((k : Int), 128, 191, (m : Int), Rr s (k + 1) false, ()))) >>= fun x3 =>
 n_125sa2e4l23 (x3.1, x3.2.1, x3.2.2.1, x3.2.2.2.1, 0, x3.2.2.2.2.1, ()) >>= fun x4 =>
 if x4.2.1.wrong = true then
  some ((ByteArray.mk #[], x4.2.1, ()))
 else if 0 ≤ x4.1 ∧ x4.1 ≤ x4.2.1.at0 ∧ x4.2.1.at0 ≤ (↑x4.2.1.s.size : Int) then
  some ((x4.2.1.s.extract x4.1.toNat x4.2.1.at0.toNat, x4.2.1, ()))
 else none) = some (e, Rr s k' (!ok), ()) ∧ (ok = true → e = s.extract k k' ∧ k < k' ∧ k' ≤ k + 4) ∧ (ok = false → e = mt) := by
  intro m hm
  have one : ∀ lo hi : Int, ∃ ok k' e, In s k' ∧ k ≤ k' ∧
    (n_121s0e1dl22 (lo, hi, (m : Int), 0, Rd s (k + 1), ()) >>= fun x4 => match x4 with
      | .inl y4 => some y4
      | .inr y4 => some ((true, y4.1, ()))) = some (ok, Rd s k', ()) ∧
    (n_125sa2e4l23 ((k : Int), lo, hi, (m : Int), 0, Rr s (k + 1) false, ()) >>= fun x4 =>
 if x4.2.1.wrong = true then
  some ((ByteArray.mk #[], x4.2.1, ()))
 else if 0 ≤ x4.1 ∧ x4.1 ≤ x4.2.1.at0 ∧ x4.2.1.at0 ≤ (↑x4.2.1.s.size : Int) then
  some ((x4.2.1.s.extract x4.1.toNat x4.2.1.at0.toNat, x4.2.1, ()))
 else none) = some (e, Rr s k' (!ok), ()) ∧ (ok = true → e = s.extract k k' ∧ k < k' ∧ k' ≤ k + 4) ∧ (ok = false → e = mt) := by
   intro lo hi
   obtain ⟨ok, k', a1, a2, a3, a4, a5⟩ := l22 s (k : Int) m hm _ 0 (k + 1) lo hi hk1 rfl
   simp only [Int.natCast_zero, Int.ofNat_eq_natCast, List.drop_zero] at a4 a5
   cases ok with
   | true =>
    have q : (((k : Int) ≤ (k' : Int)) ∧ (k' : Int) ≤ (s.size : Int)) = True := eq_true ⟨by omega, by have := a1.le; omega⟩
    refine ⟨true, k', s.extract k k', a1, by omega, ?_, ?_, fun _ => ⟨rfl, by omega, by omega⟩, fun h => by cases h⟩
    ·simp only [a4, sW]
    ·simp only [a5, sW, Bool.not_true, q, true_and]
   | false =>
    refine ⟨false, k', mt, a1, by omega, ?_, ?_, fun h => (by cases h), fun _ => rfl⟩
    ·simp only [a4, sW]
    ·simp only [a5, sW, Bool.not_false]
  have f1 : ¬ ((237 : Int) = 224) := by decide
  have f2 : ¬ ((240 : Int) = 224) := by decide
  have f3 : ¬ ((240 : Int) = 237) := by decide
  have f4 : ¬ ((244 : Int) = 224) := by decide
  have f5 : ¬ ((244 : Int) = 237) := by decide
  have f6 : ¬ ((244 : Int) = 240) := by decide
  by_cases e1 : hv s k = 224
  ·simpa only [e1, f1, f2, f3, f4, f5, f6, sW, wk hk] using one 160 191
  ·by_cases e2 : hv s k = 237
   ·simpa only [e1, e2, f1, f2, f3, f4, f5, f6, sW, wk hk] using one 128 159
   ·by_cases e3 : hv s k = 240
    ·simpa only [e1, e2, e3, f1, f2, f3, f4, f5, f6, sW, wk hk] using one 144 191
    ·by_cases e4 : hv s k = 244
     ·simpa only [e1, e2, e3, e4, f1, f2, f3, f4, f5, f6, sW, wk hk] using one 128 143
     ·simpa only [e1, e2, e3, e4, f1, f2, f3, f4, f5, f6, sW, wk hk] using one 128 191
 have bad : ∀ (h1 : hv s k ≠ 224) (h2 : hv s k ≠ 237) (h3 : hv s k ≠ 240) (h4 : hv s k ≠ 244), (n_104sa2e4 (Mandrelref20Reader.mk s (IntKind.i64.wrap (((k + 1 : Nat) : Int) - 1)) false, ())) = some (Rr s k true, ()) := by
  intro _ _ _ _
  have : IntKind.i64.wrap (((k + 1 : Nat) : Int) - 1) = (k : Int) := by rw [wrap64 (by omega) (by omega)]; omega
  rw [this]; rfl
 have l0 : ∀ lo hi : Int, n_125sa2e4l23 ((k : Int), lo, hi, 0, 0, Rr s k true, ()) = some ((k : Int), Rr s k true, ()) := fun lo hi => l23w s hk (k : Int) 0 (by omega) 0 0 lo hi rfl
 unfold n_121s0e1d n_125sa2e4
 simp only [hc, ← hcv, t123 _ _ s hk, hin, if_true, Option.bind_eq_bind, Option.bind_some, Int.natCast_nonneg, Int.toNat_natCast, decide_eq_true_eq] at tail ⊢
 by_cases c1 : hv s k < 128
 ·have := tail 0 (by omega)
  simp only [c1, if_true, Option.bind_some] at this ⊢
  exact this
 ·by_cases c2 : hv s k < 194
  ·have d1 : ¬ hv s k ≥ 194 := by omega
   have d2 : ¬ hv s k ≥ 224 := by omega
   have d3 : ¬ hv s k ≥ 240 := by omega
   have n1 : hv s k ≠ 224 := by omega
   have n2 : hv s k ≠ 237 := by omega
   have n3 : hv s k ≠ 240 := by omega
   have n4 : hv s k ≠ 244 := by omega
   refine ⟨false, k, mt, hk, Nat.le_refl _, ?_, ?_, fun h => (by cases h), fun _ => rfl⟩
   ·simp only [c1, c2, sW]
   ·simp only [c1, d1, d2, d3, sW, bad n1 n2 n3 n4, n1, n2, n3, n4, l0, Bool.not_false]
  ·have d1 : hv s k ≥ 194 := by omega
   by_cases c3 : hv s k > 244
   ·have d2 : hv s k ≥ 224 := by omega
    have d3 : hv s k ≥ 240 := by omega
    have d4 : ¬ hv s k ≤ 223 := by omega
    have d5 : ¬ hv s k ≤ 239 := by omega
    have d6 : ¬ hv s k ≤ 244 := by omega
    have n1 : hv s k ≠ 224 := by omega
    have n2 : hv s k ≠ 237 := by omega
    have n3 : hv s k ≠ 240 := by omega
    have n4 : hv s k ≠ 244 := by omega
    refine ⟨false, k, mt, hk, Nat.le_refl _, ?_, ?_, fun h => (by cases h), fun _ => rfl⟩
    ·simp only [c1, c2, c3, sW]
    ·simp only [c1, d1, d2, d3, d4, d5, d6, sW, bad n1 n2 n3 n4, n1, n2, n3, n4, l0, Bool.not_false]
   ·by_cases c4 : hv s k < 224
    ·have d4 : hv s k ≤ 223 := by omega
     have := tail 1 (by omega)
     simp only [c1, c2, c3, c4, d1, d4, sW] at this ⊢
     exact this
    ·have d2 : hv s k ≥ 224 := by omega
     have d4 : ¬ hv s k ≤ 223 := by omega
     by_cases c5 : hv s k < 240
     ·have d5 : hv s k ≤ 239 := by omega
      have := tail 2 (by omega)
      simp only [c1, c2, c3, c4, c5, d1, d2, d4, d5, sW] at this ⊢
      exact this
     ·have d3 : hv s k ≥ 240 := by omega
      have d5 : ¬ hv s k ≤ 239 := by omega
      have d6 : hv s k ≤ 244 := by omega
      have := tail 3 (by omega)
      simp only [c1, c2, c3, c4, c5, d1, d2, d3, d4, d5, d6, sW] at this ⊢
      exact this
end Go.Proofs.YtdmggfegkaiaiaaGreatDoor
end
section
namespace Go.Proofs.YtdmggfegkaiaiaaGreatDoor
open Go.Awp Go.Tx
set_option maxRecDepth 20000
abbrev q34 : ByteArray := ByteArray.mk #[34]
abbrev q92 : ByteArray := ByteArray.mk #[92]
theorem hit_byte (c : UInt8) (s : ByteArray) (k : Nat) : hit (ByteArray.mk #[c]) s k = inr (c.toNat : Int) (c.toNat : Int) s k :=
 hit_one (w := ByteArray.mk #[c]) (s := s) (i := 0) (k := k) (c := c) (by rfl)
theorem inr_eq {c : Int} (hc : 0 < c) (s : ByteArray) (k : Nat) : inr c c s k = decide (hv s k = c) := by
 rw [Bool.eq_iff_iff, inr_hv hc, decide_eq_true_eq]
 omega
theorem hit34 (s : ByteArray) (k : Nat) : hit q34 s k = decide (hv s k = 34) := by rw [hit_byte]; exact inr_eq (by decide) s k
theorem hit92 (s : ByteArray) (k : Nat) : hit q92 s k = decide (hv s k = 92) := by rw [hit_byte]; exact inr_eq (by decide) s k
theorem bad_point {s : ByteArray} {k : Nat} (hk : In s k) (h : hv s k < 32) : n_125sa2e4 (Rr s k false, ()) = some (mt, Rr s k true, ()) := by
 have hin : inr 32 255 s k = false := (inr_hvf (by decide) s k).2 (by omega)
 have l0 : ∀ lo hi : Int, n_125sa2e4l23 ((k : Int), lo, hi, 0, 0, Rr s k true, ()) = some ((k : Int), Rr s k true, ()) := fun lo hi => l23w s hk (k : Int) 0 (by omega) 0 0 lo hi rfl
 have d0 : (0 : Int) < 128 := by decide
 have f1 : ¬ ((0 : Int) = 224) := by decide
 have f2 : ¬ ((0 : Int) = 237) := by decide
 have f3 : ¬ ((0 : Int) = 240) := by decide
 have f4 : ¬ ((0 : Int) = 244) := by decide
 unfold n_125sa2e4
 simp only [t123 _ _ s hk, hin, sW, d0, f1, f2, f3, f4, l0]
theorem in_of_hv {s : ByteArray} {k : Nat} (hk : In s k) (h : 0 < hv s k) : In s (k + 1) := by
 cases hc : s[k]? with
 | none => rw [hv_none hc] at h; omega
 | some c => exact hk.next hc
theorem ext_size {s : ByteArray} {k k' : Nat} (h : In s k') : (s.extract k k').size = k' - k := by
 have := h.le
 rw [← ba_size, ba_extract, List.length_drop, List.length_take, ba_size]; omega
theorem ints_len (s : ByteArray) : (Bs.ints s).length = s.size := by
 unfold Bs.ints
 rw [List.length_map, ba_size]
theorem l3w (s : ByteArray) (k : Nat) (xs : List Int) : n_102sa2e4l3 (Rr s k true, xs, ()) = some (Rr s k true, xs, ()) := by
 rw [n_102sa2e4l3]
 simp only [sW, Bool.not_true]
theorem textl (s : ByteArray) : ∀ (m k : Nat) (b : Bool) (xs : List Int), In s k → s.size - k ≤ m → xs.length ≤ 4 * k → ∃ ok k' ys, In s k' ∧ k ≤ k' ∧
  n_94s0e1dl3 (Rd s k, b, xs, ()) = some (if ok = true then Bs.bytes ys else mt, ok, Rd s k', ()) ∧
  (n_102sa2e4l3 (Rr s k false, xs, ()) >>= fun x2 => n_123s1978 (34, 34, x2.1, ()) >>= fun x3 => some ((Bs.bytes x2.2.1, x3.2.1, ()))) = some (Bs.bytes ys, Rr s k' (!ok), ()) ∧ ys.length + 4 * k ≤ xs.length + 4 * k' := by
 intro m
 induction m with
 | zero =>
  intro k b xs hk hm hx
  have hend : hv s k = 0 := by
   cases hc : s[k]? with
   | none => exact hv_none hc
   | some c => have := get_lt hc; omega
  have e34 : ¬ hv s k = 34 := by omega
  have e32 : hv s k < 32 := by omega
  have e92 : ¬ hv s k = 92 := by omega
  have hmt : mt.size = 0 := rfl
  have hl : xs.length + 0 ≤ 4294967296 := by have := hk.le; have := hk.sz; omega
  have hi : Bs.ints mt = [] := rfl
  refine ⟨false, k, xs, hk, Nat.le_refl _, ?_, ?_, Nat.le_refl _⟩
  ·rw [n_94s0e1dl3]
   simp only [sW, t91 s hk, e34, e32]
  ·rw [n_102sa2e4l3]
   simp only [sW, t98 q34 s (by decide) hk, t98 q92 s (by decide) hk, hit34, hit92, e34, e92, decide_false, Bool.not_false, bad_point hk e32, hmt, hl, hi, List.append_nil, l3w, t123w _ _ s hk]
 | succ m ih =>
  intro k b xs hk hm hx
  have hle := hk.le
  have hsz := hk.sz
  by_cases e34 : hv s k = 34
  ·have hk1 := in_of_hv hk (by omega)
   have hl : xs.length ≤ 4294967296 := by omega
   refine ⟨true, k + 1, xs, hk1, by omega, ?_, ?_, by omega⟩
   ·rw [n_94s0e1dl3]
    have e83 : n_83s143f (b, xs, ()) = some (Bs.bytes xs, ()) := by
     unfold n_83s143f
     rw [if_pos ⟨rfl, hl⟩]
    simp only [sW, t91 s hk, e34, e83, wk hk]
   ·rw [n_102sa2e4l3]
    simp only [sW, t98 q34 s (by decide) hk, hit34, e34, decide_true, Bool.not_false, Bool.not_true, t123 34 34 s hk, inr_eq (show (0 : Int) < 34 by decide) s k]
  ·by_cases e32 : hv s k < 32
   ·have e92 : ¬ hv s k = 92 := by omega
    have hmt : mt.size = 0 := rfl
    have hl : xs.length + 0 ≤ 4294967296 := by omega
    have hi : Bs.ints mt = [] := rfl
    refine ⟨false, k, xs, hk, Nat.le_refl _, ?_, ?_, Nat.le_refl _⟩
    ·rw [n_94s0e1dl3]
     simp only [sW, t91 s hk, e34, e32]
    ·rw [n_102sa2e4l3]
     simp only [sW, t98 q34 s (by decide) hk, t98 q92 s (by decide) hk, hit34, hit92, e34, e92, decide_false, Bool.not_false, bad_point hk e32, hmt, hl, hi, List.append_nil, l3w, t123w _ _ s hk]
   ·by_cases e92 : hv s k = 92
    ·have hk1 := in_of_hv hk (by omega)
     have f1 : ¬ ((92 : Int) = 34) := by decide
     have f2 : ¬ ((92 : Int) < 32) := by decide
     obtain ⟨ok, k', n, e, a1, a2, a3, a4, a5, a6⟩ := escape hk1
     cases ok with
     | false =>
      have := a6 rfl
      subst this
      have hmt : mt.size = 0 := rfl
      have hl : xs.length + 0 ≤ 4294967296 := by omega
      have hi : Bs.ints mt = [] := rfl
      refine ⟨false, k', xs, a1, by omega, ?_, ?_, by omega⟩
      ·rw [n_94s0e1dl3]
       simp only [sW, t91 s hk, f1, f2, e92, wk hk, a3, Bool.not_false]
      ·rw [n_102sa2e4l3]
       simp only [sW, t98 q34 s (by decide) hk, t98 q92 s (by decide) hk, hit34, hit92, f1, e92, decide_false, decide_true, Bool.not_false, wk hk, a4, hmt, hl, hi, List.append_nil, l3w, t123w _ _ s a1]
     | true =>
      obtain ⟨n1, n2, n3, n4⟩ := a5 rfl
      obtain ⟨mm, h120⟩ := t120 n1 n2 b xs (by omega)
      have hlen := (encI_len n).2
      have hes : e.size = (encI n).length := by rw [← n3, ints_len]
      have hl : xs.length + e.size ≤ 4294967296 := by omega
      obtain ⟨ok, k'', ys, b1, b2, b3, b4, b5⟩ := ih k' true (xs ++ encI n) a1 (by omega) (by rw [List.length_append]; omega)
      refine ⟨ok, k'', ys, b1, by omega, ?_, ?_, by rw [List.length_append] at b5; omega⟩
      ·rw [n_94s0e1dl3]
       simp only [sW, t91 s hk, f1, f2, e92, wk hk, a3, Bool.not_true, h120]
       exact b3
      ·rw [n_102sa2e4l3]
       simp only [sW, t98 q34 s (by decide) hk, t98 q92 s (by decide) hk, hit34, hit92, f1, e92, decide_false, decide_true, Bool.not_false, Bool.not_true, wk hk, a4, hl, n3] at b4 ⊢
       exact b4
    ·obtain ⟨ok, k', e, a1, a2, a3, a4, a5, a6⟩ := point hk (by omega)
     cases ok with
     | false =>
      have := a6 rfl
      subst this
      have hmt : mt.size = 0 := rfl
      have hl : xs.length + 0 ≤ 4294967296 := by omega
      have hi : Bs.ints mt = [] := rfl
      refine ⟨false, k', xs, a1, by omega, ?_, ?_, by omega⟩
      ·rw [n_94s0e1dl3]
       simp only [sW, t91 s hk, e34, e32, e92, a3, Bool.not_false]
      ·rw [n_102sa2e4l3]
       simp only [sW, t98 q34 s (by decide) hk, t98 q92 s (by decide) hk, hit34, hit92, e34, e92, decide_false, decide_true, Bool.not_false, a4, hmt, hl, hi, List.append_nil, l3w, t123w _ _ s a1]
     | true =>
      obtain ⟨n1, n2, n3⟩ := a5 rfl
      have hes : (s.extract k k').size = k' - k := ext_size a1
      have hl : xs.length + (s.extract k k').size ≤ 4294967296 := by omega
      have q : ((k : Int) ≤ (k' : Int) ∧ (k' : Int) ≤ (s.size : Int)) = True := eq_true ⟨by omega, by have := a1.le; omega⟩
      have h113 : n_113s555c (s.extract k k', b, xs, ()) = some (((s.extract k k').size : Int), true, xs ++ Bs.ints (s.extract k k'), ()) := by
       unfold n_113s555c
       have e145 : n_145s143f (b, xs, ()) = some (true, xs, ()) := rfl
       simp only [e145, sW, hl]
      obtain ⟨ok, k'', ys, b1, b2, b3, b4, b5⟩ := ih k' true (xs ++ Bs.ints (s.extract k k')) a1 (by omega) (by rw [List.length_append, ints_len]; omega)
      refine ⟨ok, k'', ys, b1, by omega, ?_, ?_, by rw [List.length_append, ints_len] at b5; omega⟩
      ·rw [n_94s0e1dl3]
       simp only [sW, t91 s hk, e34, e32, e92, a3, Bool.not_true, q, true_and, h113]
       exact b3
      ·rw [n_102sa2e4l3]
       simp only [sW, t98 q34 s (by decide) hk, t98 q92 s (by decide) hk, hit34, hit92, e34, e92, decide_false, decide_true, Bool.not_false, Bool.not_true, a4, n1, hl] at b4 ⊢
       exact b4
theorem text {s : ByteArray} {k : Nat} (hk : In s k) (h34 : hv s k = 34) : ∃ ok k' e e', In s k' ∧ k ≤ k' ∧ n_94s0e1d (Rd s k, ()) = some (e, ok, Rd s k', ()) ∧ n_102sa2e4 (Rr s k false, ()) = some (e', Rr s k' (!ok), ()) ∧ (ok = true → e = e' ∧ e.size ≤ 1048576 ∧ e.size + 4 * k + 4 ≤ 4 * k') := by
 have hk1 := in_of_hv hk (by omega)
 obtain ⟨ok, k', ys, b1, b2, b3, b4, b5⟩ := textl s _ (k + 1) false [] hk1 (Nat.le_refl _) (by simp)
 refine ⟨ok, k', if ok = true then Bs.bytes ys else mt, Bs.bytes ys, b1, by omega, ?_, ?_, ?_⟩
 ·unfold n_94s0e1d
  simp only [sW, wk hk, b3]
 ·unfold n_102sa2e4
  have e : inr 34 34 s k = true := by rw [inr_eq (by decide), h34]; rfl
  simp only [sW, t123 34 34 s hk, e] at b4 ⊢
  exact b4
 ·intro h
  rw [if_pos h]
  have h1 := b1.le
  have h2 := b1.sz
  have h3 : (Bs.bytes ys).size = ys.length := by
   rw [← ba_size]
   simp only [Bs.bytes, List.length_map]
  rw [List.length_nil] at b5
  exact ⟨rfl, by omega, by omega⟩
end Go.Proofs.YtdmggfegkaiaiaaGreatDoor
end
section
namespace Go.Proofs.YtdmggfegkaiaiaaGreatDoor
open Go.Awp Go.Tx
set_option maxRecDepth 20000
inductive PEq : Tag → Tag → Prop
 | mk {a b : Tag} : a.kind = b.kind → a.text = b.text → a.names = b.names → (a.n = b.n ∨ far a.n ∧ far b.n) → a.parts.length = b.parts.length →
   a.text.size ≤ 1048576 → a.names.length ≤ 1048576 → (∀ s ∈ a.names, s.size ≤ 1048576) → a.parts.length ≤ 1048576 →
   (∀ (i : Nat) (p q : Tag), a.parts[i]? = some p → b.parts[i]? = some q → PEq p q) → PEq a b
def PsEq (xs ys : List Tag) : Prop := xs.length = ys.length ∧ ∀ (i : Nat) (p q : Tag), xs[i]? = some p → ys[i]? = some q → PEq p q
theorem PsEq.nil : PsEq [] [] := ⟨rfl, fun i p q h => by simp at h⟩
theorem PsEq.snoc {xs ys : List Tag} (h : PsEq xs ys) {a b : Tag} (hab : PEq a b) : PsEq (xs ++ [a]) (ys ++ [b]) := by
 refine ⟨by simp [h.1], fun i p q hp hq => ?_⟩
 by_cases hi : i < xs.length
 ·rw [List.getElem?_append_left hi] at hp
  rw [List.getElem?_append_left (by rw [← h.1]; exact hi)] at hq
  exact h.2 i p q hp hq
 ·rw [List.getElem?_append_right (by omega)] at hp
  rw [List.getElem?_append_right (by rw [← h.1]; omega), ← h.1] at hq
  generalize i - xs.length = j at hp hq
  cases j with
  | zero => simp at hp hq; subst hp; subst hq; exact hab
  | succ j => simp at hp
theorem PEq.leaf (k n : Int) (m : Int) (t : ByteArray) (h : NR n m) (ht : t.size ≤ 1048576) : PEq (Tag.mk k n t [] []) (Tag.mk k m t [] []) := .mk rfl rfl rfl h rfl ht (Nat.zero_le _) (fun s h => by cases h) (Nat.zero_le _) fun i p q h => by simp at h
theorem PEq.node (k n : Int) (t : ByteArray) (ns : List ByteArray) {xs ys : List Tag} (h : PsEq xs ys) (ht : t.size ≤ 1048576) (hn : ns.length ≤ 1048576) (hns : ∀ s ∈ ns, s.size ≤ 1048576) (hx : xs.length ≤ 1048576) : PEq (Tag.mk k n t ns xs) (Tag.mk k n t ns ys) := .mk rfl rfl rfl (Or.inl rfl) h.1 ht hn hns hx h.2
theorem t100w (lo hi : Int) (s : ByteArray) {k : Nat} (hk : In s k) : n_100s1978 (lo, hi, Rr s k true, ()) = some (false, Rr s k true, ()) := t100 lo hi s true hk
theorem piecew (s : ByteArray) {k : Nat} (hk : In s k) : n_67sa2e4 (Rr s k true, ()) = some (Rr s k true, Tag.mk 0 0 mt [] [], ()) := by
 rw [n_67sa2e4]
 simp only [blanksw, t98w, t100w _ _ s hk, sW]
 rfl
theorem mt_size : mt.size = 0 := rfl
theorem bnd {α : Type} (x : Option α) : (x.bind fun y => some y) = x := by cases x <;> rfl
theorem text_no {s : ByteArray} {k : Nat} (hk : In s k) (h : ¬ hv s k = 34) : ∃ e, n_102sa2e4 (Rr s k false, ()) = some (e, Rr s k true, ()) := by
 have e : inr 34 34 s k = false := by rw [inr_eq (by decide)]; simpa using h
 unfold n_102sa2e4
 simp only [sW, t123 34 34 s hk, e, l3w, t123w _ _ s hk]
 exact ⟨_, rfl⟩
abbrev zt : Tag := Tag.mk 0 0 mt [] []
noncomputable def endR (x4 : Int × Mandrelref20Reader × Tag × Int × Int × ByteArray × (List ByteArray) × (List Tag) × Unit) : Option (Mandrelref20Reader × Tag × Unit) :=
 n_123s1978 (x4.1, x4.1, x4.2.1, ()) >>= fun x5 =>
 some ((x5.2.1, Tag.mk x4.2.2.2.1 x4.2.2.2.2.1 x4.2.2.2.2.2.1 x4.2.2.2.2.2.2.1 x4.2.2.2.2.2.2.2.1, ()))
def PieceAt (s : ByteArray) (k : Nat) : Prop := ∃ ok k' t u, In s k' ∧ k ≤ k' ∧ n_65s0e1d (Rd s k, ()) = some (ok, Rd s k', t, ()) ∧ n_67sa2e4 (Rr s k false, ()) = some (Rr s k' (!ok), u, ()) ∧ (ok = true → PEq t u ∧ t.bulk + 5 * k ≤ 5 * k')
def ListAt (s : ByteArray) (k : Nat) : Prop := ∀ (z z' : Tag) (xs ys : List Tag), PsEq xs ys → xs.length ≤ k → ∃ ok k' t u, In s k' ∧ k ≤ k' ∧
 n_95s0e1dg1 (Rd s k, z, 5, 0, mt, [], xs, ()) = some (ok, Rd s k', t, ()) ∧ (n_103sd34dl7 (5, 93, Rr s k false, z', 5, 0, mt, [], ys, ()) >>= endR) = some (Rr s k' (!ok), u, ()) ∧ (ok = true → PEq t u ∧ t.bulk + 5 * k ≤ 1 + bulkL xs + 5 * k')
def NamesAt (s : ByteArray) (k : Nat) : Prop := ∀ (z z' : Tag) (ns : List ByteArray) (xs ys : List Tag), PsEq xs ys → xs.length ≤ k → ns.length ≤ k → (∀ s ∈ ns, s.size ≤ 1048576) → ∃ ok k' t u, In s k' ∧ k ≤ k' ∧
 n_96s0e1dg1 (Rd s k, z, 6, 0, mt, ns, xs, ()) = some (ok, Rd s k', t, ()) ∧ (n_103sd34dl7 (6, 125, Rr s k false, z', 6, 0, mt, ns, ys, ()) >>= endR) = some (Rr s k' (!ok), u, ()) ∧ (ok = true → PEq t u ∧ t.bulk + 5 * k ≤ 1 + (ns.map ByteArray.size).sum + bulkL xs + 5 * k')
theorem skip65 {s : ByteArray} {k k1 : Nat} (hk1 : In s k1) (h : n_66s0e1d (Rd s k, ()) = some (Rd s k1, ())) (hb : hit bl s k1 = false) : n_65s0e1d (Rd s k, ()) = n_65s0e1d (Rd s k1, ()) := by
 rw [n_65s0e1d, n_65s0e1d]
 simp only [h, (blanks_id hk1 hb).1, sW]
theorem list_step {s : ByteArray} {k : Nat} (hk : In s k) (hp : ∀ k', k ≤ k' → In s k' → PieceAt s k') (hl : ∀ k', k < k' → In s k' → ListAt s k') : ListAt s k := by
 intro z z' xs ys hxy hlen
 have hle := hk.le
 have hsz := hk.sz
 obtain ⟨k1, i1, l1, b1, b2, b3⟩ := blanks hk
 have e65 := skip65 i1 b1 b3
 obtain ⟨ok, k2, t, u, i2, l2, p1, p2, p3⟩ := hp k1 l1 i1
 have hlx : xs.length + (0 + 1) ≤ 4294967296 := by omega
 have hly : ys.length + (0 + 1) ≤ 4294967296 := by rw [← hxy.1]; omega
 rw [n_95s0e1dg1, n_103sd34dl7, e65]
 cases ok with
 | false =>
  refine ⟨false, k2, zt, Tag.mk 5 0 mt [] (ys ++ [u]), i2, by omega, ?_, ?_, fun h => by cases h⟩
  ·simp only [p1, sW, Bool.not_false]
  ·simp only [sW, Int.reduceEq, Int.reduceLT, Int.reduceLE, Int.reduceGE, Int.reduceGT, Bool.not_false, b2, p2, List.length_cons, List.length_nil, hly, blanksw, t98w]
   unfold endR
   simp only [t123w _ _ s i2, sW]
 | true =>
  obtain ⟨hq, hbk⟩ := p3 rfl
  obtain ⟨k3, i3, l3, b4, b5, b6⟩ := blanks i2
  rcases Bool.eq_false_or_eq_true (hit (ByteArray.mk #[44]) s k3) with h | h
  ·have i4 := hit_in i3 h
   obtain ⟨ok, k5, t', u', j1, j2, j3, j4, j5⟩ := hl (k3 + 1) (by omega) i4 z z' (xs ++ [t]) (ys ++ [u]) (hxy.snoc hq) (by rw [List.length_append, List.length_singleton]; omega)
   refine ⟨ok, k5, t', u', j1, by omega, ?_, ?_, fun h => ⟨(j5 h).1, by have := (j5 h).2; rw [bulkL_snoc] at this; omega⟩⟩
   ·simp only [p1, sW, Bool.not_true, List.length_cons, List.length_nil, hlx, b4, t97 _ s i3, h]
    exact j3
   ·simp only [sW, Int.reduceEq, Int.reduceLT, Int.reduceLE, Int.reduceGE, Int.reduceGT, Bool.not_false, Bool.not_true, b2, p2, List.length_cons, List.length_nil, hly, b5, t98 (ByteArray.mk #[44]) s (by decide) i3, h, wk i3] at j4 ⊢
    exact j4
  ·have h93 : hit (ByteArray.mk #[93]) s k3 = inr 93 93 s k3 := hit_byte 93 s k3
   rcases Bool.eq_false_or_eq_true (inr 93 93 s k3) with g | g
   ·refine ⟨true, k3 + 1, Tag.mk 5 0 mt [] (xs ++ [t]), Tag.mk 5 0 mt [] (ys ++ [u]), inr_in i3 g, by omega, ?_, ?_, fun _ => ⟨PEq.node _ _ _ _ (hxy.snoc hq) (Nat.zero_le _) (Nat.zero_le _) (fun s h => by cases h) (by rw [List.length_append, List.length_singleton]; omega), by rw [Tag.bulk, bulkL_snoc]; simp only [mt_size, List.map_nil, List.sum_nil]; omega⟩⟩
    ·simp only [p1, sW, Bool.not_true, List.length_cons, List.length_nil, hlx, b4, t97 _ s i3, h, h93, g]
    ·simp only [sW, Int.reduceEq, Int.reduceLT, Int.reduceLE, Int.reduceGE, Int.reduceGT, Bool.not_false, Bool.not_true, b2, p2, List.length_cons, List.length_nil, hly, b5, t98 (ByteArray.mk #[44]) s (by decide) i3, h]
     unfold endR
     simp only [t123 _ _ s i3, g, sW]
   ·refine ⟨false, k3, Tag.mk 5 0 mt [] (xs ++ [t]), Tag.mk 5 0 mt [] (ys ++ [u]), i3, by omega, ?_, ?_, fun h => by cases h⟩
    ·simp only [p1, sW, Bool.not_true, List.length_cons, List.length_nil, hlx, b4, t97 _ s i3, h, h93, g]
    ·simp only [sW, Int.reduceEq, Int.reduceLT, Int.reduceLE, Int.reduceGE, Int.reduceGT, Bool.not_false, Bool.not_true, b2, p2, List.length_cons, List.length_nil, hly, b5, t98 (ByteArray.mk #[44]) s (by decide) i3, h]
     unfold endR
     simp only [t123 _ _ s i3, g, sW]
theorem names_step {s : ByteArray} {k : Nat} (hk : In s k) (hp : ∀ k', k ≤ k' → In s k' → PieceAt s k') (hl : ∀ k', k < k' → In s k' → NamesAt s k') : NamesAt s k := by
 intro z z' ns xs ys hxy hlen hlen2 hns
 have hle := hk.le
 have hsz := hk.sz
 obtain ⟨k1, i1, l1, b1, b2, b3⟩ := blanks hk
 have hln : ns.length + (0 + 1) ≤ 4294967296 := by omega
 have hlx : xs.length + (0 + 1) ≤ 4294967296 := by omega
 have hly : ys.length + (0 + 1) ≤ 4294967296 := by rw [← hxy.1]; omega
 rw [n_96s0e1dg1, n_103sd34dl7]
 by_cases h34 : hv s k1 = 34
 ·obtain ⟨ok, k2, e, e', i2, l2, x1, x2, x3⟩ := text i1 h34
  cases ok with
  | false =>
   refine ⟨false, k2, zt, Tag.mk 6 0 mt (ns ++ [e']) (ys ++ [zt]), i2, by omega, ?_, ?_, fun h => by cases h⟩
   ·simp only [b1, t91 s i1, h34, bne_self_eq_false, x1, sW, Bool.not_false]
   ·simp only [sW, Int.reduceEq, Int.reduceLT, Int.reduceLE, Int.reduceGE, Int.reduceGT, Bool.not_false, b2, x2, List.length_cons, List.length_nil, hln, blanksw, t123w _ _ s i2, piecew s i2, hly, t98w]
    unfold endR
    simp only [t123w _ _ s i2, sW]
  | true =>
   obtain ⟨this, hes, hes2⟩ := x3 rfl
   subst this
   have hns' : ∀ s ∈ ns ++ [e], s.size ≤ 1048576 := fun s hs => by
    rcases List.mem_append.1 hs with h | h
    ·exact hns s h
    ·rw [List.mem_singleton.1 h]; exact hes
   obtain ⟨k3, i3, l3, c1, c2, c3⟩ := blanks i2
   have h58 : hit (ByteArray.mk #[58]) s k3 = inr 58 58 s k3 := hit_byte 58 s k3
   rcases Bool.eq_false_or_eq_true (inr 58 58 s k3) with g | g
   ·have i4 := inr_in i3 g
    obtain ⟨ok, k5, t, u, i5, l5, p1, p2, p3⟩ := hp (k3 + 1) (by omega) i4
    cases ok with
    | false =>
     refine ⟨false, k5, zt, Tag.mk 6 0 mt (ns ++ [e]) (ys ++ [u]), i5, by omega, ?_, ?_, fun h => by cases h⟩
     ·simp only [b1, t91 s i1, h34, bne_self_eq_false, x1, sW, Bool.not_true, Bool.not_false, c1, t97 _ s i3, h58, g, p1]
     ·simp only [sW, Int.reduceEq, Int.reduceLT, Int.reduceLE, Int.reduceGE, Int.reduceGT, Bool.not_false, Bool.not_true, b2, x2, List.length_cons, List.length_nil, hln, c2, t123 _ _ s i3, g, p2, hly, blanksw, t98w]
      unfold endR
      simp only [t123w _ _ s i5, sW]
    | true =>
     obtain ⟨hq, hbk⟩ := p3 rfl
     obtain ⟨k6, i6, l6, d1, d2, d3⟩ := blanks i5
     rcases Bool.eq_false_or_eq_true (hit (ByteArray.mk #[44]) s k6) with h | h
     ·have i7 := hit_in i6 h
      obtain ⟨ok, k8, t', u', j1, j2, j3, j4, j5⟩ := hl (k6 + 1) (by omega) i7 z z' (ns ++ [e]) (xs ++ [t]) (ys ++ [u]) (hxy.snoc hq) (by rw [List.length_append, List.length_singleton]; omega) (by rw [List.length_append, List.length_singleton]; omega) hns'
      refine ⟨ok, k8, t', u', j1, by omega, ?_, ?_, fun h => ⟨(j5 h).1, by have := (j5 h).2; rw [bulkL_snoc, nsum_snoc] at this; omega⟩⟩
      ·simp only [b1, t91 s i1, h34, bne_self_eq_false, x1, sW, Bool.not_true, Bool.not_false, c1, t97 _ s i3, h58, g, p1, List.length_cons, List.length_nil, hln, hlx, d1, t97 _ s i6, h]
       exact j3
      ·simp only [sW, Int.reduceEq, Int.reduceLT, Int.reduceLE, Int.reduceGE, Int.reduceGT, Bool.not_false, Bool.not_true, b2, x2, List.length_cons, List.length_nil, hln, c2, t123 _ _ s i3, g, p2, hly, d2, t98 (ByteArray.mk #[44]) s (by decide) i6, h, wk i6] at j4 ⊢
       exact j4
     ·have h125 : hit (ByteArray.mk #[125]) s k6 = inr 125 125 s k6 := hit_byte 125 s k6
      rcases Bool.eq_false_or_eq_true (inr 125 125 s k6) with q | q
      ·refine ⟨true, k6 + 1, Tag.mk 6 0 mt (ns ++ [e]) (xs ++ [t]), Tag.mk 6 0 mt (ns ++ [e]) (ys ++ [u]), inr_in i6 q, by omega, ?_, ?_, fun _ => ⟨PEq.node _ _ _ _ (hxy.snoc hq) (Nat.zero_le _) (by rw [List.length_append, List.length_singleton]; omega) hns' (by rw [List.length_append, List.length_singleton]; omega), by rw [Tag.bulk, bulkL_snoc, nsum_snoc]; simp only [mt_size]; omega⟩⟩
       ·simp only [b1, t91 s i1, h34, bne_self_eq_false, x1, sW, Bool.not_true, Bool.not_false, c1, t97 _ s i3, h58, g, p1, List.length_cons, List.length_nil, hln, hlx, d1, t97 _ s i6, h, h125, q]
       ·simp only [sW, Int.reduceEq, Int.reduceLT, Int.reduceLE, Int.reduceGE, Int.reduceGT, Bool.not_false, Bool.not_true, b2, x2, List.length_cons, List.length_nil, hln, c2, t123 _ _ s i3, g, p2, hly, d2, t98 (ByteArray.mk #[44]) s (by decide) i6, h]
        unfold endR
        simp only [t123 _ _ s i6, q, sW]
      ·refine ⟨false, k6, Tag.mk 6 0 mt (ns ++ [e]) (xs ++ [t]), Tag.mk 6 0 mt (ns ++ [e]) (ys ++ [u]), i6, by omega, ?_, ?_, fun h => by cases h⟩
       ·simp only [b1, t91 s i1, h34, bne_self_eq_false, x1, sW, Bool.not_true, Bool.not_false, c1, t97 _ s i3, h58, g, p1, List.length_cons, List.length_nil, hln, hlx, d1, t97 _ s i6, h, h125, q]
       ·simp only [sW, Int.reduceEq, Int.reduceLT, Int.reduceLE, Int.reduceGE, Int.reduceGT, Bool.not_false, Bool.not_true, b2, x2, List.length_cons, List.length_nil, hln, c2, t123 _ _ s i3, g, p2, hly, d2, t98 (ByteArray.mk #[44]) s (by decide) i6, h]
        unfold endR
        simp only [t123 _ _ s i6, q, sW]
   ·refine ⟨false, k3, zt, Tag.mk 6 0 mt (ns ++ [e]) (ys ++ [zt]), i3, by omega, ?_, ?_, fun h => by cases h⟩
    ·simp only [b1, t91 s i1, h34, bne_self_eq_false, x1, sW, Bool.not_true, Bool.not_false, c1, t97 _ s i3, h58, g]
    ·simp only [sW, Int.reduceEq, Int.reduceLT, Int.reduceLE, Int.reduceGE, Int.reduceGT, Bool.not_false, Bool.not_true, b2, x2, List.length_cons, List.length_nil, hln, c2, t123 _ _ s i3, g, piecew s i3, hly, blanksw, t98w]
     unfold endR
     simp only [t123w _ _ s i3, sW]
 ·obtain ⟨e', x2⟩ := text_no i1 h34
  have hne : (hv s k1 != 34) = true := by simpa using h34
  refine ⟨false, k1, zt, Tag.mk 6 0 mt (ns ++ [e']) (ys ++ [zt]), i1, by omega, ?_, ?_, fun h => by cases h⟩
  ·simp only [b1, t91 s i1, hne, sW]
  ·simp only [sW, Int.reduceEq, Int.reduceLT, Int.reduceLE, Int.reduceGE, Int.reduceGT, Bool.not_false, b2, x2, List.length_cons, List.length_nil, hln, blanksw, t123w _ _ s i1, piecew s i1, hly, t98w]
   unfold endR
   simp only [t123w _ _ s i1, sW]
end Go.Proofs.YtdmggfegkaiaiaaGreatDoor
end
section
namespace Go.Proofs.YtdmggfegkaiaiaaGreatDoor
open Go.Awp Go.Tx
set_option maxRecDepth 20000
theorem list_at {s : ByteArray} {k : Nat} (hk : In s k) (h : hv s k = 91) (hl : ∀ k', k < k' → In s k' → ListAt s k') : ∃ ok k' t u, In s k' ∧ k ≤ k' ∧
  n_95s0e1d (Rd s k, ()) = some (ok, Rd s k', t, ()) ∧ n_103sd34d (5, 93, Rr s k false, ()) = some (Rr s k' (!ok), u, ()) ∧ (ok = true → PEq t u ∧ t.bulk + 5 * k ≤ 5 * k') := by
 have hk1 := in_of_hv hk (by omega)
 obtain ⟨k2, i2, l2, b1, b2, b3⟩ := blanks hk1
 have h93 : hit (ByteArray.mk #[93]) s k2 = inr 93 93 s k2 := hit_byte 93 s k2
 rcases Bool.eq_false_or_eq_true (inr 93 93 s k2) with g | g
 ·refine ⟨true, k2 + 1, Tag.mk 5 0 mt [] [], Tag.mk 5 0 mt [] [], inr_in i2 g, by omega, ?_, ?_, fun _ => ⟨PEq.node _ _ _ _ PsEq.nil (Nat.zero_le _) (Nat.zero_le _) (fun s h => by cases h) (Nat.zero_le _), by rw [Tag.bulk, bulkL]; simp only [mt_size, List.map_nil, List.sum_nil]; omega⟩⟩
  ·rw [n_95s0e1d]
   simp only [sW, wk hk, b1, t97 _ s i2, h93, g]
  ·rw [n_103sd34d]
   simp only [sW, wk hk, b2, t100 _ _ s false i2, g, Bool.not_false, Bool.true_and, wk i2]
   rfl
 ·obtain ⟨ok, k', t, u, j1, j2, j3, j4, j5⟩ := hl k2 (by omega) i2 zt zt [] [] PsEq.nil (Nat.zero_le _)
  refine ⟨ok, k', t, u, j1, by omega, ?_, ?_, fun h => ⟨(j5 h).1, by have := (j5 h).2; rw [bulkL] at this; omega⟩⟩
  ·rw [n_95s0e1dg1] at j3
   rw [n_95s0e1d]
   simp only [sW, wk hk, b1, t97 _ s i2, h93, g, bnd] at j3 ⊢
   exact j3
  ·rw [n_103sd34d]
   simp only [sW, wk hk, b2, t100 _ _ s false i2, g, Bool.not_false, Bool.and_false] at j4 ⊢
   exact j4
theorem names_at {s : ByteArray} {k : Nat} (hk : In s k) (h : hv s k = 123) (hl : ∀ k', k < k' → In s k' → NamesAt s k') : ∃ ok k' t u, In s k' ∧ k ≤ k' ∧
  n_96s0e1d (Rd s k, ()) = some (ok, Rd s k', t, ()) ∧ n_103sd34d (6, 125, Rr s k false, ()) = some (Rr s k' (!ok), u, ()) ∧ (ok = true → PEq t u ∧ t.bulk + 5 * k ≤ 5 * k') := by
 have hk1 := in_of_hv hk (by omega)
 obtain ⟨k2, i2, l2, b1, b2, b3⟩ := blanks hk1
 have h93 : hit (ByteArray.mk #[125]) s k2 = inr 125 125 s k2 := hit_byte 125 s k2
 rcases Bool.eq_false_or_eq_true (inr 125 125 s k2) with g | g
 ·refine ⟨true, k2 + 1, Tag.mk 6 0 mt [] [], Tag.mk 6 0 mt [] [], inr_in i2 g, by omega, ?_, ?_, fun _ => ⟨PEq.node _ _ _ _ PsEq.nil (Nat.zero_le _) (Nat.zero_le _) (fun s h => by cases h) (Nat.zero_le _), by rw [Tag.bulk, bulkL]; simp only [mt_size, List.map_nil, List.sum_nil]; omega⟩⟩
  ·rw [n_96s0e1d]
   simp only [sW, wk hk, b1, t97 _ s i2, h93, g]
  ·rw [n_103sd34d]
   simp only [sW, wk hk, b2, t100 _ _ s false i2, g, Bool.not_false, Bool.true_and, wk i2]
   rfl
 ·obtain ⟨ok, k', t, u, j1, j2, j3, j4, j5⟩ := hl k2 (by omega) i2 zt zt [] [] [] PsEq.nil (Nat.zero_le _) (Nat.zero_le _) (fun s h => by cases h)
  refine ⟨ok, k', t, u, j1, by omega, ?_, ?_, fun h => ⟨(j5 h).1, by have := (j5 h).2; rw [bulkL] at this; simp only [List.map_nil, List.sum_nil] at this; omega⟩⟩
  ·rw [n_96s0e1dg1] at j3
   rw [n_96s0e1d]
   simp only [sW, wk hk, b1, t97 _ s i2, h93, g, bnd] at j3 ⊢
   exact j3
  ·rw [n_103sd34d]
   simp only [sW, wk hk, b2, t100 _ _ s false i2, g, Bool.not_false, Bool.and_false] at j4 ⊢
   exact j4
theorem hitc (c : UInt8) (hc : 0 < (c.toNat : Int)) (s : ByteArray) (k : Nat) : hit (ByteArray.mk #[c]) s k = decide (hv s k = (c.toNat : Int)) := by rw [hit_byte]; exact inr_eq hc s k
theorem piece_step {s : ByteArray} {k : Nat} (hk : In s k) (hl : ∀ k', k < k' → In s k' → ListAt s k') (hn : ∀ k', k < k' → In s k' → NamesAt s k') : PieceAt s k := by
 obtain ⟨k1, i1, l1, b1, b2, b3⟩ := blanks hk
 have q110 : hit (ByteArray.mk #[110]) s k1 = decide (hv s k1 = 110) := hitc 110 (by decide) s k1
 have q102 : hit (ByteArray.mk #[102]) s k1 = decide (hv s k1 = 102) := hitc 102 (by decide) s k1
 have q116 : hit (ByteArray.mk #[116]) s k1 = decide (hv s k1 = 116) := hitc 116 (by decide) s k1
 have q45 : hit (ByteArray.mk #[45]) s k1 = decide (hv s k1 = 45) := hitc 45 (by decide) s k1
 have q34 : hit (ByteArray.mk #[34]) s k1 = decide (hv s k1 = 34) := hitc 34 (by decide) s k1
 have q91 : hit (ByteArray.mk #[91]) s k1 = decide (hv s k1 = 91) := hitc 91 (by decide) s k1
 have q123 : hit (ByteArray.mk #[123]) s k1 = decide (hv s k1 = 123) := hitc 123 (by decide) s k1
 have r110 := t98 (ByteArray.mk #[110]) s (by decide) i1
 have r102 := t98 (ByteArray.mk #[102]) s (by decide) i1
 have r116 := t98 (ByteArray.mk #[116]) s (by decide) i1
 have r45 := t98 (ByteArray.mk #[45]) s (by decide) i1
 have r34 := t98 (ByteArray.mk #[34]) s (by decide) i1
 have r91 := t98 (ByteArray.mk #[91]) s (by decide) i1
 have r123 := t98 (ByteArray.mk #[123]) s (by decide) i1
 rw [q110] at r110
 rw [q102] at r102
 rw [q116] at r116
 rw [q45] at r45
 rw [q34] at r34
 rw [q91] at r91
 rw [q123] at r123
 unfold PieceAt
 rw [n_65s0e1d, n_67sa2e4]
 by_cases e110 : hv s k1 = 110
 ·obtain ⟨ok, k2, i2, l2, w0, w1, w2⟩ := word (ByteArray.mk #[110, 117, 108, 108]) (s := s) (by decide) i1
  refine ⟨ok, k2, zt, zt, i2, by omega, ?_, ?_, fun h => ⟨PEq.leaf _ _ _ _ (Or.inl rfl) (Nat.zero_le _), by have := w0 h; rw [Tag.bulk, bulkL]; simp only [mt_size, List.map_nil, List.sum_nil]; simp only [ByteArray.size, List.size_toArray, List.length_cons, List.length_nil] at this; omega⟩⟩
  ·simp only [sW, Int.reduceEq, Int.reduceLT, Int.reduceLE, Int.reduceGE, Int.reduceGT, decide_true, decide_false, b1, t91 s i1, e110, w1]
  ·simp only [sW, Int.reduceEq, Int.reduceLT, Int.reduceLE, Int.reduceGE, Int.reduceGT, decide_true, decide_false, b2, r110, e110, w2]
 by_cases e102 : hv s k1 = 102
 ·obtain ⟨ok, k2, i2, l2, w0, w1, w2⟩ := word (ByteArray.mk #[102, 97, 108, 115, 101]) (s := s) (by decide) i1
  refine ⟨ok, k2, Tag.mk 1 0 mt [] [], Tag.mk 1 0 mt [] [], i2, by omega, ?_, ?_, fun h => ⟨PEq.leaf _ _ _ _ (Or.inl rfl) (Nat.zero_le _), by have := w0 h; rw [Tag.bulk, bulkL]; simp only [mt_size, List.map_nil, List.sum_nil]; simp only [ByteArray.size, List.size_toArray, List.length_cons, List.length_nil] at this; omega⟩⟩
  ·simp only [sW, Int.reduceEq, Int.reduceLT, Int.reduceLE, Int.reduceGE, Int.reduceGT, decide_true, decide_false, b1, t91 s i1, e102, w1]
  ·simp only [sW, Int.reduceEq, Int.reduceLT, Int.reduceLE, Int.reduceGE, Int.reduceGT, decide_true, decide_false, b2, r110, r102, e102, w2]
 by_cases e116 : hv s k1 = 116
 ·obtain ⟨ok, k2, i2, l2, w0, w1, w2⟩ := word (ByteArray.mk #[116, 114, 117, 101]) (s := s) (by decide) i1
  refine ⟨ok, k2, Tag.mk 2 0 mt [] [], Tag.mk 2 0 mt [] [], i2, by omega, ?_, ?_, fun h => ⟨PEq.leaf _ _ _ _ (Or.inl rfl) (Nat.zero_le _), by have := w0 h; rw [Tag.bulk, bulkL]; simp only [mt_size, List.map_nil, List.sum_nil]; simp only [ByteArray.size, List.size_toArray, List.length_cons, List.length_nil] at this; omega⟩⟩
  ·simp only [sW, Int.reduceEq, Int.reduceLT, Int.reduceLE, Int.reduceGE, Int.reduceGT, decide_true, decide_false, b1, t91 s i1, e116, w1]
  ·simp only [sW, Int.reduceEq, Int.reduceLT, Int.reduceLE, Int.reduceGE, Int.reduceGT, decide_true, decide_false, b2, r110, r102, r116, e116, w2]
 by_cases e45 : hv s k1 = 45
 ·obtain ⟨ok, k2, t, r, i2, l2, w1, w2, w3⟩ := number i1
  refine ⟨ok, k2, t, Tag.mk 3 r mt [] [], i2, by omega, ?_, ?_, fun h => ?_⟩
  ·simp only [sW, Int.reduceEq, Int.reduceLT, Int.reduceLE, Int.reduceGE, Int.reduceGT, decide_true, decide_false, b1, t91 s i1, e45, w1]
  ·simp only [sW, Int.reduceEq, Int.reduceLT, Int.reduceLE, Int.reduceGE, Int.reduceGT, decide_true, decide_false, b2, r110, r102, r116, r45, e45, w2]
  ·obtain ⟨hlt, n, rfl, hn⟩ := w3 h
   exact ⟨PEq.leaf _ _ _ _ hn (Nat.zero_le _), by rw [Tag.bulk, bulkL]; simp only [mt_size, List.map_nil, List.sum_nil]; omega⟩
 by_cases e48 : hv s k1 ≥ 48 ∧ hv s k1 ≤ 57
 ·have hin : inr 48 57 s k1 = true := (inr_hv (by decide) s k1).2 e48
  obtain ⟨ok, k2, t, r, i2, l2, w1, w2, w3⟩ := number i1
  refine ⟨ok, k2, t, Tag.mk 3 r mt [] [], i2, by omega, ?_, ?_, fun h => ?_⟩
  ·simp only [sW, Int.reduceEq, Int.reduceLT, Int.reduceLE, Int.reduceGE, Int.reduceGT, decide_true, decide_false, b1, t91 s i1, e110, e102, e116, e45, e48.1, e48.2, w1]
  ·simp only [sW, Int.reduceEq, Int.reduceLT, Int.reduceLE, Int.reduceGE, Int.reduceGT, decide_true, decide_false, b2, r110, r102, r116, r45, e110, e102, e116, e45, t100 48 57 s false i1, hin, Bool.not_false, Bool.true_and, w2]
  ·obtain ⟨hlt, n, rfl, hn⟩ := w3 h
   exact ⟨PEq.leaf _ _ _ _ hn (Nat.zero_le _), by rw [Tag.bulk, bulkL]; simp only [mt_size, List.map_nil, List.sum_nil]; omega⟩
 have hin : inr 48 57 s k1 = false := (inr_hvf (by decide) s k1).2 e48
 by_cases e34 : hv s k1 = 34
 ·obtain ⟨ok, k2, e, e', i2, l2, w1, w2, w3⟩ := text i1 e34
  refine ⟨ok, k2, Tag.mk 4 0 e [] [], Tag.mk 4 0 e' [] [], i2, by omega, ?_, ?_, fun h => ?_⟩
  ·simp only [sW, Int.reduceEq, Int.reduceLT, Int.reduceLE, Int.reduceGE, Int.reduceGT, decide_true, decide_false, b1, t91 s i1, e34, w1]
  ·simp only [sW, Int.reduceEq, Int.reduceLT, Int.reduceLE, Int.reduceGE, Int.reduceGT, decide_true, decide_false, b2, r110, r102, r116, r45, r34, e34, t100 48 57 s false i1, hin, Bool.not_false, Bool.and_false, w2]
  ·obtain ⟨h1, h2, h3⟩ := w3 h
   subst h1
   exact ⟨PEq.leaf _ _ _ _ (Or.inl rfl) h2, by rw [Tag.bulk, bulkL]; simp only [List.map_nil, List.sum_nil]; omega⟩
 have dig : ∀ {α : Type} (x y : α), (if decide (hv s k1 ≥ 48) = true then (if decide (hv s k1 ≤ 57) = true then x else y) else y) = y := by
  intro α x y
  by_cases h1 : hv s k1 ≥ 48
  ·have h2 : ¬ hv s k1 ≤ 57 := fun h => e48 ⟨h1, h⟩
   simp only [h1, h2, sW, Int.reduceEq, Int.reduceLT, Int.reduceLE, Int.reduceGE, Int.reduceGT, decide_true, decide_false]
  ·simp only [h1, sW, Int.reduceEq, Int.reduceLT, Int.reduceLE, Int.reduceGE, Int.reduceGT, decide_true, decide_false]
 by_cases e91 : hv s k1 = 91
 ·obtain ⟨ok, k2, t, u, i2, l2, w1, w2, w3⟩ := list_at i1 e91 fun k' h => hl k' (by omega)
  refine ⟨ok, k2, t, u, i2, by omega, ?_, ?_, fun h => ⟨(w3 h).1, by have := (w3 h).2; omega⟩⟩
  ·simp only [sW, Int.reduceEq, Int.reduceLT, Int.reduceLE, Int.reduceGE, Int.reduceGT, decide_true, decide_false, b1, t91 s i1, e91, w1]
  ·simp only [sW, Int.reduceEq, Int.reduceLT, Int.reduceLE, Int.reduceGE, Int.reduceGT, decide_true, decide_false, b2, r110, r102, r116, r45, r34, r91, e91, t100 48 57 s false i1, hin, Bool.not_false, Bool.and_false, w2]
 by_cases e123 : hv s k1 = 123
 ·obtain ⟨ok, k2, t, u, i2, l2, w1, w2, w3⟩ := names_at i1 e123 fun k' h => hn k' (by omega)
  refine ⟨ok, k2, t, u, i2, by omega, ?_, ?_, fun h => ⟨(w3 h).1, by have := (w3 h).2; omega⟩⟩
  ·simp only [sW, Int.reduceEq, Int.reduceLT, Int.reduceLE, Int.reduceGE, Int.reduceGT, decide_true, decide_false, b1, t91 s i1, e123, w1]
  ·simp only [sW, Int.reduceEq, Int.reduceLT, Int.reduceLE, Int.reduceGE, Int.reduceGT, decide_true, decide_false, b2, r110, r102, r116, r45, r34, r91, r123, e123, t100 48 57 s false i1, hin, Bool.not_false, Bool.and_false, w2]
 ·refine ⟨false, k1, zt, zt, i1, l1, ?_, ?_, fun h => by cases h⟩
  ·simp only [sW, Int.reduceEq, Int.reduceLT, Int.reduceLE, Int.reduceGE, Int.reduceGT, decide_true, decide_false, b1, t91 s i1, e110, e102, e116, e45]
   by_cases h1 : hv s k1 ≥ 48
   ·have h2 : ¬ hv s k1 ≤ 57 := fun h => e48 ⟨h1, h⟩
    simp only [h1, h2, sW, Int.reduceEq, Int.reduceLT, Int.reduceLE, Int.reduceGE, Int.reduceGT, decide_true, decide_false, e34, e91, e123]
   ·simp only [h1, sW, Int.reduceEq, Int.reduceLT, Int.reduceLE, Int.reduceGE, Int.reduceGT, decide_true, decide_false, e34, e91, e123]
  ·simp only [sW, Int.reduceEq, Int.reduceLT, Int.reduceLE, Int.reduceGE, Int.reduceGT, decide_true, decide_false, b2, r110, r102, r116, r45, r34, r91, r123, e110, e102, e116, e45, e34, e91, e123, t100 48 57 s false i1, hin, Bool.not_false, Bool.and_false]
   rfl
theorem pieces (s : ByteArray) : ∀ (m k : Nat), s.size - k < m → In s k → PieceAt s k ∧ ListAt s k ∧ NamesAt s k := by
 intro m
 induction m with
 | zero => intro k h; omega
 | succ m ih =>
  intro k h hk
  have hl : ∀ k', k < k' → In s k' → PieceAt s k' ∧ ListAt s k' ∧ NamesAt s k' := fun k' h1 h2 => ih k' (by have := h2.le; omega) h2
  have hp := piece_step hk (fun k' a b => (hl k' a b).2.1) (fun k' a b => (hl k' a b).2.2)
  have hpp : ∀ k', k ≤ k' → In s k' → PieceAt s k' := fun k' a b => by
   by_cases e : k = k'
   ·subst e; exact hp
   ·exact (hl k' (by omega) b).1
  exact ⟨hp, list_step hk hpp fun k' a b => (hl k' a b).2.1, names_step hk hpp fun k' a b => (hl k' a b).2.2⟩
theorem piece_at {s : ByteArray} {k : Nat} (hk : In s k) : PieceAt s k := (pieces s _ k (Nat.lt_succ_self _) hk).1
end Go.Proofs.YtdmggfegkaiaiaaGreatDoor
end
section
namespace Go.Proofs.YtdmggfegkaiaiaaGreatDoor
open Go.Awp Go.Tx
set_option maxRecDepth 20000
theorem names_valid (t : Tag) (ht : t.Fit big) : ∀ (m k : Nat), t.names.length - k = m → ∃ o : Option Nat,
  n_117c86l2 (t.names, (t.names.length : Int), (k : Int), ()) = some (match o with | some i => .inl ((i : Int), ()) | none => .inr ()) ∧ (o = none → ∀ s ∈ t.names.drop k, Lib.validD s.data.toList = true) := by
 intro m
 induction m with
 | zero =>
  intro k hk
  have hlt : ¬ k < t.names.length := by omega
  rw [n_117c86l2]
  simp only [sW, hlt]
  refine ⟨none, rfl, fun _ s hs => ?_⟩
  rw [(at_end hlt).1] at hs; cases hs
 | succ m ih =>
  intro k hk
  have hlt : k < t.names.length := by omega
  obtain ⟨p, hp1, hm, hd, g1, g2⟩ := at_lt hlt
  rw [n_117c86l2]
  simp only [sW, g1, g2, hlt, hp1, f86 (ht.name hm), wrap_succ hlt ht.names]
  cases hv : Lib.validD p.data.toList with
  | true =>
   simp only [Bool.not_true, sW]
   obtain ⟨o, o1, o2⟩ := ih (k + 1) (by omega)
   refine ⟨o, o1, fun ho s hs => ?_⟩
   rw [hd] at hs
   rcases List.mem_cons.1 hs with rfl | hs
   ·exact hv
   ·exact o2 ho s hs
  | false => simp only [Bool.not_false, sW]; exact ⟨some k, rfl, fun h => by cases h⟩
theorem parts_true (t : Tag) (ht : t.Fit big) : ∀ (m k : Nat), t.parts.length - k = m → ∃ o : Option Nat,
  n_118c90l2 (t.parts, (t.parts.length : Int), (k : Int), ()) = some (match o with | some i => .inl ((i : Int), ()) | none => .inr ()) ∧ (o = none → ∀ p ∈ t.parts.drop k, n_61 (p, ()) = some (true, ())) := by
 intro m
 induction m with
 | zero =>
  intro k hk
  have hlt : ¬ k < t.parts.length := by omega
  rw [n_118c90l2]
  simp only [sW, hlt]
  refine ⟨.none, rfl, fun _ p hp => ?_⟩
  rw [(at_end hlt).1] at hp; cases hp
 | succ m ih =>
  intro k hk
  have hlt : k < t.parts.length := by omega
  obtain ⟨p, hp1, hm, hd, g1, g2⟩ := at_lt hlt
  obtain ⟨b, e1, _, _⟩ := f61 p (ht.part hm)
  have e4 : n_90 (p, ()) = some (!b, ()) := by
   rw [n_90]
   simp only [e1, sW]
  rw [n_118c90l2]
  simp only [sW, g1, g2, hlt, hp1, e4, wrap_succ hlt ht.parts]
  cases b with
  | true =>
   simp only [Bool.not_true, sW]
   obtain ⟨o, o1, o2⟩ := ih (k + 1) (by omega)
   refine ⟨o, o1, fun ho q hq => ?_⟩
   rw [hd] at hq
   rcases List.mem_cons.1 hq with rfl | hq
   ·exact e1
   ·exact o2 ho q hq
  | false => simp only [Bool.not_false, sW]; exact ⟨some k, rfl, fun h => by cases h⟩
structure Loc (t : Tag) : Prop where
 k0 : 0 ≤ t.kind
 k6 : t.kind ≤ 6
 n0 : t.kind ≠ 3 → t.n = 0
 lo : -9007199254740992 ≤ t.n
 hi : t.n ≤ 9007199254740992
 tx : t.kind ≠ 4 → t.text = mt
 pt : t.kind < 5 → t.parts = []
 ln : t.kind = 6 → t.names.length = t.parts.length
 nm : t.kind ≠ 6 → t.names = []
 vt : Lib.validD t.text.data.toList = true
 vn : ∀ s ∈ t.names, Lib.validD s.data.toList = true
inductive Good : Tag → Prop
 | mk {t : Tag} : Loc t → (∀ p ∈ t.parts, Good p) → Good t
theorem Good.loc {t : Tag} (h : Good t) : Loc t := by cases h; assumption
theorem Good.part {t p : Tag} (h : Good t) (hp : p ∈ t.parts) : Good p := by cases h with | mk _ h => exact h p hp
theorem mt_iff {t : ByteArray} : t.toList = (ByteArray.mk #[]).toList ↔ t = mt := tl_eq
theorem loc_of (t : Tag) (ht : t.Fit big) (h : n_61 (t, ()) = some (true, ())) : Loc t ∧ ∀ p ∈ t.parts, n_61 (p, ()) = some (true, ()) := by
 have e86 := f86 ht.text
 obtain ⟨o, o1, o2⟩ := names_valid t ht _ 0 rfl
 obtain ⟨q, q1, q2⟩ := parts_true t ht _ 0 rfl
 simp only [Int.natCast_zero, Int.ofNat_eq_natCast, List.drop_zero] at o1 o2 q1 q2
 have hn : n_88c86 (t.names, ()) = some (o.isSome, ()) := by
  unfold n_88c86 n_117c86
  cases o with
  | none => simp only [o1, sW]; rfl
  | some i => simp only [o1, sW]; simp
 have hp : n_89c90 (t.parts, ()) = some (q.isSome, ()) := by
  rw [n_89c90, n_118c90]
  cases q with
  | none => simp only [q1, sW]; rfl
  | some i => simp only [q1, sW]; simp
 generalize hv : Lib.validD t.text.data.toList = v at e86
 have fin : (t.kind < 5 → t.parts = []) → (t.kind = 6 → t.names.length = t.parts.length) → (t.kind ≠ 6 → t.names = []) → (t.kind ≠ 3 → t.n = 0) → (t.kind ≠ 4 → t.text = mt) → 0 ≤ t.kind → t.kind ≤ 6 → -9007199254740992 ≤ t.n → t.n ≤ 9007199254740992 →
   (v && !o.isSome && !q.isSome) = true → Loc t ∧ ∀ p ∈ t.parts, n_61 (p, ()) = some (true, ()) := by
  intro a b c d e f g i j k
  cases o with
  | some _ => simp at k
  | none =>
   cases q with
   | some _ => simp at k
   | none =>
    cases v with
    | false => simp at k
    | true => exact ⟨⟨f, g, d, i, j, e, a, b, c, hv, o2 rfl⟩, q2 rfl⟩
 rw [n_61] at h
 by_cases a1 : t.kind < 0
 ·simp [a1] at h
 by_cases a2 : t.kind > 6
 ·simp [a1, a2] at h
 by_cases a3 : t.n < -9007199254740992
 ·by_cases k3 : t.kind = 3
  ·simp [k3, a3] at h
  ·have : t.n ≠ 0 := by omega
   simp [a1, a2, k3, this] at h
 by_cases a4 : t.n > 9007199254740992
 ·by_cases k3 : t.kind = 3
  ·simp [k3, a3, a4] at h
  ·have : t.n ≠ 0 := by omega
   simp [a1, a2, k3, this] at h
 have hX : ∀ {s : ByteArray}, s.toList = (ByteArray.mk #[]).toList ↔ s = mt := mt_iff
 generalize (ByteArray.mk #[]).toList = X at h hX
 by_cases c1 : t.kind ≠ 3 → t.n = 0
 case neg =>
  have k3 : t.kind ≠ 3 := fun h => c1 fun h2 => (h2 h).elim
  have n0 : t.n ≠ 0 := fun h => c1 fun _ => h
  simp [a1, a2, k3, n0] at h
 by_cases c2 : t.kind ≠ 4 → t.text = mt
 case neg =>
  have k4 : t.kind ≠ 4 := fun h => c2 fun h2 => (h2 h).elim
  have n0 : ¬ t.text.toList = X := fun h => c2 fun _ => hX.1 h
  by_cases k3 : t.kind = 3
  ·simp [k3, a3, a4, n0] at h
  ·simp [a1, a2, a3, a4, k3, c1 k3, k4, n0] at h
 have c2' : t.kind ≠ 4 → t.text.toList = X := fun h => hX.2 (c2 h)
 have hk : t.kind = 0 ∨ t.kind = 1 ∨ t.kind = 2 ∨ t.kind = 3 ∨ t.kind = 4 ∨ t.kind = 5 ∨ t.kind = 6 := by omega
 have z1 : ¬ (9007199254740992 : Int) < 0 := by decide
 rcases hk with k | k | k | k | k | k | k
 ·by_cases c4 : t.parts = []
  case neg => simp [List.length_pos_iff, k, c1, c2', c4] at h
  by_cases c3 : t.names = []
  case neg => simp [List.length_pos_iff, k, c1, c2', c4, c3] at h
  rw [c3] at hn
  rw [c4] at hp
  refine fin (fun _ => c4) (fun h => by omega) (fun _ => c3) c1 c2 (by omega) (by omega) (by omega) (by omega) ?_
  cases v <;> cases ho : o.isSome <;> cases hq : q.isSome <;> simp [List.length_pos_iff, k, c1, c2', c4, c3, e86, hn, hp, ho, hq] at h ⊢
 ·by_cases c4 : t.parts = []
  case neg => simp [List.length_pos_iff, k, c1, c2', c4] at h
  by_cases c3 : t.names = []
  case neg => simp [List.length_pos_iff, k, c1, c2', c4, c3] at h
  rw [c3] at hn
  rw [c4] at hp
  refine fin (fun _ => c4) (fun h => by omega) (fun _ => c3) c1 c2 (by omega) (by omega) (by omega) (by omega) ?_
  cases v <;> cases ho : o.isSome <;> cases hq : q.isSome <;> simp [List.length_pos_iff, k, c1, c2', c4, c3, e86, hn, hp, ho, hq] at h ⊢
 ·by_cases c4 : t.parts = []
  case neg => simp [List.length_pos_iff, k, c1, c2', c4] at h
  by_cases c3 : t.names = []
  case neg => simp [List.length_pos_iff, k, c1, c2', c4, c3] at h
  rw [c3] at hn
  rw [c4] at hp
  refine fin (fun _ => c4) (fun h => by omega) (fun _ => c3) c1 c2 (by omega) (by omega) (by omega) (by omega) ?_
  cases v <;> cases ho : o.isSome <;> cases hq : q.isSome <;> simp [List.length_pos_iff, k, c1, c2', c4, c3, e86, hn, hp, ho, hq] at h ⊢
 ·by_cases c4 : t.parts = []
  case neg => simp [List.length_pos_iff, k, c2', c4, a3, a4] at h
  by_cases c3 : t.names = []
  case neg => simp [List.length_pos_iff, k, c2', c4, c3, a3, a4] at h
  rw [c3] at hn
  rw [c4] at hp
  refine fin (fun _ => c4) (fun h => by omega) (fun _ => c3) c1 c2 (by omega) (by omega) (by omega) (by omega) ?_
  cases v <;> cases ho : o.isSome <;> cases hq : q.isSome <;> simp [List.length_pos_iff, k, c2', c4, c3, e86, hn, hp, ho, hq, a3, a4] at h ⊢
 ·by_cases c4 : t.parts = []
  case neg => simp [List.length_pos_iff, k, c1, c4] at h
  by_cases c3 : t.names = []
  case neg => simp [List.length_pos_iff, k, c1, c4, c3] at h
  rw [c3] at hn
  rw [c4] at hp
  refine fin (fun _ => c4) (fun h => by omega) (fun _ => c3) c1 c2 (by omega) (by omega) (by omega) (by omega) ?_
  cases v <;> cases ho : o.isSome <;> cases hq : q.isSome <;> simp [List.length_pos_iff, k, c1, c4, c3, e86, hn, hp, ho, hq] at h ⊢
 ·by_cases c3 : t.names = []
  case neg => simp [List.length_pos_iff, k, c1, c2', c3] at h
  rw [c3] at hn
  refine fin (fun h => by omega) (fun h => by omega) (fun _ => c3) c1 c2 (by omega) (by omega) (by omega) (by omega) ?_
  cases v <;> cases ho : o.isSome <;> cases hq : q.isSome <;> simp [List.length_pos_iff, k, c1, c2', c3, e86, hn, hp, ho, hq] at h ⊢
 ·by_cases c3 : (t.names.length : Int) = (t.parts.length : Int)
  case neg => simp [List.length_pos_iff, k, c1, c2', c3] at h
  refine fin (fun h => by omega) (fun _ => by omega) (fun h => (h k).elim) c1 c2 (by omega) (by omega) (by omega) (by omega) ?_
  cases v <;> cases ho : o.isSome <;> cases hq : q.isSome <;> simp [List.length_pos_iff, k, c1, c2', c3, e86, hn, hp, ho, hq] at h ⊢
theorem good_of : ∀ t : Tag, t.Fit big → n_61 (t, ()) = some (true, ()) → Good t :=
 Tag.ind fun t ih ht h => .mk (loc_of t ht h).1 fun p hp => ih p hp (ht.part hp) ((loc_of t ht h).2 p hp)
theorem pe_fit : ∀ (a b : Tag), PEq a b → a.Fit big ∧ b.Fit big := by
 refine Tag.ind fun a ih b h => ?_
 cases h with
 | mk h1 h2 h3 h4 h5 g1 g2 g3 g4 h6 =>
  have hbig : (1048576 : Nat) ≤ big := by decide
  refine ⟨.mk (by omega) (by omega) (fun s hs => by have := g3 s hs; omega) (by omega) fun p hp => ?_, .mk (by rw [← h2]; omega) (by rw [← h3]; omega) (fun s hs => by rw [← h3] at hs; have := g3 s hs; omega) (by omega) fun p hp => ?_⟩
  ·obtain ⟨i, hi⟩ := List.getElem?_of_mem hp
   have hlt := (List.getElem?_eq_some_iff.1 hi).1
   obtain ⟨q, hq⟩ : ∃ q, b.parts[i]? = some q := ⟨_, List.getElem?_eq_getElem (by omega)⟩
   exact (ih p hp q (h6 i p q hi hq)).1
  ·obtain ⟨i, hi⟩ := List.getElem?_of_mem hp
   have hlt := (List.getElem?_eq_some_iff.1 hi).1
   obtain ⟨q, hq⟩ : ∃ q, a.parts[i]? = some q := ⟨_, List.getElem?_eq_getElem (by omega)⟩
   exact (ih q (List.mem_of_getElem? hq) p (h6 i q p hq hi)).2
theorem pe_eq : ∀ (a b : Tag), PEq a b → Good a ∨ Good b → a = b := by
 refine Tag.ind fun a ih b h g => ?_
 cases h with
 | mk h1 h2 h3 h4 h5 g1 g2 g3 g4 h6 =>
  have hn : a.n = b.n := by
   rcases h4 with h4 | ⟨f1, f2⟩
   ·exact h4
   ·unfold far at f1 f2
    rcases g with g | g
    ·have := g.loc.lo; have := g.loc.hi; omega
    ·have := g.loc.lo; have := g.loc.hi; omega
  have hp : a.parts = b.parts := by
   apply List.ext_getElem? fun i => ?_
   by_cases hi : i < a.parts.length
   ·have e1 := List.getElem?_eq_getElem hi
    have e2 := List.getElem?_eq_getElem (show i < b.parts.length by omega)
    rw [e1, e2]
    congr 1
    refine ih _ (List.getElem_mem hi) _ (h6 i _ _ e1 e2) ?_
    rcases g with g | g
    ·exact Or.inl (g.part (List.getElem_mem hi))
    ·exact Or.inr (g.part (List.getElem_mem _))
   ·rw [List.getElem?_eq_none (by omega), List.getElem?_eq_none (by omega)]
  cases a
  cases b
  simp only at h1 h2 h3 hn hp
  subst h1 h2 h3 hn hp
  rfl
theorem names58 (ns : List ByteArray) (hns : ns.length ≤ big) (y : Size) : ∀ (m k : Nat) (z : Size), ns.length - k = m → ∃ z', ∀ t : Tag, n_58l3 (ns, (ns.length : Int), (k : Int), t, y, z, ()) = some (t, y, z', ()) := by
 intro m
 induction m with
 | zero =>
  intro k z hk
  have hlt : ¬ k < ns.length := by omega
  refine ⟨z, fun t => ?_⟩
  rw [n_58l3]
  simp only [sW, hlt]
 | succ m ih =>
  intro k z hk
  have hlt : k < ns.length := by omega
  obtain ⟨p, hp1, hm, hd, g1, g2⟩ := at_lt hlt
  obtain ⟨z', hz⟩ := ih (k + 1) (Size.mk z.depth z.pieces (IntKind.i64.wrap (z.bytes + (p.size : Int)))) (by omega)
  refine ⟨z', fun t => ?_⟩
  rw [n_58l3]
  simp only [sW, g1, g2, hlt, hp1, wrap_succ hlt hns]
  exact hz t
theorem parts58 (xs ys : List Tag) (hl : xs.length = ys.length) (hx : xs.length ≤ big) (h : ∀ (i : Nat) (p q : Tag), xs[i]? = some p → ys[i]? = some q → n_58 (p, ()) = n_58 (q, ())) : ∀ (m k : Nat) (y z : Size), xs.length - k = m →
  n_58l8 (xs, (xs.length : Int), (k : Int), y, z, ()) = n_58l8 (ys, (ys.length : Int), (k : Int), y, z, ()) := by
 intro m
 induction m with
 | zero =>
  intro k y z hk
  have h1 : ¬ k < xs.length := by omega
  have h2 : ¬ k < ys.length := by omega
  rw [n_58l8, n_58l8]
  simp only [sW, h1, h2]
 | succ m ih =>
  intro k y z hk
  have h1 : k < xs.length := by omega
  have h2 : k < ys.length := by omega
  have e1 := List.getElem?_eq_getElem h1
  have e2 := List.getElem?_eq_getElem h2
  rw [n_58l8, n_58l8]
  simp only [sW, h1, h2, e1, e2, h k _ _ e1 e2, wrap_succ h1 hx]
  congr 1
  funext x
  exact ih (k + 1) _ _ (by omega)
theorem pe_58 : ∀ (a b : Tag), PEq a b → n_58 (a, ()) = n_58 (b, ()) := by
 refine Tag.ind fun a ih b h => ?_
 cases h with
 | mk h1 h2 h3 h4 h5 g1 g2 g3 g4 h6 =>
  have hbig : (1048576 : Nat) ≤ big := by decide
  obtain ⟨z, hz⟩ := names58 a.names (by omega) (Size.mk 0 0 0) _ 0 (Size.mk 0 1 (a.text.size : Int)) rfl
  simp only [Int.natCast_zero, Int.ofNat_eq_natCast, List.drop_zero] at hz
  have hp := parts58 a.parts b.parts h5 (by omega) (fun i p q e1 e2 => ih p (List.mem_of_getElem? e1) q (h6 i p q e1 e2)) _ 0 (Size.mk 0 0 0) z rfl
  simp only [Int.natCast_zero, Int.ofNat_eq_natCast, List.drop_zero] at hp
  rw [n_58, n_58]
  simp only [← h2, ← h3, hz, sW, hp]
theorem pe_29 (a b : Tag) (h : PEq a b) : ∃ e, n_29 (a, ()) = some (e, ()) ∧ n_30 (b, ()) = some (e, ()) ∧ (e = 0 → a = b) := by
 obtain ⟨fa, fb⟩ := pe_fit a b h
 obtain ⟨e, e1, e2, e3⟩ := f29 b fb
 have h58 := pe_58 a b h
 obtain ⟨ba, ga, _, _⟩ := f61 a fa
 obtain ⟨bb, gb, _, _⟩ := f61 b fb
 by_cases hg : ba = true ∨ bb = true
 ·have heq : a = b := pe_eq a b h (by
   rcases hg with g | g
   ·subst g; exact Or.inl (good_of a fa ga)
   ·subst g; exact Or.inr (good_of b fb gb))
  subst heq
  exact ⟨e, e1, e2, fun _ => rfl⟩
 ·have ha : ba = false := by cases ba <;> simp_all
  have hb : bb = false := by cases bb <;> simp_all
  subst ha hb
  refine ⟨e, ?_, e2, fun h0 => ?_⟩
  ·rw [← e1]
   unfold n_29
   obtain ⟨x, d, s, c1, c2⟩ := f58 b fb
   simp only [h58, c2, sW]
   by_cases q1 : d > 20
   ·simp [q1]
   ·by_cases q2 : x > 500
    ·simp [q1, q2]
    ·by_cases q3 : s > 4096
     ·simp [q1, q2, q3]
     ·simp [q1, q2, q3, ga, gb]
  ·subst h0
   exfalso
   unfold n_29 at e1
   obtain ⟨x, d, s, c1, c2⟩ := f58 b fb
   simp only [c2, sW] at e1
   by_cases q1 : d > 20
   ·simp [q1] at e1
   ·by_cases q2 : x > 500
    ·simp [q1, q2] at e1
    ·by_cases q3 : s > 4096
     ·simp [q1, q2, q3] at e1
     ·simp [q1, q2, q3, gb] at e1
end Go.Proofs.YtdmggfegkaiaiaaGreatDoor
end
section
namespace Go.Proofs.YtdmggfegkaiaiaaGreatDoor
open Go.Awp Go.Tx
open IntKind (i64)
set_option maxRecDepth 20000
mutual
def Tag.cnt : Tag → Nat
 | .mk _ _ _ _ ps => 1 + cntL ps
def cntL : List Tag → Nat
 | [] => 0
 | p :: ps => p.cnt + cntL ps
end
mutual
def Tag.byts : Tag → Nat
 | .mk _ _ t ns ps => t.size + (ns.map ByteArray.size).sum + bytsL ps
def bytsL : List Tag → Nat
 | [] => 0
 | p :: ps => p.byts + bytsL ps
end
mutual
def Tag.dep : Tag → Nat
 | .mk _ _ _ _ ps => depL ps + 1
def depL : List Tag → Nat
 | [] => 0
 | p :: ps => max p.dep (depL ps)
end
mutual
theorem bulk_eq : ∀ t : Tag, t.bulk = t.cnt + t.byts
 | .mk _ _ t ns ps => by rw [Tag.bulk, Tag.cnt, Tag.byts, bulkL_eq ps]; omega
theorem bulkL_eq : ∀ ps : List Tag, bulkL ps = cntL ps + bytsL ps
 | [] => rfl
 | p :: ps => by rw [bulkL, cntL, bytsL, bulk_eq p, bulkL_eq ps]; omega
end
mutual
theorem dep_cnt : ∀ t : Tag, t.dep ≤ t.cnt
 | .mk _ _ t ns ps => by rw [Tag.dep, Tag.cnt]; have := depL_cnt ps; omega
theorem depL_cnt : ∀ ps : List Tag, depL ps ≤ cntL ps
 | [] => Nat.le_refl _
 | p :: ps => by rw [depL, cntL]; have := dep_cnt p; have := depL_cnt ps; omega
end
theorem cnt_mk (t : Tag) : t.cnt = 1 + cntL t.parts := by cases t; rfl
theorem byts_mk (t : Tag) : t.byts = t.text.size + (t.names.map ByteArray.size).sum + bytsL t.parts := by cases t; rfl
theorem dep_mk (t : Tag) : t.dep = depL t.parts + 1 := by cases t; rfl
theorem bulk_mk (t : Tag) : t.bulk = 1 + t.text.size + (t.names.map ByteArray.size).sum + bulkL t.parts := by cases t; rfl
theorem bulkL_mem : ∀ {ps : List Tag} {p : Tag}, p ∈ ps → p.bulk ≤ bulkL ps
 | q :: ps, p, h => by
  rw [bulkL]
  rcases List.mem_cons.1 h with rfl | h
  ·omega
  ·have := bulkL_mem h; omega
abbrev half : Nat := 4611686018427387904
theorem names58x (ns : List ByteArray) (t : Tag) (y : Size) (d p : Int) : ∀ (m k : Nat) (z : Nat), ns.length - k = m → ns.length ≤ half → z + ((ns.drop k).map ByteArray.size).sum ≤ half →
  n_58l3 (ns, (ns.length : Int), (k : Int), t, y, Size.mk d p (z : Int), ()) = some (t, y, Size.mk d p ((z + ((ns.drop k).map ByteArray.size).sum : Nat) : Int), ()) := by
 intro m
 induction m with
 | zero =>
  intro k z hk hl hz
  have hlt : ¬ k < ns.length := by omega
  rw [n_58l3, (at_end hlt).1]
  simp only [sW, hlt, List.map_nil, List.sum_nil, Nat.add_zero]
 | succ m ih =>
  intro k z hk hl hz
  have hlt : k < ns.length := by omega
  have hh : half ≤ 9223372036854775807 := by decide
  have hh2 : half = 4611686018427387904 := rfl
  obtain ⟨s, hp1, hm, hd, g1, g2⟩ := at_lt hlt
  rw [hd, List.map_cons, List.sum_cons] at hz ⊢
  have e : i64.wrap ((z : Int) + (s.size : Int)) = ((z + s.size : Nat) : Int) := by
   rw [wrap64 (by omega) (by omega)]; omega
  rw [n_58l3]
  simp only [sW, g1, g2, hlt, hp1, wrap_succ hlt (show ns.length ≤ 9223372036854775807 by omega), e]
  rw [ih (k + 1) (z + s.size) (by omega) hl (by omega), Nat.add_assoc]
theorem parts58x (ps : List Tag) (hp : ∀ p ∈ ps, n_58 (p, ()) = some (Size.mk p.dep p.cnt p.byts, ())) (y : Size) : ∀ (m k d c b : Nat), ps.length - k = m → ps.length ≤ half → c + cntL (ps.drop k) ≤ half → b + bytsL (ps.drop k) ≤ half →
  n_58l8 (ps, (ps.length : Int), (k : Int), y, Size.mk d c b, ()) = some (y, Size.mk ((max d (depL (ps.drop k)) : Nat) : Int) ((c + cntL (ps.drop k) : Nat) : Int) ((b + bytsL (ps.drop k) : Nat) : Int), ()) := by
 intro m
 induction m with
 | zero =>
  intro k d c b hk hl hc hb
  have hlt : ¬ k < ps.length := by omega
  rw [n_58l8, (at_end hlt).1]
  simp only [sW, hlt, depL, cntL, bytsL, Nat.add_zero, Nat.max_zero]
 | succ m ih =>
  intro k d c b hk hl hc hb
  have hlt : k < ps.length := by omega
  have hh2 : half = 4611686018427387904 := rfl
  obtain ⟨p, hp1, hm, hd, g1, g2⟩ := at_lt hlt
  rw [hd, cntL] at hc
  rw [hd, bytsL] at hb
  rw [hd, depL, cntL, bytsL]
  have e1 : i64.wrap ((c : Int) + (p.cnt : Int)) = ((c + p.cnt : Nat) : Int) := by
   rw [wrap64 (by omega) (by omega)]; omega
  have e2 : i64.wrap ((b : Int) + (p.byts : Int)) = ((b + p.byts : Nat) : Int) := by
   rw [wrap64 (by omega) (by omega)]; omega
  have e3 : max (d : Int) (p.dep : Int) = ((max d p.dep : Nat) : Int) := by omega
  rw [n_58l8]
  simp only [sW, g1, g2, hlt, hp1, hp p hm, wrap_succ hlt (show ps.length ≤ 9223372036854775807 by omega), e1, e2, e3]
  rw [ih (k + 1) (max d p.dep) (c + p.cnt) (b + p.byts) (by omega) hl (by omega) (by omega)]
  rw [Nat.max_assoc, Nat.add_assoc, Nat.add_assoc]
theorem f58x : ∀ t : Tag, t.Fit half → t.bulk ≤ half → n_58 (t, ()) = some (Size.mk t.dep t.cnt t.byts, ()) := by
 refine Tag.ind fun t ih ht hb => ?_
 have hh2 : half = 4611686018427387904 := rfl
 have hbk := bulk_eq t
 have hdc := dep_cnt t
 have h1 := bulk_mk t
 have hps : ∀ p ∈ t.parts, n_58 (p, ()) = some (Size.mk p.dep p.cnt p.byts, ()) := fun p hp => ih p hp (ht.part hp) (by have := bulkL_mem hp; omega)
 have b1 := byts_mk t
 have c1 := cnt_mk t
 have d1 := dep_mk t
 have hn := names58x t.names t (Size.mk 0 0 0) 0 1 _ 0 t.text.size rfl ht.names (by rw [List.drop_zero]; omega)
 have hp := parts58x t.parts hps (Size.mk 0 0 0) _ 0 0 1 (t.text.size + (t.names.map ByteArray.size).sum) rfl ht.parts (by rw [List.drop_zero]; omega) (by rw [List.drop_zero]; omega)
 rw [List.drop_zero] at hn hp
 have z0 : ((0 : Nat) : Int) = 0 := rfl
 have z1 : ((1 : Nat) : Int) = 1 := rfl
 rw [z0] at hn hp
 rw [z1] at hp
 rw [n_58]
 simp only [sW, hn, hp]
 have e : i64.wrap (((max 0 (depL t.parts) : Nat) : Int) + 1) = (t.dep : Int) := by
  rw [wrap64 (by omega) (by omega)]; omega
 have e2 : 1 + cntL t.parts = t.cnt := by omega
 have e3 : t.text.size + (t.names.map ByteArray.size).sum + bytsL t.parts = t.byts := by omega
 rw [e, e2, e3]
theorem f29x (t : Tag) (ht : t.Fit half) (hb : t.bulk ≤ half) (h : n_29 (t, ()) = some (0, ())) : Good t ∧ t.dep ≤ 20 ∧ t.cnt ≤ 500 ∧ t.byts ≤ 4096 := by
 have hbig : half ≤ big := by decide
 have hfb := Tag.Fit.mono hbig t ht
 unfold n_29 at h
 simp only [f58x t ht hb, sW] at h
 by_cases q1 : (t.dep : Int) > 20
 ·simp [q1] at h
 by_cases q2 : (t.cnt : Int) > 500
 ·simp [q1, q2] at h
 by_cases q3 : (t.byts : Int) > 4096
 ·simp [q1, q2, q3] at h
 obtain ⟨b, g, _, _⟩ := f61 t hfb
 cases b with
 | false => simp [q1, q2, q3, g] at h
 | true => exact ⟨good_of t hfb g, by omega, by omega, by omega⟩
end Go.Proofs.YtdmggfegkaiaiaaGreatDoor
end
section
namespace Go.Proofs.YtdmggfegkaiaiaaGreatDoor
open Go.Awp Go.Tx
open IntKind (u8)
open IntKind (i64)
set_option maxRecDepth 20000
abbrev toI (l : List UInt8) : List Int := l.map fun b => (b.toNat : Int)
abbrev ofL (l : List UInt8) : ByteArray := ⟨l.toArray⟩
theorem ofL_size (l : List UInt8) : (ofL l).size = l.length := by rw [← ba_size]
theorem ints_ofL (l : List UInt8) : Bs.ints (ofL l) = toI l := rfl
theorem ba_append (a b : ByteArray) : (a ++ b).data.toList = a.data.toList ++ b.data.toList := by
 rw [ByteArray.data_append, Array.toList_append]
theorem ofL_append (a b : List UInt8) : ofL a ++ ofL b = ofL (a ++ b) := ba_ext (by rw [ba_append])
theorem ofL_eta (s : ByteArray) : ofL s.data.toList = s := ba_eta s
theorem bytes_toI (l : List UInt8) : Bs.bytes (toI l) = ofL l := by
 apply ba_ext
 unfold Bs.bytes
 simp only [toI, List.map_map]
 have : ((fun n => UInt8.ofNat n.toNat) ∘ fun (b : UInt8) => ((b.toNat : Nat) : Int)) = id := by
  funext b
  simp
 rw [this, List.map_id]
theorem toI_append (a b : List UInt8) : toI (a ++ b) = toI a ++ toI b := List.map_append
abbrev letW : ByteArray := ByteArray.mk #[34, 92, 10, 13, 9, 8, 12]
abbrev letX : ByteArray := ByteArray.mk #[34, 92, 110, 114, 116, 98, 102]
def escB (c : UInt8) : List UInt8 :=
 if c = 34 then [92, 34] else if c = 92 then [92, 92] else if c = 10 then [92, 110] else if c = 13 then [92, 114] else if c = 9 then [92, 116] else if c = 8 then [92, 98] else if c = 12 then [92, 102]
 else if c.toNat < 32 then [92, 117, 48, 48, Tryz.hexD.data.getD (c.toNat / 16) 0, Tryz.hexD.data.getD (c.toNat % 16) 0] else [c]
theorem esc_facts (c : UInt8) : (if 0 ≤ Lib.indexByte letW.data.toList c then Lib.indexByte letW.data.toList c ≤ 6 ∧ escB c = [92] ++ [letX.data.toList.getD (Lib.indexByte letW.data.toList c).toNat 0]
  else if (c.toNat : Int) < 32 then escB c = [92, 117, 48, 48] ++ [Tryz.hexD.data.getD (Bs.ishr u8 (c.toNat : Int) 4).toNat 0] ++ [Tryz.hexD.data.getD (Bs.iand u8 (c.toNat : Int) 15).toNat 0] ∧ 0 ≤ Bs.ishr u8 (c.toNat : Int) 4 ∧ Bs.ishr u8 (c.toNat : Int) 4 < 16 ∧ 0 ≤ Bs.iand u8 (c.toNat : Int) 15 ∧ Bs.iand u8 (c.toNat : Int) 15 < 16
  else escB c = [c]) :=
 all_bytes (P := fun c => if 0 ≤ Lib.indexByte letW.data.toList c then Lib.indexByte letW.data.toList c ≤ 6 ∧ escB c = [92] ++ [letX.data.toList.getD (Lib.indexByte letW.data.toList c).toNat 0]
  else if (c.toNat : Int) < 32 then escB c = [92, 117, 48, 48] ++ [Tryz.hexD.data.getD (Bs.ishr u8 (c.toNat : Int) 4).toNat 0] ++ [Tryz.hexD.data.getD (Bs.iand u8 (c.toNat : Int) 15).toNat 0] ∧ 0 ≤ Bs.ishr u8 (c.toNat : Int) 4 ∧ Bs.ishr u8 (c.toNat : Int) 4 < 16 ∧ 0 ≤ Bs.iand u8 (c.toNat : Int) 15 ∧ Bs.iand u8 (c.toNat : Int) 15 < 16
  else escB c = [c]) (by kernel_rfl) c
theorem esc_len (c : UInt8) : 1 ≤ (escB c).length ∧ (escB c).length ≤ 6 :=
 all_bytes (P := fun c => 1 ≤ (escB c).length ∧ (escB c).length ≤ 6) (by kernel_rfl) c
def quo (s : ByteArray) : List UInt8 := 34 :: (s.data.toList.flatMap escB ++ [34])
theorem a113 (w : ByteArray) (b : Bool) (xs : List Int) (h : xs.length + w.size ≤ 4294967296) : n_113s555c (w, b, xs, ()) = some ((w.size : Int), true, xs ++ Bs.ints w, ()) := by
 unfold n_113s555c
 have e145 : n_145s143f (b, xs, ()) = some (true, xs, ()) := rfl
 simp only [e145, sW, h]
theorem a146 (x : Int) (b : Bool) (xs : List Int) (h : xs.length + 1 ≤ 4294967296) : n_146s8b9e (x, b, xs, ()) = some (true, xs ++ [x], ()) := by
 unfold n_146s8b9e
 have e145 : n_145s143f (b, xs, ()) = some (true, xs, ()) := rfl
 simp only [e145, sW, List.length_cons, List.length_nil, Nat.zero_add, h]
theorem a148 {x : Int} (h1 : 0 ≤ x) (h2 : x < 16) : n_148 (i64.wrap x, 16, ()) = some (ofL [Tryz.hexD.data.getD x.toNat 0], ()) := by
 unfold n_148 n_144
 rw [wrap64 (by omega) (by omega)]
 simp only [h1, h2, and_self, if_true, sW]
theorem step114 (xs : List Int) (n : Int) (k : Nat) (c : UInt8) (out : List Int) (hc : xs[k]? = some (c.toNat : Int)) (ho : out.length + (escB c).length ≤ 4294967296) :
  (if 0 ≤ (k : Int) then
     xs[(k : Int).toNat]? >>= fun x1 =>
     n_147 (letW, x1, ()) >>= fun x2 =>
     if decide (x2.1 ≥ 0) = true then
      if 0 ≤ x2.1 ∧ x2.1 ≤ i64.wrap (x2.1 + 1) ∧ i64.wrap (x2.1 + 1) ≤ (↑letX.size : Int) then
       if (ByteArray.mk #[92]).size + (letX.extract x2.1.toNat (i64.wrap (x2.1 + 1)).toNat).size ≤ 4294967296 then
        n_113s555c (ByteArray.mk #[92] ++ letX.extract x2.1.toNat (i64.wrap (x2.1 + 1)).toNat, true, out, ()) >>= fun x3 =>
        some ((xs, n, (k : Int), x3.2.1, x3.2.2.1, ()))
       else none
      else none
     else if decide (x1 < 32) = true then
      n_148 (i64.wrap (Bs.ishr u8 x1 4), 16, ()) >>= fun x3 =>
      if (ByteArray.mk #[92, 117, 48, 48]).size + x3.1.size ≤ 4294967296 then
       n_148 (i64.wrap (Bs.iand u8 x1 15), 16, ()) >>= fun x4 =>
       if (ByteArray.mk #[92, 117, 48, 48] ++ x3.1).size + x4.1.size ≤ 4294967296 then
        n_113s555c (ByteArray.mk #[92, 117, 48, 48] ++ x3.1 ++ x4.1, true, out, ()) >>= fun x5 =>
        some ((xs, n, (k : Int), x5.2.1, x5.2.2.1, ()))
       else none
      else none
     else n_146s8b9e (x1, true, out, ()) >>= fun x3 =>
     some ((xs, n, (k : Int), x3.1, x3.2.1, ()))
    else none) = some (xs, n, (k : Int), true, out ++ toI (escB c), ()) := by
 have hcc : (c.toNat : Int).toNat.toUInt8 = c := by rw [Int.toNat_natCast]; simp
 have hf := esc_facts c
 have h147 := t147 letW (c.toNat : Int)
 rw [hcc] at h147
 generalize Lib.indexByte letW.data.toList c = i at hf h147
 have s92 : (ByteArray.mk #[92]).size = 1 := rfl
 by_cases h1 : 0 ≤ i
 ·rw [if_pos h1] at hf
  obtain ⟨h6, he⟩ := hf
  have h1' : i ≥ 0 := h1
  obtain ⟨j, rfl⟩ : ∃ j : Nat, i = (j : Int) := ⟨i.toNat, by omega⟩
  have hj : j < letX.size := by show j < 7; omega
  have hl : j < letX.data.toList.length := hj
  have g : letX[j]? = some letX.data.toList[j] := by rw [ba_get, List.getElem?_eq_getElem hl]
  have e2 : letX.data.toList.getD j 0 = letX.data.toList[j] := by rw [List.getD_eq_getElem?_getD, List.getElem?_eq_getElem hl]; rfl
  rw [Int.toNat_natCast, e2] at he
  generalize letX.data.toList[j] = x at g he
  clear e2
  have hs : letX.size = 7 := rfl
  have e1 : letX.extract j (j + 1) = ofL [x] := one_ext g
  have q : (((j : Int)) ≤ ((j + 1 : Nat) : Int) ∧ ((j + 1 : Nat) : Int) ≤ (letX.size : Int)) = True := eq_true ⟨by omega, by omega⟩
  have sz : (ofL [x]).size = 1 := by rw [ofL_size]; rfl
  have l2 : (1 + 1 ≤ 4294967296) = True := eq_true (by decide)
  have e3 : ByteArray.mk #[92] ++ ofL [x] = ofL [92, x] := ofL_append [92] _
  rw [he] at ho ⊢
  have ha := a113 (ofL [92, x]) true out (by rw [ofL_size]; exact ho)
  rw [ints_ofL] at ha
  simp only [sW, hc, h147, h1', wrap_succ hj (show letX.size ≤ 9223372036854775807 by omega), q, true_and, e1, sz, s92, l2, e3, ha]
  rfl
 ·rw [if_neg h1] at hf
  have h1' : ¬ i ≥ 0 := h1
  by_cases h2 : (c.toNat : Int) < 32
  ·rw [if_pos h2] at hf
   obtain ⟨he, p1, p2, p3, p4⟩ := hf
   have g1 := a148 p1 p2
   have g2 := a148 p3 p4
   generalize Tryz.hexD.data.getD (Bs.ishr u8 (c.toNat : Int) 4).toNat 0 = y at he g1
   generalize Tryz.hexD.data.getD (Bs.iand u8 (c.toNat : Int) 15).toNat 0 = z at he g2
   rw [he] at ho ⊢
   have s4 : (ByteArray.mk #[92, 117, 48, 48]).size = 4 := rfl
   have s1 : ∀ x : UInt8, (ofL [x]).size = 1 := fun x => by rw [ofL_size]; rfl
   have e3 : ByteArray.mk #[92, 117, 48, 48] ++ ofL [y] = ofL [92, 117, 48, 48, y] := ofL_append [92, 117, 48, 48] _
   have e4 : ofL [92, 117, 48, 48, y] ++ ofL [z] = ofL [92, 117, 48, 48, y, z] := ofL_append [92, 117, 48, 48, y] _
   have s5 : (ofL [92, 117, 48, 48, y]).size = 5 := by rw [ofL_size]; rfl
   have l1 : (4 + 1 ≤ 4294967296) = True := eq_true (by decide)
   have l2 : (5 + 1 ≤ 4294967296) = True := eq_true (by decide)
   have ha := a113 (ofL [92, 117, 48, 48, y, z]) true out (by rw [ofL_size]; exact ho)
   rw [ints_ofL] at ha
   simp only [sW, hc, h147, h1', h2, g1, g2, s4, s1, l1, e3, s5, l2, e4, ha]
   rfl
  ·rw [if_neg h2] at hf
   rw [hf] at ho ⊢
   have ha := a146 (c.toNat : Int) true out ho
   simp only [sW, hc, h147, h1', h2, ha]
   rfl
theorem t114l (s : ByteArray) (hs : s.size ≤ 4294967296) : ∀ (m k : Nat) (out : List Int), s.size - k = m → out.length + ((s.data.toList.drop k).flatMap escB).length ≤ 4294967296 →
  n_114l4 (Bs.ints s, ((Bs.ints s).length : Int), (k : Int), true, out, ()) = some (true, out ++ toI ((s.data.toList.drop k).flatMap escB), ()) := by
 intro m
 induction m with
 | zero =>
  intro k out hk ho
  have hlt : ¬ k < (Bs.ints s).length := by rw [ints_len]; omega
  rw [n_114l4, List.drop_eq_nil_of_le (by rw [ba_size]; omega)]
  simp only [sW, hlt, List.flatMap_nil, toI, List.map_nil, List.append_nil]
 | succ m ih =>
  intro k out hk ho
  have hlt : k < (Bs.ints s).length := by rw [ints_len]; omega
  have hl : k < s.data.toList.length := by rw [ba_size]; omega
  have hc : (Bs.ints s)[k]? = some ((s.data.toList[k]).toNat : Int) := by
   unfold Bs.ints
   rw [List.getElem?_map, List.getElem?_eq_getElem hl]; rfl
  rw [List.drop_eq_getElem_cons hl, List.flatMap_cons, List.length_append] at ho
  have st := step114 (Bs.ints s) ((Bs.ints s).length : Int) k s.data.toList[k] out hc (by omega)
  have hd : decide ((k : Int) < ((Bs.ints s).length : Int)) = true := by rw [decide_eq_true_eq]; omega
  rw [n_114l4]
  simp only [hd, if_true]
  rw [st]
  simp only [Option.bind_eq_bind, Option.bind_some, wrap_succ hlt (show (Bs.ints s).length ≤ 9223372036854775807 by rw [ints_len]; omega)]
  rw [ih (k + 1) _ (by omega) (by rw [List.length_append, List.length_map]; omega), List.drop_eq_getElem_cons hl, List.flatMap_cons, toI_append, List.append_assoc]
theorem quo_len (s : ByteArray) : (quo s).length = (s.data.toList.flatMap escB).length + 2 := by
 unfold quo
 rw [List.length_cons, List.length_append, List.length_singleton]
theorem flat_ge (l : List UInt8) : l.length ≤ (l.flatMap escB).length ∧ (l.flatMap escB).length ≤ 6 * l.length := by
 induction l with
 | nil => simp
 | cons c l ih =>
  have := esc_len c
  rw [List.flatMap_cons, List.length_append, List.length_cons]; omega
theorem t114 (s : ByteArray) (h : (quo s).length ≤ 4294967296) : n_114 (s, ()) = some (ofL (quo s), ()) := by
 have hq := quo_len s
 have hge := (flat_ge s.data.toList).1
 rw [ba_size] at hge
 have e1 := a146 34 false [] (by decide)
 have hl := t114l s (by omega) _ 0 ([] ++ [34]) rfl (by rw [List.drop_zero, List.length_append, List.length_singleton, List.length_nil]; omega)
 have e3 := a146 34 true ([] ++ [34] ++ toI (s.data.toList.flatMap escB)) (by rw [List.length_append, List.length_append, List.length_singleton, List.length_nil, List.length_map]; omega)
 have e4 : [] ++ [34] ++ toI (s.data.toList.flatMap escB) ++ [34] = toI (quo s) := by
  unfold quo
  simp [toI]
 rw [e4] at e3
 have e5 : n_83s143f (true, toI (quo s), ()) = some (ofL (quo s), ()) := by
  unfold n_83s143f
  rw [if_pos ⟨rfl, by rw [List.length_map]; exact h⟩, bytes_toI]
 simp only [Int.natCast_zero, Int.ofNat_eq_natCast, List.drop_zero] at hl
 unfold n_114
 simp only [sW, e1, hl, e3, e5]
end Go.Proofs.YtdmggfegkaiaiaaGreatDoor
end
section
namespace Go.Proofs.YtdmggfegkaiaiaaGreatDoor
open Go.Awp Go.Tx
set_option maxRecDepth 20000
def lineB (ln : Bool) (d : Nat) : List UInt8 := if ln = true then 10 :: Lib.repeatL [32, 32] d else []
def nameB (ln nm : Bool) (ns : List ByteArray) : List UInt8 := if nm = true then quo (ns.headD mt) ++ [58] ++ (if ln = true then [32] else []) else []
def commaB (first : Bool) : List UInt8 := if first = true then [] else [44]
mutual
def wr (ln : Bool) : Tag → Nat → List UInt8
 | .mk k n t ns ps, d =>
  if k = 0 then [110, 117, 108, 108] else if k = 1 then [102, 97, 108, 115, 101] else if k = 2 then [116, 114, 117, 101]
  else if k = 3 then Lib.itoa n else if k = 4 then quo t
  else (if k = 6 then [123] else [91]) ++ wrL ln (decide (k = 6)) ns ps true (d + 1) ++ ((if ps.isEmpty = true then [] else lineB ln d) ++ (if k = 6 then [125] else [93]))
def wrL (ln nm : Bool) : List ByteArray → List Tag → Bool → Nat → List UInt8
 | _, [], _, _ => []
 | ns, p :: ps, first, d => commaB first ++ (lineB ln d ++ (nameB ln nm ns ++ (wr ln p d ++ wrL ln nm ns.tail ps false d)))
end
abbrev small : Nat := 4294967296
theorem b113 (w : ByteArray) (b ln : Bool) (d : Int) (xs : List Int) (h : xs.length + w.size ≤ 4294967296) : n_113sf4d8 (w, b, ln, d, xs, ()) = some ((w.size : Int), true, ln, d, xs ++ Bs.ints w, ()) := by
 unfold n_113sf4d8
 have e145 : n_145s1ccb (b, ln, d, xs, ()) = some (true, ln, d, xs, ()) := rfl
 simp only [e145, sW, h]
theorem b146 (x : Int) (b ln : Bool) (d : Int) (xs : List Int) (h : xs.length + 1 ≤ 4294967296) : n_146s968a (x, b, ln, d, xs, ()) = some (true, ln, d, xs ++ [x], ()) := by
 unfold n_146s968a
 have e145 : n_145s1ccb (b, ln, d, xs, ()) = some (true, ln, d, xs, ()) := rfl
 simp only [e145, sW, List.length_cons, List.length_nil, Nat.zero_add, h]
theorem b149 (b ln : Bool) (d : Nat) (xs : List Int) (hd : d ≤ 1000000) (h : xs.length + (lineB ln d).length ≤ 4294967296) : n_149s1ccb (b, ln, (d : Int), xs, ()) = some (if ln = true then true else b, ln, (d : Int), xs ++ toI (lineB ln d), ()) := by
 unfold n_149s1ccb
 cases ln with
 | false => simp only [sW, lineB, toI, List.map_nil, List.append_nil]
 | true =>
  have hl : (Lib.repeatL [32, 32] d).length = d * 2 := Lib.repeatL_length _ _
  have e172 : n_172 (ByteArray.mk #[32, 32], (d : Int), ()) = some (ofL (Lib.repeatL [32, 32] d), ()) := by
   unfold n_172
   have hs : (ByteArray.mk #[32, 32]).size = 2 := rfl
   simp only [hs]
   rw [if_pos ⟨by omega, by omega, by omega⟩, Int.toNat_natCast]
  have e1 : (ByteArray.mk #[10]).size + (ofL (Lib.repeatL [32, 32] d)).size ≤ 4294967296 := by
   have h10 : (ByteArray.mk #[10]).size = 1 := rfl
   have h11 : (ofL (Lib.repeatL [32, 32] d)).size = d * 2 := by rw [ofL_size, hl]
   omega
  have e2 : ByteArray.mk #[10] ++ ofL (Lib.repeatL [32, 32] d) = ofL (lineB true d) := by
   unfold lineB
   exact ofL_append [10] _
  have ha := b113 (ofL (lineB true d)) b true (d : Int) xs (by rw [ofL_size]; exact h)
  rw [ints_ofL] at ha
  simp only [sW, e172, e1, e2, ha]
theorem itoa_ok {n : Int} (h1 : -9007199254740992 ≤ n) (h2 : n ≤ 9007199254740992) : n_79 (n, ()) = some (ofL (Lib.itoa n), ()) := by
 unfold n_79
 rw [if_pos ⟨by omega, by omega⟩]
theorem w115 (t : Tag) (ln : Bool) (br : ByteArray) (d : Nat) (hk : t.kind = 6 → t.names.length = t.parts.length) (hd : d + depL t.parts ≤ 1000000) (hpl : t.parts.length ≤ 4294967296)
  (ih : ∀ p ∈ t.parts, ∀ (b : Bool) (out : List Int), out.length + (wr ln p d).length ≤ 4294967296 → n_82s5190 (p, b, ln, (d : Int), out, ()) = some (true, ln, (d : Int), out ++ toI (wr ln p d), ())) :
  ∀ (m i : Nat) (out : List Int), t.parts.length - i = m → out.length + (wrL ln (decide (t.kind = 6)) (t.names.drop i) (t.parts.drop i) (decide (i = 0)) d).length ≤ 4294967296 →
  n_115sb3cdl4 (br, t.parts, (t.parts.length : Int), (i : Int), true, ln, (d : Int), t, out, ()) = some (br, true, ln, (d : Int), t, out ++ toI (wrL ln (decide (t.kind = 6)) (t.names.drop i) (t.parts.drop i) (decide (i = 0)) d), ()) := by
 intro m
 induction m with
 | zero =>
  intro i out hi ho
  have hlt : ¬ i < t.parts.length := by omega
  rw [n_115sb3cdl4, (at_end hlt).1]
  simp only [sW, hlt, wrL, toI, List.map_nil, List.append_nil]
 | succ m ihm =>
  intro i out hi ho
  have hlt : i < t.parts.length := by omega
  obtain ⟨p, hp1, hm, hdr, g1, g2⟩ := at_lt hlt
  rw [hdr, wrL] at ho
  rw [hdr, wrL]
  have hw := wrap_succ hlt (show t.parts.length ≤ 9223372036854775807 by omega)
  have tl : (t.names.drop i).tail = t.names.drop (i + 1) := by rw [List.tail_drop]
  have f0 : (false : Bool) = decide (i + 1 = 0) := by simp
  rw [tl, f0] at ho ⊢
  rw [n_115sb3cdl4]
  generalize hC : commaB (decide (i = 0)) = C at ho ⊢
  generalize hL : lineB ln d = L at ho ⊢
  generalize hN : nameB ln (decide (t.kind = 6)) (t.names.drop i) = N at ho ⊢
  generalize hW : wr ln p d = Wp at ho ⊢
  simp only [List.length_append] at ho
  have e1 : (if decide ((i : Int) > 0) = true then
     n_146s968a (44, true, ln, (d : Int), out, ()) >>= fun x2 =>
     some ((br, (i : Int), t.parts, (t.parts.length : Int), (i : Int), x2.1, x2.2.1, x2.2.2.1, t, p, x2.2.2.2.1, ()))
    else some ((br, (i : Int), t.parts, (t.parts.length : Int), (i : Int), true, ln, (d : Int), t, p, out, ()))) = some ((br, (i : Int), t.parts, (t.parts.length : Int), (i : Int), true, ln, (d : Int), t, p, out ++ toI C, ())) := by
   by_cases h0 : i = 0
   ·subst h0
    have : ¬ ((0 : Nat) : Int) > 0 := by decide
    subst hC
    simp only [this, sW, Int.reduceEq, Int.reduceLT, Int.reduceLE, Int.reduceGE, Int.reduceGT, decide_true, decide_false, commaB, toI, List.map_nil, List.append_nil]
   ·have h1 : (i : Int) > 0 := by omega
    have hC' : C = [44] := by rw [← hC]; simp [commaB, h0]
    rw [hC'] at ho ⊢
    have ha := b146 44 true ln (d : Int) out (by simp only [List.length_cons, List.length_nil] at ho; omega)
    simp only [h1, sW, Int.reduceEq, Int.reduceLT, Int.reduceLE, Int.reduceGE, Int.reduceGT, decide_true, decide_false, ha]
    rfl
  have e2 := b149 true ln d (out ++ toI C) (by omega) (by rw [hL, List.length_append, List.length_map]; omega)
  rw [hL] at e2
  have tt : (if ln = true then true else true) = true := by cases ln <;> rfl
  rw [tt] at e2
  have e3 : (if (t.kind == 6) = true then
     if 0 ≤ (i : Int) then
      t.names[(i : Int).toNat]? >>= fun x4 =>
      n_114 (x4, ()) >>= fun x5 =>
      if x5.1.size + (ByteArray.mk #[58]).size ≤ 4294967296 then
       n_113sf4d8 (x5.1 ++ ByteArray.mk #[58], true, ln, (d : Int), out ++ toI C ++ toI L, ()) >>= fun x6 =>
       if x6.2.2.1 = true then
        n_146s968a (32, x6.2.1, x6.2.2.1, x6.2.2.2.1, x6.2.2.2.2.1, ()) >>= fun x7 =>
        some ((br, t.parts, (t.parts.length : Int), (i : Int), x7.1, x7.2.1, x7.2.2.1, t, p, x7.2.2.2.1, ()))
       else some ((br, t.parts, (t.parts.length : Int), (i : Int), x6.2.1, x6.2.2.1, x6.2.2.2.1, t, p, x6.2.2.2.2.1, ()))
      else none
     else none
    else some ((br, t.parts, (t.parts.length : Int), (i : Int), true, ln, (d : Int), t, p, out ++ toI C ++ toI L, ()))) = some ((br, t.parts, (t.parts.length : Int), (i : Int), true, ln, (d : Int), t, p, out ++ toI C ++ toI L ++ toI N, ())) := by
   by_cases h6 : t.kind = 6
   ·have hln := hk h6
    obtain ⟨s, hs1, _, hsd, _, _⟩ := at_lt (xs := t.names) (k := i) (by omega)
    have hN' : N = quo s ++ [58] ++ (if ln = true then [32] else []) := by
     rw [← hN, hsd]
     simp [nameB, h6]
    rw [hN'] at ho ⊢
    have hqs : (quo s).length + 1 ≤ 4294967296 := by
     simp only [List.length_append, List.length_cons, List.length_nil] at ho
     omega
    have e58 : (ByteArray.mk #[58]).size = 1 := rfl
    have ea : ofL (quo s) ++ ByteArray.mk #[58] = ofL (quo s ++ [58]) := ofL_append (quo s) [58]
    have eq : n_114 (s, ()) = some (ofL (quo s), ()) := t114 s (by omega)
    have e113 := b113 (ofL (quo s ++ [58])) true ln (d : Int) (out ++ toI C ++ toI L) (by
     rw [ofL_size]
     simp only [List.length_append, List.length_map, List.length_cons, List.length_nil] at ho ⊢
     omega)
    rw [ints_ofL] at e113
    have hsz : (ofL (quo s)).size + 1 ≤ 4294967296 := by rw [ofL_size]; exact hqs
    cases ln with
    | true =>
     have e146 := b146 32 true true (d : Int) (out ++ toI C ++ toI L ++ toI (quo s ++ [58])) (by
      simp only [List.length_append, List.length_map, List.length_cons, List.length_nil, if_true] at ho ⊢
      omega)
     simp only [h6, sW, Int.reduceEq, Int.reduceLT, Int.reduceLE, Int.reduceGE, Int.reduceGT, decide_true, decide_false, hs1, eq, e58, hsz, ea, e113, e146]
     simp [toI]
    | false =>
     simp only [h6, sW, Int.reduceEq, Int.reduceLT, Int.reduceLE, Int.reduceGE, Int.reduceGT, decide_true, decide_false, hs1, eq, e58, hsz, ea, e113]
     simp [toI]
   ·have hN' : N = [] := by rw [← hN]; simp [nameB, h6]
    rw [hN']
    simp only [h6, sW, toI, List.map_nil, List.append_nil]
  have e4 := ih p hm true (out ++ toI C ++ toI L ++ toI N) (by
   rw [hW]
   simp only [List.length_append, List.length_map]
   omega)
  rw [hW] at e4
  have e5 := ihm (i + 1) (out ++ toI C ++ toI L ++ toI N ++ toI Wp) (by omega) (by
   simp only [List.length_append, List.length_map]
   omega)
  have hdd : decide ((i : Int) < (t.parts.length : Int)) = true := by rw [decide_eq_true_eq]; omega
  simp only [hdd, if_true, g2, Int.toNat_natCast, hp1, Option.bind_eq_bind, Option.bind_some] at e1 e3 ⊢
  rw [e1]
  simp only [Option.bind_some]
  rw [e2]
  simp only [Option.bind_some, g2, if_true, Int.toNat_natCast]
  rw [e3]
  simp only [Option.bind_some]
  rw [e4]
  simp only [Option.bind_some, hw]
  rw [e5]
  simp only [toI_append, List.append_assoc]
theorem w_leaf (ln b : Bool) (d : Int) (w : ByteArray) (out : List Int) (h : out.length + w.size ≤ 4294967296) : (n_113sf4d8 (w, b, ln, d, out, ()) >>= fun x3 => some ((x3.2.1, x3.2.2.1, x3.2.2.2.1, x3.2.2.2.2.1, ()))) = some (true, ln, d, out ++ Bs.ints w, ()) := by
 rw [b113 w b ln d out h]; rfl
theorem w82 (ln : Bool) : ∀ t : Tag, Good t → t.Fit small → ∀ (d : Nat), d + t.dep ≤ 1000000 → ∀ (b : Bool) (out : List Int), out.length + (wr ln t d).length ≤ 4294967296 →
  n_82s5190 (t, b, ln, (d : Int), out, ()) = some (true, ln, (d : Int), out ++ toI (wr ln t d), ()) := by
 refine Tag.ind fun t ih hg hf d hd b out ho => ?_
 have hl := hg.loc
 have hdm := dep_mk t
 have hwr : wr ln t d = if t.kind = 0 then [110, 117, 108, 108] else if t.kind = 1 then [102, 97, 108, 115, 101] else if t.kind = 2 then [116, 114, 117, 101]
  else if t.kind = 3 then Lib.itoa t.n else if t.kind = 4 then quo t.text
  else (if t.kind = 6 then [123] else [91]) ++ wrL ln (decide (t.kind = 6)) t.names t.parts true (d + 1) ++ ((if t.parts.isEmpty = true then [] else lineB ln d) ++ (if t.kind = 6 then [125] else [93])) := by cases t; rfl
 rw [hwr] at ho ⊢
 rw [n_82s5190]
 have h0 := hl.k0
 have h6 := hl.k6
 have hk : t.kind = 0 ∨ t.kind = 1 ∨ t.kind = 2 ∨ t.kind = 3 ∨ t.kind = 4 ∨ t.kind = 5 ∨ t.kind = 6 := by omega
 have l0 : ∀ {α : Type} (a b c : α), [a, b, c][Int.toNat 0]? = some a := fun a b c => rfl
 have l1 : ∀ {α : Type} (a b c : α), [a, b, c][Int.toNat 1]? = some b := fun a b c => rfl
 have l2 : ∀ {α : Type} (a b c : α), [a, b, c][Int.toNat 2]? = some c := fun a b c => rfl
 have w1 : IntKind.i64.wrap ((d : Int) + 1) = ((d + 1 : Nat) : Int) := by rw [wrap64 (by omega) (by omega)]; omega
 have w2 : IntKind.i64.wrap (((d + 1 : Nat) : Int) - 1) = (d : Int) := by rw [wrap64 (by omega) (by omega)]; omega
 have par : ∀ (br : ByteArray) (o c : UInt8), br.data.toList = [o, c] → out.length + ([o] ++ wrL ln (decide (t.kind = 6)) t.names t.parts true (d + 1) ++ ((if t.parts.isEmpty = true then [] else lineB ln d) ++ [c])).length ≤ 4294967296 →
   n_115sb3cd (br, t, b, ln, (d : Int), out, ()) = some (true, ln, (d : Int), out ++ toI ([o] ++ wrL ln (decide (t.kind = 6)) t.names t.parts true (d + 1) ++ ((if t.parts.isEmpty = true then [] else lineB ln d) ++ [c])), ()) := by
  intro br o c hbr hlen
  simp only [List.length_append, List.length_cons, List.length_nil] at hlen
  have g0 : br[Int.toNat 0]? = some o := by rw [ba_get, hbr]; rfl
  have g1 : br[Int.toNat 1]? = some c := by rw [ba_get, hbr]; rfl
  have e1 := b146 (o.toNat : Int) b ln (d : Int) out (by omega)
  have hps : t.parts.length ≤ 4294967296 := hf.parts
  have e2 := w115 t ln br (d + 1) hl.ln (by omega) hps (fun p hp b out ho => by
   have hdp : p.dep ≤ depL t.parts := by
    have : ∀ {ps : List Tag} {p : Tag}, p ∈ ps → p.dep ≤ depL ps := by
     intro ps
     induction ps with
     | nil => intro p hp; cases hp
     | cons q qs ih =>
      intro p hp
      rw [depL]
      rcases List.mem_cons.1 hp with rfl | hp
      ·omega
      ·have := ih hp; omega
    exact this hp
   exact ih p hp (hg.part hp) (hf.part hp) (d + 1) (by omega) b out ho) _ 0 (out ++ [(o.toNat : Int)]) rfl (by
    rw [List.drop_zero, List.drop_zero, List.length_append, List.length_singleton]
    have : decide (0 = 0) = true := rfl
    rw [this]; omega)
  rw [List.drop_zero, List.drop_zero] at e2
  have d0 : decide ((0 : Nat) = 0) = true := rfl
  rw [d0] at e2
  have z0 : ((0 : Nat) : Int) = 0 := rfl
  rw [z0] at e2
  generalize hP : wrL ln (decide (t.kind = 6)) t.names t.parts true (d + 1) = P at hlen e2 ⊢
  rw [n_115sb3cd]
  simp only [g0, g1, Option.bind_eq_bind, Option.bind_some, e1, w1, e2]
  by_cases hpe : t.parts = []
  ·have q1 : ¬ ((t.parts.length : Int) > 0) := by rw [hpe]; decide
   have q2 : (if t.parts.isEmpty = true then ([] : List UInt8) else lineB ln d) = [] := by rw [hpe]; rfl
   rw [q2]
   have e3 := b146 (c.toNat : Int) true ln (d : Int) (out ++ [(o.toNat : Int)] ++ toI P) (by
    simp only [List.length_append, List.length_map, List.length_cons, List.length_nil]
    omega)
   simp only [q1, decide_false, Bool.false_eq_true, if_false, Option.bind_some, w2, g1, e3]
   simp [toI]
  ·have hpos : 0 < t.parts.length := List.length_pos_iff.2 hpe
   have q1 : ((t.parts.length : Int) > 0) := by omega
   have q2 : (if t.parts.isEmpty = true then ([] : List UInt8) else lineB ln d) = lineB ln d := by
    rw [if_neg]
    simpa using hpe
   rw [q2] at hlen ⊢
   have e4 := b149 true ln d (out ++ [(o.toNat : Int)] ++ toI P) (by omega) (by
    simp only [List.length_append, List.length_map, List.length_cons, List.length_nil]
    omega)
   have tt : (if ln = true then true else true) = true := by cases ln <;> rfl
   rw [tt] at e4
   have e3 := b146 (c.toNat : Int) true ln (d : Int) (out ++ [(o.toNat : Int)] ++ toI P ++ toI (lineB ln d)) (by
    simp only [List.length_append, List.length_map, List.length_cons, List.length_nil]
    omega)
   simp only [q1, decide_true, if_true, Option.bind_some, w2, g1, e4, e3]
   simp [toI]
 rcases hk with k | k | k | k | k | k | k
 ·have ha := w_leaf ln b (d : Int) (ofL [110, 117, 108, 108]) out (by rw [ofL_size]; simp only [k, sW, Int.reduceEq, Int.reduceLT, Int.reduceLE, Int.reduceGE, Int.reduceGT, decide_true, decide_false] at ho; exact ho)
  simp only [k, sW, Int.reduceEq, Int.reduceLT, Int.reduceLE, Int.reduceGE, Int.reduceGT, decide_true, decide_false, l0] at ha ⊢
  exact ha
 ·have ha := w_leaf ln b (d : Int) (ofL [102, 97, 108, 115, 101]) out (by rw [ofL_size]; simp only [k, sW, Int.reduceEq, Int.reduceLT, Int.reduceLE, Int.reduceGE, Int.reduceGT, decide_true, decide_false] at ho; exact ho)
  simp only [k, sW, Int.reduceEq, Int.reduceLT, Int.reduceLE, Int.reduceGE, Int.reduceGT, decide_true, decide_false, l1] at ha ⊢
  exact ha
 ·have ha := w_leaf ln b (d : Int) (ofL [116, 114, 117, 101]) out (by rw [ofL_size]; simp only [k, sW, Int.reduceEq, Int.reduceLT, Int.reduceLE, Int.reduceGE, Int.reduceGT, decide_true, decide_false] at ho; exact ho)
  simp only [k, sW, Int.reduceEq, Int.reduceLT, Int.reduceLE, Int.reduceGE, Int.reduceGT, decide_true, decide_false, l2] at ha ⊢
  exact ha
 ·have ha := w_leaf ln b (d : Int) (ofL (Lib.itoa t.n)) out (by rw [ofL_size]; simp only [k, sW, Int.reduceEq, Int.reduceLT, Int.reduceLE, Int.reduceGE, Int.reduceGT, decide_true, decide_false] at ho; exact ho)
  simp only [k, sW, Int.reduceEq, Int.reduceLT, Int.reduceLE, Int.reduceGE, Int.reduceGT, decide_true, decide_false, itoa_ok hl.lo hl.hi] at ha ⊢
  exact ha
 ·simp only [k, sW, Int.reduceEq, Int.reduceLT, Int.reduceLE, Int.reduceGE, Int.reduceGT, decide_true, decide_false] at ho
  have ha := w_leaf ln b (d : Int) (ofL (quo t.text)) out (by rw [ofL_size]; exact ho)
  simp only [k, sW, Int.reduceEq, Int.reduceLT, Int.reduceLE, Int.reduceGE, Int.reduceGT, decide_true, decide_false, t114 t.text (by omega)] at ha ⊢
  exact ha
 ·have ha := par (ByteArray.mk #[91, 93]) 91 93 rfl (by simp only [k, sW, Int.reduceEq, Int.reduceLT, Int.reduceLE, Int.reduceGE, Int.reduceGT, decide_true, decide_false] at ho ⊢; exact ho)
  simp only [k, sW, Int.reduceEq, Int.reduceLT, Int.reduceLE, Int.reduceGE, Int.reduceGT, decide_true, decide_false] at ha ⊢
  rw [ha]
  rfl
 ·have ha := par (ByteArray.mk #[123, 125]) 123 125 rfl (by simp only [k, sW, Int.reduceEq, Int.reduceLT, Int.reduceLE, Int.reduceGE, Int.reduceGT, decide_true, decide_false] at ho ⊢; exact ho)
  simp only [k, sW, Int.reduceEq, Int.reduceLT, Int.reduceLE, Int.reduceGE, Int.reduceGT, decide_true, decide_false] at ha ⊢
  rw [ha]
  rfl
end Go.Proofs.YtdmggfegkaiaiaaGreatDoor
end
section
namespace Go.Proofs.YtdmggfegkaiaiaaGreatDoor
open Go.Awp Go.Tx
set_option maxRecDepth 20000
theorem dec_len : ∀ (m n : Nat), n < 10 ^ (m + 1) → (Lib.decDigits n).length ≤ m + 1 := by
 intro m
 induction m with
 | zero =>
  intro n h
  rw [Lib.decDigits, dif_pos (by simpa using h)]; simp
 | succ m ih =>
  intro n h
  by_cases h1 : n < 10
  ·rw [Lib.decDigits, dif_pos h1]; simp
  ·rw [Lib.decDigits, dif_neg h1, List.length_append, List.length_singleton]
   have := ih (n / 10) (by rw [Nat.pow_succ] at h; omega)
   omega
theorem itoa_len {n : Int} (h1 : -9007199254740992 ≤ n) (h2 : n ≤ 9007199254740992) : (Lib.itoa n).length ≤ 17 := by
 unfold Lib.itoa
 split
 ·rw [List.length_cons]
  have := dec_len 15 n.natAbs (by
   have : (10 : Nat) ^ (15 + 1) = 10000000000000000 := by decide
   omega)
  omega
 ·have := dec_len 15 n.toNat (by
   have : (10 : Nat) ^ (15 + 1) = 10000000000000000 := by decide
   omega)
  omega
theorem quo_le (s : ByteArray) : (quo s).length ≤ 6 * s.size + 2 := by
 have := (flat_ge s.data.toList).2
 rw [ba_size] at this
 rw [quo_len]; omega
theorem sum_tail (ns : List ByteArray) : (ns.headD mt).size + (ns.tail.map ByteArray.size).sum = (ns.map ByteArray.size).sum := by
 cases ns with
 | nil => rfl
 | cons s ns => simp
theorem name_le (ln nm : Bool) (ns : List ByteArray) : (nameB ln nm ns).length ≤ 6 * (ns.headD mt).size + 4 := by
 unfold nameB
 have := quo_le (ns.headD mt)
 cases nm with
 | false => simp
 | true =>
  cases ln
  ·simp only [if_true, List.length_append, List.length_cons, List.length_nil, Bool.false_eq_true, if_false]; omega
  ·simp only [if_true, List.length_append, List.length_cons, List.length_nil]; omega
theorem comma_le (b : Bool) : (commaB b).length ≤ 1 := by cases b <;> simp [commaB]
theorem dep_pos (t : Tag) : 1 ≤ t.dep := by rw [dep_mk]; omega
mutual
theorem wr_len (ln : Bool) (D L : Nat) (hL : ∀ d, d ≤ D → (lineB ln d).length ≤ L) : ∀ (t : Tag) (d : Nat), Good t → d + t.dep ≤ D + 1 → (wr ln t d).length + 5 + L ≤ 6 * t.byts + (30 + 2 * L) * t.cnt
 | .mk k n t ns ps, d, hg, hd => by
  have hl := hg.loc
  have h1 := wrL_len ln (decide (k = 6)) D L hL ps ns true (d + 1) (fun p hp => hg.part hp) (by rw [Tag.dep] at hd; omega)
  have h2 := hL d (by rw [Tag.dep] at hd; omega)
  have h3 := quo_le t
  have h4 : (Lib.itoa n).length ≤ 17 := itoa_len hl.lo hl.hi
  have hm : (30 + 2 * L) * (1 + cntL ps) = 30 + 2 * L + (30 + 2 * L) * cntL ps := by rw [Nat.mul_add, Nat.mul_one]
  rw [Tag.byts, Tag.cnt, hm]
  rw [wr]
  split
  ·simp only [List.length_cons, List.length_nil]; omega
  split
  ·simp only [List.length_cons, List.length_nil]; omega
  split
  ·simp only [List.length_cons, List.length_nil]; omega
  split
  ·omega
  split
  ·omega
  ·have h5 : (if ps.isEmpty = true then ([] : List UInt8) else lineB ln d).length ≤ L := by
    split
    ·simp
    ·exact h2
   have h6 : (if k = 6 then ([123] : List UInt8) else [91]).length = 1 := by split <;> rfl
   have h7 : (if k = 6 then ([125] : List UInt8) else [93]).length = 1 := by split <;> rfl
   simp only [List.length_append]
   omega
theorem wrL_len (ln nm : Bool) (D L : Nat) (hL : ∀ d, d ≤ D → (lineB ln d).length ≤ L) : ∀ (ps : List Tag) (ns : List ByteArray) (f : Bool) (d : Nat), (∀ p ∈ ps, Good p) → d + depL ps ≤ D + 1 → (wrL ln nm ns ps f d).length ≤ 6 * ((ns.map ByteArray.size).sum + bytsL ps) + (30 + 2 * L) * cntL ps
 | [], ns, f, d, hg, hd => by rw [wrL]; simp
 | p :: ps, ns, f, d, hg, hd => by
  have hdp := dep_pos p
  rw [depL] at hd
  have h1 := wr_len ln D L hL p d (hg p List.mem_cons_self) (by omega)
  have h2 := wrL_len ln nm D L hL ps ns.tail false d (fun q hq => hg q (List.mem_cons_of_mem _ hq)) (by omega)
  have h3 := hL d (by omega)
  have h4 := name_le ln nm ns
  have h5 := comma_le f
  have h6 := sum_tail ns
  have hm : (30 + 2 * L) * (p.cnt + cntL ps) = (30 + 2 * L) * p.cnt + (30 + 2 * L) * cntL ps := Nat.mul_add _ _ _
  rw [bytsL, cntL, hm]
  rw [wrL]
  simp only [List.length_append]
  omega
end
theorem line_len (ln : Bool) (D : Nat) : ∀ d, d ≤ D → (lineB ln d).length ≤ (if ln = true then 1 + 2 * D else 0) := by
 intro d hd
 cases ln with
 | false => simp [lineB]
 | true =>
  have := Lib.repeatL_length [32, 32] d
  simp only [lineB, if_true, List.length_cons, this, List.length_nil]
  omega
theorem write_j (ln : Bool) (t : Tag) (hf : t.Fit small) (hb : t.bulk ≤ half) : ∃ e, n_29 (t, ()) = some (e, ()) ∧ (e ≠ 0 → n_59 (t, ln, ()) = some (mt, e, ())) ∧
  (e = 0 → n_59 (t, ln, ()) = some (ofL (wr ln t 0), 0, ()) ∧ Good t ∧ (wr ln t 0).length ≤ 100000 ∧ (ln = false → (wr ln t 0).length ≤ 60000)) := by
 have hh : small ≤ half := by decide
 have hh2 : small ≤ big := by decide
 obtain ⟨e, e1, _, _⟩ := f29 t (Tag.Fit.mono hh2 t hf)
 refine ⟨e, e1, fun h => ?_, fun h => ?_⟩
 ·have e0 : (e != 0) = true := by simpa using h
  unfold n_59
  simp only [e1, e0, sW]
 ·subst h
  obtain ⟨hg, hd, hc, hy⟩ := f29x t (Tag.Fit.mono hh t hf) hb e1
  have hlen := wr_len ln 20 _ (line_len ln 20) t 0 hg (by omega)
  have hlen1 : (wr ln t 0).length ≤ 100000 := by
   have hx : (30 + 2 * (if ln = true then 1 + 2 * 20 else 0)) * t.cnt ≤ 112 * 500 := Nat.mul_le_mul (by split <;> omega) hc
   omega
  have hlen2 : ln = false → (wr ln t 0).length ≤ 60000 := by
   intro h
   subst h
   have hx : (30 + 2 * (if (false : Bool) = true then 1 + 2 * 20 else 0)) * t.cnt ≤ 30 * 500 := Nat.mul_le_mul (by simp) hc
   omega
  have hw := w82 ln t hg hf 0 (by omega) false [] (by simp only [List.length_nil]; omega)
  have z0 : ((0 : Nat) : Int) = 0 := rfl
  rw [z0, List.nil_append] at hw
  have e83 : n_83s1ccb (true, ln, 0, toI (wr ln t 0), ()) = some (ofL (wr ln t 0), ()) := by
   unfold n_83s1ccb
   rw [if_pos ⟨rfl, by simp only [List.length_map]; omega⟩, bytes_toI]
  refine ⟨?_, hg, hlen1, hlen2⟩
  unfold n_59
  have e0 : ((0 : Int) != 0) = false := rfl
  simp only [e1, e0, sW, hw, e83]
theorem f42r (a : List ByteArray) (ha : a.length ≤ big) : ∀ (m k : Nat), a.length - k = m → n_42l4 (a, a, (k : Int), ()) = some (.inr ()) := by
 intro m
 induction m with
 | zero =>
  intro k hk
  have hlt : ¬ k < a.length := by omega
  rw [n_42l4]
  simp only [sW, hlt]
 | succ m ih =>
  intro k hk
  have hlt : k < a.length := by omega
  obtain ⟨p, hp1, _, hd, g1, g2⟩ := at_lt hlt
  rw [n_42l4]
  simp only [sW, g1, g2, hlt, hp1, wrap_succ hlt ha, BEq.rfl, Bool.not_true]
  exact ih (k + 1) (by omega)
theorem f18r : ∀ a : Tag, a.Fit big → n_18 (a, a, ()) = some (true, ()) := by
 refine Tag.ind fun a ih ha => ?_
 have h42 : n_42 (a.names, a.names, ()) = some (true, ()) := by
  have := f42r a.names ha.names _ 0 rfl
  simp only [Int.natCast_zero, Int.ofNat_eq_natCast, List.drop_zero] at this
  unfold n_42
  simp only [bne_self_eq_false, sW, this]
 have hl : ∀ (m k : Nat), a.parts.length - k = m → n_18l4 ((k : Int), a, a, ()) = some (.inr ()) := by
  intro m
  induction m with
  | zero =>
   intro k hk
   have hlt : ¬ k < a.parts.length := by omega
   rw [n_18l4]
   simp only [sW, hlt]
  | succ m ihm =>
   intro k hk
   have hlt : k < a.parts.length := by omega
   obtain ⟨p, hp1, hm, hd, g1, g2⟩ := at_lt hlt
   rw [n_18l4]
   simp only [sW, g1, g2, hlt, hp1, wrap_succ hlt ha.parts, ih p hm (ha.part hm), Bool.not_true]
   exact ihm (k + 1) (by omega)
 have h0 := hl _ 0 rfl
 simp only [Int.natCast_zero, Int.ofNat_eq_natCast, List.drop_zero] at h0
 rw [n_18]
 simp only [bne_self_eq_false, BEq.rfl, Bool.not_true, sW, h42, h0]
theorem pe_small : ∀ (a b : Tag), PEq a b → a.Fit 1048576 := by
 refine Tag.ind fun a ih b h => ?_
 cases h with
 | mk h1 h2 h3 h4 h5 g1 g2 g3 g4 h6 =>
  refine .mk g1 g2 g3 g4 fun p hp => ?_
  obtain ⟨i, hi⟩ := List.getElem?_of_mem hp
  have hlt := (List.getElem?_eq_some_iff.1 hi).1
  obtain ⟨q, hq⟩ : ∃ q, b.parts[i]? = some q := ⟨_, List.getElem?_eq_getElem (by omega)⟩
  exact ih p hp q (h6 i p q hi hq)
theorem parse_both (s : ByteArray) : ∃ at' e t, n_31 (s, ()) = some (at', e, t, ()) ∧ n_34 (s, ()) = some (at', e, t, ()) ∧ t.Fit big ∧
  (e = 0 → s.size ≤ 65536 ∧ at' = (s.size : Int) ∧ t.Fit 1048576 ∧ t.bulk ≤ 327680 ∧ n_29 (t, ()) = some (0, ())) := by
 have hz : zt.Fit big := .mk (Nat.zero_le _) (Nat.zero_le _) (fun s hs => by cases hs) (Nat.zero_le _) fun p hp => by cases hp
 unfold n_31 n_34
 by_cases hs : (s.size : Int) > 65536
 ·refine ⟨0, 3, zt, ?_, ?_, hz, fun h => by omega⟩
  ·simp only [hs, sW, Int.reduceEq, Int.reduceLT, Int.reduceLE, Int.reduceGE, Int.reduceGT, decide_true, decide_false]
  ·simp only [hs, sW, Int.reduceEq, Int.reduceLT, Int.reduceLE, Int.reduceGE, Int.reduceGT, decide_true, decide_false]
 ·have hs2 : s.size ≤ 65536 := by omega
  have h0 : In s 0 := ⟨Nat.zero_le _, hs2⟩
  obtain ⟨ok, k1, t, u, i1, l1, p1, p2, p3⟩ := piece_at h0
  have z0 : ((0 : Nat) : Int) = 0 := rfl
  unfold Rd at p1
  unfold Rr at p2
  rw [z0] at p1 p2
  cases ok with
  | false =>
   refine ⟨(k1 : Int), 2, zt, ?_, ?_, hz, fun h => by omega⟩
   ·simp only [hs, sW, Int.reduceEq, Int.reduceLT, Int.reduceLE, Int.reduceGE, Int.reduceGT, decide_true, decide_false, p1, Bool.not_false]
   ·have bw := blanksw s k1
    unfold Rr at bw
    simp only [hs, sW, Int.reduceEq, Int.reduceLT, Int.reduceLE, Int.reduceGE, Int.reduceGT, decide_true, decide_false, p2, Bool.not_false, bw]
  | true =>
   obtain ⟨hq, hbk⟩ := p3 rfl
   obtain ⟨k2, i2, l2, b1, b2, b3⟩ := blanks i1
   unfold Rd at b1
   unfold Rr at b2
   by_cases hend : (k2 : Int) < (s.size : Int)
   ·refine ⟨(k2 : Int), 2, zt, ?_, ?_, hz, fun h => by omega⟩
    ·simp only [hs, sW, Int.reduceEq, Int.reduceLT, Int.reduceLE, Int.reduceGE, Int.reduceGT, decide_true, decide_false, p1, Bool.not_true, b1, hend]
    ·simp only [hs, sW, Int.reduceEq, Int.reduceLT, Int.reduceLE, Int.reduceGE, Int.reduceGT, decide_true, decide_false, p2, Bool.not_true, b2, hend]
   ·obtain ⟨e, e1, e2, e3⟩ := pe_29 t u hq
    obtain ⟨ft, fu⟩ := pe_fit t u hq
    by_cases he : e = 0
    ·have := e3 he
     subst this
     subst he
     refine ⟨(s.size : Int), 0, t, ?_, ?_, ft, fun _ => ⟨hs2, rfl, pe_small t t hq, ?_, e1⟩⟩
     ·simp only [hs, sW, Int.reduceEq, Int.reduceLT, Int.reduceLE, Int.reduceGE, Int.reduceGT, decide_true, decide_false, p1, Bool.not_true, b1, hend, e1, bne_self_eq_false]
     ·simp only [hs, sW, Int.reduceEq, Int.reduceLT, Int.reduceLE, Int.reduceGE, Int.reduceGT, decide_true, decide_false, p2, Bool.not_true, b2, hend, e2, bne_self_eq_false]
     ·have := i1.le; omega
    ·have hne : (e != 0) = true := by simpa using he
     refine ⟨0, e, zt, ?_, ?_, hz, fun h => (he h).elim⟩
     ·simp only [hs, sW, Int.reduceEq, Int.reduceLT, Int.reduceLE, Int.reduceGE, Int.reduceGT, decide_true, decide_false, p1, Bool.not_true, b1, hend, e1, hne]
     ·simp only [hs, sW, Int.reduceEq, Int.reduceLT, Int.reduceLE, Int.reduceGE, Int.reduceGT, decide_true, decide_false, p2, Bool.not_true, b2, hend, e2, hne]
end Go.Proofs.YtdmggfegkaiaiaaGreatDoor
end
