/-
  The native functions with fuel: the kernel can run them. Made by a program of mine.
-/
import Derived.Test.YtdmggfegkaiaiaaGreatDoorNatA
namespace Go.Proofs.YtdmggfegkaiaiaaGreatDoor
open Go.Awp Go.Tx
set_option linter.unusedVariables false
set_option maxRecDepth 100000

/-- What x answers, y answers. -/
def Le {α : Type} (x y : Option α) : Prop := ∀ a, x = some a → y = some a
theorem Le.refl {α : Type} (x : Option α) : Le x x := fun _ h => h
theorem Le.none {α : Type} (x : Option α) : Le none x := fun _ h => by cases h
theorem Le.bind {α β : Type} {x y : Option α} {f g : α → Option β} (h : Le x y) (h2 : ∀ a, Le (f a) (g a)) : Le (x >>= f) (y >>= g) := fun b hb => by
  cases x with
  | none => cases hb
  | some a => rw [h a rfl]; exact h2 a b hb
theorem Le.ite {α : Type} {c : Prop} {d : Decidable c} {x y z w : Option α} (h : Le x y) (h2 : Le z w) : Le (@ite _ c d x z) (@ite _ c d y w) := by
  cases d with
  | isTrue h3 => exact h
  | isFalse h3 => exact h2
theorem Le.both {α : Type} {x y z w : Option α} (h : Le x y) (h2 : Le z w) : Le (both x z) (both y w) := fun a ha => by
  obtain ⟨h3, h4⟩ := both_some ha
  exact both_mk (h a h3) (h2 a h4)

noncomputable def m_113s555c (k : Nat) (v : ByteArray × Bool × (List Int) × Unit) : Option (Int × Bool × (List Int) × Unit) :=
  n_145s143f (v.snd.fst, v.snd.snd.fst, ()) >>= fun x1 =>
  if x1.snd.fst.length + v.fst.size ≤ (4294967296 : Nat) then
    some (((↑v.fst.size : Int), x1.fst, x1.snd.fst ++ Bs.ints v.fst, ()))
  else none
theorem m_113s555c_le (k : Nat) (v : ByteArray × Bool × (List Int) × Unit) : Le (m_113s555c k v) (n_113s555c v) := by
  unfold m_113s555c n_113s555c
  repeat' first | with_reducible exact Le.refl _ | with_reducible exact Le.none _ | with_reducible apply Le.bind | with_reducible apply Le.ite | with_reducible apply Le.both | intro x

noncomputable def m_86 (k : Nat) (v : ByteArray × Unit) : Option (Bool × Unit) :=
  n_87 (v.fst, ()) >>= fun x1 =>
  some ((!x1.fst, ()))
theorem m_86_le (k : Nat) (v : ByteArray × Unit) : Le (m_86 k v) (n_86 v) := by
  unfold m_86 n_86
  repeat' first | with_reducible exact Le.refl _ | with_reducible exact Le.none _ | with_reducible apply Le.bind | with_reducible apply Le.ite | with_reducible apply Le.both | intro x

noncomputable def m_117c86l2 : Nat → (List ByteArray) × Int × Int × Unit → Option (((Int × Unit) ⊕ (Unit)))
  | 0, _ => none
  | k + 1, v =>
    if decide (v.snd.snd.fst < v.snd.fst) = true then
      if (0 : Int) ≤ v.snd.snd.fst then
        v.fst[v.snd.snd.fst.toNat]? >>= fun x1 =>
        m_86 k (x1, ()) >>= fun x2 =>
        if x2.fst = true then
          some (Sum.inl (v.snd.snd.fst, ()))
        else m_117c86l2 k (v.fst, v.snd.fst, IntKind.i64.wrap (v.snd.snd.fst + (1 : Int)), ())
      else none
    else some (Sum.inr ())
theorem m_117c86l2_le : ∀ k v, Le (m_117c86l2 k v) (n_117c86l2 v)
  | 0, _ => Le.none _
  | k + 1, v => by
    rw [m_117c86l2, n_117c86l2]
    repeat' first | with_reducible exact Le.refl _ | with_reducible exact Le.none _ | with_reducible exact m_86_le _ _ | with_reducible exact m_117c86l2_le _ _ | with_reducible apply Le.bind | with_reducible apply Le.ite | with_reducible apply Le.both | intro x

noncomputable def m_117c86 (k : Nat) (v : (List ByteArray) × Unit) : Option (Int × Unit) :=
  m_117c86l2 k (v.fst, (↑v.fst.length : Int), (0 : Int), ()) >>= fun x1 => match x1 with
    | .inl y1 => some y1
    | .inr y1 => some (((-1 : Int), ()))
theorem m_117c86_le (k : Nat) (v : (List ByteArray) × Unit) : Le (m_117c86 k v) (n_117c86 v) := by
  unfold m_117c86 n_117c86
  repeat' first | with_reducible exact Le.refl _ | with_reducible exact Le.none _ | with_reducible exact m_117c86l2_le _ _ | with_reducible apply Le.bind | with_reducible apply Le.ite | with_reducible apply Le.both | (rintro (x | x) <;> dsimp only) | intro x

noncomputable def m_62l3 : Nat → (List ByteArray) × Int × Int × Tag × (List (ByteArray × Bool)) × Unit → Option (((Bool × Unit) ⊕ (Tag × Unit)))
  | 0, _ => none
  | k + 1, v =>
    if decide (v.snd.snd.fst < v.snd.fst) = true then
      if (0 : Int) ≤ v.snd.snd.fst then
        v.fst[v.snd.snd.fst.toNat]? >>= fun x1 =>
        if (Mp.get Mp.seq x1 v.snd.snd.snd.snd.fst).getD false = true then
          some (Sum.inl (true, ()))
        else m_62l3 k (v.fst, v.snd.fst, IntKind.i64.wrap (v.snd.snd.fst + (1 : Int)), v.snd.snd.snd.fst, Mp.set Mp.seq x1 true v.snd.snd.snd.snd.fst, ())
      else none
    else some (Sum.inr (v.snd.snd.snd.fst, ()))
theorem m_62l3_le : ∀ k v, Le (m_62l3 k v) (n_62l3 v)
  | 0, _ => Le.none _
  | k + 1, v => by
    rw [m_62l3, n_62l3]
    repeat' first | with_reducible exact Le.refl _ | with_reducible exact Le.none _ | with_reducible exact m_62l3_le _ _ | with_reducible apply Le.bind | with_reducible apply Le.ite | with_reducible apply Le.both | intro x

mutual
noncomputable def m_118c62l2 : Nat → (List Tag) × Int × Int × Unit → Option (((Int × Unit) ⊕ (Unit)))
  | 0, _ => none
  | k + 1, v =>
    if decide (v.snd.snd.fst < v.snd.fst) = true then
      if (0 : Int) ≤ v.snd.snd.fst then
        v.fst[v.snd.snd.fst.toNat]? >>= fun x1 =>
        m_62 k (x1, ()) >>= fun x2 =>
        if x2.fst = true then
          some (Sum.inl (v.snd.snd.fst, ()))
        else m_118c62l2 k (v.fst, v.snd.fst, IntKind.i64.wrap (v.snd.snd.fst + (1 : Int)), ())
      else none
    else some (Sum.inr ())
noncomputable def m_62 : Nat → Tag × Unit → Option (Bool × Unit)
  | 0, _ => none
  | k + 1, v =>
    m_62l3 k (v.fst.names, (↑v.fst.names.length : Int), (0 : Int), v.fst, [], ()) >>= fun x1 => match x1 with
      | .inl y1 => some y1
      | .inr y1 => m_89c62 k (y1.fst.parts, ()) >>= fun x2 =>
        some ((x2.fst, ()))
noncomputable def m_89c62 : Nat → (List Tag) × Unit → Option (Bool × Unit)
  | 0, _ => none
  | k + 1, v =>
    m_118c62 k (v.fst, ()) >>= fun x1 =>
    some ((decide (x1.fst ≥ (0 : Int)), ()))
noncomputable def m_118c62 : Nat → (List Tag) × Unit → Option (Int × Unit)
  | 0, _ => none
  | k + 1, v =>
    m_118c62l2 k (v.fst, (↑v.fst.length : Int), (0 : Int), ()) >>= fun x1 => match x1 with
      | .inl y1 => some y1
      | .inr y1 => some (((-1 : Int), ()))
end
theorem m_118c62l2_st (k : Nat) (h_118c62l2 : ∀ v, Le (m_118c62l2 k v) (n_118c62l2 v)) (h_62 : ∀ v, Le (m_62 k v) (n_62 v)) (v : (List Tag) × Int × Int × Unit) : Le (m_118c62l2 (k + 1) v) (n_118c62l2 v) := by
  rw [m_118c62l2, n_118c62l2]
  repeat' first | with_reducible exact Le.refl _ | with_reducible exact Le.none _ | with_reducible exact h_118c62l2 _ | with_reducible exact h_62 _ | with_reducible apply Le.bind | with_reducible apply Le.ite | with_reducible apply Le.both | intro x

theorem m_62_st (k : Nat) (h_89c62 : ∀ v, Le (m_89c62 k v) (n_89c62 v)) (v : Tag × Unit) : Le (m_62 (k + 1) v) (n_62 v) := by
  rw [m_62, n_62]
  repeat' first | with_reducible exact Le.refl _ | with_reducible exact Le.none _ | with_reducible exact m_62l3_le _ _ | with_reducible exact h_89c62 _ | with_reducible apply Le.bind | with_reducible apply Le.ite | with_reducible apply Le.both | (rintro (x | x) <;> dsimp only) | intro x

theorem m_89c62_st (k : Nat) (h_118c62 : ∀ v, Le (m_118c62 k v) (n_118c62 v)) (v : (List Tag) × Unit) : Le (m_89c62 (k + 1) v) (n_89c62 v) := by
  rw [m_89c62, n_89c62]
  repeat' first | with_reducible exact Le.refl _ | with_reducible exact Le.none _ | with_reducible exact h_118c62 _ | with_reducible apply Le.bind | with_reducible apply Le.ite | with_reducible apply Le.both | intro x

theorem m_118c62_st (k : Nat) (h_118c62l2 : ∀ v, Le (m_118c62l2 k v) (n_118c62l2 v)) (v : (List Tag) × Unit) : Le (m_118c62 (k + 1) v) (n_118c62 v) := by
  rw [m_118c62, n_118c62]
  repeat' first | with_reducible exact Le.refl _ | with_reducible exact Le.none _ | with_reducible exact h_118c62l2 _ | with_reducible apply Le.bind | with_reducible apply Le.ite | with_reducible apply Le.both | (rintro (x | x) <;> dsimp only) | intro x

theorem m_118c62l2_all : ∀ k, (∀ v, Le (m_118c62l2 k v) (n_118c62l2 v)) ∧ (∀ v, Le (m_62 k v) (n_62 v)) ∧ (∀ v, Le (m_89c62 k v) (n_89c62 v)) ∧ (∀ v, Le (m_118c62 k v) (n_118c62 v))
  | 0 => ⟨fun _ => Le.none _, fun _ => Le.none _, fun _ => Le.none _, fun _ => Le.none _⟩
  | k + 1 => by
    have h := m_118c62l2_all k
    exact ⟨m_118c62l2_st k (h.1) (h.2.1), m_62_st k (h.2.2.1), m_89c62_st k (h.2.2.2), m_118c62_st k (h.1)⟩
theorem m_118c62l2_le (k : Nat) (v : (List Tag) × Int × Int × Unit) : Le (m_118c62l2 k v) (n_118c62l2 v) := have h := m_118c62l2_all k; h.1 v
theorem m_62_le (k : Nat) (v : Tag × Unit) : Le (m_62 k v) (n_62 v) := have h := m_118c62l2_all k; h.2.1 v
theorem m_89c62_le (k : Nat) (v : (List Tag) × Unit) : Le (m_89c62 k v) (n_89c62 v) := have h := m_118c62l2_all k; h.2.2.1 v
theorem m_118c62_le (k : Nat) (v : (List Tag) × Unit) : Le (m_118c62 k v) (n_118c62 v) := have h := m_118c62l2_all k; h.2.2.2 v
noncomputable def m_88c86 (k : Nat) (v : (List ByteArray) × Unit) : Option (Bool × Unit) :=
  m_117c86 k (v.fst, ()) >>= fun x1 =>
  some ((decide (x1.fst ≥ (0 : Int)), ()))
theorem m_88c86_le (k : Nat) (v : (List ByteArray) × Unit) : Le (m_88c86 k v) (n_88c86 v) := by
  unfold m_88c86 n_88c86
  repeat' first | with_reducible exact Le.refl _ | with_reducible exact Le.none _ | with_reducible exact m_117c86_le _ _ | with_reducible apply Le.bind | with_reducible apply Le.ite | with_reducible apply Le.both | intro x

mutual
noncomputable def m_118c90l2 : Nat → (List Tag) × Int × Int × Unit → Option (((Int × Unit) ⊕ (Unit)))
  | 0, _ => none
  | k + 1, v =>
    if decide (v.snd.snd.fst < v.snd.fst) = true then
      if (0 : Int) ≤ v.snd.snd.fst then
        v.fst[v.snd.snd.fst.toNat]? >>= fun x1 =>
        m_90 k (x1, ()) >>= fun x2 =>
        if x2.fst = true then
          some (Sum.inl (v.snd.snd.fst, ()))
        else m_118c90l2 k (v.fst, v.snd.fst, IntKind.i64.wrap (v.snd.snd.fst + (1 : Int)), ())
      else none
    else some (Sum.inr ())
noncomputable def m_90 : Nat → Tag × Unit → Option (Bool × Unit)
  | 0, _ => none
  | k + 1, v =>
    m_61 k (v.fst, ()) >>= fun x1 =>
    some ((!x1.fst, ()))
noncomputable def m_61 : Nat → Tag × Unit → Option (Bool × Unit)
  | 0, _ => none
  | k + 1, v =>
    (if decide (v.fst.kind < (0 : Int)) = true then
        some ((true, v.fst, ()))
      else if decide (v.fst.kind > (6 : Int)) = true then
        some ((true, v.fst, ()))
      else if (v.fst.kind != (3 : Int)) = true then
        if (v.fst.n != (0 : Int)) = true then
          some ((true, v.fst, ()))
        else if decide (v.fst.n < (-9007199254740992 : Int)) = true then
          some ((true, v.fst, ()))
        else if decide (v.fst.n > (9007199254740992 : Int)) = true then
          some ((true, v.fst, ()))
        else if (v.fst.kind != (4 : Int)) = true then
          if (!v.fst.text.toList == (ByteArray.mk #[]).toList) = true then
            some ((true, v.fst, ()))
          else if decide (v.fst.kind < (5 : Int)) = true then
            some ((decide ((↑v.fst.parts.length : Int) > (0 : Int)), v.fst, ()))
          else some ((false, v.fst, ()))
        else if decide (v.fst.kind < (5 : Int)) = true then
          some ((decide ((↑v.fst.parts.length : Int) > (0 : Int)), v.fst, ()))
        else some ((false, v.fst, ()))
      else if decide (v.fst.n < (-9007199254740992 : Int)) = true then
        some ((true, v.fst, ()))
      else if decide (v.fst.n > (9007199254740992 : Int)) = true then
        some ((true, v.fst, ()))
      else if (v.fst.kind != (4 : Int)) = true then
        if (!v.fst.text.toList == (ByteArray.mk #[]).toList) = true then
          some ((true, v.fst, ()))
        else if decide (v.fst.kind < (5 : Int)) = true then
          some ((decide ((↑v.fst.parts.length : Int) > (0 : Int)), v.fst, ()))
        else some ((false, v.fst, ()))
      else if decide (v.fst.kind < (5 : Int)) = true then
        some ((decide ((↑v.fst.parts.length : Int) > (0 : Int)), v.fst, ()))
      else some ((false, v.fst, ()))) >>= fun x1 =>
    if x1.fst = true then
      some ((false, ()))
    else (if (x1.snd.fst.kind == (6 : Int)) = true then
        if ((↑x1.snd.fst.names.length : Int) != (↑x1.snd.fst.parts.length : Int)) = true then
          some ((true, x1.snd.fst, ()))
        else if (x1.snd.fst.kind != (6 : Int)) = true then
          some ((decide ((↑x1.snd.fst.names.length : Int) > (0 : Int)), x1.snd.fst, ()))
        else some ((false, x1.snd.fst, ()))
      else if (x1.snd.fst.kind != (6 : Int)) = true then
        some ((decide ((↑x1.snd.fst.names.length : Int) > (0 : Int)), x1.snd.fst, ()))
      else some ((false, x1.snd.fst, ()))) >>= fun x2 =>
    if x2.fst = true then
      some ((false, ()))
    else (m_86 k (x2.snd.fst.text, ()) >>= fun x3 =>
      if (!x3.fst) = true then
        m_88c86 k (x2.snd.fst.names, ()) >>= fun x4 =>
        if (!x4.fst) = true then
          m_89c90 k (x2.snd.fst.parts, ()) >>= fun x5 =>
          some ((!x5.fst, ()))
        else some ((false, ()))
      else some ((false, ()))) >>= fun x3 =>
    some ((x3.fst, ()))
noncomputable def m_89c90 : Nat → (List Tag) × Unit → Option (Bool × Unit)
  | 0, _ => none
  | k + 1, v =>
    m_118c90 k (v.fst, ()) >>= fun x1 =>
    some ((decide (x1.fst ≥ (0 : Int)), ()))
noncomputable def m_118c90 : Nat → (List Tag) × Unit → Option (Int × Unit)
  | 0, _ => none
  | k + 1, v =>
    m_118c90l2 k (v.fst, (↑v.fst.length : Int), (0 : Int), ()) >>= fun x1 => match x1 with
      | .inl y1 => some y1
      | .inr y1 => some (((-1 : Int), ()))
end
theorem m_118c90l2_st (k : Nat) (h_118c90l2 : ∀ v, Le (m_118c90l2 k v) (n_118c90l2 v)) (h_90 : ∀ v, Le (m_90 k v) (n_90 v)) (v : (List Tag) × Int × Int × Unit) : Le (m_118c90l2 (k + 1) v) (n_118c90l2 v) := by
  rw [m_118c90l2, n_118c90l2]
  repeat' first | with_reducible exact Le.refl _ | with_reducible exact Le.none _ | with_reducible exact h_118c90l2 _ | with_reducible exact h_90 _ | with_reducible apply Le.bind | with_reducible apply Le.ite | with_reducible apply Le.both | intro x

theorem m_90_st (k : Nat) (h_61 : ∀ v, Le (m_61 k v) (n_61 v)) (v : Tag × Unit) : Le (m_90 (k + 1) v) (n_90 v) := by
  rw [m_90, n_90]
  repeat' first | with_reducible exact Le.refl _ | with_reducible exact Le.none _ | with_reducible exact h_61 _ | with_reducible apply Le.bind | with_reducible apply Le.ite | with_reducible apply Le.both | intro x

theorem m_61_st (k : Nat) (h_89c90 : ∀ v, Le (m_89c90 k v) (n_89c90 v)) (v : Tag × Unit) : Le (m_61 (k + 1) v) (n_61 v) := by
  rw [m_61, n_61]
  repeat' first | with_reducible exact Le.refl _ | with_reducible exact Le.none _ | with_reducible exact m_86_le _ _ | with_reducible exact m_88c86_le _ _ | with_reducible exact h_89c90 _ | with_reducible apply Le.bind | with_reducible apply Le.ite | with_reducible apply Le.both | intro x

theorem m_89c90_st (k : Nat) (h_118c90 : ∀ v, Le (m_118c90 k v) (n_118c90 v)) (v : (List Tag) × Unit) : Le (m_89c90 (k + 1) v) (n_89c90 v) := by
  rw [m_89c90, n_89c90]
  repeat' first | with_reducible exact Le.refl _ | with_reducible exact Le.none _ | with_reducible exact h_118c90 _ | with_reducible apply Le.bind | with_reducible apply Le.ite | with_reducible apply Le.both | intro x

theorem m_118c90_st (k : Nat) (h_118c90l2 : ∀ v, Le (m_118c90l2 k v) (n_118c90l2 v)) (v : (List Tag) × Unit) : Le (m_118c90 (k + 1) v) (n_118c90 v) := by
  rw [m_118c90, n_118c90]
  repeat' first | with_reducible exact Le.refl _ | with_reducible exact Le.none _ | with_reducible exact h_118c90l2 _ | with_reducible apply Le.bind | with_reducible apply Le.ite | with_reducible apply Le.both | (rintro (x | x) <;> dsimp only) | intro x

theorem m_118c90l2_all : ∀ k, (∀ v, Le (m_118c90l2 k v) (n_118c90l2 v)) ∧ (∀ v, Le (m_90 k v) (n_90 v)) ∧ (∀ v, Le (m_61 k v) (n_61 v)) ∧ (∀ v, Le (m_89c90 k v) (n_89c90 v)) ∧ (∀ v, Le (m_118c90 k v) (n_118c90 v))
  | 0 => ⟨fun _ => Le.none _, fun _ => Le.none _, fun _ => Le.none _, fun _ => Le.none _, fun _ => Le.none _⟩
  | k + 1 => by
    have h := m_118c90l2_all k
    exact ⟨m_118c90l2_st k (h.1) (h.2.1), m_90_st k (h.2.2.1), m_61_st k (h.2.2.2.1), m_89c90_st k (h.2.2.2.2), m_118c90_st k (h.1)⟩
theorem m_118c90l2_le (k : Nat) (v : (List Tag) × Int × Int × Unit) : Le (m_118c90l2 k v) (n_118c90l2 v) := have h := m_118c90l2_all k; h.1 v
theorem m_90_le (k : Nat) (v : Tag × Unit) : Le (m_90 k v) (n_90 v) := have h := m_118c90l2_all k; h.2.1 v
theorem m_61_le (k : Nat) (v : Tag × Unit) : Le (m_61 k v) (n_61 v) := have h := m_118c90l2_all k; h.2.2.1 v
theorem m_89c90_le (k : Nat) (v : (List Tag) × Unit) : Le (m_89c90 k v) (n_89c90 v) := have h := m_118c90l2_all k; h.2.2.2.1 v
theorem m_118c90_le (k : Nat) (v : (List Tag) × Unit) : Le (m_118c90 k v) (n_118c90 v) := have h := m_118c90l2_all k; h.2.2.2.2 v
noncomputable def m_147 (k : Nat) (v : ByteArray × Int × Unit) : Option (Int × Unit) :=
  n_171 (v.fst, v.snd.fst, ()) >>= fun x1 =>
  some ((x1.fst, ()))
theorem m_147_le (k : Nat) (v : ByteArray × Int × Unit) : Le (m_147 k v) (n_147 v) := by
  unfold m_147 n_147
  repeat' first | with_reducible exact Le.refl _ | with_reducible exact Le.none _ | with_reducible apply Le.bind | with_reducible apply Le.ite | with_reducible apply Le.both | intro x

noncomputable def m_97s5bd0 (k : Nat) (v : ByteArray × Reader × Unit) : Option (Bool × Reader × Unit) :=
  (if (v.snd.fst.at0 == (↑v.snd.fst.s.size : Int)) = true then
      some ((true, v.snd.fst, ()))
    else if (0 : Int) ≤ v.snd.fst.at0 ∧ v.snd.fst.at0 ≤ IntKind.i64.wrap (v.snd.fst.at0 + (1 : Int)) ∧ IntKind.i64.wrap (v.snd.fst.at0 + (1 : Int)) ≤ (↑v.snd.fst.s.size : Int) then
      n_122 (v.fst, v.snd.fst.s.extract v.snd.fst.at0.toNat (IntKind.i64.wrap (v.snd.fst.at0 + (1 : Int))).toNat, ()) >>= fun x1 =>
      some ((!x1.fst, v.snd.fst, ()))
    else none) >>= fun x1 =>
  if x1.fst = true then
    some ((false, x1.snd.fst, ()))
  else some ((true, Reader.mk x1.snd.fst.s (IntKind.i64.wrap (x1.snd.fst.at0 + (1 : Int))), ()))
theorem m_97s5bd0_le (k : Nat) (v : ByteArray × Reader × Unit) : Le (m_97s5bd0 k v) (n_97s5bd0 v) := by
  unfold m_97s5bd0 n_97s5bd0
  repeat' first | with_reducible exact Le.refl _ | with_reducible exact Le.none _ | with_reducible apply Le.bind | with_reducible apply Le.ite | with_reducible apply Le.both | intro x

noncomputable def m_150sadb0 (k : Nat) (v : ByteArray × ByteArray × Reader × Unit) : Option (Int × Bool × Reader × Unit) :=
  (m_97s5bd0 k (v.fst, v.snd.snd.fst, ()) >>= fun x1 =>
    if x1.fst = true then
      some (Sum.inl (v.snd.snd.fst.at0, ByteArray.mk #[(48 : UInt8), (49 : UInt8), (50 : UInt8), (51 : UInt8), (52 : UInt8), (53 : UInt8), (54 : UInt8), (55 : UInt8), (56 : UInt8), (57 : UInt8), (97 : UInt8), (98 : UInt8), (99 : UInt8), (100 : UInt8), (101 : UInt8), (102 : UInt8), (65 : UInt8), (66 : UInt8), (67 : UInt8), (68 : UInt8), (69 : UInt8), (70 : UInt8)], x1.snd.fst, ()))
    else m_97s5bd0 k (ByteArray.mk #[(100 : UInt8), (68 : UInt8)], x1.snd.fst, ()) >>= fun x2 =>
    if x2.fst = true then
      some (Sum.inl (v.snd.snd.fst.at0, v.snd.fst, x2.snd.fst, ()))
    else some (Sum.inr ((0 : Int), false, x2.snd.fst, ()))) >>= fun x1 => match x1 with
    | .inl y1 => (m_97s5bd0 k (y1.snd.fst, y1.snd.snd.fst, ()) >>= fun x2 =>
        if (!x2.fst) = true then
          some ((y1.fst, true, x2.snd.fst, ()))
        else m_97s5bd0 k (ByteArray.mk #[(48 : UInt8), (49 : UInt8), (50 : UInt8), (51 : UInt8), (52 : UInt8), (53 : UInt8), (54 : UInt8), (55 : UInt8), (56 : UInt8), (57 : UInt8), (97 : UInt8), (98 : UInt8), (99 : UInt8), (100 : UInt8), (101 : UInt8), (102 : UInt8), (65 : UInt8), (66 : UInt8), (67 : UInt8), (68 : UInt8), (69 : UInt8), (70 : UInt8)], x2.snd.fst, ()) >>= fun x3 =>
        if (!x3.fst) = true then
          some ((y1.fst, true, x3.snd.fst, ()))
        else m_97s5bd0 k (ByteArray.mk #[(48 : UInt8), (49 : UInt8), (50 : UInt8), (51 : UInt8), (52 : UInt8), (53 : UInt8), (54 : UInt8), (55 : UInt8), (56 : UInt8), (57 : UInt8), (97 : UInt8), (98 : UInt8), (99 : UInt8), (100 : UInt8), (101 : UInt8), (102 : UInt8), (65 : UInt8), (66 : UInt8), (67 : UInt8), (68 : UInt8), (69 : UInt8), (70 : UInt8)], x3.snd.fst, ()) >>= fun x4 =>
        some ((y1.fst, !x4.fst, x4.snd.fst, ()))) >>= fun x2 =>
      if x2.snd.fst = true then
        some (((0 : Int), false, x2.snd.snd.fst, ()))
      else if (0 : Int) ≤ x2.fst ∧ x2.fst ≤ x2.snd.snd.fst.at0 ∧ x2.snd.snd.fst.at0 ≤ (↑x2.snd.snd.fst.s.size : Int) then
        none
      else none
    | .inr y1 => some y1
theorem m_150sadb0_le (k : Nat) (v : ByteArray × ByteArray × Reader × Unit) : Le (m_150sadb0 k v) (n_150sadb0 v) := by
  unfold m_150sadb0 n_150sadb0
  repeat' first | with_reducible exact Le.refl _ | with_reducible exact Le.none _ | with_reducible exact m_97s5bd0_le _ _ | with_reducible apply Le.bind | with_reducible apply Le.ite | with_reducible apply Le.both | (rintro (x | x) <;> dsimp only) | intro x

noncomputable def m_92s5bd0l2 : Nat → ByteArray × Int × Int × Reader × Unit → Option (((Bool × Reader × Unit) ⊕ (Reader × Unit)))
  | 0, _ => none
  | k + 1, v =>
    if decide (v.snd.snd.fst < v.snd.fst) = true then
      if (0 : Int) ≤ v.snd.snd.fst ∧ v.snd.snd.fst ≤ IntKind.i64.wrap (v.snd.snd.fst + (1 : Int)) ∧ IntKind.i64.wrap (v.snd.snd.fst + (1 : Int)) ≤ (↑v.fst.size : Int) then
        m_97s5bd0 k (v.fst.extract v.snd.snd.fst.toNat (IntKind.i64.wrap (v.snd.snd.fst + (1 : Int))).toNat, v.snd.snd.snd.fst, ()) >>= fun x1 =>
        if (!x1.fst) = true then
          some (Sum.inl (false, x1.snd.fst, ()))
        else m_92s5bd0l2 k (v.fst, v.snd.fst, IntKind.i64.wrap (v.snd.snd.fst + (1 : Int)), x1.snd.fst, ())
      else none
    else some (Sum.inr (v.snd.snd.snd.fst, ()))
theorem m_92s5bd0l2_le : ∀ k v, Le (m_92s5bd0l2 k v) (n_92s5bd0l2 v)
  | 0, _ => Le.none _
  | k + 1, v => by
    rw [m_92s5bd0l2, n_92s5bd0l2]
    repeat' first | with_reducible exact Le.refl _ | with_reducible exact Le.none _ | with_reducible exact m_97s5bd0_le _ _ | with_reducible exact m_92s5bd0l2_le _ _ | with_reducible apply Le.bind | with_reducible apply Le.ite | with_reducible apply Le.both | intro x

noncomputable def m_92s5bd0 (k : Nat) (v : ByteArray × Reader × Unit) : Option (Bool × Reader × Unit) :=
  m_92s5bd0l2 k (v.fst, (↑v.fst.size : Int), (0 : Int), v.snd.fst, ()) >>= fun x1 => match x1 with
    | .inl y1 => some y1
    | .inr y1 => some ((true, y1.fst, ()))
theorem m_92s5bd0_le (k : Nat) (v : ByteArray × Reader × Unit) : Le (m_92s5bd0 k v) (n_92s5bd0 v) := by
  unfold m_92s5bd0 n_92s5bd0
  repeat' first | with_reducible exact Le.refl _ | with_reducible exact Le.none _ | with_reducible exact m_92s5bd0l2_le _ _ | with_reducible apply Le.bind | with_reducible apply Le.ite | with_reducible apply Le.both | (rintro (x | x) <;> dsimp only) | intro x

noncomputable def m_119s0e1d (k : Nat) (v : Reader × Unit) : Option (Int × Bool × Reader × Unit) :=
  n_91s0e1d (v.fst, ()) >>= fun x1 =>
  m_147 k (ByteArray.mk #[(34 : UInt8), (92 : UInt8), (47 : UInt8), (98 : UInt8), (102 : UInt8), (110 : UInt8), (114 : UInt8), (116 : UInt8)], x1.fst, ()) >>= fun x2 =>
  (if decide (x1.snd.fst.at0 < (↑x1.snd.fst.s.size : Int)) = true then
      some ((x2.fst, decide (x2.fst ≥ (0 : Int)), x1.snd.fst, ()))
    else some ((x2.fst, false, x1.snd.fst, ()))) >>= fun x3 =>
  if x3.snd.fst = true then
    if (0 : Int) ≤ x3.fst then
      (ByteArray.mk #[(34 : UInt8), (92 : UInt8), (47 : UInt8), (8 : UInt8), (12 : UInt8), (10 : UInt8), (13 : UInt8), (9 : UInt8)])[x3.fst.toNat]? >>= fun x4 =>
      some ((IntKind.i32.wrap (↑x4.toNat : Int), true, Reader.mk x3.snd.snd.fst.s (IntKind.i64.wrap (x3.snd.snd.fst.at0 + (1 : Int))), ()))
    else none
  else m_97s5bd0 k (ByteArray.mk #[(117 : UInt8)], x3.snd.snd.fst, ()) >>= fun x4 =>
  if (!x4.fst) = true then
    some (((0 : Int), false, x4.snd.fst, ()))
  else m_150sadb0 k (ByteArray.mk #[(48 : UInt8), (49 : UInt8), (50 : UInt8), (51 : UInt8), (52 : UInt8), (53 : UInt8), (54 : UInt8), (55 : UInt8), (56 : UInt8), (57 : UInt8), (97 : UInt8), (98 : UInt8), (99 : UInt8), (101 : UInt8), (102 : UInt8), (65 : UInt8), (66 : UInt8), (67 : UInt8), (69 : UInt8), (70 : UInt8)], ByteArray.mk #[(48 : UInt8), (49 : UInt8), (50 : UInt8), (51 : UInt8), (52 : UInt8), (53 : UInt8), (54 : UInt8), (55 : UInt8), (56 : UInt8), (57 : UInt8), (97 : UInt8), (98 : UInt8), (65 : UInt8), (66 : UInt8)], x4.snd.fst, ()) >>= fun x5 =>
  (if (!x5.snd.fst) = true then
      some ((x5.fst, x5.snd.fst, true, x5.snd.snd.fst, ()))
    else if decide (x5.fst < (55296 : Int)) = true then
      some ((x5.fst, x5.snd.fst, true, x5.snd.snd.fst, ()))
    else some ((x5.fst, x5.snd.fst, decide (x5.fst ≥ (56320 : Int)), x5.snd.snd.fst, ()))) >>= fun x6 =>
  if x6.snd.snd.fst = true then
    some ((x6.fst, x6.snd.fst, x6.snd.snd.snd.fst, ()))
  else m_92s5bd0 k (ByteArray.mk #[(92 : UInt8), (117 : UInt8)], x6.snd.snd.snd.fst, ()) >>= fun x7 =>
  if (!x7.fst) = true then
    some (((0 : Int), false, x7.snd.fst, ()))
  else m_150sadb0 k (ByteArray.mk #[], ByteArray.mk #[(99 : UInt8), (100 : UInt8), (101 : UInt8), (102 : UInt8), (67 : UInt8), (68 : UInt8), (69 : UInt8), (70 : UInt8)], x7.snd.fst, ()) >>= fun x8 =>
  some ((IntKind.i32.wrap (IntKind.i32.wrap (IntKind.i32.wrap ((65536 : Int) + Bs.ishl IntKind.i32 (IntKind.i32.wrap (x6.fst - (55296 : Int))) (10 : Int)) + x8.fst) - (56320 : Int)), x8.snd.fst, x8.snd.snd.fst, ()))
theorem m_119s0e1d_le (k : Nat) (v : Reader × Unit) : Le (m_119s0e1d k v) (n_119s0e1d v) := by
  unfold m_119s0e1d n_119s0e1d
  repeat' first | with_reducible exact Le.refl _ | with_reducible exact Le.none _ | with_reducible exact m_150sadb0_le _ _ | with_reducible exact m_97s5bd0_le _ _ | with_reducible exact m_147_le _ _ | with_reducible exact m_92s5bd0_le _ _ | with_reducible apply Le.bind | with_reducible apply Le.ite | with_reducible apply Le.both | intro x

noncomputable def m_151s43b2 (k : Nat) (v : Int × (List Int) × Unit) : Option ((List Int) × Unit) :=
  if decide (IntKind.u32.wrap v.fst ≤ (127 : Int)) = true then
    if v.snd.fst.length + [IntKind.u8.wrap v.fst].length ≤ (4294967296 : Nat) then
      some ((v.snd.fst ++ [IntKind.u8.wrap v.fst], ()))
    else none
  else n_174s43b2 (v.fst, v.snd.fst, ()) >>= fun x1 =>
  some ((x1.fst, ()))
theorem m_151s43b2_le (k : Nat) (v : Int × (List Int) × Unit) : Le (m_151s43b2 k v) (n_151s43b2 v) := by
  unfold m_151s43b2 n_151s43b2
  repeat' first | with_reducible exact Le.refl _ | with_reducible exact Le.none _ | with_reducible apply Le.bind | with_reducible apply Le.ite | with_reducible apply Le.both | intro x

noncomputable def m_120s6702 (k : Nat) (v : Int × Bool × (List Int) × Unit) : Option (Int × Bool × (List Int) × Unit) :=
  n_145s143f (v.snd.fst, v.snd.snd.fst, ()) >>= fun x1 =>
  m_151s43b2 k (v.fst, x1.snd.fst, ()) >>= fun x2 =>
  some ((IntKind.i64.wrap ((↑x2.fst.length : Int) - (↑x1.snd.fst.length : Int)), x1.fst, x2.fst, ()))
theorem m_120s6702_le (k : Nat) (v : Int × Bool × (List Int) × Unit) : Le (m_120s6702 k v) (n_120s6702 v) := by
  unfold m_120s6702 n_120s6702
  repeat' first | with_reducible exact Le.refl _ | with_reducible exact Le.none _ | with_reducible exact m_151s43b2_le _ _ | with_reducible apply Le.bind | with_reducible apply Le.ite | with_reducible apply Le.both | intro x

noncomputable def m_121s0e1dl22 : Nat → Int × Int × Int × Int × Reader × Unit → Option (((Bool × Reader × Unit) ⊕ (Reader × Unit)))
  | 0, _ => none
  | k + 1, v =>
    if decide (v.snd.snd.snd.fst < v.snd.snd.fst) = true then
      n_152s07d3 (v.fst, v.snd.fst, v.snd.snd.snd.snd.fst, ()) >>= fun x1 =>
      if (!x1.fst) = true then
        some (Sum.inl (false, x1.snd.fst, ()))
      else m_121s0e1dl22 k ((128 : Int), (191 : Int), v.snd.snd.fst, IntKind.i64.wrap (v.snd.snd.snd.fst + (1 : Int)), x1.snd.fst, ())
    else some (Sum.inr (v.snd.snd.snd.snd.fst, ()))
theorem m_121s0e1dl22_le : ∀ k v, Le (m_121s0e1dl22 k v) (n_121s0e1dl22 v)
  | 0, _ => Le.none _
  | k + 1, v => by
    rw [m_121s0e1dl22, n_121s0e1dl22]
    repeat' first | with_reducible exact Le.refl _ | with_reducible exact Le.none _ | with_reducible exact m_121s0e1dl22_le _ _ | with_reducible apply Le.bind | with_reducible apply Le.ite | with_reducible apply Le.both | intro x

noncomputable def m_121s0e1d (k : Nat) (v : Reader × Unit) : Option (Bool × Reader × Unit) :=
  if (0 : Int) ≤ v.fst.at0 then
    v.fst.s[v.fst.at0.toNat]? >>= fun x1 =>
    (if decide ((↑x1.toNat : Int) < (128 : Int)) = true then
        some (Sum.inl ((↑x1.toNat : Int), (128 : Int), (191 : Int), (0 : Int), v.fst, ()))
      else (if decide ((↑x1.toNat : Int) < (194 : Int)) = true then
          some (((↑x1.toNat : Int), (128 : Int), (191 : Int), true, v.fst, ()))
        else some (((↑x1.toNat : Int), (128 : Int), (191 : Int), decide ((↑x1.toNat : Int) > (244 : Int)), v.fst, ()))) >>= fun x2 =>
      if x2.snd.snd.snd.fst = true then
        some (Sum.inr (false, x2.snd.snd.snd.snd.fst, ()))
      else if decide (x2.fst < (224 : Int)) = true then
        some (Sum.inl (x2.fst, x2.snd.fst, x2.snd.snd.fst, (1 : Int), x2.snd.snd.snd.snd.fst, ()))
      else if decide (x2.fst < (240 : Int)) = true then
        some (Sum.inl (x2.fst, x2.snd.fst, x2.snd.snd.fst, (2 : Int), x2.snd.snd.snd.snd.fst, ()))
      else some (Sum.inl (x2.fst, x2.snd.fst, x2.snd.snd.fst, (3 : Int), x2.snd.snd.snd.snd.fst, ()))) >>= fun x2 => match x2 with
      | .inl y2 => (if (y2.fst == (224 : Int)) = true then
            some (((160 : Int), y2.snd.snd.fst, y2.snd.snd.snd.fst, y2.snd.snd.snd.snd.fst, ()))
          else if (y2.fst == (237 : Int)) = true then
            some ((y2.snd.fst, (159 : Int), y2.snd.snd.snd.fst, y2.snd.snd.snd.snd.fst, ()))
          else if (y2.fst == (240 : Int)) = true then
            some (((144 : Int), y2.snd.snd.fst, y2.snd.snd.snd.fst, y2.snd.snd.snd.snd.fst, ()))
          else if (y2.fst == (244 : Int)) = true then
            some ((y2.snd.fst, (143 : Int), y2.snd.snd.snd.fst, y2.snd.snd.snd.snd.fst, ()))
          else some ((y2.snd.fst, y2.snd.snd.fst, y2.snd.snd.snd.fst, y2.snd.snd.snd.snd.fst, ()))) >>= fun x3 =>
        m_121s0e1dl22 k (x3.fst, x3.snd.fst, x3.snd.snd.fst, (0 : Int), Reader.mk x3.snd.snd.snd.fst.s (IntKind.i64.wrap (x3.snd.snd.snd.fst.at0 + (1 : Int))), ()) >>= fun x4 => match x4 with
          | .inl y4 => some y4
          | .inr y4 => some ((true, y4.fst, ()))
      | .inr y2 => some y2
  else none
theorem m_121s0e1d_le (k : Nat) (v : Reader × Unit) : Le (m_121s0e1d k v) (n_121s0e1d v) := by
  unfold m_121s0e1d n_121s0e1d
  repeat' first | with_reducible exact Le.refl _ | with_reducible exact Le.none _ | with_reducible exact m_121s0e1dl22_le _ _ | with_reducible apply Le.bind | with_reducible apply Le.ite | with_reducible apply Le.both | (rintro (x | x) <;> dsimp only) | intro x

noncomputable def m_58l3 : Nat → (List ByteArray) × Int × Int × Tag × Size × Size × Unit → Option ((Tag × Size × Size × Unit))
  | 0, _ => none
  | k + 1, v =>
    if decide (v.snd.snd.fst < v.snd.fst) = true then
      if (0 : Int) ≤ v.snd.snd.fst then
        v.fst[v.snd.snd.fst.toNat]? >>= fun x1 =>
        m_58l3 k (v.fst, v.snd.fst, IntKind.i64.wrap (v.snd.snd.fst + (1 : Int)), v.snd.snd.snd.fst, v.snd.snd.snd.snd.fst, Size.mk v.snd.snd.snd.snd.snd.fst.depth v.snd.snd.snd.snd.snd.fst.pieces (IntKind.i64.wrap (v.snd.snd.snd.snd.snd.fst.bytes + (↑x1.size : Int))), ())
      else none
    else some ((v.snd.snd.snd.fst, v.snd.snd.snd.snd.fst, v.snd.snd.snd.snd.snd.fst, ()))
theorem m_58l3_le : ∀ k v, Le (m_58l3 k v) (n_58l3 v)
  | 0, _ => Le.none _
  | k + 1, v => by
    rw [m_58l3, n_58l3]
    repeat' first | with_reducible exact Le.refl _ | with_reducible exact Le.none _ | with_reducible exact m_58l3_le _ _ | with_reducible apply Le.bind | with_reducible apply Le.ite | with_reducible apply Le.both | intro x

mutual
noncomputable def m_58l8 : Nat → (List Tag) × Int × Int × Size × Size × Unit → Option ((Size × Size × Unit))
  | 0, _ => none
  | k + 1, v =>
    if decide (v.snd.snd.fst < v.snd.fst) = true then
      if (0 : Int) ≤ v.snd.snd.fst then
        v.fst[v.snd.snd.fst.toNat]? >>= fun x1 =>
        m_58 k (x1, ()) >>= fun x2 =>
        m_58l8 k (v.fst, v.snd.fst, IntKind.i64.wrap (v.snd.snd.fst + (1 : Int)), v.snd.snd.snd.fst, Size.mk (max v.snd.snd.snd.snd.fst.depth x2.fst.depth) (IntKind.i64.wrap (v.snd.snd.snd.snd.fst.pieces + x2.fst.pieces)) (IntKind.i64.wrap (v.snd.snd.snd.snd.fst.bytes + x2.fst.bytes)), ())
      else none
    else some ((v.snd.snd.snd.fst, v.snd.snd.snd.snd.fst, ()))
noncomputable def m_58 : Nat → Tag × Unit → Option (Size × Unit)
  | 0, _ => none
  | k + 1, v =>
    m_58l3 k (v.fst.names, (↑v.fst.names.length : Int), (0 : Int), v.fst, Size.mk (0 : Int) (0 : Int) (0 : Int), Size.mk (0 : Int) (1 : Int) (↑v.fst.text.size : Int), ()) >>= fun x1 =>
    m_58l8 k (x1.fst.parts, (↑x1.fst.parts.length : Int), (0 : Int), x1.snd.fst, x1.snd.snd.fst, ()) >>= fun x2 =>
    some ((Size.mk (IntKind.i64.wrap (x2.snd.fst.depth + (1 : Int))) x2.snd.fst.pieces x2.snd.fst.bytes, ()))
end
theorem m_58l8_st (k : Nat) (h_58 : ∀ v, Le (m_58 k v) (n_58 v)) (h_58l8 : ∀ v, Le (m_58l8 k v) (n_58l8 v)) (v : (List Tag) × Int × Int × Size × Size × Unit) : Le (m_58l8 (k + 1) v) (n_58l8 v) := by
  rw [m_58l8, n_58l8]
  repeat' first | with_reducible exact Le.refl _ | with_reducible exact Le.none _ | with_reducible exact h_58 _ | with_reducible exact h_58l8 _ | with_reducible apply Le.bind | with_reducible apply Le.ite | with_reducible apply Le.both | intro x

theorem m_58_st (k : Nat) (h_58l8 : ∀ v, Le (m_58l8 k v) (n_58l8 v)) (v : Tag × Unit) : Le (m_58 (k + 1) v) (n_58 v) := by
  rw [m_58, n_58]
  repeat' first | with_reducible exact Le.refl _ | with_reducible exact Le.none _ | with_reducible exact m_58l3_le _ _ | with_reducible exact h_58l8 _ | with_reducible apply Le.bind | with_reducible apply Le.ite | with_reducible apply Le.both | intro x

theorem m_58l8_all : ∀ k, (∀ v, Le (m_58l8 k v) (n_58l8 v)) ∧ (∀ v, Le (m_58 k v) (n_58 v))
  | 0 => ⟨fun _ => Le.none _, fun _ => Le.none _⟩
  | k + 1 => by
    have h := m_58l8_all k
    exact ⟨m_58l8_st k (h.2) (h.1), m_58_st k (h.1)⟩
theorem m_58l8_le (k : Nat) (v : (List Tag) × Int × Int × Size × Size × Unit) : Le (m_58l8 k v) (n_58l8 v) := have h := m_58l8_all k; h.1 v
theorem m_58_le (k : Nat) (v : Tag × Unit) : Le (m_58 k v) (n_58 v) := have h := m_58l8_all k; h.2 v
noncomputable def m_29 (k : Nat) (v : Tag × Unit) : Option (Int × Unit) :=
  m_58 k (v.fst, ()) >>= fun x1 =>
  (if decide (x1.fst.depth > (20 : Int)) = true then
      some ((true, v.fst, ()))
    else if decide (x1.fst.pieces > (500 : Int)) = true then
      some ((true, v.fst, ()))
    else some ((decide (x1.fst.bytes > (4096 : Int)), v.fst, ()))) >>= fun x2 =>
  if x2.fst = true then
    some (((3 : Int), ()))
  else m_61 k (x2.snd.fst, ()) >>= fun x3 =>
  if (!x3.fst) = true then
    some (((1 : Int), ()))
  else m_62 k (x2.snd.fst, ()) >>= fun x4 =>
  if x4.fst = true then
    some (((5 : Int), ()))
  else some (((0 : Int), ()))
theorem m_29_le (k : Nat) (v : Tag × Unit) : Le (m_29 k v) (n_29 v) := by
  unfold m_29 n_29
  repeat' first | with_reducible exact Le.refl _ | with_reducible exact Le.none _ | with_reducible exact m_61_le _ _ | with_reducible exact m_58_le _ _ | with_reducible exact m_62_le _ _ | with_reducible apply Le.bind | with_reducible apply Le.ite | with_reducible apply Le.both | intro x

noncomputable def m_77l2 : Nat → (List ByteArray) × ByteArray × Int × Int × Unit → Option (((Int × Unit) ⊕ (Unit)))
  | 0, _ => none
  | k + 1, v =>
    if decide (v.snd.snd.snd.fst < v.snd.snd.fst) = true then
      if (0 : Int) ≤ v.snd.snd.snd.fst then
        v.fst[v.snd.snd.snd.fst.toNat]? >>= fun x1 =>
        if (v.snd.fst.toList == x1.toList) = true then
          some (Sum.inl (v.snd.snd.snd.fst, ()))
        else m_77l2 k (v.fst, v.snd.fst, v.snd.snd.fst, IntKind.i64.wrap (v.snd.snd.snd.fst + (1 : Int)), ())
      else none
    else some (Sum.inr ())
theorem m_77l2_le : ∀ k v, Le (m_77l2 k v) (n_77l2 v)
  | 0, _ => Le.none _
  | k + 1, v => by
    rw [m_77l2, n_77l2]
    repeat' first | with_reducible exact Le.refl _ | with_reducible exact Le.none _ | with_reducible exact m_77l2_le _ _ | with_reducible apply Le.bind | with_reducible apply Le.ite | with_reducible apply Le.both | intro x

noncomputable def m_77 (k : Nat) (v : (List ByteArray) × ByteArray × Unit) : Option (Int × Unit) :=
  m_77l2 k (v.fst, v.snd.fst, (↑v.fst.length : Int), (0 : Int), ()) >>= fun x1 => match x1 with
    | .inl y1 => some y1
    | .inr y1 => some (((-1 : Int), ()))
theorem m_77_le (k : Nat) (v : (List ByteArray) × ByteArray × Unit) : Le (m_77 k v) (n_77 v) := by
  unfold m_77 n_77
  repeat' first | with_reducible exact Le.refl _ | with_reducible exact Le.none _ | with_reducible exact m_77l2_le _ _ | with_reducible apply Le.bind | with_reducible apply Le.ite | with_reducible apply Le.both | (rintro (x | x) <;> dsimp only) | intro x

noncomputable def m_55 (k : Nat) (v : Tag × ByteArray × Unit) : Option (Int × Unit) :=
  if (v.fst.kind == (6 : Int)) = true then
    m_77 k (v.fst.names, v.snd.fst, ()) >>= fun x1 =>
    some ((x1.fst, ()))
  else n_78 (v.snd.fst, ()) >>= fun x1 =>
  (if (v.fst.kind != (5 : Int)) = true then
      some ((x1.fst, true, ()))
    else if x1.snd.fst = true then
      some ((x1.fst, true, ()))
    else if decide (x1.fst < (0 : Int)) = true then
      some ((x1.fst, true, ()))
    else if decide (x1.fst > (↑v.fst.parts.length : Int)) = true then
      some ((x1.fst, true, ()))
    else n_79 (x1.fst, ()) >>= fun x2 =>
    some ((x1.fst, !x2.fst.toList == v.snd.fst.toList, ()))) >>= fun x2 =>
  if x2.snd.fst = true then
    some (((-1 : Int), ()))
  else some ((x2.fst, ()))
theorem m_55_le (k : Nat) (v : Tag × ByteArray × Unit) : Le (m_55 k v) (n_55 v) := by
  unfold m_55 n_55
  repeat' first | with_reducible exact Le.refl _ | with_reducible exact Le.none _ | with_reducible exact m_77_le _ _ | with_reducible apply Le.bind | with_reducible apply Le.ite | with_reducible apply Le.both | intro x

noncomputable def m_44l2 : Nat → (List ByteArray) × Int × Int × Tag × Tag × Unit → Option (((Bool × Tag × Unit) ⊕ (Tag × Tag × Unit)))
  | 0, _ => none
  | k + 1, v =>
    if decide (v.snd.snd.fst < v.snd.fst) = true then
      if (0 : Int) ≤ v.snd.snd.fst then
        v.fst[v.snd.snd.fst.toNat]? >>= fun x1 =>
        m_55 k (v.snd.snd.snd.fst, x1, ()) >>= fun x2 =>
        (if decide (x2.fst < (0 : Int)) = true then
            some ((x2.fst, v.fst, v.snd.fst, v.snd.snd.fst, true, v.snd.snd.snd.fst, v.snd.snd.snd.snd.fst, ()))
          else some ((x2.fst, v.fst, v.snd.fst, v.snd.snd.fst, decide (x2.fst ≥ (↑v.snd.snd.snd.fst.parts.length : Int)), v.snd.snd.snd.fst, v.snd.snd.snd.snd.fst, ()))) >>= fun x3 =>
        if x3.snd.snd.snd.snd.fst = true then
          some (Sum.inl (false, Tag.mk (0 : Int) (0 : Int) (ByteArray.mk #[]) [] [], ()))
        else if (0 : Int) ≤ x3.fst then
          x3.snd.snd.snd.snd.snd.fst.parts[x3.fst.toNat]? >>= fun x4 =>
          m_44l2 k (x3.snd.fst, x3.snd.snd.fst, IntKind.i64.wrap (x3.snd.snd.snd.fst + (1 : Int)), x4, x3.snd.snd.snd.snd.snd.snd.fst, ())
        else none
      else none
    else some (Sum.inr (v.snd.snd.snd.fst, v.snd.snd.snd.snd.fst, ()))
theorem m_44l2_le : ∀ k v, Le (m_44l2 k v) (n_44l2 v)
  | 0, _ => Le.none _
  | k + 1, v => by
    rw [m_44l2, n_44l2]
    repeat' first | with_reducible exact Le.refl _ | with_reducible exact Le.none _ | with_reducible exact m_55_le _ _ | with_reducible exact m_44l2_le _ _ | with_reducible apply Le.bind | with_reducible apply Le.ite | with_reducible apply Le.both | intro x

noncomputable def m_44 (k : Nat) (v : Tag × (List ByteArray) × Unit) : Option (Bool × Tag × Unit) :=
  m_44l2 k (v.snd.fst, (↑v.snd.fst.length : Int), (0 : Int), v.fst, Tag.mk (0 : Int) (0 : Int) (ByteArray.mk #[]) [] [], ()) >>= fun x1 => match x1 with
    | .inl y1 => some y1
    | .inr y1 => some ((true, y1.fst, ()))
theorem m_44_le (k : Nat) (v : Tag × (List ByteArray) × Unit) : Le (m_44 k v) (n_44 v) := by
  unfold m_44 n_44
  repeat' first | with_reducible exact Le.refl _ | with_reducible exact Le.none _ | with_reducible exact m_44l2_le _ _ | with_reducible apply Le.bind | with_reducible apply Le.ite | with_reducible apply Le.both | (rintro (x | x) <;> dsimp only) | intro x

mutual
noncomputable def m_45l4 : Nat → (List Tag) × Int × Int × Tag × Tag × (List Tag) × Unit → Option ((Tag × Tag × (List Tag) × Unit))
  | 0, _ => none
  | k + 1, v =>
    if decide (v.snd.snd.fst < v.snd.fst) = true then
      if (0 : Int) ≤ v.snd.snd.fst then
        v.fst[v.snd.snd.fst.toNat]? >>= fun x1 =>
        m_45 k (x1, ()) >>= fun x2 =>
        if v.snd.snd.snd.snd.snd.fst.length + [x2.fst].length ≤ (4294967296 : Nat) then
          m_45l4 k (v.fst, v.snd.fst, IntKind.i64.wrap (v.snd.snd.fst + (1 : Int)), v.snd.snd.snd.fst, v.snd.snd.snd.snd.fst, v.snd.snd.snd.snd.snd.fst ++ [x2.fst], ())
        else none
      else none
    else some ((v.snd.snd.snd.fst, v.snd.snd.snd.snd.fst, v.snd.snd.snd.snd.snd.fst, ()))
noncomputable def m_45 : Nat → Tag × Unit → Option (Tag × Unit)
  | 0, _ => none
  | k + 1, v =>
    n_75 (v.fst.names, ()) >>= fun x1 =>
    m_45l4 k (v.fst.parts, (↑v.fst.parts.length : Int), (0 : Int), Tag.mk v.fst.kind v.fst.n v.fst.text x1.fst v.fst.parts, Tag.mk (0 : Int) (0 : Int) (ByteArray.mk #[]) [] [], [], ()) >>= fun x2 =>
    some ((Tag.mk x2.fst.kind x2.fst.n x2.fst.text x2.fst.names x2.snd.snd.fst, ()))
end
theorem m_45l4_st (k : Nat) (h_45 : ∀ v, Le (m_45 k v) (n_45 v)) (h_45l4 : ∀ v, Le (m_45l4 k v) (n_45l4 v)) (v : (List Tag) × Int × Int × Tag × Tag × (List Tag) × Unit) : Le (m_45l4 (k + 1) v) (n_45l4 v) := by
  rw [m_45l4, n_45l4]
  repeat' first | with_reducible exact Le.refl _ | with_reducible exact Le.none _ | with_reducible exact h_45 _ | with_reducible exact h_45l4 _ | with_reducible apply Le.bind | with_reducible apply Le.ite | with_reducible apply Le.both | intro x

theorem m_45_st (k : Nat) (h_45l4 : ∀ v, Le (m_45l4 k v) (n_45l4 v)) (v : Tag × Unit) : Le (m_45 (k + 1) v) (n_45 v) := by
  rw [m_45, n_45]
  repeat' first | with_reducible exact Le.refl _ | with_reducible exact Le.none _ | with_reducible exact h_45l4 _ | with_reducible apply Le.bind | with_reducible apply Le.ite | with_reducible apply Le.both | intro x

theorem m_45l4_all : ∀ k, (∀ v, Le (m_45l4 k v) (n_45l4 v)) ∧ (∀ v, Le (m_45 k v) (n_45 v))
  | 0 => ⟨fun _ => Le.none _, fun _ => Le.none _⟩
  | k + 1 => by
    have h := m_45l4_all k
    exact ⟨m_45l4_st k (h.2) (h.1), m_45_st k (h.1)⟩
theorem m_45l4_le (k : Nat) (v : (List Tag) × Int × Int × Tag × Tag × (List Tag) × Unit) : Le (m_45l4 k v) (n_45l4 v) := have h := m_45l4_all k; h.1 v
theorem m_45_le (k : Nat) (v : Tag × Unit) : Le (m_45 k v) (n_45 v) := have h := m_45l4_all k; h.2 v
noncomputable def m_16 (k : Nat) (v : Tag × (List ByteArray) × Unit) : Option (Bool × Int × Tag × Unit) :=
  m_29 k (v.fst, ()) >>= fun x1 =>
  if (x1.fst != (0 : Int)) = true then
    some ((false, x1.fst, Tag.mk (0 : Int) (0 : Int) (ByteArray.mk #[]) [] [], ()))
  else m_44 k (v.fst, v.snd.fst, ()) >>= fun x2 =>
  m_45 k (x2.snd.fst, ()) >>= fun x3 =>
  some ((x2.fst, (0 : Int), x3.fst, ()))
theorem m_16_le (k : Nat) (v : Tag × (List ByteArray) × Unit) : Le (m_16 k v) (n_16 v) := by
  unfold m_16 n_16
  repeat' first | with_reducible exact Le.refl _ | with_reducible exact Le.none _ | with_reducible exact m_29_le _ _ | with_reducible exact m_45_le _ _ | with_reducible exact m_44_le _ _ | with_reducible apply Le.bind | with_reducible apply Le.ite | with_reducible apply Le.both | intro x

noncomputable def m_66s0e1dl0 : Nat → Reader × Unit → Option ((Reader × Unit))
  | 0, _ => none
  | k + 1, v =>
    m_97s5bd0 k (ByteArray.mk #[(32 : UInt8), (10 : UInt8), (9 : UInt8), (13 : UInt8)], v.fst, ()) >>= fun x1 =>
    if x1.fst = true then
      m_66s0e1dl0 k (x1.snd.fst, ())
    else some ((x1.snd.fst, ()))
theorem m_66s0e1dl0_le : ∀ k v, Le (m_66s0e1dl0 k v) (n_66s0e1dl0 v)
  | 0, _ => Le.none _
  | k + 1, v => by
    rw [m_66s0e1dl0, n_66s0e1dl0]
    repeat' first | with_reducible exact Le.refl _ | with_reducible exact Le.none _ | with_reducible exact m_97s5bd0_le _ _ | with_reducible exact m_66s0e1dl0_le _ _ | with_reducible apply Le.bind | with_reducible apply Le.ite | with_reducible apply Le.both | intro x

noncomputable def m_66s0e1d (k : Nat) (v : Reader × Unit) : Option (Reader × Unit) :=
  m_66s0e1dl0 k (v.fst, ()) >>= fun x1 =>
  some ((x1.fst, ()))
theorem m_66s0e1d_le (k : Nat) (v : Reader × Unit) : Le (m_66s0e1d k v) (n_66s0e1d v) := by
  unfold m_66s0e1d n_66s0e1d
  repeat' first | with_reducible exact Le.refl _ | with_reducible exact Le.none _ | with_reducible exact m_66s0e1dl0_le _ _ | with_reducible apply Le.bind | with_reducible apply Le.ite | with_reducible apply Le.both | intro x

noncomputable def m_93s0e1dl6 : Nat → Bool × Int × Reader × Tag × Unit → Option ((Bool × Int × Reader × Tag × Unit))
  | 0, _ => none
  | k + 1, v =>
    (n_91s0e1d (v.snd.snd.fst, ()) >>= fun x1 =>
      if decide (x1.fst ≥ (48 : Int)) = true then
        n_91s0e1d (x1.snd.fst, ()) >>= fun x2 =>
        some ((v.fst, v.snd.fst, decide (x2.fst ≤ (57 : Int)), x2.snd.fst, v.snd.snd.snd.fst, ()))
      else some ((v.fst, v.snd.fst, false, x1.snd.fst, v.snd.snd.snd.fst, ()))) >>= fun x1 =>
    if x1.snd.snd.fst = true then
      n_91s0e1d (x1.snd.snd.snd.fst, ()) >>= fun x2 =>
      m_93s0e1dl6 k (x1.fst, min (IntKind.i64.wrap (IntKind.i64.wrap ((10 : Int) * x1.snd.fst) + IntKind.i64.wrap (IntKind.u8.wrap (x2.fst - (48 : Int))))) (576460752303423488 : Int), Reader.mk x2.snd.fst.s (IntKind.i64.wrap (x2.snd.fst.at0 + (1 : Int))), x1.snd.snd.snd.snd.fst, ())
    else some ((x1.fst, x1.snd.fst, x1.snd.snd.snd.fst, x1.snd.snd.snd.snd.fst, ()))
theorem m_93s0e1dl6_le : ∀ k v, Le (m_93s0e1dl6 k v) (n_93s0e1dl6 v)
  | 0, _ => Le.none _
  | k + 1, v => by
    rw [m_93s0e1dl6, n_93s0e1dl6]
    repeat' first | with_reducible exact Le.refl _ | with_reducible exact Le.none _ | with_reducible exact m_93s0e1dl6_le _ _ | with_reducible apply Le.bind | with_reducible apply Le.ite | with_reducible apply Le.both | intro x

noncomputable def m_93s0e1d (k : Nat) (v : Reader × Unit) : Option (Bool × Reader × Tag × Unit) :=
  m_97s5bd0 k (ByteArray.mk #[(45 : UInt8)], v.fst, ()) >>= fun x1 =>
  (m_97s5bd0 k (ByteArray.mk #[(48 : UInt8)], x1.snd.fst, ()) >>= fun x2 =>
    if x2.fst = true then
      some (Sum.inl (x1.fst, (0 : Int), x2.snd.fst, Tag.mk (0 : Int) (0 : Int) (ByteArray.mk #[]) [] [], ()))
    else (n_91s0e1d (x2.snd.fst, ()) >>= fun x3 =>
      if decide (x3.fst ≥ (49 : Int)) = true then
        n_91s0e1d (x3.snd.fst, ()) >>= fun x4 =>
        some ((x1.fst, (0 : Int), decide (x4.fst ≤ (57 : Int)), x4.snd.fst, Tag.mk (0 : Int) (0 : Int) (ByteArray.mk #[]) [] [], ()))
      else some ((x1.fst, (0 : Int), false, x3.snd.fst, Tag.mk (0 : Int) (0 : Int) (ByteArray.mk #[]) [] [], ()))) >>= fun x3 =>
    if x3.snd.snd.fst = true then
      m_93s0e1dl6 k (x3.fst, x3.snd.fst, x3.snd.snd.snd.fst, x3.snd.snd.snd.snd.fst, ()) >>= fun x4 =>
      some (Sum.inl (x4.fst, x4.snd.fst, x4.snd.snd.fst, x4.snd.snd.snd.fst, ()))
    else some (Sum.inr (false, x3.snd.snd.snd.fst, Tag.mk (0 : Int) (0 : Int) (ByteArray.mk #[]) [] [], ()))) >>= fun x2 => match x2 with
    | .inl y2 => (if y2.fst = true then
          some ((IntKind.i64.wrap ((0 : Int) - y2.snd.fst), y2.snd.snd.fst, y2.snd.snd.snd.fst, ()))
        else some ((y2.snd.fst, y2.snd.snd.fst, y2.snd.snd.snd.fst, ()))) >>= fun x3 =>
      some ((true, x3.snd.fst, Tag.mk (3 : Int) x3.fst (ByteArray.mk #[]) [] [], ()))
    | .inr y2 => some y2
theorem m_93s0e1d_le (k : Nat) (v : Reader × Unit) : Le (m_93s0e1d k v) (n_93s0e1d v) := by
  unfold m_93s0e1d n_93s0e1d
  repeat' first | with_reducible exact Le.refl _ | with_reducible exact Le.none _ | with_reducible exact m_93s0e1dl6_le _ _ | with_reducible exact m_97s5bd0_le _ _ | with_reducible apply Le.bind | with_reducible apply Le.ite | with_reducible apply Le.both | (rintro (x | x) <;> dsimp only) | intro x

noncomputable def m_94s0e1dl3 : Nat → Reader × Bool × (List Int) × Unit → Option ((ByteArray × Bool × Reader × Unit))
  | 0, _ => none
  | k + 1, v =>
    n_91s0e1d (v.fst, ()) >>= fun x1 =>
    if (x1.fst == (34 : Int)) = true then
      n_83s143f (v.snd.fst, v.snd.snd.fst, ()) >>= fun x2 =>
      some ((x2.fst, true, Reader.mk x1.snd.fst.s (IntKind.i64.wrap (x1.snd.fst.at0 + (1 : Int))), ()))
    else if decide (x1.fst < (32 : Int)) = true then
      some ((ByteArray.mk #[], false, x1.snd.fst, ()))
    else if (x1.fst == (92 : Int)) = true then
      m_119s0e1d k (Reader.mk x1.snd.fst.s (IntKind.i64.wrap (x1.snd.fst.at0 + (1 : Int))), ()) >>= fun x2 =>
      if (!x2.snd.fst) = true then
        some ((ByteArray.mk #[], false, x2.snd.snd.fst, ()))
      else m_120s6702 k (x2.fst, v.snd.fst, v.snd.snd.fst, ()) >>= fun x3 =>
      m_94s0e1dl3 k (x2.snd.snd.fst, x3.snd.fst, x3.snd.snd.fst, ())
    else m_121s0e1d k (x1.snd.fst, ()) >>= fun x2 =>
    if (!x2.fst) = true then
      some ((ByteArray.mk #[], false, x2.snd.fst, ()))
    else if (0 : Int) ≤ x1.snd.fst.at0 ∧ x1.snd.fst.at0 ≤ x2.snd.fst.at0 ∧ x2.snd.fst.at0 ≤ (↑x2.snd.fst.s.size : Int) then
      m_113s555c k (x2.snd.fst.s.extract x1.snd.fst.at0.toNat x2.snd.fst.at0.toNat, v.snd.fst, v.snd.snd.fst, ()) >>= fun x3 =>
      m_94s0e1dl3 k (x2.snd.fst, x3.snd.fst, x3.snd.snd.fst, ())
    else none
theorem m_94s0e1dl3_le : ∀ k v, Le (m_94s0e1dl3 k v) (n_94s0e1dl3 v)
  | 0, _ => Le.none _
  | k + 1, v => by
    rw [m_94s0e1dl3, n_94s0e1dl3]
    repeat' first | with_reducible exact Le.refl _ | with_reducible exact Le.none _ | with_reducible exact m_120s6702_le _ _ | with_reducible exact m_119s0e1d_le _ _ | with_reducible exact m_113s555c_le _ _ | with_reducible exact m_121s0e1d_le _ _ | with_reducible exact m_94s0e1dl3_le _ _ | with_reducible apply Le.bind | with_reducible apply Le.ite | with_reducible apply Le.both | intro x

noncomputable def m_94s0e1d (k : Nat) (v : Reader × Unit) : Option (ByteArray × Bool × Reader × Unit) :=
  some (v.fst, false, [], ()) >>= fun x1 =>
  m_94s0e1dl3 k (Reader.mk x1.fst.s (IntKind.i64.wrap (x1.fst.at0 + (1 : Int))), x1.snd.fst, x1.snd.snd.fst, ()) >>= fun x2 =>
  some x2
theorem m_94s0e1d_le (k : Nat) (v : Reader × Unit) : Le (m_94s0e1d k v) (n_94s0e1d v) := by
  unfold m_94s0e1d n_94s0e1d
  repeat' first | with_reducible exact Le.refl _ | with_reducible exact Le.none _ | with_reducible exact m_94s0e1dl3_le _ _ | with_reducible apply Le.bind | with_reducible apply Le.ite | with_reducible apply Le.both | intro x

mutual
noncomputable def m_65s0e1d : Nat → Reader × Unit → Option (Bool × Reader × Tag × Unit)
  | 0, _ => none
  | k + 1, v =>
    m_66s0e1d k (v.fst, ()) >>= fun x1 =>
    n_91s0e1d (x1.fst, ()) >>= fun x2 =>
    if (x2.fst == (110 : Int)) = true then
      m_92s5bd0 k (ByteArray.mk #[(110 : UInt8), (117 : UInt8), (108 : UInt8), (108 : UInt8)], x2.snd.fst, ()) >>= fun x3 =>
      some ((x3.fst, x3.snd.fst, Tag.mk (0 : Int) (0 : Int) (ByteArray.mk #[]) [] [], ()))
    else if (x2.fst == (102 : Int)) = true then
      m_92s5bd0 k (ByteArray.mk #[(102 : UInt8), (97 : UInt8), (108 : UInt8), (115 : UInt8), (101 : UInt8)], x2.snd.fst, ()) >>= fun x3 =>
      some ((x3.fst, x3.snd.fst, Tag.mk (1 : Int) (0 : Int) (ByteArray.mk #[]) [] [], ()))
    else if (x2.fst == (116 : Int)) = true then
      m_92s5bd0 k (ByteArray.mk #[(116 : UInt8), (114 : UInt8), (117 : UInt8), (101 : UInt8)], x2.snd.fst, ()) >>= fun x3 =>
      some ((x3.fst, x3.snd.fst, Tag.mk (2 : Int) (0 : Int) (ByteArray.mk #[]) [] [], ()))
    else (if (x2.fst == (45 : Int)) = true then
        some ((x2.fst, true, x2.snd.fst, Tag.mk (0 : Int) (0 : Int) (ByteArray.mk #[]) [] [], ()))
      else if decide (x2.fst ≥ (48 : Int)) = true then
        some ((x2.fst, decide (x2.fst ≤ (57 : Int)), x2.snd.fst, Tag.mk (0 : Int) (0 : Int) (ByteArray.mk #[]) [] [], ()))
      else some ((x2.fst, false, x2.snd.fst, Tag.mk (0 : Int) (0 : Int) (ByteArray.mk #[]) [] [], ()))) >>= fun x3 =>
    if x3.snd.fst = true then
      m_93s0e1d k (x3.snd.snd.fst, ()) >>= fun x4 =>
      some ((x4.fst, x4.snd.fst, x4.snd.snd.fst, ()))
    else if (x3.fst == (34 : Int)) = true then
      m_94s0e1d k (x3.snd.snd.fst, ()) >>= fun x4 =>
      some ((x4.snd.fst, x4.snd.snd.fst, Tag.mk (4 : Int) (0 : Int) x4.fst [] [], ()))
    else if (x3.fst == (91 : Int)) = true then
      m_95s0e1d k (x3.snd.snd.fst, ()) >>= fun x4 =>
      some ((x4.fst, x4.snd.fst, x4.snd.snd.fst, ()))
    else if (x3.fst == (123 : Int)) = true then
      m_96s0e1d k (x3.snd.snd.fst, ()) >>= fun x4 =>
      some ((x4.fst, x4.snd.fst, x4.snd.snd.fst, ()))
    else some ((false, x3.snd.snd.fst, Tag.mk (0 : Int) (0 : Int) (ByteArray.mk #[]) [] [], ()))
noncomputable def m_96s0e1d : Nat → Reader × Unit → Option (Bool × Reader × Tag × Unit)
  | 0, _ => none
  | k + 1, v =>
    some (v.fst, Tag.mk (0 : Int) (0 : Int) (ByteArray.mk #[]) [] [], (6 : Int), (0 : Int), ByteArray.mk #[], [], [], ()) >>= fun x1 =>
    m_66s0e1d k (Reader.mk x1.fst.s (IntKind.i64.wrap (x1.fst.at0 + (1 : Int))), ()) >>= fun x2 =>
    m_97s5bd0 k (ByteArray.mk #[(125 : UInt8)], x2.fst, ()) >>= fun x3 =>
    if x3.fst = true then
      some ((true, x3.snd.fst, Tag.mk x1.snd.snd.fst x1.snd.snd.snd.fst x1.snd.snd.snd.snd.fst x1.snd.snd.snd.snd.snd.fst x1.snd.snd.snd.snd.snd.snd.fst, ()))
    else m_66s0e1d k (x3.snd.fst, ()) >>= fun x4 =>
    n_91s0e1d (x4.fst, ()) >>= fun x5 =>
    if (x5.fst != (34 : Int)) = true then
      some ((false, x5.snd.fst, Tag.mk (0 : Int) (0 : Int) (ByteArray.mk #[]) [] [], ()))
    else m_94s0e1d k (x5.snd.fst, ()) >>= fun x6 =>
    if (!x6.snd.fst) = true then
      some ((false, x6.snd.snd.fst, Tag.mk (0 : Int) (0 : Int) (ByteArray.mk #[]) [] [], ()))
    else m_66s0e1d k (x6.snd.snd.fst, ()) >>= fun x7 =>
    m_97s5bd0 k (ByteArray.mk #[(58 : UInt8)], x7.fst, ()) >>= fun x8 =>
    if (!x8.fst) = true then
      some ((false, x8.snd.fst, Tag.mk (0 : Int) (0 : Int) (ByteArray.mk #[]) [] [], ()))
    else m_65s0e1d k (x8.snd.fst, ()) >>= fun x9 =>
    if (!x9.fst) = true then
      some ((false, x9.snd.fst, Tag.mk (0 : Int) (0 : Int) (ByteArray.mk #[]) [] [], ()))
    else if x1.snd.snd.snd.snd.snd.fst.length + [x6.fst].length ≤ (4294967296 : Nat) then
      if x1.snd.snd.snd.snd.snd.snd.fst.length + [x9.snd.snd.fst].length ≤ (4294967296 : Nat) then
        m_66s0e1d k (x9.snd.fst, ()) >>= fun x10 =>
        m_97s5bd0 k (ByteArray.mk #[(44 : UInt8)], x10.fst, ()) >>= fun x11 =>
        if x11.fst = true then
          m_96s0e1dg1 k (x11.snd.fst, x1.snd.fst, x1.snd.snd.fst, x1.snd.snd.snd.fst, x1.snd.snd.snd.snd.fst, x1.snd.snd.snd.snd.snd.fst ++ [x6.fst], x1.snd.snd.snd.snd.snd.snd.fst ++ [x9.snd.snd.fst], ()) >>= fun x12 =>
          some x12
        else m_97s5bd0 k (ByteArray.mk #[(125 : UInt8)], x11.snd.fst, ()) >>= fun x12 =>
        some ((x12.fst, x12.snd.fst, Tag.mk x1.snd.snd.fst x1.snd.snd.snd.fst x1.snd.snd.snd.snd.fst (x1.snd.snd.snd.snd.snd.fst ++ [x6.fst]) (x1.snd.snd.snd.snd.snd.snd.fst ++ [x9.snd.snd.fst]), ()))
      else none
    else none
noncomputable def m_96s0e1dg1 : Nat → Reader × Tag × Int × Int × ByteArray × (List ByteArray) × (List Tag) × Unit → Option ((Bool × Reader × Tag × Unit))
  | 0, _ => none
  | k + 1, v =>
    m_66s0e1d k (v.fst, ()) >>= fun x1 =>
    n_91s0e1d (x1.fst, ()) >>= fun x2 =>
    if (x2.fst != (34 : Int)) = true then
      some ((false, x2.snd.fst, Tag.mk (0 : Int) (0 : Int) (ByteArray.mk #[]) [] [], ()))
    else m_94s0e1d k (x2.snd.fst, ()) >>= fun x3 =>
    if (!x3.snd.fst) = true then
      some ((false, x3.snd.snd.fst, Tag.mk (0 : Int) (0 : Int) (ByteArray.mk #[]) [] [], ()))
    else m_66s0e1d k (x3.snd.snd.fst, ()) >>= fun x4 =>
    m_97s5bd0 k (ByteArray.mk #[(58 : UInt8)], x4.fst, ()) >>= fun x5 =>
    if (!x5.fst) = true then
      some ((false, x5.snd.fst, Tag.mk (0 : Int) (0 : Int) (ByteArray.mk #[]) [] [], ()))
    else m_65s0e1d k (x5.snd.fst, ()) >>= fun x6 =>
    if (!x6.fst) = true then
      some ((false, x6.snd.fst, Tag.mk (0 : Int) (0 : Int) (ByteArray.mk #[]) [] [], ()))
    else if v.snd.snd.snd.snd.snd.fst.length + [x3.fst].length ≤ (4294967296 : Nat) then
      if v.snd.snd.snd.snd.snd.snd.fst.length + [x6.snd.snd.fst].length ≤ (4294967296 : Nat) then
        m_66s0e1d k (x6.snd.fst, ()) >>= fun x7 =>
        m_97s5bd0 k (ByteArray.mk #[(44 : UInt8)], x7.fst, ()) >>= fun x8 =>
        if x8.fst = true then
          m_96s0e1dg1 k (x8.snd.fst, v.snd.fst, v.snd.snd.fst, v.snd.snd.snd.fst, v.snd.snd.snd.snd.fst, v.snd.snd.snd.snd.snd.fst ++ [x3.fst], v.snd.snd.snd.snd.snd.snd.fst ++ [x6.snd.snd.fst], ())
        else m_97s5bd0 k (ByteArray.mk #[(125 : UInt8)], x8.snd.fst, ()) >>= fun x9 =>
        some ((x9.fst, x9.snd.fst, Tag.mk v.snd.snd.fst v.snd.snd.snd.fst v.snd.snd.snd.snd.fst (v.snd.snd.snd.snd.snd.fst ++ [x3.fst]) (v.snd.snd.snd.snd.snd.snd.fst ++ [x6.snd.snd.fst]), ()))
      else none
    else none
noncomputable def m_95s0e1d : Nat → Reader × Unit → Option (Bool × Reader × Tag × Unit)
  | 0, _ => none
  | k + 1, v =>
    some (v.fst, Tag.mk (0 : Int) (0 : Int) (ByteArray.mk #[]) [] [], (5 : Int), (0 : Int), ByteArray.mk #[], [], [], ()) >>= fun x1 =>
    m_66s0e1d k (Reader.mk x1.fst.s (IntKind.i64.wrap (x1.fst.at0 + (1 : Int))), ()) >>= fun x2 =>
    m_97s5bd0 k (ByteArray.mk #[(93 : UInt8)], x2.fst, ()) >>= fun x3 =>
    if x3.fst = true then
      some ((true, x3.snd.fst, Tag.mk x1.snd.snd.fst x1.snd.snd.snd.fst x1.snd.snd.snd.snd.fst x1.snd.snd.snd.snd.snd.fst x1.snd.snd.snd.snd.snd.snd.fst, ()))
    else m_65s0e1d k (x3.snd.fst, ()) >>= fun x4 =>
    if (!x4.fst) = true then
      some ((false, x4.snd.fst, Tag.mk (0 : Int) (0 : Int) (ByteArray.mk #[]) [] [], ()))
    else if x1.snd.snd.snd.snd.snd.snd.fst.length + [x4.snd.snd.fst].length ≤ (4294967296 : Nat) then
      m_66s0e1d k (x4.snd.fst, ()) >>= fun x5 =>
      m_97s5bd0 k (ByteArray.mk #[(44 : UInt8)], x5.fst, ()) >>= fun x6 =>
      if x6.fst = true then
        m_95s0e1dg1 k (x6.snd.fst, x1.snd.fst, x1.snd.snd.fst, x1.snd.snd.snd.fst, x1.snd.snd.snd.snd.fst, x1.snd.snd.snd.snd.snd.fst, x1.snd.snd.snd.snd.snd.snd.fst ++ [x4.snd.snd.fst], ()) >>= fun x7 =>
        some x7
      else m_97s5bd0 k (ByteArray.mk #[(93 : UInt8)], x6.snd.fst, ()) >>= fun x7 =>
      some ((x7.fst, x7.snd.fst, Tag.mk x1.snd.snd.fst x1.snd.snd.snd.fst x1.snd.snd.snd.snd.fst x1.snd.snd.snd.snd.snd.fst (x1.snd.snd.snd.snd.snd.snd.fst ++ [x4.snd.snd.fst]), ()))
    else none
noncomputable def m_95s0e1dg1 : Nat → Reader × Tag × Int × Int × ByteArray × (List ByteArray) × (List Tag) × Unit → Option ((Bool × Reader × Tag × Unit))
  | 0, _ => none
  | k + 1, v =>
    m_65s0e1d k (v.fst, ()) >>= fun x1 =>
    if (!x1.fst) = true then
      some ((false, x1.snd.fst, Tag.mk (0 : Int) (0 : Int) (ByteArray.mk #[]) [] [], ()))
    else if v.snd.snd.snd.snd.snd.snd.fst.length + [x1.snd.snd.fst].length ≤ (4294967296 : Nat) then
      m_66s0e1d k (x1.snd.fst, ()) >>= fun x2 =>
      m_97s5bd0 k (ByteArray.mk #[(44 : UInt8)], x2.fst, ()) >>= fun x3 =>
      if x3.fst = true then
        m_95s0e1dg1 k (x3.snd.fst, v.snd.fst, v.snd.snd.fst, v.snd.snd.snd.fst, v.snd.snd.snd.snd.fst, v.snd.snd.snd.snd.snd.fst, v.snd.snd.snd.snd.snd.snd.fst ++ [x1.snd.snd.fst], ())
      else m_97s5bd0 k (ByteArray.mk #[(93 : UInt8)], x3.snd.fst, ()) >>= fun x4 =>
      some ((x4.fst, x4.snd.fst, Tag.mk v.snd.snd.fst v.snd.snd.snd.fst v.snd.snd.snd.snd.fst v.snd.snd.snd.snd.snd.fst (v.snd.snd.snd.snd.snd.snd.fst ++ [x1.snd.snd.fst]), ()))
    else none
end
theorem m_65s0e1d_st (k : Nat) (h_95s0e1d : ∀ v, Le (m_95s0e1d k v) (n_95s0e1d v)) (h_96s0e1d : ∀ v, Le (m_96s0e1d k v) (n_96s0e1d v)) (v : Reader × Unit) : Le (m_65s0e1d (k + 1) v) (n_65s0e1d v) := by
  rw [m_65s0e1d, n_65s0e1d]
  repeat' first | with_reducible exact Le.refl _ | with_reducible exact Le.none _ | with_reducible exact m_66s0e1d_le _ _ | with_reducible exact m_94s0e1d_le _ _ | with_reducible exact m_93s0e1d_le _ _ | with_reducible exact m_92s5bd0_le _ _ | with_reducible exact h_95s0e1d _ | with_reducible exact h_96s0e1d _ | with_reducible apply Le.bind | with_reducible apply Le.ite | with_reducible apply Le.both | intro x

theorem m_96s0e1d_st (k : Nat) (h_65s0e1d : ∀ v, Le (m_65s0e1d k v) (n_65s0e1d v)) (h_96s0e1dg1 : ∀ v, Le (m_96s0e1dg1 k v) (n_96s0e1dg1 v)) (v : Reader × Unit) : Le (m_96s0e1d (k + 1) v) (n_96s0e1d v) := by
  rw [m_96s0e1d, n_96s0e1d]
  repeat' first | with_reducible exact Le.refl _ | with_reducible exact Le.none _ | with_reducible exact m_66s0e1d_le _ _ | with_reducible exact m_97s5bd0_le _ _ | with_reducible exact m_94s0e1d_le _ _ | with_reducible exact h_65s0e1d _ | with_reducible exact h_96s0e1dg1 _ | with_reducible apply Le.bind | with_reducible apply Le.ite | with_reducible apply Le.both | intro x

theorem m_96s0e1dg1_st (k : Nat) (h_65s0e1d : ∀ v, Le (m_65s0e1d k v) (n_65s0e1d v)) (h_96s0e1dg1 : ∀ v, Le (m_96s0e1dg1 k v) (n_96s0e1dg1 v)) (v : Reader × Tag × Int × Int × ByteArray × (List ByteArray) × (List Tag) × Unit) : Le (m_96s0e1dg1 (k + 1) v) (n_96s0e1dg1 v) := by
  rw [m_96s0e1dg1, n_96s0e1dg1]
  repeat' first | with_reducible exact Le.refl _ | with_reducible exact Le.none _ | with_reducible exact m_66s0e1d_le _ _ | with_reducible exact m_97s5bd0_le _ _ | with_reducible exact m_94s0e1d_le _ _ | with_reducible exact h_65s0e1d _ | with_reducible exact h_96s0e1dg1 _ | with_reducible apply Le.bind | with_reducible apply Le.ite | with_reducible apply Le.both | intro x

theorem m_95s0e1d_st (k : Nat) (h_65s0e1d : ∀ v, Le (m_65s0e1d k v) (n_65s0e1d v)) (h_95s0e1dg1 : ∀ v, Le (m_95s0e1dg1 k v) (n_95s0e1dg1 v)) (v : Reader × Unit) : Le (m_95s0e1d (k + 1) v) (n_95s0e1d v) := by
  rw [m_95s0e1d, n_95s0e1d]
  repeat' first | with_reducible exact Le.refl _ | with_reducible exact Le.none _ | with_reducible exact m_97s5bd0_le _ _ | with_reducible exact m_66s0e1d_le _ _ | with_reducible exact h_65s0e1d _ | with_reducible exact h_95s0e1dg1 _ | with_reducible apply Le.bind | with_reducible apply Le.ite | with_reducible apply Le.both | intro x

theorem m_95s0e1dg1_st (k : Nat) (h_65s0e1d : ∀ v, Le (m_65s0e1d k v) (n_65s0e1d v)) (h_95s0e1dg1 : ∀ v, Le (m_95s0e1dg1 k v) (n_95s0e1dg1 v)) (v : Reader × Tag × Int × Int × ByteArray × (List ByteArray) × (List Tag) × Unit) : Le (m_95s0e1dg1 (k + 1) v) (n_95s0e1dg1 v) := by
  rw [m_95s0e1dg1, n_95s0e1dg1]
  repeat' first | with_reducible exact Le.refl _ | with_reducible exact Le.none _ | with_reducible exact m_97s5bd0_le _ _ | with_reducible exact m_66s0e1d_le _ _ | with_reducible exact h_65s0e1d _ | with_reducible exact h_95s0e1dg1 _ | with_reducible apply Le.bind | with_reducible apply Le.ite | with_reducible apply Le.both | intro x

theorem m_65s0e1d_all : ∀ k, (∀ v, Le (m_65s0e1d k v) (n_65s0e1d v)) ∧ (∀ v, Le (m_96s0e1d k v) (n_96s0e1d v)) ∧ (∀ v, Le (m_96s0e1dg1 k v) (n_96s0e1dg1 v)) ∧ (∀ v, Le (m_95s0e1d k v) (n_95s0e1d v)) ∧ (∀ v, Le (m_95s0e1dg1 k v) (n_95s0e1dg1 v))
  | 0 => ⟨fun _ => Le.none _, fun _ => Le.none _, fun _ => Le.none _, fun _ => Le.none _, fun _ => Le.none _⟩
  | k + 1 => by
    have h := m_65s0e1d_all k
    exact ⟨m_65s0e1d_st k (h.2.2.2.1) (h.2.1), m_96s0e1d_st k (h.1) (h.2.2.1), m_96s0e1dg1_st k (h.1) (h.2.2.1), m_95s0e1d_st k (h.1) (h.2.2.2.2), m_95s0e1dg1_st k (h.1) (h.2.2.2.2)⟩
theorem m_65s0e1d_le (k : Nat) (v : Reader × Unit) : Le (m_65s0e1d k v) (n_65s0e1d v) := have h := m_65s0e1d_all k; h.1 v
theorem m_96s0e1d_le (k : Nat) (v : Reader × Unit) : Le (m_96s0e1d k v) (n_96s0e1d v) := have h := m_65s0e1d_all k; h.2.1 v
theorem m_96s0e1dg1_le (k : Nat) (v : Reader × Tag × Int × Int × ByteArray × (List ByteArray) × (List Tag) × Unit) : Le (m_96s0e1dg1 k v) (n_96s0e1dg1 v) := have h := m_65s0e1d_all k; h.2.2.1 v
theorem m_95s0e1d_le (k : Nat) (v : Reader × Unit) : Le (m_95s0e1d k v) (n_95s0e1d v) := have h := m_65s0e1d_all k; h.2.2.2.1 v
theorem m_95s0e1dg1_le (k : Nat) (v : Reader × Tag × Int × Int × ByteArray × (List ByteArray) × (List Tag) × Unit) : Le (m_95s0e1dg1 k v) (n_95s0e1dg1 v) := have h := m_65s0e1d_all k; h.2.2.2.2 v
noncomputable def m_31 (k : Nat) (v : ByteArray × Unit) : Option (Int × Int × Tag × Unit) :=
  if decide ((↑v.fst.size : Int) > (65536 : Int)) = true then
    some (((0 : Int), (3 : Int), Tag.mk (0 : Int) (0 : Int) (ByteArray.mk #[]) [] [], ()))
  else m_65s0e1d k (Reader.mk v.fst (0 : Int), ()) >>= fun x1 =>
  (if x1.fst = true then
      m_66s0e1d k (x1.snd.fst, ()) >>= fun x2 =>
      some ((v.fst, x1.fst, Tag.mk (0 : Int) (0 : Int) (ByteArray.mk #[]) [] [], x2.fst, x1.snd.snd.fst, ()))
    else some ((v.fst, x1.fst, Tag.mk (0 : Int) (0 : Int) (ByteArray.mk #[]) [] [], x1.snd.fst, x1.snd.snd.fst, ()))) >>= fun x2 =>
  (if (!x2.snd.fst) = true then
      some ((x2.fst, true, x2.snd.snd.fst, x2.snd.snd.snd.fst, x2.snd.snd.snd.snd.fst, ()))
    else some ((x2.fst, decide (x2.snd.snd.snd.fst.at0 < (↑x2.fst.size : Int)), x2.snd.snd.fst, x2.snd.snd.snd.fst, x2.snd.snd.snd.snd.fst, ()))) >>= fun x3 =>
  if x3.snd.fst = true then
    some ((x3.snd.snd.snd.fst.at0, (2 : Int), Tag.mk (0 : Int) (0 : Int) (ByteArray.mk #[]) [] [], ()))
  else m_29 k (x3.snd.snd.snd.snd.fst, ()) >>= fun x4 =>
  if (x4.fst != (0 : Int)) = true then
    some (((0 : Int), x4.fst, Tag.mk (0 : Int) (0 : Int) (ByteArray.mk #[]) [] [], ()))
  else some (((↑x3.fst.size : Int), (0 : Int), x3.snd.snd.snd.snd.fst, ()))
theorem m_31_le (k : Nat) (v : ByteArray × Unit) : Le (m_31 k v) (n_31 v) := by
  unfold m_31 n_31
  repeat' first | with_reducible exact Le.refl _ | with_reducible exact Le.none _ | with_reducible exact m_65s0e1d_le _ _ | with_reducible exact m_29_le _ _ | with_reducible exact m_66s0e1d_le _ _ | with_reducible apply Le.bind | with_reducible apply Le.ite | with_reducible apply Le.both | intro x

noncomputable def m_15 (k : Nat) (v : Unit) : Option (Bool × Unit) :=
  m_31 k (ByteArray.mk #[(123 : UInt8), (34 : UInt8), (97 : UInt8), (34 : UInt8), (58 : UInt8), (91 : UInt8), (49 : UInt8), (44 : UInt8), (50 : UInt8), (93 : UInt8), (125 : UInt8)], ()) >>= fun x1 =>
  m_16 k (x1.snd.snd.fst, [ByteArray.mk #[(97 : UInt8)], ByteArray.mk #[(49 : UInt8)]], ()) >>= fun x2 =>
  m_31 k (ByteArray.mk #[(91 : UInt8), (49 : UInt8), (44 : UInt8), (93 : UInt8)], ()) >>= fun x3 =>
  (if (x1.snd.fst == (0 : Int)) = true then
      if (x1.fst == (11 : Int)) = true then
        if (x2.snd.fst == (0 : Int)) = true then
          if x2.fst = true then
            if (x2.snd.snd.fst.kind == (3 : Int)) = true then
              if (x2.snd.snd.fst.n == (2 : Int)) = true then
                if (x3.snd.fst == (2 : Int)) = true then
                  some ((x3.fst == (3 : Int), ()))
                else some ((false, ()))
              else some ((false, ()))
            else some ((false, ()))
          else some ((false, ()))
        else some ((false, ()))
      else some ((false, ()))
    else some ((false, ()))) >>= fun x4 =>
  some ((x4.fst, ()))
theorem m_15_le (k : Nat) (v : Unit) : Le (m_15 k v) (n_15 v) := by
  unfold m_15 n_15
  repeat' first | with_reducible exact Le.refl _ | with_reducible exact Le.none _ | with_reducible exact m_16_le _ _ | with_reducible exact m_31_le _ _ | with_reducible apply Le.bind | with_reducible apply Le.ite | with_reducible apply Le.both | intro x

end Go.Proofs.YtdmggfegkaiaiaaGreatDoor
