/-
  Texts of this claim, joined by a program of mine: what the theorem uses.
-/
import Derived.Test.YtpndmanbfleadaaGreatDoorPkF
import Derived.Test.YtpndmanbfleadaaGreatDoorCards
import Derived.Test.YtpndmanbfleadaaGreatDoorTie
import Derived.Test.YtpndmanbfleadaaGreatDoorPkE
import Derived.WalkKit
import Derived.ProofKit
import Derived.OpenShut
import Derived.LaidMore
import Derived.Lay
import Derived.SevenTiedAt
import Derived.Stop.Joined
import Derived.Deep.DeepHandedRow
set_option linter.unusedSimpArgs false
set_option linter.unusedVariables false
section
namespace Go.Proofs.YtpndmanbfleadaaGreatDoor
open Go.Awp Go.Tx
set_option maxRecDepth 20000
theorem sW : (∀ {α β : Type} (x : Option α) (f : α → Option β), (x >>= f) = x.bind f) ∧ (∀ {α β : Type} (a : α) (f : α → Option β), (some a).bind f = f a) ∧ (∀ {α β : Type} (f : α → Option β), (none : Option α).bind f = none) ∧
 (∀ {α : Type} {h : Decidable True} (a b : α), @ite α True h a b = a) ∧ (∀ {α : Type} {h : Decidable False} (a b : α), @ite α False h a b = b) ∧ ((false = true) = False) ∧ ((true = false) = False) ∧ (∀ n : Nat, (n : Int).toNat = n) ∧ (∀ n : Nat, 0 ≤ (n : Int)) ∧
 (∀ {α : Type} [BEq α] [LawfulBEq α] {a b : α}, (a == b) = true ↔ a = b) ∧ (∀ {p : Prop} [Decidable p], decide p = true ↔ p) ∧ (∀ {n m : Nat}, (n : Int) < m ↔ n < m) :=
 ⟨fun _ _ => rfl, fun _ _ => rfl, fun _ => rfl, fun {α h} a b => @if_true α h a b, fun {α h} a b => @if_false α h a b, by simp, by simp, fun _ => rfl, Int.natCast_nonneg, beq_iff_eq, fun {p} _ => Iff.of_eq (decide_eq_true_eq (p := p)), Int.ofNat_lt⟩
theorem Tag.ind {P : Tag → Prop} (h : ∀ t : Tag, (∀ p ∈ t.parts, P p) → P t) (t : Tag) : P t := h t fun p hp => Tag.ind h p
termination_by SizeOf.sizeOf t
decreasing_by
 have := List.sizeOf_lt_of_mem hp
 cases t
 simp at *
 omega
theorem wrap64 {x : Int} (h1 : -9223372036854775808 ≤ x) (h2 : x ≤ 9223372036854775807) : IntKind.i64.wrap x = x := by
 unfold IntKind.wrap
 simp only [IntKind.bits, IntKind.signed, Bool.true_and]
 split <;> rename_i h <;> simp at h <;> omega
theorem wrap_succ {k n : Nat} (h : k < n) (hn : n ≤ 9223372036854775807) : IntKind.i64.wrap ((k : Int) + 1) = ((k + 1 : Nat) : Int) := by rw [wrap64 (by omega) (by omega)]; omega
theorem at_lt {α : Type} {xs : List α} {k : Nat} (h : k < xs.length) : ∃ p, xs[k]? = some p ∧ p ∈ xs ∧ xs.drop k = p :: xs.drop (k + 1) ∧ ((k : Int) < (xs.length : Int)) ∧ (0 : Int) ≤ (k : Int) :=
 ⟨xs[k], List.getElem?_eq_getElem h, List.getElem_mem h, List.drop_eq_getElem_cons h, by omega, by omega⟩
theorem at_end {α : Type} {xs : List α} {k : Nat} (h : ¬ k < xs.length) : xs.drop k = [] ∧ ¬ ((k : Int) < (xs.length : Int)) := ⟨List.drop_eq_nil_of_le (by omega), by omega⟩
inductive Tag.Wf : Tag → Prop
 | mk {t : Tag} : t.names.length ≤ 9223372036854775807 → t.parts.length ≤ 9223372036854775807 → (∀ p ∈ t.parts, Tag.Wf p) → Tag.Wf t
theorem Tag.Wf.names {t : Tag} (h : t.Wf) : t.names.length ≤ 9223372036854775807 := by cases h; assumption
theorem Tag.Wf.parts {t : Tag} (h : t.Wf) : t.parts.length ≤ 9223372036854775807 := by cases h; assumption
theorem Tag.Wf.part {t p : Tag} (h : t.Wf) (hp : p ∈ t.parts) : p.Wf := by cases h with | mk _ _ h => exact h p hp
theorem f43a (t : Tag) (ht : t.Wf) (a b : Int) : ∀ (m k : Nat) (c : Int), t.names.length - k = m → ∃ c', n_27l3 (a, b, c, (k : Int), t, ()) = some (a, b, c', t, ()) := by
 intro m
 induction m with
 | zero =>
  intro k c hk
  have hlt : ¬ k < t.names.length := by omega
  obtain ⟨hd, g1⟩ := at_end hlt
  rw [n_27l3]
  simp only [sW, hlt]
  exact ⟨_, rfl⟩
 | succ m ih =>
  intro k c hk
  have hlt : k < t.names.length := by omega
  obtain ⟨p, hp1, hm, hd, g1, g2⟩ := at_lt hlt
  rw [n_27l3]
  simp only [sW, g1, g2, hlt, hp1, wrap_succ hlt ht.names]
  exact ih (k + 1) _ (by omega)
theorem f43b (t : Tag) (ht : t.Wf) (hp : ∀ p ∈ t.parts, ∃ x, n_27 (p, ()) = some x) : ∀ (m k : Nat) (a b c : Int), t.parts.length - k = m → ∃ x, n_27l7 (a, b, c, (k : Int), t, ()) = some x := by
 intro m
 induction m with
 | zero =>
  intro k a b c hk
  have hlt : ¬ k < t.parts.length := by omega
  obtain ⟨hd, g1⟩ := at_end hlt
  rw [n_27l7]
  simp only [sW, hlt]
  exact ⟨_, rfl⟩
 | succ m ih =>
  intro k a b c hk
  have hlt : k < t.parts.length := by omega
  obtain ⟨p, hp1, hm, hd, g1, g2⟩ := at_lt hlt
  obtain ⟨x, hx⟩ := hp p hm
  rw [n_27l7]
  simp only [sW, g1, g2, hlt, hp1, hx, wrap_succ hlt ht.parts]
  exact ih (k + 1) _ _ _ (by omega)
theorem f43 : ∀ t : Tag, t.Wf → ∃ x, n_27 (t, ()) = some x := by
 refine Tag.ind fun t ih ht => ?_
 obtain ⟨c, hc⟩ := f43a t ht 1 0 _ 0 (t.text.size : Int) rfl
 obtain ⟨x, hx⟩ := f43b t ht (fun p hp => ih p hp (ht.part hp)) _ 0 1 0 c rfl
 simp only [Int.natCast_zero, Int.ofNat_eq_natCast, List.drop_zero] at hc hx
 rw [n_27]
 simp only [sW, hc, hx]
 exact ⟨_, rfl⟩
theorem f13 (t : Tag) (ht : t.Wf) : ∃ b, n_7 (t, ()) = some (b, ()) := by
 obtain ⟨x, hx⟩ := f43 t ht
 unfold n_7
 simp only [hx, sW]
 split
 ·exact ⟨_, rfl⟩
 ·split
  ·exact ⟨_, rfl⟩
  ·exact ⟨_, rfl⟩
end Go.Proofs.YtpndmanbfleadaaGreatDoor
end
section
namespace Go.Proofs.YtpndmanbfleadaaGreatDoor
open Go.Awp Go.Tx
set_option maxRecDepth 20000
abbrev big : Nat := 9223372036854775807
inductive Tag.Fit (B : Nat) : Tag → Prop
 | mk {t : Tag} : t.text.size ≤ B → t.names.length ≤ B → (∀ s ∈ t.names, s.size ≤ B) → t.parts.length ≤ B → (∀ p ∈ t.parts, Tag.Fit B p) → Tag.Fit B t
section
variable {B : Nat} {t : Tag} (h : t.Fit B)
include h
theorem Tag.Fit.text : t.text.size ≤ B := by cases h; assumption
theorem Tag.Fit.names : t.names.length ≤ B := by cases h; assumption
theorem Tag.Fit.name {s : ByteArray} (hs : s ∈ t.names) : s.size ≤ B := by cases h with | mk _ _ h _ _ => exact h s hs
theorem Tag.Fit.parts : t.parts.length ≤ B := by cases h; assumption
theorem Tag.Fit.part {p : Tag} (hp : p ∈ t.parts) : p.Fit B := by cases h with | mk _ _ _ _ h => exact h p hp
end
theorem Tag.Fit.mono {B B' : Nat} (hB : B ≤ B') : ∀ t : Tag, t.Fit B → t.Fit B' :=
 Tag.ind fun t ih h => .mk (Nat.le_trans h.text hB) (Nat.le_trans h.names hB) (fun s hs => Nat.le_trans (h.name hs) hB) (Nat.le_trans h.parts hB) fun p hp => ih p hp (h.part hp)
theorem Tag.Fit.wf : ∀ t : Tag, t.Fit big → t.Wf := Tag.ind fun t ih h => .mk h.names h.parts fun p hp => ih p hp (h.part hp)
theorem sum_ge {ns : List Nat} : ∀ {i n : Nat}, ns[i]? = some n → n ≤ ns.sum := by
 induction ns with
 | nil => intro i n h; simp at h
 | cons a r ih =>
  intro i n h
  cases i with
  | zero => simp at h; subst h; simp
  | succ i => have := ih (i := i) (by simpa using h); simp; omega
theorem sum_len {ns : List Nat} (h : ∀ n ∈ ns, 1 ≤ n) : ns.length ≤ ns.sum := by
 induction ns with
 | nil => simp
 | cons a r ih =>
  have h1 := h a List.mem_cons_self
  have h2 := ih fun n hn => h n (List.mem_cons_of_mem _ hn)
  simp; omega
theorem bk_pos {e : Ty vw.ι} {x : den vw.N e} {m : Nat} (h : Bk vw e x m) : 1 ≤ m := by
 cases h <;> omega
theorem bk_str {s : ByteArray} {m : Nat} (h : Bk vw .str s m) : s.size + 1 ≤ m := by
 cases h; assumption
theorem bk_sl {e : Ty SN} {xs : List (den NN e)} {m : Nat} (h : Bk vw (.sl e) xs m) : xs.length + 1 ≤ m ∧ ∀ x ∈ xs, ∃ n, n + 1 ≤ m ∧ Bk vw e x n := by
 cases h with
 | sl ns h1 h2 h3 =>
  have h1 : ns.length = xs.length := h1
  have hp : ∀ n ∈ ns, 1 ≤ n := fun n hn => by
   obtain ⟨i, hi⟩ := List.getElem?_of_mem hn
   obtain ⟨x, hx⟩ : ∃ x, xs[i]? = some x := ⟨_, List.getElem?_eq_getElem (by have := (List.getElem?_eq_some_iff.1 hi).1; omega)⟩
   exact bk_pos (h2 i x n hx hi)
  have := sum_len hp
  refine ⟨by omega, fun x hx => ?_⟩
  obtain ⟨i, hi⟩ := List.getElem?_of_mem hx
  obtain ⟨n, hn⟩ : ∃ n, ns[i]? = some n := ⟨_, List.getElem?_eq_getElem (by have := (List.getElem?_eq_some_iff.1 hi).1; omega)⟩
  exact ⟨n, by have := sum_ge hn; omega, h2 i x n hi hn⟩
theorem bk_st {i : SN} {x : NN i} {m : Nat} (h : Bk vw (.st i) x m) : ∀ l ∈ cellsN i x, ∃ n, n + 1 ≤ m ∧ Bk vw l.t l.x n := by
 cases h with
 | st ns h1 h2 h3 =>
  intro l hl
  obtain ⟨j, hj⟩ := List.getElem?_of_mem hl
  have h1 : ns.length = (cellsN i x).length := h1
  obtain ⟨n, hn⟩ : ∃ n, ns[j]? = some n := ⟨_, List.getElem?_eq_getElem (by have := (List.getElem?_eq_some_iff.1 hj).1; omega)⟩
  exact ⟨n, by have := sum_ge hn; omega, h2 j l n hj hn⟩
theorem fit_of_bk {B : Nat} : ∀ (t : Tag) (m : Nat), m ≤ B → Bk vw (.st .tagT) t m → t.Fit B := by
 refine Tag.ind fun t ih m hm h => ?_
 have hc := bk_st h
 obtain ⟨n1, l1, h1⟩ := hc ⟨.str, t.text⟩ (by simp [cellsN])
 obtain ⟨n2, l2, h2⟩ := hc ⟨.sl .str, t.names⟩ (by simp [cellsN])
 obtain ⟨n3, l3, h3⟩ := hc ⟨.sl (.st .tagT), t.parts⟩ (by simp [cellsN])
 have a1 : t.text.size + 1 ≤ n1 := bk_str h1
 obtain ⟨a2, b2⟩ := bk_sl (e := .str) (xs := t.names) h2
 obtain ⟨a3, b3⟩ := bk_sl (e := .st .tagT) (xs := t.parts) h3
 refine .mk (by omega) (by omega) (fun s hs => ?_) (by omega) fun p hp => ?_
 ·obtain ⟨n, l, h⟩ := b2 s hs
  have := bk_str h
  omega
 ·obtain ⟨n, l, h⟩ := b3 p hp
  exact ih p hp n (by omega) h
theorem f58a (t : Tag) (ht : t.Fit big) (y : Size) (a b : Int) : ∀ (m k : Nat) (c : Int), t.names.length - k = m →
  ∃ c', n_27l3 (1, 0, c, (k : Int), t, ()) = some (1, 0, c', t, ()) ∧ n_42l3 (t.names, (t.names.length : Int), (k : Int), t, y, ⟨a, b, c⟩, ()) = some (t, y, ⟨a, b, c'⟩, ()) := by
 intro m
 induction m with
 | zero =>
  intro k c hk
  have hlt : ¬ k < t.names.length := by omega
  rw [n_27l3, n_42l3]
  simp only [sW, hlt]
  exact ⟨_, rfl, rfl⟩
 | succ m ih =>
  intro k c hk
  have hlt : k < t.names.length := by omega
  obtain ⟨p, hp1, hm, hd, g1, g2⟩ := at_lt hlt
  rw [n_27l3, n_42l3]
  simp only [sW, g1, g2, hlt, hp1, wrap_succ hlt ht.names]
  exact ih (k + 1) _ (by omega)
theorem f58b (t : Tag) (ht : t.Fit big) (y : Size) (hp : ∀ p ∈ t.parts, ∃ a d s, n_27 (p, ()) = some (a, d, s, ()) ∧ n_42 (p, ()) = some (⟨d, a, s⟩, ())) : ∀ (m k : Nat) (a b c : Int), t.parts.length - k = m →
  ∃ a' b' c', n_27l7 (a, b, c, (k : Int), t, ()) = some (a', b', c', ()) ∧ n_42l8 (t.parts, (t.parts.length : Int), (k : Int), y, ⟨b, a, c⟩, ()) = some (y, ⟨b', a', c'⟩, ()) := by
 intro m
 induction m with
 | zero =>
  intro k a b c hk
  have hlt : ¬ k < t.parts.length := by omega
  rw [n_27l7, n_42l8]
  simp only [sW, hlt]
  exact ⟨_, _, _, rfl, rfl⟩
 | succ m ih =>
  intro k a b c hk
  have hlt : k < t.parts.length := by omega
  obtain ⟨p, hp1, hm, hd, g1, g2⟩ := at_lt hlt
  obtain ⟨a1, d1, s1, e1, e2⟩ := hp p hm
  rw [n_27l7, n_42l8]
  simp only [sW, g1, g2, hlt, hp1, e1, e2, wrap_succ hlt ht.parts]
  exact ih (k + 1) _ _ _ (by omega)
theorem f58 : ∀ t : Tag, t.Fit big → ∃ a d s, n_27 (t, ()) = some (a, d, s, ()) ∧ n_42 (t, ()) = some (⟨d, a, s⟩, ()) := by
 refine Tag.ind fun t ih ht => ?_
 obtain ⟨c, h1, h2⟩ := f58a t ht ⟨0, 0, 0⟩ 0 1 _ 0 (t.text.size : Int) rfl
 obtain ⟨a', b', c', h3, h4⟩ := f58b t ht ⟨0, 0, 0⟩ (fun p hp => ih p hp (ht.part hp)) _ 0 1 0 c rfl
 simp only [Int.natCast_zero, Int.ofNat_eq_natCast, List.drop_zero] at h1 h2 h3 h4
 rw [n_27, n_42]
 simp only [sW, h1, h2, h3, h4]
 exact ⟨_, _, _, rfl, rfl⟩
theorem f87 {s : ByteArray} (h : s.size ≤ big) : n_76 (s, ()) = some (Lib.validD s.data.toList, ()) := by
 unfold n_76
 rw [if_pos h]
theorem f86 {s : ByteArray} (h : s.size ≤ big) : n_75 (s, ()) = some (!Lib.validD s.data.toList, ()) := by
 unfold n_75
 simp only [f87 h, sW]
theorem f88l (t : Tag) (ht : t.Fit big) : ∀ (m k : Nat), t.names.length - k = m → ∃ o : Option Nat,
  n_103c75l2 (t.names, (t.names.length : Int), (k : Int), ()) = some (match o with | some i => .inl ((i : Int), ()) | none => .inr ()) ∧ n_54l6 ((k : Int), t, ()) = some (match o with | some _ => .inl (false, ()) | none => .inr (t, ())) := by
 intro m
 induction m with
 | zero =>
  intro k hk
  have hlt : ¬ k < t.names.length := by omega
  rw [n_103c75l2, n_54l6]
  simp only [sW, hlt]
  exact ⟨none, rfl, rfl⟩
 | succ m ih =>
  intro k hk
  have hlt : k < t.names.length := by omega
  obtain ⟨p, hp1, hm, hd, g1, g2⟩ := at_lt hlt
  rw [n_103c75l2, n_54l6]
  simp only [sW, g1, g2, hlt, hp1, f86 (ht.name hm), f87 (ht.name hm), wrap_succ hlt ht.names]
  cases Lib.validD p.data.toList with
  | true => simp only [Bool.not_true, sW]; exact ih (k + 1) (by omega)
  | false => simp only [Bool.not_false, sW]; exact ⟨some k, rfl, rfl⟩
theorem f88 (t : Tag) (ht : t.Fit big) : ∃ b, n_77c75 (t.names, ()) = some (b, ()) ∧ n_54l6 (0, t, ()) = some (if b = true then .inl (false, ()) else .inr (t, ())) := by
 obtain ⟨o, h1, h2⟩ := f88l t ht _ 0 rfl
 simp only [Int.natCast_zero, Int.ofNat_eq_natCast, List.drop_zero] at h1 h2
 unfold n_77c75 n_103c75
 cases o with
 | none => simp only [h1, h2, sW]; exact ⟨_, rfl, rfl⟩
 | some i => simp only [h1, h2, sW]; exact ⟨_, rfl, by simp⟩
inductive Tag.Right : Tag → Prop
 | mk {t : Tag} : (t.kind ≠ 6 → t.names = []) → (t.kind = 6 → t.names.length = t.parts.length) → (∀ p ∈ t.parts, Tag.Right p) → Tag.Right t
theorem Tag.Right.none {t : Tag} (h : t.Right) (hk : t.kind ≠ 6) : t.names = [] := by cases h with | mk h _ _ => exact h hk
theorem Tag.Right.len {t : Tag} (h : t.Right) (hk : t.kind = 6) : t.names.length = t.parts.length := by cases h with | mk _ h _ => exact h hk
theorem Tag.Right.part {t p : Tag} (h : t.Right) (hp : p ∈ t.parts) : p.Right := by cases h with | mk _ _ h => exact h p hp
theorem f61l (t : Tag) (ht : t.Fit big) (hp : ∀ p ∈ t.parts, ∃ b, n_51 (p, ()) = some (b, ()) ∧ n_54 (p, ()) = some (b, ()) ∧ (b = true → p.Right)) : ∀ (m k : Nat), t.parts.length - k = m → ∃ o : Option Nat,
  n_104c79l2 (t.parts, (t.parts.length : Int), (k : Int), ()) = some (match o with | some i => .inl ((i : Int), ()) | none => .inr ()) ∧ n_54l11 ((k : Int), t, ()) = some (match o with | some _ => .inl (false, ()) | none => .inr ()) ∧ (o = none → ∀ p ∈ t.parts.drop k, p.Right) := by
 intro m
 induction m with
 | zero =>
  intro k hk
  have hlt : ¬ k < t.parts.length := by omega
  rw [n_104c79l2, n_54l11]
  simp only [sW, hlt]
  refine ⟨.none, rfl, rfl, fun _ p hp => ?_⟩
  rw [(at_end hlt).1] at hp; cases hp
 | succ m ih =>
  intro k hk
  have hlt : k < t.parts.length := by omega
  obtain ⟨p, hp1, hm, hd, g1, g2⟩ := at_lt hlt
  obtain ⟨b, e1, e2, e3⟩ := hp p hm
  have e4 : n_79 (p, ()) = some (!b, ()) := by
   rw [n_79]
   simp only [e1, sW]
  rw [n_104c79l2, n_54l11]
  simp only [sW, g1, g2, hlt, hp1, e2, e4, wrap_succ hlt ht.parts]
  cases b with
  | true =>
   simp only [Bool.not_true, sW]
   obtain ⟨o, o1, o2, o3⟩ := ih (k + 1) (by omega)
   refine ⟨o, o1, o2, fun ho q hq => ?_⟩
   rw [hd] at hq
   rcases List.mem_cons.1 hq with rfl | hq
   ·exact e3 rfl
   ·exact o3 ho q hq
  | false => simp only [Bool.not_false, sW]; exact ⟨some k, rfl, rfl, fun h => by cases h⟩
theorem f61p (t : Tag) (ht : t.Fit big) (hp : ∀ p ∈ t.parts, ∃ b, n_51 (p, ()) = some (b, ()) ∧ n_54 (p, ()) = some (b, ()) ∧ (b = true → p.Right)) :
  ∃ b, n_78c79 (t.parts, ()) = some (b, ()) ∧ n_54l11 (0, t, ()) = some (if b = true then .inl (false, ()) else .inr ()) ∧ (b = false → ∀ p ∈ t.parts, p.Right) := by
 obtain ⟨o, h1, h2, h3⟩ := f61l t ht hp _ 0 rfl
 simp only [Int.natCast_zero, Int.ofNat_eq_natCast, List.drop_zero] at h1 h2 h3
 rw [n_78c79, n_104c79]
 cases o with
 | none => simp only [h1, h2, sW]; exact ⟨_, rfl, rfl, fun _ => h3 rfl⟩
 | some i => simp only [h1, h2, sW]; exact ⟨_, rfl, by simp, fun h => by simp at h⟩
end Go.Proofs.YtpndmanbfleadaaGreatDoor
end
section
namespace Go.Proofs.YtpndmanbfleadaaGreatDoor
open Go.Awp Go.Tx
set_option maxRecDepth 20000
theorem f61 : ∀ t : Tag, t.Fit big → ∃ b, n_51 (t, ()) = some (b, ()) ∧ n_54 (t, ()) = some (b, ()) ∧ (b = true → t.Right) := by
 refine Tag.ind fun t ih ht => ?_
 have e86 := f86 ht.text
 have e87 := f87 ht.text
 obtain ⟨bn, n1, n2⟩ := f88 t ht
 obtain ⟨bp, p1, p2, p3⟩ := f61p t ht fun p hp => ih p hp (ht.part hp)
 generalize Lib.validD t.text.data.toList = v at e86 e87
 rw [n_51, n_54]
 have bad : ∀ {x y : Option (Bool × Unit)}, x = some (false, ()) → y = some (false, ()) → ∃ b, x = some (b, ()) ∧ y = some (b, ()) ∧ (b = true → t.Right) := fun h1 h2 => ⟨false, h1, h2, fun h => by cases h⟩
 have good : ∀ {x y : Option (Bool × Unit)}, x = some (v && !bn && !bp, ()) → y = some (v && !bn && !bp, ()) → (t.kind ≠ 6 → t.names = []) → (t.kind = 6 → t.names.length = t.parts.length) → ∃ b, x = some (b, ()) ∧ y = some (b, ()) ∧ (b = true → t.Right) := fun h1 h2 h3 h4 =>
  ⟨_, h1, h2, fun h => .mk h3 h4 (p3 (by
   cases bp with
   | true => simp at h
   | false => rfl))⟩
 by_cases a1 : t.kind < 0
 ·exact bad (by simp [a1]) (by simp [a1])
 by_cases a2 : t.kind > 6
 ·exact bad (by simp [a1, a2]) (by simp [a1, a2])
 have hk : t.kind = 0 ∨ t.kind = 1 ∨ t.kind = 2 ∨ t.kind = 3 ∨ t.kind = 4 ∨ t.kind = 5 ∨ t.kind = 6 := by omega
 generalize (ByteArray.mk #[]).toList = X
 rcases hk with k | k | k | k | k | k | k
 ·by_cases c1 : t.n = 0
  case neg => exact bad (by simp [List.length_pos_iff, k, c1]) (by simp [List.length_pos_iff, k, c1])
  by_cases c2 : t.text.toList = X
  case neg => exact bad (by simp [List.length_pos_iff, k, c1, c2]) (by simp [List.length_pos_iff, k, c1, c2])
  by_cases c4 : t.parts = []
  case neg => exact bad (by simp [List.length_pos_iff, k, c1, c2, c4]) (by simp [List.length_pos_iff, k, c1, c2, c4])
  by_cases c3 : t.names = []
  case neg => exact bad (by simp [List.length_pos_iff, k, c1, c2, c4, c3]) (by simp [List.length_pos_iff, k, c1, c2, c4, c3])
  rw [c3] at n1
  rw [c4] at p1
  exact good (by cases v <;> cases bn <;> cases bp <;> simp [List.length_pos_iff, k, c1, c2, c4, c3, e86, e87, n1, n2, p1, p2]) (by cases v <;> cases bn <;> cases bp <;> simp [List.length_pos_iff, k, c1, c2, c4, c3, e86, e87, n1, n2, p1, p2]) (fun _ => c3) (fun h => by omega)
 ·by_cases c1 : t.n = 0
  case neg => exact bad (by simp [List.length_pos_iff, k, c1]) (by simp [List.length_pos_iff, k, c1])
  by_cases c2 : t.text.toList = X
  case neg => exact bad (by simp [List.length_pos_iff, k, c1, c2]) (by simp [List.length_pos_iff, k, c1, c2])
  by_cases c4 : t.parts = []
  case neg => exact bad (by simp [List.length_pos_iff, k, c1, c2, c4]) (by simp [List.length_pos_iff, k, c1, c2, c4])
  by_cases c3 : t.names = []
  case neg => exact bad (by simp [List.length_pos_iff, k, c1, c2, c4, c3]) (by simp [List.length_pos_iff, k, c1, c2, c4, c3])
  rw [c3] at n1
  rw [c4] at p1
  exact good (by cases v <;> cases bn <;> cases bp <;> simp [List.length_pos_iff, k, c1, c2, c4, c3, e86, e87, n1, n2, p1, p2]) (by cases v <;> cases bn <;> cases bp <;> simp [List.length_pos_iff, k, c1, c2, c4, c3, e86, e87, n1, n2, p1, p2]) (fun _ => c3) (fun h => by omega)
 ·by_cases c1 : t.n = 0
  case neg => exact bad (by simp [List.length_pos_iff, k, c1]) (by simp [List.length_pos_iff, k, c1])
  by_cases c2 : t.text.toList = X
  case neg => exact bad (by simp [List.length_pos_iff, k, c1, c2]) (by simp [List.length_pos_iff, k, c1, c2])
  by_cases c4 : t.parts = []
  case neg => exact bad (by simp [List.length_pos_iff, k, c1, c2, c4]) (by simp [List.length_pos_iff, k, c1, c2, c4])
  by_cases c3 : t.names = []
  case neg => exact bad (by simp [List.length_pos_iff, k, c1, c2, c4, c3]) (by simp [List.length_pos_iff, k, c1, c2, c4, c3])
  rw [c3] at n1
  rw [c4] at p1
  exact good (by cases v <;> cases bn <;> cases bp <;> simp [List.length_pos_iff, k, c1, c2, c4, c3, e86, e87, n1, n2, p1, p2]) (by cases v <;> cases bn <;> cases bp <;> simp [List.length_pos_iff, k, c1, c2, c4, c3, e86, e87, n1, n2, p1, p2]) (fun _ => c3) (fun h => by omega)
 ·by_cases c2 : t.text.toList = X
  case neg => exact bad (by simp [List.length_pos_iff, k, c2]) (by simp [List.length_pos_iff, k, c2])
  by_cases c4 : t.parts = []
  case neg => exact bad (by simp [List.length_pos_iff, k, c2, c4]) (by simp [List.length_pos_iff, k, c2, c4])
  by_cases c5 : t.n < -9007199254740992
  ·by_cases c3 : t.names = []
   ·exact bad (by simp [List.length_pos_iff, k, c2, c4, c5, c3]) (by simp [List.length_pos_iff, k, c2, c4, c5, c3])
   ·exact bad (by simp [List.length_pos_iff, k, c2, c4, c5, c3]) (by simp [List.length_pos_iff, k, c2, c4, c5, c3])
  by_cases c6 : t.n > 9007199254740992
  ·by_cases c3 : t.names = []
   ·exact bad (by simp [List.length_pos_iff, k, c2, c4, c5, c6, c3]) (by simp [List.length_pos_iff, k, c2, c4, c5, c6, c3])
   ·exact bad (by simp [List.length_pos_iff, k, c2, c4, c5, c6, c3]) (by simp [List.length_pos_iff, k, c2, c4, c5, c6, c3])
  by_cases c3 : t.names = []
  case neg => exact bad (by simp [List.length_pos_iff, k, c2, c4, c5, c6, c3]) (by simp [List.length_pos_iff, k, c2, c4, c5, c6, c3])
  rw [c3] at n1
  rw [c4] at p1
  exact good (by cases v <;> cases bn <;> cases bp <;> simp [List.length_pos_iff, k, c2, c4, c5, c6, c3, e86, e87, n1, n2, p1, p2]) (by cases v <;> cases bn <;> cases bp <;> simp [List.length_pos_iff, k, c2, c4, c5, c6, c3, e86, e87, n1, n2, p1, p2]) (fun _ => c3) (fun h => by omega)
 ·by_cases c1 : t.n = 0
  case neg => exact bad (by simp [List.length_pos_iff, k, c1]) (by simp [List.length_pos_iff, k, c1])
  by_cases c4 : t.parts = []
  case neg => exact bad (by simp [List.length_pos_iff, k, c1, c4]) (by simp [List.length_pos_iff, k, c1, c4])
  by_cases c3 : t.names = []
  case neg => exact bad (by simp [List.length_pos_iff, k, c1, c4, c3]) (by simp [List.length_pos_iff, k, c1, c4, c3])
  rw [c3] at n1
  rw [c4] at p1
  exact good (by cases v <;> cases bn <;> cases bp <;> simp [List.length_pos_iff, k, c1, c4, c3, e86, e87, n1, n2, p1, p2]) (by cases v <;> cases bn <;> cases bp <;> simp [List.length_pos_iff, k, c1, c4, c3, e86, e87, n1, n2, p1, p2]) (fun _ => c3) (fun h => by omega)
 ·by_cases c1 : t.n = 0
  case neg => exact bad (by simp [List.length_pos_iff, k, c1]) (by simp [List.length_pos_iff, k, c1])
  by_cases c2 : t.text.toList = X
  case neg => exact bad (by simp [List.length_pos_iff, k, c1, c2]) (by simp [List.length_pos_iff, k, c1, c2])
  by_cases c3 : t.names = []
  case neg => exact bad (by simp [List.length_pos_iff, k, c1, c2, c3]) (by simp [List.length_pos_iff, k, c1, c2, c3])
  rw [c3] at n1
  exact good (by cases v <;> cases bn <;> cases bp <;> simp [List.length_pos_iff, k, c1, c2, c3, e86, e87, n1, n2, p1, p2]) (by cases v <;> cases bn <;> cases bp <;> simp [List.length_pos_iff, k, c1, c2, c3, e86, e87, n1, n2, p1, p2]) (fun _ => c3) (fun h => by omega)
 ·by_cases c1 : t.n = 0
  case neg => exact bad (by simp [List.length_pos_iff, k, c1]) (by simp [List.length_pos_iff, k, c1])
  by_cases c2 : t.text.toList = X
  case neg => exact bad (by simp [List.length_pos_iff, k, c1, c2]) (by simp [List.length_pos_iff, k, c1, c2])
  by_cases c7 : (t.names.length : Int) = (t.parts.length : Int)
  case neg => exact bad (by simp [List.length_pos_iff, k, c1, c2, c7]) (by cases v <;> simp [List.length_pos_iff, k, c1, c2, c7, e87])
  exact good (by cases v <;> cases bn <;> cases bp <;> simp [List.length_pos_iff, k, c1, c2, c7, e86, e87, n1, n2, p1, p2]) (by cases v <;> cases bn <;> cases bp <;> simp [List.length_pos_iff, k, c1, c2, c7, e86, e87, n1, n2, p1, p2]) (fun h => (h k).elim) (fun _ => by omega)
theorem tl_eq {a b : ByteArray} : a.toList = b.toList ↔ a = b := by
 constructor
 ·intro h
  rw [ByteArray.toList_eq, ByteArray.toList_eq] at h
  obtain ⟨⟨a⟩⟩ := a
  obtain ⟨⟨b⟩⟩ := b
  simp only at h
  rw [h]
 ·rintro rfl; rfl
theorem seq_iff {a b : ByteArray} : Mp.seq a b = true ↔ a = b := by
 obtain ⟨a⟩ := a
 obtain ⟨b⟩ := b
 show (a == b) = true ↔ _
 simp
theorem get_put (s x : ByteArray) (y : Bool) : ∀ es : List (ByteArray × Bool), Mp.get Mp.seq s (Mp.put Mp.seq x y es) = if s = x then some y else Mp.get Mp.seq s es
 | [] => by
  simp only [Mp.put, Mp.get, seq_iff]
 | p :: r => by
  simp only [Mp.put, seq_iff]
  by_cases h : x = p.1
  ·rw [if_pos h]
   simp only [Mp.get, seq_iff]
   by_cases h2 : s = x
   ·rw [if_pos h2, if_pos h2]
   ·rw [if_neg h2, if_neg h2, if_neg (by rw [← h]; exact h2)]
  ·rw [if_neg h]
   simp only [Mp.get, seq_iff]
   by_cases h2 : s = p.1
   ·rw [if_pos h2, if_pos h2, if_neg (by rw [h2]; exact fun e => h e.symm)]
   ·rw [if_neg h2, if_neg h2]
    exact get_put s x y r
theorem get_ins (s x : ByteArray) (y : Bool) : ∀ es : List (ByteArray × Bool), es.any (fun p => Mp.seq x p.1) = false → Mp.get Mp.seq s (Mp.ins Mp.slt x y es) = if s = x then some y else Mp.get Mp.seq s es
 | [], _ => by simp only [Mp.ins, Mp.get, seq_iff]
 | p :: r, h => by
  rw [List.any_cons, Bool.or_eq_false_iff] at h
  have hx : ¬ x = p.1 := fun e => by have := seq_iff.2 e; rw [h.1] at this; cases this
  rw [Mp.ins]
  split
  ·simp only [Mp.get, seq_iff]
  ·simp only [Mp.get, seq_iff]
   rw [get_ins s x y r h.2]
   by_cases h2 : s = p.1
   ·rw [if_pos h2, if_pos h2, if_neg (by rw [h2]; exact fun e => hx e.symm)]
   ·rw [if_neg h2, if_neg h2]
theorem get_set (s x : ByteArray) (y : Bool) (es : List (ByteArray × Bool)) : Mp.get Mp.seq s (Mp.set Mp.seq Mp.slt x y es) = if s = x then some y else Mp.get Mp.seq s es := by
 unfold Mp.set
 split
 ·exact get_put s x y es
 ·rename_i h
  exact get_ins s x y es (by cases hq : es.any (fun p => Mp.seq x p.1) with | true => exact (h hq).elim | false => rfl)
theorem f64a (t : Tag) (ht : t.Fit big) (i : Nat) (s : ByteArray) (hi : i < t.names.length) (hs : t.names[i]? = some s) : ∀ (m k : Nat), i - k = m →
  (s ∈ (t.names.take i).drop k → n_55l5 ((i : Int), (k : Int), t, ()) = some (.inl (true, ()))) ∧ (¬ s ∈ (t.names.take i).drop k → n_55l5 ((i : Int), (k : Int), t, ()) = some (.inr ((i : Int), t, ()))) := by
 intro m
 induction m with
 | zero =>
  intro k hk
  have hlt : ¬ k < i := by omega
  have hd : (t.names.take i).drop k = [] := List.drop_eq_nil_of_le (by simp; omega)
  rw [n_55l5, hd]
  simp [hlt]
 | succ m ih =>
  intro k hk
  have hlt : k < i := by omega
  obtain ⟨q, hq1, _, hd, _, _⟩ := at_lt (xs := t.names.take i) (k := k) (by simp; omega)
  have hq2 : t.names[k]? = some q := by
   rw [List.getElem?_take] at hq1
   simpa [hlt] using hq1
  have h0 : (0 : Int) ≤ (i : Int) := by omega
  have h1 : (0 : Int) ≤ (k : Int) := by omega
  have h2 : ((k : Int) < (i : Int)) := by omega
  rw [n_55l5, hd]
  simp only [sW, h0, h1, h2, hs, hq2, wrap_succ hlt (Nat.le_trans (Nat.le_of_lt hi) ht.names), List.mem_cons]
  by_cases e : s = q
  ·subst e
   simp
  ·have e2 : ¬ (s.toList = q.toList) := fun h => e (tl_eq.1 h)
   simp only [e2, e, false_or, sW]
   exact ih (k + 1) (by omega)
theorem f62l (t : Tag) (ht : t.Fit big) : ∀ (m k : Nat) (es : List (ByteArray × Bool)), t.names.length - k = m → (∀ s, (Mp.get Mp.seq s es).getD false = true ↔ s ∈ t.names.take k) →
  ∃ o : Bool, n_52l3 (t.names, (t.names.length : Int), (k : Int), t, es, ()) = some (if o = true then .inl (true, ()) else .inr (t, ())) ∧ n_55l2 ((k : Int), t, ()) = some (if o = true then .inl (true, ()) else .inr (t, ())) := by
 intro m
 induction m with
 | zero =>
  intro k es hk hes
  have hlt : ¬ k < t.names.length := by omega
  rw [n_52l3, n_55l2]
  simp only [sW, hlt]
  exact ⟨false, by simp, by simp⟩
 | succ m ih =>
  intro k es hk hes
  have hlt : k < t.names.length := by omega
  obtain ⟨p, hp1, hm, hd, g1, g2⟩ := at_lt hlt
  have h64 := f64a t ht k p hlt hp1 _ 0 rfl
  simp only [Int.natCast_zero, Int.ofNat_eq_natCast, List.drop_zero] at h64
  have hes2 : ∀ s, (Mp.get Mp.seq s (Mp.set Mp.seq Mp.slt p true es)).getD false = true ↔ s ∈ t.names.take (k + 1) := by
   intro s
   rw [get_set, List.take_add_one, hp1]
   by_cases e : s = p
   ·simp [e]
   ·rw [if_neg e, hes s]
    simp [e]
  obtain ⟨o, o1, o2⟩ := ih (k + 1) _ (by omega) hes2
  rw [n_52l3, n_55l2]
  simp only [sW, g1, g2, hlt, hp1, wrap_succ hlt ht.names]
  by_cases e : p ∈ t.names.take k
  ·refine ⟨true, by rw [if_pos ((hes p).2 e)]; rfl, ?_⟩
   simp only [h64.1 e, sW]
  ·refine ⟨o, by rw [if_neg fun h => e ((hes p).1 h)]; exact o1, ?_⟩
   simp only [h64.2 e, sW, wrap_succ hlt ht.names]
   exact o2
theorem f62p (t : Tag) (ht : t.Fit big) (hp : ∀ p ∈ t.parts, ∃ b, n_52 (p, ()) = some (b, ()) ∧ n_55 (p, ()) = some (b, ())) : ∀ (m k : Nat), t.parts.length - k = m → ∃ o : Option Nat,
  n_104c52l2 (t.parts, (t.parts.length : Int), (k : Int), ()) = some (match o with | some i => .inl ((i : Int), ()) | none => .inr ()) ∧ n_55l10 ((k : Int), t, ()) = some (match o with | some _ => .inl (true, ()) | none => .inr ()) := by
 intro m
 induction m with
 | zero =>
  intro k hk
  have hlt : ¬ k < t.parts.length := by omega
  rw [n_104c52l2, n_55l10]
  simp only [sW, hlt]
  exact ⟨.none, rfl, rfl⟩
 | succ m ih =>
  intro k hk
  have hlt : k < t.parts.length := by omega
  obtain ⟨p, hp1, hm, hd, g1, g2⟩ := at_lt hlt
  obtain ⟨b, e1, e2⟩ := hp p hm
  rw [n_104c52l2, n_55l10]
  simp only [sW, g1, g2, hlt, hp1, e1, e2, wrap_succ hlt ht.parts]
  cases b with
  | true => simp only [sW]; exact ⟨some k, rfl, rfl⟩
  | false => simp only [sW]; exact ih (k + 1) (by omega)
theorem f62 : ∀ t : Tag, t.Fit big → ∃ b, n_52 (t, ()) = some (b, ()) ∧ n_55 (t, ()) = some (b, ()) := by
 refine Tag.ind fun t ih ht => ?_
 obtain ⟨o, o1, o2⟩ := f62l t ht _ 0 [] rfl (fun s => by simp [Mp.get])
 obtain ⟨u, u1, u2⟩ := f62p t ht (fun p hp => ih p hp (ht.part hp)) _ 0 rfl
 simp only [Int.natCast_zero, Int.ofNat_eq_natCast, List.drop_zero] at o1 o2 u1 u2
 rw [n_52, n_55]
 cases o with
 | true => simp only [o1, o2, sW]; exact ⟨_, rfl, rfl⟩
 | false =>
  simp only [o1, o2, sW]
  rw [n_78c52, n_104c52]
  cases u with
  | none => simp only [u1, u2, sW]; exact ⟨_, rfl, rfl⟩
  | some i => simp only [u1, u2, sW]; exact ⟨_, rfl, by simp⟩
theorem f29 (t : Tag) (ht : t.Fit big) : ∃ e, n_29 (t, ()) = some (e, ()) ∧ n_33 (t, ()) = some (e, ()) ∧ (e = 0 → t.Right) := by
 obtain ⟨a, d, s, c1, c2⟩ := f58 t ht
 obtain ⟨b, b1, b2, b3⟩ := f61 t ht
 obtain ⟨w, w1, w2⟩ := f62 t ht
 unfold n_29 n_33
 simp only [c1, c2, sW]
 by_cases h1 : d > 20
 ·refine ⟨3, by simp [h1], ?_, fun h => by omega⟩
  by_cases h2 : a > 500 <;> simp [h1, h2]
 ·by_cases h2 : a > 500
  ·exact ⟨3, by simp [h1, h2], by simp [h1, h2], fun h => by omega⟩
  ·by_cases h3 : s > 4096
   ·exact ⟨3, by simp [h1, h2, h3], by simp [h1, h2, h3], fun h => by omega⟩
   ·cases b with
    | false => exact ⟨1, by simp [h1, h2, h3, b1], by simp [h1, h2, h3, b2], fun h => by omega⟩
    | true =>
     cases w with
     | true => exact ⟨5, by simp [h1, h2, h3, b1, w1], by simp [h1, h2, h3, b2, w2], fun h => by omega⟩
     | false => exact ⟨0, by simp [h1, h2, h3, b1, w1], by simp [h1, h2, h3, b2, w2], fun _ => b3 rfl⟩
end Go.Proofs.YtpndmanbfleadaaGreatDoor
end
section
namespace Go.Proofs.YtpndmanbfleadaaGreatDoor
open Go.Awp Go.Tx
open IntKind (i64)
set_option maxRecDepth 20000
abbrev mt : ByteArray := ByteArray.mk #[]
mutual
def Tag.bulk : Tag → Nat
 | .mk _ _ t ns ps => 1 + t.size + (ns.map ByteArray.size).sum + bulkL ps
def bulkL : List Tag → Nat
 | [] => 0
 | p :: ps => p.bulk + bulkL ps
end
theorem names_valid (t : Tag) (ht : t.Fit big) : ∀ (m k : Nat), t.names.length - k = m → ∃ o : Option Nat,
  n_103c75l2 (t.names, (t.names.length : Int), (k : Int), ()) = some (match o with | some i => .inl ((i : Int), ()) | none => .inr ()) ∧ (o = none → ∀ s ∈ t.names.drop k, Lib.validD s.data.toList = true) := by
 intro m
 induction m with
 | zero =>
  intro k hk
  have hlt : ¬ k < t.names.length := by omega
  rw [n_103c75l2]
  simp only [sW, hlt]
  refine ⟨none, rfl, fun _ s hs => ?_⟩
  rw [(at_end hlt).1] at hs; cases hs
 | succ m ih =>
  intro k hk
  have hlt : k < t.names.length := by omega
  obtain ⟨p, hp1, hm, hd, g1, g2⟩ := at_lt hlt
  rw [n_103c75l2]
  simp only [sW, g1, g2, hlt, hp1, f86 (ht.name hm), wrap_succ hlt ht.names]
  cases hv : Lib.validD p.data.toList with
  | true =>
   simp only [Bool.not_true, sW]
   obtain ⟨o, o1, o2⟩ := ih (k + 1) (by omega)
   refine ⟨o, o1, fun ho s hs => ?_⟩
   rw [hd] at hs
   rcases List.mem_cons.1 hs with rfl | hs
   ·exact hv
   ·exact o2 ho s hs
  | false => simp only [Bool.not_false, sW]; exact ⟨some k, rfl, fun h => by cases h⟩
theorem parts_true (t : Tag) (ht : t.Fit big) : ∀ (m k : Nat), t.parts.length - k = m → ∃ o : Option Nat,
  n_104c79l2 (t.parts, (t.parts.length : Int), (k : Int), ()) = some (match o with | some i => .inl ((i : Int), ()) | none => .inr ()) ∧ (o = none → ∀ p ∈ t.parts.drop k, n_51 (p, ()) = some (true, ())) := by
 intro m
 induction m with
 | zero =>
  intro k hk
  have hlt : ¬ k < t.parts.length := by omega
  rw [n_104c79l2]
  simp only [sW, hlt]
  refine ⟨.none, rfl, fun _ p hp => ?_⟩
  rw [(at_end hlt).1] at hp; cases hp
 | succ m ih =>
  intro k hk
  have hlt : k < t.parts.length := by omega
  obtain ⟨p, hp1, hm, hd, g1, g2⟩ := at_lt hlt
  obtain ⟨b, e1, _, _⟩ := f61 p (ht.part hm)
  have e4 : n_79 (p, ()) = some (!b, ()) := by
   rw [n_79]
   simp only [e1, sW]
  rw [n_104c79l2]
  simp only [sW, g1, g2, hlt, hp1, e4, wrap_succ hlt ht.parts]
  cases b with
  | true =>
   simp only [Bool.not_true, sW]
   obtain ⟨o, o1, o2⟩ := ih (k + 1) (by omega)
   refine ⟨o, o1, fun ho q hq => ?_⟩
   rw [hd] at hq
   rcases List.mem_cons.1 hq with rfl | hq
   ·exact e1
   ·exact o2 ho q hq
  | false => simp only [Bool.not_false, sW]; exact ⟨some k, rfl, fun h => by cases h⟩
structure Loc (t : Tag) : Prop where
 k0 : 0 ≤ t.kind
 k6 : t.kind ≤ 6
 n0 : t.kind ≠ 3 → t.n = 0
 lo : -9007199254740992 ≤ t.n
 hi : t.n ≤ 9007199254740992
 tx : t.kind ≠ 4 → t.text = mt
 pt : t.kind < 5 → t.parts = []
 ln : t.kind = 6 → t.names.length = t.parts.length
 nm : t.kind ≠ 6 → t.names = []
 vt : Lib.validD t.text.data.toList = true
 vn : ∀ s ∈ t.names, Lib.validD s.data.toList = true
inductive Good : Tag → Prop
 | mk {t : Tag} : Loc t → (∀ p ∈ t.parts, Good p) → Good t
theorem Good.loc {t : Tag} (h : Good t) : Loc t := by cases h; assumption
theorem Good.part {t p : Tag} (h : Good t) (hp : p ∈ t.parts) : Good p := by cases h with | mk _ h => exact h p hp
theorem mt_iff {t : ByteArray} : t.toList = (ByteArray.mk #[]).toList ↔ t = mt := tl_eq
theorem loc_of (t : Tag) (ht : t.Fit big) (h : n_51 (t, ()) = some (true, ())) : Loc t ∧ ∀ p ∈ t.parts, n_51 (p, ()) = some (true, ()) := by
 have e86 := f86 ht.text
 obtain ⟨o, o1, o2⟩ := names_valid t ht _ 0 rfl
 obtain ⟨q, q1, q2⟩ := parts_true t ht _ 0 rfl
 simp only [Int.natCast_zero, Int.ofNat_eq_natCast, List.drop_zero] at o1 o2 q1 q2
 have hn : n_77c75 (t.names, ()) = some (o.isSome, ()) := by
  unfold n_77c75 n_103c75
  cases o with
  | none => simp only [o1, sW]; rfl
  | some i => simp only [o1, sW]; simp
 have hp : n_78c79 (t.parts, ()) = some (q.isSome, ()) := by
  rw [n_78c79, n_104c79]
  cases q with
  | none => simp only [q1, sW]; rfl
  | some i => simp only [q1, sW]; simp
 generalize hv : Lib.validD t.text.data.toList = v at e86
 have fin : (t.kind < 5 → t.parts = []) → (t.kind = 6 → t.names.length = t.parts.length) → (t.kind ≠ 6 → t.names = []) → (t.kind ≠ 3 → t.n = 0) → (t.kind ≠ 4 → t.text = mt) → 0 ≤ t.kind → t.kind ≤ 6 → -9007199254740992 ≤ t.n → t.n ≤ 9007199254740992 →
   (v && !o.isSome && !q.isSome) = true → Loc t ∧ ∀ p ∈ t.parts, n_51 (p, ()) = some (true, ()) := by
  intro a b c d e f g i j k
  cases o with
  | some _ => simp at k
  | none =>
   cases q with
   | some _ => simp at k
   | none =>
    cases v with
    | false => simp at k
    | true => exact ⟨⟨f, g, d, i, j, e, a, b, c, hv, o2 rfl⟩, q2 rfl⟩
 rw [n_51] at h
 by_cases a1 : t.kind < 0
 ·simp [a1] at h
 by_cases a2 : t.kind > 6
 ·simp [a1, a2] at h
 by_cases a3 : t.n < -9007199254740992
 ·by_cases k3 : t.kind = 3
  ·simp [k3, a3] at h
  ·have : t.n ≠ 0 := by omega
   simp [a1, a2, k3, this] at h
 by_cases a4 : t.n > 9007199254740992
 ·by_cases k3 : t.kind = 3
  ·simp [k3, a3, a4] at h
  ·have : t.n ≠ 0 := by omega
   simp [a1, a2, k3, this] at h
 have hX : ∀ {s : ByteArray}, s.toList = (ByteArray.mk #[]).toList ↔ s = mt := mt_iff
 generalize (ByteArray.mk #[]).toList = X at h hX
 by_cases c1 : t.kind ≠ 3 → t.n = 0
 case neg =>
  have k3 : t.kind ≠ 3 := fun h => c1 fun h2 => (h2 h).elim
  have n0 : t.n ≠ 0 := fun h => c1 fun _ => h
  simp [a1, a2, k3, n0] at h
 by_cases c2 : t.kind ≠ 4 → t.text = mt
 case neg =>
  have k4 : t.kind ≠ 4 := fun h => c2 fun h2 => (h2 h).elim
  have n0 : ¬ t.text.toList = X := fun h => c2 fun _ => hX.1 h
  by_cases k3 : t.kind = 3
  ·simp [k3, a3, a4, n0] at h
  ·simp [a1, a2, a3, a4, k3, c1 k3, k4, n0] at h
 have c2' : t.kind ≠ 4 → t.text.toList = X := fun h => hX.2 (c2 h)
 have hk : t.kind = 0 ∨ t.kind = 1 ∨ t.kind = 2 ∨ t.kind = 3 ∨ t.kind = 4 ∨ t.kind = 5 ∨ t.kind = 6 := by omega
 have z1 : ¬ (9007199254740992 : Int) < 0 := by decide
 rcases hk with k | k | k | k | k | k | k
 ·by_cases c4 : t.parts = []
  case neg => simp [List.length_pos_iff, k, c1, c2', c4] at h
  by_cases c3 : t.names = []
  case neg => simp [List.length_pos_iff, k, c1, c2', c4, c3] at h
  rw [c3] at hn
  rw [c4] at hp
  refine fin (fun _ => c4) (fun h => by omega) (fun _ => c3) c1 c2 (by omega) (by omega) (by omega) (by omega) ?_
  cases v <;> cases ho : o.isSome <;> cases hq : q.isSome <;> simp [List.length_pos_iff, k, c1, c2', c4, c3, e86, hn, hp, ho, hq] at h ⊢
 ·by_cases c4 : t.parts = []
  case neg => simp [List.length_pos_iff, k, c1, c2', c4] at h
  by_cases c3 : t.names = []
  case neg => simp [List.length_pos_iff, k, c1, c2', c4, c3] at h
  rw [c3] at hn
  rw [c4] at hp
  refine fin (fun _ => c4) (fun h => by omega) (fun _ => c3) c1 c2 (by omega) (by omega) (by omega) (by omega) ?_
  cases v <;> cases ho : o.isSome <;> cases hq : q.isSome <;> simp [List.length_pos_iff, k, c1, c2', c4, c3, e86, hn, hp, ho, hq] at h ⊢
 ·by_cases c4 : t.parts = []
  case neg => simp [List.length_pos_iff, k, c1, c2', c4] at h
  by_cases c3 : t.names = []
  case neg => simp [List.length_pos_iff, k, c1, c2', c4, c3] at h
  rw [c3] at hn
  rw [c4] at hp
  refine fin (fun _ => c4) (fun h => by omega) (fun _ => c3) c1 c2 (by omega) (by omega) (by omega) (by omega) ?_
  cases v <;> cases ho : o.isSome <;> cases hq : q.isSome <;> simp [List.length_pos_iff, k, c1, c2', c4, c3, e86, hn, hp, ho, hq] at h ⊢
 ·by_cases c4 : t.parts = []
  case neg => simp [List.length_pos_iff, k, c2', c4, a3, a4] at h
  by_cases c3 : t.names = []
  case neg => simp [List.length_pos_iff, k, c2', c4, c3, a3, a4] at h
  rw [c3] at hn
  rw [c4] at hp
  refine fin (fun _ => c4) (fun h => by omega) (fun _ => c3) c1 c2 (by omega) (by omega) (by omega) (by omega) ?_
  cases v <;> cases ho : o.isSome <;> cases hq : q.isSome <;> simp [List.length_pos_iff, k, c2', c4, c3, e86, hn, hp, ho, hq, a3, a4] at h ⊢
 ·by_cases c4 : t.parts = []
  case neg => simp [List.length_pos_iff, k, c1, c4] at h
  by_cases c3 : t.names = []
  case neg => simp [List.length_pos_iff, k, c1, c4, c3] at h
  rw [c3] at hn
  rw [c4] at hp
  refine fin (fun _ => c4) (fun h => by omega) (fun _ => c3) c1 c2 (by omega) (by omega) (by omega) (by omega) ?_
  cases v <;> cases ho : o.isSome <;> cases hq : q.isSome <;> simp [List.length_pos_iff, k, c1, c4, c3, e86, hn, hp, ho, hq] at h ⊢
 ·by_cases c3 : t.names = []
  case neg => simp [List.length_pos_iff, k, c1, c2', c3] at h
  rw [c3] at hn
  refine fin (fun h => by omega) (fun h => by omega) (fun _ => c3) c1 c2 (by omega) (by omega) (by omega) (by omega) ?_
  cases v <;> cases ho : o.isSome <;> cases hq : q.isSome <;> simp [List.length_pos_iff, k, c1, c2', c3, e86, hn, hp, ho, hq] at h ⊢
 ·by_cases c3 : (t.names.length : Int) = (t.parts.length : Int)
  case neg => simp [List.length_pos_iff, k, c1, c2', c3] at h
  refine fin (fun h => by omega) (fun _ => by omega) (fun h => (h k).elim) c1 c2 (by omega) (by omega) (by omega) (by omega) ?_
  cases v <;> cases ho : o.isSome <;> cases hq : q.isSome <;> simp [List.length_pos_iff, k, c1, c2', c3, e86, hn, hp, ho, hq] at h ⊢
theorem good_of : ∀ t : Tag, t.Fit big → n_51 (t, ()) = some (true, ()) → Good t :=
 Tag.ind fun t ih ht h => .mk (loc_of t ht h).1 fun p hp => ih p hp (ht.part hp) ((loc_of t ht h).2 p hp)
mutual
def Tag.cnt : Tag → Nat
 | .mk _ _ _ _ ps => 1 + cntL ps
def cntL : List Tag → Nat
 | [] => 0
 | p :: ps => p.cnt + cntL ps
end
mutual
def Tag.byts : Tag → Nat
 | .mk _ _ t ns ps => t.size + (ns.map ByteArray.size).sum + bytsL ps
def bytsL : List Tag → Nat
 | [] => 0
 | p :: ps => p.byts + bytsL ps
end
mutual
def Tag.dep : Tag → Nat
 | .mk _ _ _ _ ps => depL ps + 1
def depL : List Tag → Nat
 | [] => 0
 | p :: ps => max p.dep (depL ps)
end
mutual
theorem bulk_eq : ∀ t : Tag, t.bulk = t.cnt + t.byts
 | .mk _ _ t ns ps => by rw [Tag.bulk, Tag.cnt, Tag.byts, bulkL_eq ps]; omega
theorem bulkL_eq : ∀ ps : List Tag, bulkL ps = cntL ps + bytsL ps
 | [] => rfl
 | p :: ps => by rw [bulkL, cntL, bytsL, bulk_eq p, bulkL_eq ps]; omega
end
mutual
theorem dep_cnt : ∀ t : Tag, t.dep ≤ t.cnt
 | .mk _ _ t ns ps => by rw [Tag.dep, Tag.cnt]; have := depL_cnt ps; omega
theorem depL_cnt : ∀ ps : List Tag, depL ps ≤ cntL ps
 | [] => Nat.le_refl _
 | p :: ps => by rw [depL, cntL]; have := dep_cnt p; have := depL_cnt ps; omega
end
theorem cnt_mk (t : Tag) : t.cnt = 1 + cntL t.parts := by cases t; rfl
theorem byts_mk (t : Tag) : t.byts = t.text.size + (t.names.map ByteArray.size).sum + bytsL t.parts := by cases t; rfl
theorem dep_mk (t : Tag) : t.dep = depL t.parts + 1 := by cases t; rfl
theorem bulk_mk (t : Tag) : t.bulk = 1 + t.text.size + (t.names.map ByteArray.size).sum + bulkL t.parts := by cases t; rfl
theorem bulkL_mem : ∀ {ps : List Tag} {p : Tag}, p ∈ ps → p.bulk ≤ bulkL ps
 | q :: ps, p, h => by
  rw [bulkL]
  rcases List.mem_cons.1 h with rfl | h
  ·omega
  ·have := bulkL_mem h; omega
abbrev half : Nat := 4611686018427387904
theorem names58x (ns : List ByteArray) (t : Tag) (y : Size) (d p : Int) : ∀ (m k : Nat) (z : Nat), ns.length - k = m → ns.length ≤ half → z + ((ns.drop k).map ByteArray.size).sum ≤ half →
  n_42l3 (ns, (ns.length : Int), (k : Int), t, y, Size.mk d p (z : Int), ()) = some (t, y, Size.mk d p ((z + ((ns.drop k).map ByteArray.size).sum : Nat) : Int), ()) := by
 intro m
 induction m with
 | zero =>
  intro k z hk hl hz
  have hlt : ¬ k < ns.length := by omega
  rw [n_42l3, (at_end hlt).1]
  simp only [sW, hlt, List.map_nil, List.sum_nil, Nat.add_zero]
 | succ m ih =>
  intro k z hk hl hz
  have hlt : k < ns.length := by omega
  have hh : half ≤ 9223372036854775807 := by decide
  have hh2 : half = 4611686018427387904 := rfl
  obtain ⟨s, hp1, hm, hd, g1, g2⟩ := at_lt hlt
  rw [hd, List.map_cons, List.sum_cons] at hz ⊢
  have e : i64.wrap ((z : Int) + (s.size : Int)) = ((z + s.size : Nat) : Int) := by
   rw [wrap64 (by omega) (by omega)]; omega
  rw [n_42l3]
  simp only [sW, g1, g2, hlt, hp1, wrap_succ hlt (show ns.length ≤ 9223372036854775807 by omega), e]
  rw [ih (k + 1) (z + s.size) (by omega) hl (by omega), Nat.add_assoc]
theorem parts58x (ps : List Tag) (hp : ∀ p ∈ ps, n_42 (p, ()) = some (Size.mk p.dep p.cnt p.byts, ())) (y : Size) : ∀ (m k d c b : Nat), ps.length - k = m → ps.length ≤ half → c + cntL (ps.drop k) ≤ half → b + bytsL (ps.drop k) ≤ half →
  n_42l8 (ps, (ps.length : Int), (k : Int), y, Size.mk d c b, ()) = some (y, Size.mk ((max d (depL (ps.drop k)) : Nat) : Int) ((c + cntL (ps.drop k) : Nat) : Int) ((b + bytsL (ps.drop k) : Nat) : Int), ()) := by
 intro m
 induction m with
 | zero =>
  intro k d c b hk hl hc hb
  have hlt : ¬ k < ps.length := by omega
  rw [n_42l8, (at_end hlt).1]
  simp only [sW, hlt, depL, cntL, bytsL, Nat.add_zero, Nat.max_zero]
 | succ m ih =>
  intro k d c b hk hl hc hb
  have hlt : k < ps.length := by omega
  have hh2 : half = 4611686018427387904 := rfl
  obtain ⟨p, hp1, hm, hd, g1, g2⟩ := at_lt hlt
  rw [hd, cntL] at hc
  rw [hd, bytsL] at hb
  rw [hd, depL, cntL, bytsL]
  have e1 : i64.wrap ((c : Int) + (p.cnt : Int)) = ((c + p.cnt : Nat) : Int) := by
   rw [wrap64 (by omega) (by omega)]; omega
  have e2 : i64.wrap ((b : Int) + (p.byts : Int)) = ((b + p.byts : Nat) : Int) := by
   rw [wrap64 (by omega) (by omega)]; omega
  have e3 : max (d : Int) (p.dep : Int) = ((max d p.dep : Nat) : Int) := by omega
  rw [n_42l8]
  simp only [sW, g1, g2, hlt, hp1, hp p hm, wrap_succ hlt (show ps.length ≤ 9223372036854775807 by omega), e1, e2, e3]
  rw [ih (k + 1) (max d p.dep) (c + p.cnt) (b + p.byts) (by omega) hl (by omega) (by omega)]
  rw [Nat.max_assoc, Nat.add_assoc, Nat.add_assoc]
theorem f58x : ∀ t : Tag, t.Fit half → t.bulk ≤ half → n_42 (t, ()) = some (Size.mk t.dep t.cnt t.byts, ()) := by
 refine Tag.ind fun t ih ht hb => ?_
 have hh2 : half = 4611686018427387904 := rfl
 have hbk := bulk_eq t
 have hdc := dep_cnt t
 have h1 := bulk_mk t
 have hps : ∀ p ∈ t.parts, n_42 (p, ()) = some (Size.mk p.dep p.cnt p.byts, ()) := fun p hp => ih p hp (ht.part hp) (by have := bulkL_mem hp; omega)
 have b1 := byts_mk t
 have c1 := cnt_mk t
 have d1 := dep_mk t
 have hn := names58x t.names t (Size.mk 0 0 0) 0 1 _ 0 t.text.size rfl ht.names (by rw [List.drop_zero]; omega)
 have hp := parts58x t.parts hps (Size.mk 0 0 0) _ 0 0 1 (t.text.size + (t.names.map ByteArray.size).sum) rfl ht.parts (by rw [List.drop_zero]; omega) (by rw [List.drop_zero]; omega)
 rw [List.drop_zero] at hn hp
 have z0 : ((0 : Nat) : Int) = 0 := rfl
 have z1 : ((1 : Nat) : Int) = 1 := rfl
 rw [z0] at hn hp
 rw [z1] at hp
 rw [n_42]
 simp only [sW, hn, hp]
 have e : i64.wrap (((max 0 (depL t.parts) : Nat) : Int) + 1) = (t.dep : Int) := by
  rw [wrap64 (by omega) (by omega)]; omega
 have e2 : 1 + cntL t.parts = t.cnt := by omega
 have e3 : t.text.size + (t.names.map ByteArray.size).sum + bytsL t.parts = t.byts := by omega
 rw [e, e2, e3]
theorem f29x (t : Tag) (ht : t.Fit half) (hb : t.bulk ≤ half) (h : n_29 (t, ()) = some (0, ())) : Good t ∧ t.dep ≤ 20 ∧ t.cnt ≤ 500 ∧ t.byts ≤ 4096 := by
 have hbig : half ≤ big := by decide
 have hfb := Tag.Fit.mono hbig t ht
 unfold n_29 at h
 simp only [f58x t ht hb, sW] at h
 by_cases q1 : (t.dep : Int) > 20
 ·simp [q1] at h
 by_cases q2 : (t.cnt : Int) > 500
 ·simp [q1, q2] at h
 by_cases q3 : (t.byts : Int) > 4096
 ·simp [q1, q2, q3] at h
 obtain ⟨b, g, _, _⟩ := f61 t hfb
 cases b with
 | false => simp [q1, q2, q3, g] at h
 | true => exact ⟨good_of t hfb g, by omega, by omega, by omega⟩
theorem sum_take {α : Type} {xs : List α} {ns : List Nat} (f : α → Nat) (hl : ns.length = xs.length) (h : ∀ (i : Nat) (x : α) (n : Nat), xs[i]? = some x → ns[i]? = some n → f x ≤ n) : (xs.map f).sum ≤ ns.sum := by
 induction xs generalizing ns with
 | nil => simp
 | cons x xs ih =>
  cases ns with
  | nil => simp at hl
  | cons n ns =>
   have h0 := h 0 x n rfl rfl
   have h1 := ih (ns := ns) (by simpa using hl) fun i y m hy hm => h (i + 1) y m (by simpa using hy) (by simpa using hm)
   simp only [List.map_cons, List.sum_cons]
   omega
theorem bulkL_map : ∀ ps : List Tag, bulkL ps = (ps.map Tag.bulk).sum
 | [] => rfl
 | p :: ps => by rw [bulkL, List.map_cons, List.sum_cons, bulkL_map ps]
theorem bulk_bk : ∀ (t : Tag) (m : Nat), Bk vw (.st .tagT) t m → t.bulk ≤ m := by
 refine Tag.ind fun t ih m h => ?_
 cases h with
 | st ns h1 h2 h3 =>
  have h1 : ns.length = (cellsN .tagT t).length := h1
  have hc : cellsN .tagT t = [⟨.int .i64, t.kind⟩, ⟨.int .i64, t.n⟩, ⟨.str, t.text⟩, ⟨.sl .str, t.names⟩, ⟨.sl (.st .tagT), t.parts⟩] := by simp [cellsN]
  rw [hc] at h1
  match ns, h1 with
  | [a, b, c, d, e], _ =>
   have g (j : Nat) (l : Leaf NN) (n : Nat) (hl : (cellsN .tagT t)[j]? = some l) (hn : [a, b, c, d, e][j]? = some n) : Bk vw l.t l.x n := h2 j l n hl hn
   rw [hc] at g
   have g2 : Bk vw .str t.text c := g 2 ⟨.str, t.text⟩ c rfl rfl
   have g3 : Bk vw (.sl .str) t.names d := g 3 ⟨.sl .str, t.names⟩ d rfl rfl
   have g4 : Bk vw (.sl (.st .tagT)) t.parts e := g 4 ⟨.sl (.st .tagT), t.parts⟩ e rfl rfl
   have k2 := bk_str g2
   have k3 : (t.names.map ByteArray.size).sum ≤ d := by
    cases g3 with
    | sl ns j1 j2 j3 =>
     have := sum_take (xs := t.names) ByteArray.size j1 fun i x n hx hn => by have := bk_str (j2 i x n hx hn); omega
     omega
   have k4 : bulkL t.parts ≤ e := by
    rw [bulkL_map]
    cases g4 with
    | sl ns j1 j2 j3 =>
     have := sum_take (xs := t.parts) Tag.bulk j1 fun i x n hx hn => ih x (List.mem_of_getElem? hx) n (j2 i x n hx hn)
     omega
   have := bulk_mk t
   simp only [List.sum_cons, List.sum_nil] at h3
   omega
end Go.Proofs.YtpndmanbfleadaaGreatDoor
end
section
namespace Go.Proofs.YtpndmanbfleadaaGreatDoor
open Go.Awp Go.Tx
set_option maxRecDepth 20000
inductive Tag.Uniq : Tag → Prop
 | mk {t : Tag} : t.names.Nodup → (∀ p ∈ t.parts, Tag.Uniq p) → Tag.Uniq t
theorem Tag.Uniq.nd {t : Tag} (h : t.Uniq) : t.names.Nodup := by cases h; assumption
theorem Tag.Uniq.part {t p : Tag} (h : t.Uniq) (hp : p ∈ t.parts) : p.Uniq := by cases h with | mk _ h => exact h p hp
theorem nodup_l (t : Tag) (ht : t.Fit big) : ∀ (m k : Nat) (es : List (ByteArray × Bool)), t.names.length - k = m → (∀ s, (Mp.get Mp.seq s es).getD false = true ↔ s ∈ t.names.take k) →
  ∃ o : Bool, n_52l3 (t.names, (t.names.length : Int), (k : Int), t, es, ()) = some (if o = true then .inl (true, ()) else .inr (t, ())) ∧ (o = false ↔ (t.names.drop k).Nodup ∧ ∀ s ∈ t.names.drop k, s ∉ t.names.take k) := by
 intro m
 induction m with
 | zero =>
  intro k es hk hes
  have hlt : ¬ k < t.names.length := by omega
  rw [n_52l3]
  simp only [sW, hlt]
  exact ⟨false, by simp, by simp [(at_end hlt).1]⟩
 | succ m ih =>
  intro k es hk hes
  have hlt : k < t.names.length := by omega
  obtain ⟨p, hp1, hm, hd, g1, g2⟩ := at_lt hlt
  have htk : t.names.take (k + 1) = t.names.take k ++ [p] := by rw [List.take_add_one, hp1]; rfl
  have hes2 : ∀ s, (Mp.get Mp.seq s (Mp.set Mp.seq Mp.slt p true es)).getD false = true ↔ s ∈ t.names.take (k + 1) := by
   intro s
   rw [get_set, htk]
   by_cases e : s = p
   ·simp [e]
   ·rw [if_neg e, hes s]
    simp [e]
  obtain ⟨o, o1, o2⟩ := ih (k + 1) _ (by omega) hes2
  rw [n_52l3]
  simp only [sW, g1, g2, hlt, hp1, wrap_succ hlt ht.names]
  by_cases e : p ∈ t.names.take k
  ·refine ⟨true, by rw [if_pos ((hes p).2 e)]; rfl, ?_⟩
   rw [hd]
   simp [e]
  ·refine ⟨o, by rw [if_neg fun h => e ((hes p).1 h)]; exact o1, o2.trans ?_⟩
   rw [hd, htk]
   simp only [List.nodup_cons, List.mem_append, List.mem_cons, List.not_mem_nil, or_false]
   constructor
   ·rintro ⟨a, b⟩
    refine ⟨⟨fun hq => b p hq (.inr rfl), a⟩, fun s hs => ?_⟩
    rcases hs with rfl | hs
    ·exact e
    ·exact fun q => b s hs (.inl q)
   ·rintro ⟨⟨a1, a2⟩, b⟩
    refine ⟨a2, fun s hs => ?_⟩
    rintro (q | rfl)
    ·exact b s (.inr hs) q
    ·exact a1 hs
theorem uniq_l (t : Tag) (ht : t.Fit big) (hp : ∀ p ∈ t.parts, ∃ b, n_52 (p, ()) = some (b, ()) ∧ (b = false ↔ p.Uniq)) : ∀ (m k : Nat), t.parts.length - k = m → ∃ o : Option Nat,
  n_104c52l2 (t.parts, (t.parts.length : Int), (k : Int), ()) = some (match o with | some i => .inl ((i : Int), ()) | none => .inr ()) ∧ (o = none ↔ ∀ p ∈ t.parts.drop k, p.Uniq) := by
 intro m
 induction m with
 | zero =>
  intro k hk
  have hlt : ¬ k < t.parts.length := by omega
  rw [n_104c52l2]
  simp only [sW, hlt]
  exact ⟨.none, rfl, by simp [(at_end hlt).1]⟩
 | succ m ih =>
  intro k hk
  have hlt : k < t.parts.length := by omega
  obtain ⟨p, hp1, hm, hd, g1, g2⟩ := at_lt hlt
  obtain ⟨b, e1, e2⟩ := hp p hm
  rw [n_104c52l2]
  simp only [sW, g1, g2, hlt, hp1, e1, wrap_succ hlt ht.parts]
  cases b with
  | true =>
   simp only [sW]
   refine ⟨some k, rfl, ?_⟩
   have : ¬ p.Uniq := fun h => by cases e2.2 h
   rw [hd]
   simp [this]
  | false =>
   simp only [sW]
   obtain ⟨o, o1, o2⟩ := ih (k + 1) (by omega)
   refine ⟨o, o1, o2.trans ?_⟩
   rw [hd]
   simp [e2.1 rfl]
theorem uniq_of : ∀ t : Tag, t.Fit big → ∃ b, n_52 (t, ()) = some (b, ()) ∧ (b = false ↔ t.Uniq) := by
 refine Tag.ind fun t ih ht => ?_
 obtain ⟨o, o1, o2⟩ := nodup_l t ht _ 0 [] rfl (fun s => by simp [Mp.get])
 obtain ⟨u, u1, u2⟩ := uniq_l t ht (fun p hp => ih p hp (ht.part hp)) _ 0 rfl
 simp only [Int.natCast_zero, Int.ofNat_eq_natCast, List.drop_zero, List.take_zero] at o1 o2 u1 u2
 have hu : t.Uniq ↔ o = false ∧ u = none := by
  rw [o2, u2]
  exact ⟨fun h => ⟨⟨h.nd, fun s _ => by simp⟩, fun p hp => h.part hp⟩, fun h => .mk h.1.1 h.2⟩
 rw [n_52]
 cases o with
 | true => simp only [o1, sW]; exact ⟨_, rfl, by simp [hu]⟩
 | false =>
  simp only [o1, sW]
  rw [n_78c52, n_104c52]
  cases u with
  | none => simp only [u1, sW]; exact ⟨_, rfl, by simp [hu]⟩
  | some i => simp only [u1, sW]; exact ⟨_, rfl, by simp [hu]⟩
theorem names_ok (t : Tag) (ht : t.Fit big) (hv : ∀ s ∈ t.names, Lib.validD s.data.toList = true) : ∀ (m k : Nat), t.names.length - k = m → n_103c75l2 (t.names, (t.names.length : Int), (k : Int), ()) = some (.inr ()) := by
 intro m
 induction m with
 | zero =>
  intro k hk
  have hlt : ¬ k < t.names.length := by omega
  rw [n_103c75l2]
  simp only [sW, hlt]
 | succ m ih =>
  intro k hk
  have hlt : k < t.names.length := by omega
  obtain ⟨p, hp1, hm, hd, g1, g2⟩ := at_lt hlt
  rw [n_103c75l2]
  simp only [sW, g1, g2, hlt, hp1, f86 (ht.name hm), hv p hm, Bool.not_true, wrap_succ hlt ht.names]
  exact ih (k + 1) (by omega)
theorem parts_ok (t : Tag) (ht : t.Fit big) (hv : ∀ p ∈ t.parts, n_51 (p, ()) = some (true, ())) : ∀ (m k : Nat), t.parts.length - k = m → n_104c79l2 (t.parts, (t.parts.length : Int), (k : Int), ()) = some (.inr ()) := by
 intro m
 induction m with
 | zero =>
  intro k hk
  have hlt : ¬ k < t.parts.length := by omega
  rw [n_104c79l2]
  simp only [sW, hlt]
 | succ m ih =>
  intro k hk
  have hlt : k < t.parts.length := by omega
  obtain ⟨p, hp1, hm, hd, g1, g2⟩ := at_lt hlt
  have e4 : n_79 (p, ()) = some (false, ()) := by
   rw [n_79]
   simp only [hv p hm, sW]; rfl
  rw [n_104c79l2]
  simp only [sW, g1, g2, hlt, hp1, e4, wrap_succ hlt ht.parts]
  exact ih (k + 1) (by omega)
theorem good_true : ∀ t : Tag, t.Fit big → Good t → n_51 (t, ()) = some (true, ()) := by
 refine Tag.ind fun t ih ht hg => ?_
 have L := hg.loc
 have h1 := names_ok t ht L.vn _ 0 rfl
 have h2 := parts_ok t ht (fun p hp => ih p hp (ht.part hp) (hg.part hp)) _ 0 rfl
 simp only [Int.natCast_zero, Int.ofNat_eq_natCast, List.drop_zero] at h1 h2
 have hn : n_77c75 (t.names, ()) = some (false, ()) := by
  unfold n_77c75 n_103c75
  simp only [h1, sW]; rfl
 have hp : n_78c79 (t.parts, ()) = some (false, ()) := by
  rw [n_78c79, n_104c79]
  simp only [h2, sW]; rfl
 have e75 : n_75 (t.text, ()) = some (false, ()) := by rw [f86 ht.text, L.vt]; rfl
 have a1 := L.k0
 have a2 := L.k6
 have a3 : ¬ t.n < -9007199254740992 := by have := L.lo; omega
 have a4 : ¬ t.n > 9007199254740992 := by have := L.hi; omega
 have a4' : ¬ (9007199254740992 : Int) < t.n := by have := L.hi; omega
 have n0 := L.n0
 have tx : t.kind ≠ 4 → t.text.toList = (ByteArray.mk #[]).toList := fun h => mt_iff.2 (L.tx h)
 have pt := L.pt
 have nm := L.nm
 have ln := L.ln
 have hk : t.kind = 0 ∨ t.kind = 1 ∨ t.kind = 2 ∨ t.kind = 3 ∨ t.kind = 4 ∨ t.kind = 5 ∨ t.kind = 6 := by omega
 rw [n_51]
 generalize (ByteArray.mk #[]).toList = X at tx ⊢
 rcases hk with k | k | k | k | k | k | k
 ·have q1 := n0 (by omega); have q2 := tx (by omega); have q3 := pt (by omega); have q4 := nm (by omega)
  simp [k, q1, q2, q3, q4] at hn hp ⊢
  simp [hn, hp, e75]
 ·have q1 := n0 (by omega); have q2 := tx (by omega); have q3 := pt (by omega); have q4 := nm (by omega)
  simp [k, q1, q2, q3, q4] at hn hp ⊢
  simp [hn, hp, e75]
 ·have q1 := n0 (by omega); have q2 := tx (by omega); have q3 := pt (by omega); have q4 := nm (by omega)
  simp [k, q1, q2, q3, q4] at hn hp ⊢
  simp [hn, hp, e75]
 ·have q2 := tx (by omega); have q3 := pt (by omega); have q4 := nm (by omega)
  simp [k, a3, a4', q2, q3, q4] at hn hp ⊢
  simp [hn, hp, e75]
 ·have q1 := n0 (by omega); have q3 := pt (by omega); have q4 := nm (by omega)
  simp [k, q1, q3, q4] at hn hp ⊢
  simp [hn, hp, e75]
 ·have q1 := n0 (by omega); have q2 := tx (by omega); have q4 := nm (by omega)
  simp [k, q1, q2, q4] at hn hp ⊢
  simp [hn, hp, e75]
 ·have q1 := n0 (by omega); have q2 := tx (by omega); have q5 := ln k
  simp [k, q1, q2, q5] at hn hp ⊢
  simp [hn, hp, e75]
theorem valid_of (t : Tag) (ht : t.Fit half) (hb : t.bulk ≤ half) (hg : Good t) (hu : t.Uniq) (h1 : t.dep ≤ 20) (h2 : t.cnt ≤ 500) (h3 : t.byts ≤ 4096) : n_29 (t, ()) = some (0, ()) := by
 have htb : t.Fit big := Tag.Fit.mono (by decide) t ht
 obtain ⟨b, b1, b2⟩ := uniq_of t htb
 have hb0 := b2.2 hu
 subst hb0
 have e1 : ¬ ((t.dep : Int) > 20) := by omega
 have e2 : ¬ ((t.cnt : Int) > 500) := by omega
 have e3 : ¬ ((t.byts : Int) > 4096) := by omega
 unfold n_29
 simp [f58x t ht hb, e1, e2, e3, good_true t htb hg, b1]
theorem uniq_valid (t : Tag) (ht : t.Fit big) (h : n_29 (t, ()) = some (0, ())) : t.Uniq := by
 obtain ⟨b, b1, b2⟩ := uniq_of t ht
 obtain ⟨a, d, s, c1, c2⟩ := f58 t ht
 obtain ⟨g, g1, _, _⟩ := f61 t ht
 refine b2.1 ?_
 cases b with
 | false => rfl
 | true =>
  unfold n_29 at h
  simp only [c2, g1, b1, sW] at h
  exfalso
  revert h
  by_cases h1 : d > 20
  ·simp [h1]
  ·by_cases h2 : a > 500
   ·simp [h1, h2]
   ·by_cases h3 : s > 4096
    ·simp [h1, h2, h3]
    ·cases g <;> simp [h1, h2, h3, g1, b1]
end Go.Proofs.YtpndmanbfleadaaGreatDoor
end
section
namespace Go.Proofs.YtpndmanbfleadaaGreatDoor
open Go.Awp Go.Tx
open IntKind (i32)
open IntKind (i64)
set_option maxRecDepth 100000
def Le {α : Type} (x y : Option α) : Prop := ∀ a, x = some a → y = some a
theorem Le.refl {α : Type} (x : Option α) : Le x x := fun _ h => h
theorem Le.none {α : Type} (x : Option α) : Le none x := fun _ h => by cases h
theorem Le.bind {α β : Type} {x y : Option α} {f g : α → Option β} (h : Le x y) (h2 : ∀ a, Le (f a) (g a)) : Le (x >>= f) (y >>= g) := fun b hb => by
 cases x with
 | none => cases hb
 | some a => rw [h a rfl]; exact h2 a b hb
theorem Le.ite {α : Type} {c : Prop} {d : Decidable c} {x y z w : Option α} (h : Le x y) (h2 : Le z w) : Le (@ite _ c d x z) (@ite _ c d y w) := by
 cases d with
 | isTrue h3 => exact h
 | isFalse h3 => exact h2
theorem Le.both {α : Type} {x y z w : Option α} (h : Le x y) (h2 : Le z w) : Le (both x z) (both y w) := fun a ha => by
 obtain ⟨h3, h4⟩ := both_some ha
 exact both_mk (h a h3) (h2 a h4)
noncomputable def m_100s52d8 (k : Nat) (v : ByteArray × Bool × (List Int) × Unit) : Option (Int × Bool × (List Int) × Unit) :=
 n_120s8e4d (v.2.1, v.2.2.1, ()) >>= fun x1 =>
 if x1.2.1.length + v.1.size ≤ (4294967296 : Nat) then
  some (((↑v.1.size : Int), x1.1, x1.2.1 ++ Bs.ints v.1, ()))
 else none
theorem m_100s52d8_le (k : Nat) (v : ByteArray × Bool × (List Int) × Unit) : Le (m_100s52d8 k v) (n_100s52d8 v) := by
 unfold m_100s52d8 n_100s52d8
 with_reducible repeat' first | exact Le.refl _ | exact Le.none _ | apply Le.bind | apply Le.ite | apply Le.both | with_unfolding_all assumption | intro x
noncomputable def m_75 (k : Nat) (v : ByteArray × Unit) : Option (Bool × Unit) :=
 n_76 (v.1, ()) >>= fun x1 =>
 some ((!x1.1, ()))
theorem m_75_le (k : Nat) (v : ByteArray × Unit) : Le (m_75 k v) (n_75 v) := by
 unfold m_75 n_75
 with_reducible repeat' first | exact Le.refl _ | exact Le.none _ | apply Le.bind | apply Le.ite | apply Le.both | with_unfolding_all assumption | intro x
noncomputable def m_103c75l2 : Nat → (List ByteArray) × Int × Int × Unit → Option (((Int × Unit) ⊕ (Unit)))
 | 0, _ => none
 | k + 1, v =>
  if decide (v.2.2.1 < v.2.1) = true then
   if (0 : Int) ≤ v.2.2.1 then
    v.1[v.2.2.1.toNat]? >>= fun x1 =>
    m_75 k (x1, ()) >>= fun x2 =>
    if x2.1 = true then
     some (Sum.inl (v.2.2.1, ()))
    else m_103c75l2 k (v.1, v.2.1, i64.wrap (v.2.2.1 + (1 : Int)), ())
   else none
  else some (Sum.inr ())
theorem m_103c75l2_le : ∀ k v, Le (m_103c75l2 k v) (n_103c75l2 v)
 | 0, _ => Le.none _
 | k + 1, v => by
  rw [m_103c75l2, n_103c75l2]
  with_reducible repeat' first | exact Le.refl _ | exact Le.none _ | exact m_75_le _ _ | exact m_103c75l2_le _ _ | apply Le.bind | apply Le.ite | apply Le.both | with_unfolding_all assumption | intro x
noncomputable def m_103c75 (k : Nat) (v : (List ByteArray) × Unit) : Option (Int × Unit) :=
 m_103c75l2 k (v.1, (↑v.1.length : Int), (0 : Int), ()) >>= fun x1 => match x1 with
  | .inl y1 => some y1
  | .inr y1 => some (((-1 : Int), ()))
theorem m_103c75_le (k : Nat) (v : (List ByteArray) × Unit) : Le (m_103c75 k v) (n_103c75 v) := by
 unfold m_103c75 n_103c75
 with_reducible repeat' first | exact Le.refl _ | exact Le.none _ | exact m_103c75l2_le _ _ | apply Le.bind | apply Le.ite | apply Le.both | (rintro (x | x) <;> dsimp only) | with_unfolding_all assumption | intro x
noncomputable def m_52l3 : Nat → (List ByteArray) × Int × Int × Tag × (List (ByteArray × Bool)) × Unit → Option (((Bool × Unit) ⊕ (Tag × Unit)))
 | 0, _ => none
 | k + 1, v =>
  if decide (v.2.2.1 < v.2.1) = true then
   if (0 : Int) ≤ v.2.2.1 then
    v.1[v.2.2.1.toNat]? >>= fun x1 =>
    if (Mp.get Mp.seq x1 v.2.2.2.2.1).getD false = true then
     some (Sum.inl (true, ()))
    else m_52l3 k (v.1, v.2.1, i64.wrap (v.2.2.1 + (1 : Int)), v.2.2.2.1, Mp.set Mp.seq Mp.slt x1 true v.2.2.2.2.1, ())
   else none
  else some (Sum.inr (v.2.2.2.1, ()))
theorem m_52l3_le : ∀ k v, Le (m_52l3 k v) (n_52l3 v)
 | 0, _ => Le.none _
 | k + 1, v => by
  rw [m_52l3, n_52l3]
  with_reducible repeat' first | exact Le.refl _ | exact Le.none _ | exact m_52l3_le _ _ | apply Le.bind | apply Le.ite | apply Le.both | with_unfolding_all assumption | intro x
mutual
noncomputable def m_104c52l2 : Nat → (List Tag) × Int × Int × Unit → Option (((Int × Unit) ⊕ (Unit)))
 | 0, _ => none
 | k + 1, v =>
  if decide (v.2.2.1 < v.2.1) = true then
   if (0 : Int) ≤ v.2.2.1 then
    v.1[v.2.2.1.toNat]? >>= fun x1 =>
    m_52 k (x1, ()) >>= fun x2 =>
    if x2.1 = true then
     some (Sum.inl (v.2.2.1, ()))
    else m_104c52l2 k (v.1, v.2.1, i64.wrap (v.2.2.1 + (1 : Int)), ())
   else none
  else some (Sum.inr ())
noncomputable def m_52 : Nat → Tag × Unit → Option (Bool × Unit)
 | 0, _ => none
 | k + 1, v =>
  m_52l3 k (v.1.names, (↑v.1.names.length : Int), (0 : Int), v.1, [], ()) >>= fun x1 => match x1 with
   | .inl y1 => some y1
   | .inr y1 => m_78c52 k (y1.1.parts, ()) >>= fun x2 =>
    some ((x2.1, ()))
noncomputable def m_78c52 : Nat → (List Tag) × Unit → Option (Bool × Unit)
 | 0, _ => none
 | k + 1, v =>
  m_104c52 k (v.1, ()) >>= fun x1 =>
  some ((decide (x1.1 ≥ (0 : Int)), ()))
noncomputable def m_104c52 : Nat → (List Tag) × Unit → Option (Int × Unit)
 | 0, _ => none
 | k + 1, v =>
  m_104c52l2 k (v.1, (↑v.1.length : Int), (0 : Int), ()) >>= fun x1 => match x1 with
   | .inl y1 => some y1
   | .inr y1 => some (((-1 : Int), ()))
end
theorem m_104c52l2_st (k : Nat) (h_104c52l2 : ∀ v, Le (m_104c52l2 k v) (n_104c52l2 v)) (h_52 : ∀ v, Le (m_52 k v) (n_52 v)) (v : (List Tag) × Int × Int × Unit) : Le (m_104c52l2 (k + 1) v) (n_104c52l2 v) := by
 rw [m_104c52l2, n_104c52l2]
 with_reducible repeat' first | exact Le.refl _ | exact Le.none _ | exact h_104c52l2 _ | exact h_52 _ | apply Le.bind | apply Le.ite | apply Le.both | with_unfolding_all assumption | intro x
theorem m_52_st (k : Nat) (h_78c52 : ∀ v, Le (m_78c52 k v) (n_78c52 v)) (v : Tag × Unit) : Le (m_52 (k + 1) v) (n_52 v) := by
 rw [m_52, n_52]
 with_reducible repeat' first | exact Le.refl _ | exact Le.none _ | exact m_52l3_le _ _ | exact h_78c52 _ | apply Le.bind | apply Le.ite | apply Le.both | (rintro (x | x) <;> dsimp only) | with_unfolding_all assumption | intro x
theorem m_78c52_st (k : Nat) (h_104c52 : ∀ v, Le (m_104c52 k v) (n_104c52 v)) (v : (List Tag) × Unit) : Le (m_78c52 (k + 1) v) (n_78c52 v) := by
 rw [m_78c52, n_78c52]
 with_reducible repeat' first | exact Le.refl _ | exact Le.none _ | exact h_104c52 _ | apply Le.bind | apply Le.ite | apply Le.both | with_unfolding_all assumption | intro x
theorem m_104c52_st (k : Nat) (h_104c52l2 : ∀ v, Le (m_104c52l2 k v) (n_104c52l2 v)) (v : (List Tag) × Unit) : Le (m_104c52 (k + 1) v) (n_104c52 v) := by
 rw [m_104c52, n_104c52]
 with_reducible repeat' first | exact Le.refl _ | exact Le.none _ | exact h_104c52l2 _ | apply Le.bind | apply Le.ite | apply Le.both | (rintro (x | x) <;> dsimp only) | with_unfolding_all assumption | intro x
theorem m_104c52l2_all : ∀ k, (∀ v, Le (m_104c52l2 k v) (n_104c52l2 v)) ∧ (∀ v, Le (m_52 k v) (n_52 v)) ∧ (∀ v, Le (m_78c52 k v) (n_78c52 v)) ∧ (∀ v, Le (m_104c52 k v) (n_104c52 v))
 | 0 => ⟨fun _ => Le.none _, fun _ => Le.none _, fun _ => Le.none _, fun _ => Le.none _⟩
 | k + 1 => by
  have h := m_104c52l2_all k
  exact ⟨m_104c52l2_st k (h.1) (h.2.1), m_52_st k (h.2.2.1), m_78c52_st k (h.2.2.2), m_104c52_st k (h.1)⟩
theorem m_52_le (k : Nat) (v : Tag × Unit) : Le (m_52 k v) (n_52 v) := have h := m_104c52l2_all k; h.2.1 v
noncomputable def m_77c75 (k : Nat) (v : (List ByteArray) × Unit) : Option (Bool × Unit) :=
 m_103c75 k (v.1, ()) >>= fun x1 =>
 some ((decide (x1.1 ≥ (0 : Int)), ()))
theorem m_77c75_le (k : Nat) (v : (List ByteArray) × Unit) : Le (m_77c75 k v) (n_77c75 v) := by
 unfold m_77c75 n_77c75
 with_reducible repeat' first | exact Le.refl _ | exact Le.none _ | exact m_103c75_le _ _ | apply Le.bind | apply Le.ite | apply Le.both | with_unfolding_all assumption | intro x
mutual
noncomputable def m_104c79l2 : Nat → (List Tag) × Int × Int × Unit → Option (((Int × Unit) ⊕ (Unit)))
 | 0, _ => none
 | k + 1, v =>
  if decide (v.2.2.1 < v.2.1) = true then
   if (0 : Int) ≤ v.2.2.1 then
    v.1[v.2.2.1.toNat]? >>= fun x1 =>
    m_79 k (x1, ()) >>= fun x2 =>
    if x2.1 = true then
     some (Sum.inl (v.2.2.1, ()))
    else m_104c79l2 k (v.1, v.2.1, i64.wrap (v.2.2.1 + (1 : Int)), ())
   else none
  else some (Sum.inr ())
noncomputable def m_79 : Nat → Tag × Unit → Option (Bool × Unit)
 | 0, _ => none
 | k + 1, v =>
  m_51 k (v.1, ()) >>= fun x1 =>
  some ((!x1.1, ()))
noncomputable def m_51 : Nat → Tag × Unit → Option (Bool × Unit)
 | 0, _ => none
 | k + 1, v =>
  (if decide (v.1.kind < (0 : Int)) = true then
     some ((true, v.1, ()))
    else if decide (v.1.kind > (6 : Int)) = true then
     some ((true, v.1, ()))
    else if (v.1.kind != (3 : Int)) = true then
     if (v.1.n != (0 : Int)) = true then
      some ((true, v.1, ()))
     else if decide (v.1.n < (-9007199254740992 : Int)) = true then
      some ((true, v.1, ()))
     else if decide (v.1.n > (9007199254740992 : Int)) = true then
      some ((true, v.1, ()))
     else if (v.1.kind != (4 : Int)) = true then
      if (!v.1.text.toList == (ByteArray.mk #[]).toList) = true then
       some ((true, v.1, ()))
      else if decide (v.1.kind < (5 : Int)) = true then
       some ((decide ((↑v.1.parts.length : Int) > (0 : Int)), v.1, ()))
      else some ((false, v.1, ()))
     else if decide (v.1.kind < (5 : Int)) = true then
      some ((decide ((↑v.1.parts.length : Int) > (0 : Int)), v.1, ()))
     else some ((false, v.1, ()))
    else if decide (v.1.n < (-9007199254740992 : Int)) = true then
     some ((true, v.1, ()))
    else if decide (v.1.n > (9007199254740992 : Int)) = true then
     some ((true, v.1, ()))
    else if (v.1.kind != (4 : Int)) = true then
     if (!v.1.text.toList == (ByteArray.mk #[]).toList) = true then
      some ((true, v.1, ()))
     else if decide (v.1.kind < (5 : Int)) = true then
      some ((decide ((↑v.1.parts.length : Int) > (0 : Int)), v.1, ()))
     else some ((false, v.1, ()))
    else if decide (v.1.kind < (5 : Int)) = true then
     some ((decide ((↑v.1.parts.length : Int) > (0 : Int)), v.1, ()))
    else some ((false, v.1, ()))) >>= fun x1 =>
  if x1.1 = true then
   some ((false, ()))
  else (if (x1.2.1.kind == (6 : Int)) = true then
    if ((↑x1.2.1.names.length : Int) != (↑x1.2.1.parts.length : Int)) = true then
     some ((true, x1.2.1, ()))
    else if (x1.2.1.kind != (6 : Int)) = true then
     some ((decide ((↑x1.2.1.names.length : Int) > (0 : Int)), x1.2.1, ()))
    else some ((false, x1.2.1, ()))
   else if (x1.2.1.kind != (6 : Int)) = true then
    some ((decide ((↑x1.2.1.names.length : Int) > (0 : Int)), x1.2.1, ()))
   else some ((false, x1.2.1, ()))) >>= fun x2 =>
  if x2.1 = true then
   some ((false, ()))
  else (m_75 k (x2.2.1.text, ()) >>= fun x3 =>
   if (!x3.1) = true then
    m_77c75 k (x2.2.1.names, ()) >>= fun x4 =>
    if (!x4.1) = true then
     m_78c79 k (x2.2.1.parts, ()) >>= fun x5 =>
     some ((!x5.1, ()))
    else some ((false, ()))
   else some ((false, ()))) >>= fun x3 =>
  some ((x3.1, ()))
noncomputable def m_78c79 : Nat → (List Tag) × Unit → Option (Bool × Unit)
 | 0, _ => none
 | k + 1, v =>
  m_104c79 k (v.1, ()) >>= fun x1 =>
  some ((decide (x1.1 ≥ (0 : Int)), ()))
noncomputable def m_104c79 : Nat → (List Tag) × Unit → Option (Int × Unit)
 | 0, _ => none
 | k + 1, v =>
  m_104c79l2 k (v.1, (↑v.1.length : Int), (0 : Int), ()) >>= fun x1 => match x1 with
   | .inl y1 => some y1
   | .inr y1 => some (((-1 : Int), ()))
end
theorem m_104c79l2_st (k : Nat) (h_104c79l2 : ∀ v, Le (m_104c79l2 k v) (n_104c79l2 v)) (h_79 : ∀ v, Le (m_79 k v) (n_79 v)) (v : (List Tag) × Int × Int × Unit) : Le (m_104c79l2 (k + 1) v) (n_104c79l2 v) := by
 rw [m_104c79l2, n_104c79l2]
 with_reducible repeat' first | exact Le.refl _ | exact Le.none _ | exact h_104c79l2 _ | exact h_79 _ | apply Le.bind | apply Le.ite | apply Le.both | with_unfolding_all assumption | intro x
theorem m_79_st (k : Nat) (h_51 : ∀ v, Le (m_51 k v) (n_51 v)) (v : Tag × Unit) : Le (m_79 (k + 1) v) (n_79 v) := by
 rw [m_79, n_79]
 with_reducible repeat' first | exact Le.refl _ | exact Le.none _ | exact h_51 _ | apply Le.bind | apply Le.ite | apply Le.both | with_unfolding_all assumption | intro x
theorem m_51_st (k : Nat) (h_78c79 : ∀ v, Le (m_78c79 k v) (n_78c79 v)) (v : Tag × Unit) : Le (m_51 (k + 1) v) (n_51 v) := by
 rw [m_51, n_51]
 with_reducible repeat' first | exact Le.refl _ | exact Le.none _ | exact m_75_le _ _ | exact m_77c75_le _ _ | exact h_78c79 _ | apply Le.bind | apply Le.ite | apply Le.both | with_unfolding_all assumption | intro x
theorem m_78c79_st (k : Nat) (h_104c79 : ∀ v, Le (m_104c79 k v) (n_104c79 v)) (v : (List Tag) × Unit) : Le (m_78c79 (k + 1) v) (n_78c79 v) := by
 rw [m_78c79, n_78c79]
 with_reducible repeat' first | exact Le.refl _ | exact Le.none _ | exact h_104c79 _ | apply Le.bind | apply Le.ite | apply Le.both | with_unfolding_all assumption | intro x
theorem m_104c79_st (k : Nat) (h_104c79l2 : ∀ v, Le (m_104c79l2 k v) (n_104c79l2 v)) (v : (List Tag) × Unit) : Le (m_104c79 (k + 1) v) (n_104c79 v) := by
 rw [m_104c79, n_104c79]
 with_reducible repeat' first | exact Le.refl _ | exact Le.none _ | exact h_104c79l2 _ | apply Le.bind | apply Le.ite | apply Le.both | (rintro (x | x) <;> dsimp only) | with_unfolding_all assumption | intro x
theorem m_104c79l2_all : ∀ k, (∀ v, Le (m_104c79l2 k v) (n_104c79l2 v)) ∧ (∀ v, Le (m_79 k v) (n_79 v)) ∧ (∀ v, Le (m_51 k v) (n_51 v)) ∧ (∀ v, Le (m_78c79 k v) (n_78c79 v)) ∧ (∀ v, Le (m_104c79 k v) (n_104c79 v))
 | 0 => ⟨fun _ => Le.none _, fun _ => Le.none _, fun _ => Le.none _, fun _ => Le.none _, fun _ => Le.none _⟩
 | k + 1 => by
  have h := m_104c79l2_all k
  exact ⟨m_104c79l2_st k (h.1) (h.2.1), m_79_st k (h.2.2.1), m_51_st k (h.2.2.2.1), m_78c79_st k (h.2.2.2.2), m_104c79_st k (h.1)⟩
theorem m_51_le (k : Nat) (v : Tag × Unit) : Le (m_51 k v) (n_51 v) := have h := m_104c79l2_all k; h.2.2.1 v
noncomputable def m_118 (k : Nat) (v : ByteArray × Int × Unit) : Option (Int × Unit) :=
 n_132 (v.1, v.2.1, ()) >>= fun x1 =>
 some ((x1.1, ()))
theorem m_118_le (k : Nat) (v : ByteArray × Int × Unit) : Le (m_118 k v) (n_118 v) := by
 unfold m_118 n_118
 with_reducible repeat' first | exact Le.refl _ | exact Le.none _ | apply Le.bind | apply Le.ite | apply Le.both | with_unfolding_all assumption | intro x
noncomputable def m_74s5bd0 (k : Nat) (v : ByteArray × Reader × Unit) : Option (Bool × Reader × Unit) :=
 (if (v.2.1.at0 == (↑v.2.1.s.size : Int)) = true then
    some ((true, v.2.1, ()))
   else if (0 : Int) ≤ v.2.1.at0 ∧ v.2.1.at0 ≤ i64.wrap (v.2.1.at0 + (1 : Int)) ∧ i64.wrap (v.2.1.at0 + (1 : Int)) ≤ (↑v.2.1.s.size : Int) then
    n_101 (v.1, v.2.1.s.extract v.2.1.at0.toNat (i64.wrap (v.2.1.at0 + (1 : Int))).toNat, ()) >>= fun x1 =>
    some ((!x1.1, v.2.1, ()))
   else none) >>= fun x1 =>
 if x1.1 = true then
  some ((false, x1.2.1, ()))
 else some ((true, Reader.mk x1.2.1.s (i64.wrap (x1.2.1.at0 + (1 : Int))), ()))
theorem m_74s5bd0_le (k : Nat) (v : ByteArray × Reader × Unit) : Le (m_74s5bd0 k v) (n_74s5bd0 v) := by
 unfold m_74s5bd0 n_74s5bd0
 with_reducible repeat' first | exact Le.refl _ | exact Le.none _ | apply Le.bind | apply Le.ite | apply Le.both | with_unfolding_all assumption | intro x
noncomputable def m_119sadb0l11 : Nat → Int × (List Int) × Int × Int × Reader × Unit → Option ((Int × Reader × Unit))
 | 0, _ => none
 | k + 1, v =>
  if decide (v.2.2.2.1 < v.2.2.1) = true then
   if (0 : Int) ≤ v.2.2.2.1 then
    v.2.1[v.2.2.2.1.toNat]? >>= fun x1 =>
    m_118 k (ByteArray.mk #[48, 49, 50, 51, 52, 53, 54, 55, 56, 57, 97, 98, 99, 100, 101, 102, 65, 66, 67, 68, 69, 70], x1, ()) >>= fun x2 =>
    m_119sadb0l11 k (i32.wrap (i32.wrap ((16 : Int) * v.1) + i32.wrap x2.1), v.2.1, v.2.2.1, i64.wrap (v.2.2.2.1 + (1 : Int)), v.2.2.2.2.1, ())
   else none
  else some ((v.1, v.2.2.2.2.1, ()))
theorem m_119sadb0l11_le : ∀ k v, Le (m_119sadb0l11 k v) (n_119sadb0l11 v)
 | 0, _ => Le.none _
 | k + 1, v => by
  rw [m_119sadb0l11, n_119sadb0l11]
  with_reducible repeat' first | exact Le.refl _ | exact Le.none _ | exact m_118_le _ _ | exact m_119sadb0l11_le _ _ | apply Le.bind | apply Le.ite | apply Le.both | with_unfolding_all assumption | intro x
noncomputable def m_119sadb0 (k : Nat) (v : ByteArray × ByteArray × Reader × Unit) : Option (Int × Bool × Reader × Unit) :=
 (m_74s5bd0 k (v.1, v.2.2.1, ()) >>= fun x1 =>
   if x1.1 = true then
    some (Sum.inl (v.2.2.1.at0, ByteArray.mk #[48, 49, 50, 51, 52, 53, 54, 55, 56, 57, 97, 98, 99, 100, 101, 102, 65, 66, 67, 68, 69, 70], x1.2.1, ()))
   else m_74s5bd0 k (ByteArray.mk #[100, 68], x1.2.1, ()) >>= fun x2 =>
   if x2.1 = true then
    some (Sum.inl (v.2.2.1.at0, v.2.1, x2.2.1, ()))
   else some (Sum.inr ((0 : Int), false, x2.2.1, ()))) >>= fun x1 => match x1 with
   | .inl y1 => (m_74s5bd0 k (y1.2.1, y1.2.2.1, ()) >>= fun x2 =>
     if (!x2.1) = true then
      some ((y1.1, true, x2.2.1, ()))
     else m_74s5bd0 k (ByteArray.mk #[48, 49, 50, 51, 52, 53, 54, 55, 56, 57, 97, 98, 99, 100, 101, 102, 65, 66, 67, 68, 69, 70], x2.2.1, ()) >>= fun x3 =>
     if (!x3.1) = true then
      some ((y1.1, true, x3.2.1, ()))
     else m_74s5bd0 k (ByteArray.mk #[48, 49, 50, 51, 52, 53, 54, 55, 56, 57, 97, 98, 99, 100, 101, 102, 65, 66, 67, 68, 69, 70], x3.2.1, ()) >>= fun x4 =>
     some ((y1.1, !x4.1, x4.2.1, ()))) >>= fun x2 =>
    if x2.2.1 = true then
     some (((0 : Int), false, x2.2.2.1, ()))
    else if (0 : Int) ≤ x2.1 ∧ x2.1 ≤ x2.2.2.1.at0 ∧ x2.2.2.1.at0 ≤ (↑x2.2.2.1.s.size : Int) then
     n_133 (x2.2.2.1.s.extract x2.1.toNat x2.2.2.1.at0.toNat, ()) >>= fun x3 =>
     m_119sadb0l11 k ((0 : Int), Bs.ints x3.1, (↑(Bs.ints x3.1).length : Int), (0 : Int), x2.2.2.1, ()) >>= fun x4 =>
     some ((x4.1, true, x4.2.1, ()))
    else none
   | .inr y1 => some y1
theorem m_119sadb0_le (k : Nat) (v : ByteArray × ByteArray × Reader × Unit) : Le (m_119sadb0 k v) (n_119sadb0 v) := by
 unfold m_119sadb0 n_119sadb0
 with_reducible repeat' first | exact Le.refl _ | exact Le.none _ | exact m_119sadb0l11_le _ _ | exact m_74s5bd0_le _ _ | apply Le.bind | apply Le.ite | apply Le.both | (rintro (x | x) <;> dsimp only) | with_unfolding_all assumption | intro x
noncomputable def m_121s43b2 (k : Nat) (v : Int × (List Int) × Unit) : Option ((List Int) × Unit) :=
 if decide (IntKind.u32.wrap v.1 ≤ (127 : Int)) = true then
  if v.2.1.length + [IntKind.u8.wrap v.1].length ≤ (4294967296 : Nat) then
   some ((v.2.1 ++ [IntKind.u8.wrap v.1], ()))
  else none
 else n_135s43b2 (v.1, v.2.1, ()) >>= fun x1 =>
 some ((x1.1, ()))
theorem m_121s43b2_le (k : Nat) (v : Int × (List Int) × Unit) : Le (m_121s43b2 k v) (n_121s43b2 v) := by
 unfold m_121s43b2 n_121s43b2
 with_reducible repeat' first | exact Le.refl _ | exact Le.none _ | apply Le.bind | apply Le.ite | apply Le.both | with_unfolding_all assumption | intro x
noncomputable def m_42l3 : Nat → (List ByteArray) × Int × Int × Tag × Size × Size × Unit → Option ((Tag × Size × Size × Unit))
 | 0, _ => none
 | k + 1, v =>
  if decide (v.2.2.1 < v.2.1) = true then
   if (0 : Int) ≤ v.2.2.1 then
    v.1[v.2.2.1.toNat]? >>= fun x1 =>
    m_42l3 k (v.1, v.2.1, i64.wrap (v.2.2.1 + (1 : Int)), v.2.2.2.1, v.2.2.2.2.1, Size.mk v.2.2.2.2.2.1.depth v.2.2.2.2.2.1.pieces (i64.wrap (v.2.2.2.2.2.1.bytes + (↑x1.size : Int))), ())
   else none
  else some ((v.2.2.2.1, v.2.2.2.2.1, v.2.2.2.2.2.1, ()))
theorem m_42l3_le : ∀ k v, Le (m_42l3 k v) (n_42l3 v)
 | 0, _ => Le.none _
 | k + 1, v => by
  rw [m_42l3, n_42l3]
  with_reducible repeat' first | exact Le.refl _ | exact Le.none _ | exact m_42l3_le _ _ | apply Le.bind | apply Le.ite | apply Le.both | with_unfolding_all assumption | intro x
mutual
noncomputable def m_42l8 : Nat → (List Tag) × Int × Int × Size × Size × Unit → Option ((Size × Size × Unit))
 | 0, _ => none
 | k + 1, v =>
  if decide (v.2.2.1 < v.2.1) = true then
   if (0 : Int) ≤ v.2.2.1 then
    v.1[v.2.2.1.toNat]? >>= fun x1 =>
    m_42 k (x1, ()) >>= fun x2 =>
    m_42l8 k (v.1, v.2.1, i64.wrap (v.2.2.1 + (1 : Int)), v.2.2.2.1, Size.mk (max v.2.2.2.2.1.depth x2.1.depth) (i64.wrap (v.2.2.2.2.1.pieces + x2.1.pieces)) (i64.wrap (v.2.2.2.2.1.bytes + x2.1.bytes)), ())
   else none
  else some ((v.2.2.2.1, v.2.2.2.2.1, ()))
noncomputable def m_42 : Nat → Tag × Unit → Option (Size × Unit)
 | 0, _ => none
 | k + 1, v =>
  m_42l3 k (v.1.names, (↑v.1.names.length : Int), (0 : Int), v.1, Size.mk (0 : Int) (0 : Int) (0 : Int), Size.mk (0 : Int) (1 : Int) (↑v.1.text.size : Int), ()) >>= fun x1 =>
  m_42l8 k (x1.1.parts, (↑x1.1.parts.length : Int), (0 : Int), x1.2.1, x1.2.2.1, ()) >>= fun x2 =>
  some ((Size.mk (i64.wrap (x2.2.1.depth + (1 : Int))) x2.2.1.pieces x2.2.1.bytes, ()))
end
theorem m_42l8_st (k : Nat) (h_42 : ∀ v, Le (m_42 k v) (n_42 v)) (h_42l8 : ∀ v, Le (m_42l8 k v) (n_42l8 v)) (v : (List Tag) × Int × Int × Size × Size × Unit) : Le (m_42l8 (k + 1) v) (n_42l8 v) := by
 rw [m_42l8, n_42l8]
 with_reducible repeat' first | exact Le.refl _ | exact Le.none _ | exact h_42 _ | exact h_42l8 _ | apply Le.bind | apply Le.ite | apply Le.both | with_unfolding_all assumption | intro x
theorem m_42_st (k : Nat) (h_42l8 : ∀ v, Le (m_42l8 k v) (n_42l8 v)) (v : Tag × Unit) : Le (m_42 (k + 1) v) (n_42 v) := by
 rw [m_42, n_42]
 with_reducible repeat' first | exact Le.refl _ | exact Le.none _ | exact m_42l3_le _ _ | exact h_42l8 _ | apply Le.bind | apply Le.ite | apply Le.both | with_unfolding_all assumption | intro x
theorem m_42l8_all : ∀ k, (∀ v, Le (m_42l8 k v) (n_42l8 v)) ∧ (∀ v, Le (m_42 k v) (n_42 v))
 | 0 => ⟨fun _ => Le.none _, fun _ => Le.none _⟩
 | k + 1 => by
  have h := m_42l8_all k
  exact ⟨m_42l8_st k (h.2) (h.1), m_42_st k (h.1)⟩
theorem m_42_le (k : Nat) (v : Tag × Unit) : Le (m_42 k v) (n_42 v) := have h := m_42l8_all k; h.2 v
noncomputable def m_29 (k : Nat) (v : Tag × Unit) : Option (Int × Unit) :=
 m_42 k (v.1, ()) >>= fun x1 =>
 (if decide (x1.1.depth > (20 : Int)) = true then
    some ((true, v.1, ()))
   else if decide (x1.1.pieces > (500 : Int)) = true then
    some ((true, v.1, ()))
   else some ((decide (x1.1.bytes > (4096 : Int)), v.1, ()))) >>= fun x2 =>
 if x2.1 = true then
  some (((3 : Int), ()))
 else m_51 k (x2.2.1, ()) >>= fun x3 =>
 if (!x3.1) = true then
  some (((1 : Int), ()))
 else m_52 k (x2.2.1, ()) >>= fun x4 =>
 if x4.1 = true then
  some (((5 : Int), ()))
 else some (((0 : Int), ()))
theorem m_29_le (k : Nat) (v : Tag × Unit) : Le (m_29 k v) (n_29 v) := by
 unfold m_29 n_29
 with_reducible repeat' first | exact Le.refl _ | exact Le.none _ | exact m_42_le _ _ | exact m_52_le _ _ | exact m_51_le _ _ | apply Le.bind | apply Le.ite | apply Le.both | with_unfolding_all assumption | intro x
mutual
noncomputable def m_31s06c9l4 : Nat → (List Tag) × Int × Int × Int × Int × ByteArray × (List Tag) × Tag × (List Tag) × (List ByteArray) × Unit → Option ((Int × Int × ByteArray × (List Tag) × Tag × (List Tag) × (List ByteArray) × Unit))
 | 0, _ => none
 | k + 1, v =>
  if decide (v.2.2.1 < v.2.1) = true then
   if (0 : Int) ≤ v.2.2.1 then
    v.1[v.2.2.1.toNat]? >>= fun x1 =>
    m_31s06c9 k (x1, ()) >>= fun x2 =>
    if v.2.2.2.2.2.2.2.2.1.length + [Tag.mk x2.1 x2.2.1 x2.2.2.1 x2.2.2.2.1 x2.2.2.2.2.1].length ≤ (4294967296 : Nat) then
     m_31s06c9l4 k (v.1, v.2.1, i64.wrap (v.2.2.1 + (1 : Int)), v.2.2.2.1, v.2.2.2.2.1, v.2.2.2.2.2.1, v.2.2.2.2.2.2.1, v.2.2.2.2.2.2.2.1, v.2.2.2.2.2.2.2.2.1 ++ [Tag.mk x2.1 x2.2.1 x2.2.2.1 x2.2.2.2.1 x2.2.2.2.2.1], v.2.2.2.2.2.2.2.2.2.1, ())
    else none
   else none
  else some ((v.2.2.2.1, v.2.2.2.2.1, v.2.2.2.2.2.1, v.2.2.2.2.2.2.1, v.2.2.2.2.2.2.2.1, v.2.2.2.2.2.2.2.2.1, v.2.2.2.2.2.2.2.2.2.1, ()))
noncomputable def m_31s06c9 : Nat → Tag × Unit → Option (Int × Int × ByteArray × (List ByteArray) × (List Tag) × Unit)
 | 0, _ => none
 | k + 1, v =>
  n_53s5172 (v.1.names, ()) >>= fun x1 =>
  m_31s06c9l4 k (v.1.parts, (↑v.1.parts.length : Int), (0 : Int), v.1.kind, v.1.n, v.1.text, v.1.parts, Tag.mk (0 : Int) (0 : Int) (ByteArray.mk #[]) [] [], [], x1.1, ()) >>= fun x2 =>
  some ((x2.1, x2.2.1, x2.2.2.1, x2.2.2.2.2.2.2.1, x2.2.2.2.2.2.1, ()))
end
theorem m_31s06c9l4_st (k : Nat) (h_31s06c9 : ∀ v, Le (m_31s06c9 k v) (n_31s06c9 v)) (h_31s06c9l4 : ∀ v, Le (m_31s06c9l4 k v) (n_31s06c9l4 v)) (v : (List Tag) × Int × Int × Int × Int × ByteArray × (List Tag) × Tag × (List Tag) × (List ByteArray) × Unit) : Le (m_31s06c9l4 (k + 1) v) (n_31s06c9l4 v) := by
 rw [m_31s06c9l4, n_31s06c9l4]
 with_reducible repeat' first | exact Le.refl _ | exact Le.none _ | exact h_31s06c9 _ | exact h_31s06c9l4 _ | apply Le.bind | apply Le.ite | apply Le.both | with_unfolding_all assumption | intro x
theorem m_31s06c9_st (k : Nat) (h_31s06c9l4 : ∀ v, Le (m_31s06c9l4 k v) (n_31s06c9l4 v)) (v : Tag × Unit) : Le (m_31s06c9 (k + 1) v) (n_31s06c9 v) := by
 rw [m_31s06c9, n_31s06c9]
 with_reducible repeat' first | exact Le.refl _ | exact Le.none _ | exact h_31s06c9l4 _ | apply Le.bind | apply Le.ite | apply Le.both | with_unfolding_all assumption | intro x
theorem m_31s06c9l4_all : ∀ k, (∀ v, Le (m_31s06c9l4 k v) (n_31s06c9l4 v)) ∧ (∀ v, Le (m_31s06c9 k v) (n_31s06c9 v))
 | 0 => ⟨fun _ => Le.none _, fun _ => Le.none _⟩
 | k + 1 => by
  have h := m_31s06c9l4_all k
  exact ⟨m_31s06c9l4_st k (h.2) (h.1), m_31s06c9_st k (h.1)⟩
theorem m_31s06c9_le (k : Nat) (v : Tag × Unit) : Le (m_31s06c9 k v) (n_31s06c9 v) := have h := m_31s06c9l4_all k; h.2 v
noncomputable def m_58l2 : Nat → (List ByteArray) × ByteArray × Int × Int × Unit → Option (((Int × Unit) ⊕ (Unit)))
 | 0, _ => none
 | k + 1, v =>
  if decide (v.2.2.2.1 < v.2.2.1) = true then
   if (0 : Int) ≤ v.2.2.2.1 then
    v.1[v.2.2.2.1.toNat]? >>= fun x1 =>
    if (v.2.1.toList == x1.toList) = true then
     some (Sum.inl (v.2.2.2.1, ()))
    else m_58l2 k (v.1, v.2.1, v.2.2.1, i64.wrap (v.2.2.2.1 + (1 : Int)), ())
   else none
  else some (Sum.inr ())
theorem m_58l2_le : ∀ k v, Le (m_58l2 k v) (n_58l2 v)
 | 0, _ => Le.none _
 | k + 1, v => by
  rw [m_58l2, n_58l2]
  with_reducible repeat' first | exact Le.refl _ | exact Le.none _ | exact m_58l2_le _ _ | apply Le.bind | apply Le.ite | apply Le.both | with_unfolding_all assumption | intro x
noncomputable def m_58 (k : Nat) (v : (List ByteArray) × ByteArray × Unit) : Option (Int × Unit) :=
 m_58l2 k (v.1, v.2.1, (↑v.1.length : Int), (0 : Int), ()) >>= fun x1 => match x1 with
  | .inl y1 => some y1
  | .inr y1 => some (((-1 : Int), ()))
theorem m_58_le (k : Nat) (v : (List ByteArray) × ByteArray × Unit) : Le (m_58 k v) (n_58 v) := by
 unfold m_58 n_58
 with_reducible repeat' first | exact Le.refl _ | exact Le.none _ | exact m_58l2_le _ _ | apply Le.bind | apply Le.ite | apply Le.both | (rintro (x | x) <;> dsimp only) | with_unfolding_all assumption | intro x
noncomputable def m_39 (k : Nat) (v : Tag × ByteArray × Unit) : Option (Int × Unit) :=
 if (v.1.kind == (6 : Int)) = true then
  m_58 k (v.1.names, v.2.1, ()) >>= fun x1 =>
  some ((x1.1, ()))
 else n_59 (v.2.1, ()) >>= fun x1 =>
 (if (v.1.kind != (5 : Int)) = true then
    some ((x1.1, true, ()))
   else if x1.2.1 = true then
    some ((x1.1, true, ()))
   else if decide (x1.1 < (0 : Int)) = true then
    some ((x1.1, true, ()))
   else if decide (x1.1 > (↑v.1.parts.length : Int)) = true then
    some ((x1.1, true, ()))
   else n_60 (x1.1, ()) >>= fun x2 =>
   some ((x1.1, !x2.1.toList == v.2.1.toList, ()))) >>= fun x2 =>
 if x2.2.1 = true then
  some (((-1 : Int), ()))
 else some ((x2.1, ()))
theorem m_39_le (k : Nat) (v : Tag × ByteArray × Unit) : Le (m_39 k v) (n_39 v) := by
 unfold m_39 n_39
 with_reducible repeat' first | exact Le.refl _ | exact Le.none _ | exact m_58_le _ _ | apply Le.bind | apply Le.ite | apply Le.both | with_unfolding_all assumption | intro x
noncomputable def m_36l2 : Nat → (List ByteArray) × Int × Int × Tag × Tag × Unit → Option (((Bool × Tag × Unit) ⊕ (Tag × Tag × Unit)))
 | 0, _ => none
 | k + 1, v =>
  if decide (v.2.2.1 < v.2.1) = true then
   if (0 : Int) ≤ v.2.2.1 then
    v.1[v.2.2.1.toNat]? >>= fun x1 =>
    m_39 k (v.2.2.2.1, x1, ()) >>= fun x2 =>
    (if decide (x2.1 < (0 : Int)) = true then
       some ((x2.1, v.1, v.2.1, v.2.2.1, true, v.2.2.2.1, v.2.2.2.2.1, ()))
      else some ((x2.1, v.1, v.2.1, v.2.2.1, decide (x2.1 ≥ (↑v.2.2.2.1.parts.length : Int)), v.2.2.2.1, v.2.2.2.2.1, ()))) >>= fun x3 =>
    if x3.2.2.2.2.1 = true then
     some (Sum.inl (false, Tag.mk (0 : Int) (0 : Int) (ByteArray.mk #[]) [] [], ()))
    else if (0 : Int) ≤ x3.1 then
     x3.2.2.2.2.2.1.parts[x3.1.toNat]? >>= fun x4 =>
     m_36l2 k (x3.2.1, x3.2.2.1, i64.wrap (x3.2.2.2.1 + (1 : Int)), x4, x3.2.2.2.2.2.2.1, ())
    else none
   else none
  else some (Sum.inr (v.2.2.2.1, v.2.2.2.2.1, ()))
theorem m_36l2_le : ∀ k v, Le (m_36l2 k v) (n_36l2 v)
 | 0, _ => Le.none _
 | k + 1, v => by
  rw [m_36l2, n_36l2]
  with_reducible repeat' first | exact Le.refl _ | exact Le.none _ | exact m_39_le _ _ | exact m_36l2_le _ _ | apply Le.bind | apply Le.ite | apply Le.both | with_unfolding_all assumption | intro x
noncomputable def m_36 (k : Nat) (v : Tag × (List ByteArray) × Unit) : Option (Bool × Tag × Unit) :=
 m_36l2 k (v.2.1, (↑v.2.1.length : Int), (0 : Int), v.1, Tag.mk (0 : Int) (0 : Int) (ByteArray.mk #[]) [] [], ()) >>= fun x1 => match x1 with
  | .inl y1 => some y1
  | .inr y1 => some ((true, y1.1, ()))
theorem m_36_le (k : Nat) (v : Tag × (List ByteArray) × Unit) : Le (m_36 k v) (n_36 v) := by
 unfold m_36 n_36
 with_reducible repeat' first | exact Le.refl _ | exact Le.none _ | exact m_36l2_le _ _ | apply Le.bind | apply Le.ite | apply Le.both | (rintro (x | x) <;> dsimp only) | with_unfolding_all assumption | intro x
noncomputable def m_13 (k : Nat) (v : Tag × (List ByteArray) × Unit) : Option (Bool × Int × Tag × Unit) :=
 m_29 k (v.1, ()) >>= fun x1 =>
 if (x1.1 != (0 : Int)) = true then
  some ((false, x1.1, Tag.mk (0 : Int) (0 : Int) (ByteArray.mk #[]) [] [], ()))
 else m_36 k (v.1, v.2.1, ()) >>= fun x2 =>
 m_31s06c9 k (x2.2.1, ()) >>= fun x3 =>
 some ((x2.1, (0 : Int), Tag.mk x3.1 x3.2.1 x3.2.2.1 x3.2.2.2.1 x3.2.2.2.2.1, ()))
theorem m_13_le (k : Nat) (v : Tag × (List ByteArray) × Unit) : Le (m_13 k v) (n_13 v) := by
 unfold m_13 n_13
 with_reducible repeat' first | exact Le.refl _ | exact Le.none _ | exact m_31s06c9_le _ _ | exact m_29_le _ _ | exact m_36_le _ _ | apply Le.bind | apply Le.ite | apply Le.both | with_unfolding_all assumption | intro x
noncomputable def m_50s0e1dl0 : Nat → Reader × Unit → Option ((Reader × Unit))
 | 0, _ => none
 | k + 1, v =>
  m_74s5bd0 k (ByteArray.mk #[32, 10, 9, 13], v.1, ()) >>= fun x1 =>
  if x1.1 = true then
   m_50s0e1dl0 k (x1.2.1, ())
  else some ((x1.2.1, ()))
theorem m_50s0e1dl0_le : ∀ k v, Le (m_50s0e1dl0 k v) (n_50s0e1dl0 v)
 | 0, _ => Le.none _
 | k + 1, v => by
  rw [m_50s0e1dl0, n_50s0e1dl0]
  with_reducible repeat' first | exact Le.refl _ | exact Le.none _ | exact m_74s5bd0_le _ _ | exact m_50s0e1dl0_le _ _ | apply Le.bind | apply Le.ite | apply Le.both | with_unfolding_all assumption | intro x
noncomputable def m_50s0e1d (k : Nat) (v : Reader × Unit) : Option (Reader × Unit) :=
 m_50s0e1dl0 k (v.1, ()) >>= fun x1 =>
 some ((x1.1, ()))
theorem m_50s0e1d_le (k : Nat) (v : Reader × Unit) : Le (m_50s0e1d k v) (n_50s0e1d v) := by
 unfold m_50s0e1d n_50s0e1d
 with_reducible repeat' first | exact Le.refl _ | exact Le.none _ | exact m_50s0e1dl0_le _ _ | apply Le.bind | apply Le.ite | apply Le.both | with_unfolding_all assumption | intro x
noncomputable def m_69s5bd0l2 : Nat → ByteArray × Int × Int × Reader × Unit → Option (((Bool × Reader × Unit) ⊕ (Reader × Unit)))
 | 0, _ => none
 | k + 1, v =>
  if decide (v.2.2.1 < v.2.1) = true then
   if (0 : Int) ≤ v.2.2.1 ∧ v.2.2.1 ≤ i64.wrap (v.2.2.1 + (1 : Int)) ∧ i64.wrap (v.2.2.1 + (1 : Int)) ≤ (↑v.1.size : Int) then
    m_74s5bd0 k (v.1.extract v.2.2.1.toNat (i64.wrap (v.2.2.1 + (1 : Int))).toNat, v.2.2.2.1, ()) >>= fun x1 =>
    if (!x1.1) = true then
     some (Sum.inl (false, x1.2.1, ()))
    else m_69s5bd0l2 k (v.1, v.2.1, i64.wrap (v.2.2.1 + (1 : Int)), x1.2.1, ())
   else none
  else some (Sum.inr (v.2.2.2.1, ()))
theorem m_69s5bd0l2_le : ∀ k v, Le (m_69s5bd0l2 k v) (n_69s5bd0l2 v)
 | 0, _ => Le.none _
 | k + 1, v => by
  rw [m_69s5bd0l2, n_69s5bd0l2]
  with_reducible repeat' first | exact Le.refl _ | exact Le.none _ | exact m_74s5bd0_le _ _ | exact m_69s5bd0l2_le _ _ | apply Le.bind | apply Le.ite | apply Le.both | with_unfolding_all assumption | intro x
noncomputable def m_69s5bd0 (k : Nat) (v : ByteArray × Reader × Unit) : Option (Bool × Reader × Unit) :=
 m_69s5bd0l2 k (v.1, (↑v.1.size : Int), (0 : Int), v.2.1, ()) >>= fun x1 => match x1 with
  | .inl y1 => some y1
  | .inr y1 => some ((true, y1.1, ()))
theorem m_69s5bd0_le (k : Nat) (v : ByteArray × Reader × Unit) : Le (m_69s5bd0 k v) (n_69s5bd0 v) := by
 unfold m_69s5bd0 n_69s5bd0
 with_reducible repeat' first | exact Le.refl _ | exact Le.none _ | exact m_69s5bd0l2_le _ _ | apply Le.bind | apply Le.ite | apply Le.both | (rintro (x | x) <;> dsimp only) | with_unfolding_all assumption | intro x
noncomputable def m_70s0e1dl6 : Nat → Bool × Int × Reader × Tag × Unit → Option ((Bool × Int × Reader × Tag × Unit))
 | 0, _ => none
 | k + 1, v =>
  (n_68s0e1d (v.2.2.1, ()) >>= fun x1 =>
    if decide (x1.1 ≥ (48 : Int)) = true then
     n_68s0e1d (x1.2.1, ()) >>= fun x2 =>
     some ((v.1, v.2.1, decide (x2.1 ≤ (57 : Int)), x2.2.1, v.2.2.2.1, ()))
    else some ((v.1, v.2.1, false, x1.2.1, v.2.2.2.1, ()))) >>= fun x1 =>
  if x1.2.2.1 = true then
   n_68s0e1d (x1.2.2.2.1, ()) >>= fun x2 =>
   m_70s0e1dl6 k (x1.1, min (i64.wrap (i64.wrap ((10 : Int) * x1.2.1) + i64.wrap (IntKind.u8.wrap (x2.1 - (48 : Int))))) (576460752303423488 : Int), Reader.mk x2.2.1.s (i64.wrap (x2.2.1.at0 + (1 : Int))), x1.2.2.2.2.1, ())
  else some ((x1.1, x1.2.1, x1.2.2.2.1, x1.2.2.2.2.1, ()))
theorem m_70s0e1dl6_le : ∀ k v, Le (m_70s0e1dl6 k v) (n_70s0e1dl6 v)
 | 0, _ => Le.none _
 | k + 1, v => by
  rw [m_70s0e1dl6, n_70s0e1dl6]
  with_reducible repeat' first | exact Le.refl _ | exact Le.none _ | exact m_70s0e1dl6_le _ _ | apply Le.bind | apply Le.ite | apply Le.both | with_unfolding_all assumption | intro x
noncomputable def m_70s0e1d (k : Nat) (v : Reader × Unit) : Option (Bool × Reader × Tag × Unit) :=
 m_74s5bd0 k (ByteArray.mk #[45], v.1, ()) >>= fun x1 =>
 (m_74s5bd0 k (ByteArray.mk #[48], x1.2.1, ()) >>= fun x2 =>
   if x2.1 = true then
    some (Sum.inl (x1.1, (0 : Int), x2.2.1, Tag.mk (0 : Int) (0 : Int) (ByteArray.mk #[]) [] [], ()))
   else (n_68s0e1d (x2.2.1, ()) >>= fun x3 =>
    if decide (x3.1 ≥ (49 : Int)) = true then
     n_68s0e1d (x3.2.1, ()) >>= fun x4 =>
     some ((x1.1, (0 : Int), decide (x4.1 ≤ (57 : Int)), x4.2.1, Tag.mk (0 : Int) (0 : Int) (ByteArray.mk #[]) [] [], ()))
    else some ((x1.1, (0 : Int), false, x3.2.1, Tag.mk (0 : Int) (0 : Int) (ByteArray.mk #[]) [] [], ()))) >>= fun x3 =>
   if x3.2.2.1 = true then
    m_70s0e1dl6 k (x3.1, x3.2.1, x3.2.2.2.1, x3.2.2.2.2.1, ()) >>= fun x4 =>
    some (Sum.inl (x4.1, x4.2.1, x4.2.2.1, x4.2.2.2.1, ()))
   else some (Sum.inr (false, x3.2.2.2.1, Tag.mk (0 : Int) (0 : Int) (ByteArray.mk #[]) [] [], ()))) >>= fun x2 => match x2 with
   | .inl y2 => (if y2.1 = true then
      some ((i64.wrap ((0 : Int) - y2.2.1), y2.2.2.1, y2.2.2.2.1, ()))
     else some ((y2.2.1, y2.2.2.1, y2.2.2.2.1, ()))) >>= fun x3 =>
    some ((true, x3.2.1, Tag.mk (3 : Int) x3.1 (ByteArray.mk #[]) [] [], ()))
   | .inr y2 => some y2
theorem m_70s0e1d_le (k : Nat) (v : Reader × Unit) : Le (m_70s0e1d k v) (n_70s0e1d v) := by
 unfold m_70s0e1d n_70s0e1d
 with_reducible repeat' first | exact Le.refl _ | exact Le.none _ | exact m_70s0e1dl6_le _ _ | exact m_74s5bd0_le _ _ | apply Le.bind | apply Le.ite | apply Le.both | (rintro (x | x) <;> dsimp only) | with_unfolding_all assumption | intro x
noncomputable def m_97s0e1d (k : Nat) (v : Reader × Unit) : Option (Int × Bool × Reader × Unit) :=
 n_68s0e1d (v.1, ()) >>= fun x1 =>
 m_118 k (ByteArray.mk #[34, 92, 47, 98, 102, 110, 114, 116], x1.1, ()) >>= fun x2 =>
 (if decide (x1.2.1.at0 < (↑x1.2.1.s.size : Int)) = true then
    some ((x2.1, decide (x2.1 ≥ (0 : Int)), x1.2.1, ()))
   else some ((x2.1, false, x1.2.1, ()))) >>= fun x3 =>
 if x3.2.1 = true then
  if (0 : Int) ≤ x3.1 then
   (ByteArray.mk #[34, 92, 47, 8, 12, 10, 13, 9])[x3.1.toNat]? >>= fun x4 =>
   some ((i32.wrap (↑x4.toNat : Int), true, Reader.mk x3.2.2.1.s (i64.wrap (x3.2.2.1.at0 + (1 : Int))), ()))
  else none
 else m_74s5bd0 k (ByteArray.mk #[117], x3.2.2.1, ()) >>= fun x4 =>
 if (!x4.1) = true then
  some (((0 : Int), false, x4.2.1, ()))
 else m_119sadb0 k (ByteArray.mk #[48, 49, 50, 51, 52, 53, 54, 55, 56, 57, 97, 98, 99, 101, 102, 65, 66, 67, 69, 70], ByteArray.mk #[48, 49, 50, 51, 52, 53, 54, 55, 56, 57, 97, 98, 65, 66], x4.2.1, ()) >>= fun x5 =>
 (if (!x5.2.1) = true then
    some ((x5.1, x5.2.1, true, x5.2.2.1, ()))
   else if decide (x5.1 < (55296 : Int)) = true then
    some ((x5.1, x5.2.1, true, x5.2.2.1, ()))
   else some ((x5.1, x5.2.1, decide (x5.1 ≥ (56320 : Int)), x5.2.2.1, ()))) >>= fun x6 =>
 if x6.2.2.1 = true then
  some ((x6.1, x6.2.1, x6.2.2.2.1, ()))
 else m_69s5bd0 k (ByteArray.mk #[92, 117], x6.2.2.2.1, ()) >>= fun x7 =>
 if (!x7.1) = true then
  some (((0 : Int), false, x7.2.1, ()))
 else m_119sadb0 k (ByteArray.mk #[], ByteArray.mk #[99, 100, 101, 102, 67, 68, 69, 70], x7.2.1, ()) >>= fun x8 =>
 some ((i32.wrap (i32.wrap (i32.wrap ((65536 : Int) + Bs.ishl i32 (i32.wrap (x6.1 - (55296 : Int))) (10 : Int)) + x8.1) - (56320 : Int)), x8.2.1, x8.2.2.1, ()))
theorem m_97s0e1d_le (k : Nat) (v : Reader × Unit) : Le (m_97s0e1d k v) (n_97s0e1d v) := by
 unfold m_97s0e1d n_97s0e1d
 with_reducible repeat' first | exact Le.refl _ | exact Le.none _ | exact m_74s5bd0_le _ _ | exact m_118_le _ _ | exact m_69s5bd0_le _ _ | exact m_119sadb0_le _ _ | apply Le.bind | apply Le.ite | apply Le.both | with_unfolding_all assumption | intro x
noncomputable def m_98se46d (k : Nat) (v : Int × Bool × (List Int) × Unit) : Option (Int × Bool × (List Int) × Unit) :=
 n_120s8e4d (v.2.1, v.2.2.1, ()) >>= fun x1 =>
 m_121s43b2 k (v.1, x1.2.1, ()) >>= fun x2 =>
 some ((i64.wrap ((↑x2.1.length : Int) - (↑x1.2.1.length : Int)), x1.1, x2.1, ()))
theorem m_98se46d_le (k : Nat) (v : Int × Bool × (List Int) × Unit) : Le (m_98se46d k v) (n_98se46d v) := by
 unfold m_98se46d n_98se46d
 with_reducible repeat' first | exact Le.refl _ | exact Le.none _ | exact m_121s43b2_le _ _ | apply Le.bind | apply Le.ite | apply Le.both | with_unfolding_all assumption | intro x
noncomputable def m_99s0e1dl22 : Nat → Int × Int × Int × Int × Reader × Unit → Option (((Bool × Reader × Unit) ⊕ (Reader × Unit)))
 | 0, _ => none
 | k + 1, v =>
  if decide (v.2.2.2.1 < v.2.2.1) = true then
   n_122s07d3 (v.1, v.2.1, v.2.2.2.2.1, ()) >>= fun x1 =>
   if (!x1.1) = true then
    some (Sum.inl (false, x1.2.1, ()))
   else m_99s0e1dl22 k ((128 : Int), (191 : Int), v.2.2.1, i64.wrap (v.2.2.2.1 + (1 : Int)), x1.2.1, ())
  else some (Sum.inr (v.2.2.2.2.1, ()))
theorem m_99s0e1dl22_le : ∀ k v, Le (m_99s0e1dl22 k v) (n_99s0e1dl22 v)
 | 0, _ => Le.none _
 | k + 1, v => by
  rw [m_99s0e1dl22, n_99s0e1dl22]
  with_reducible repeat' first | exact Le.refl _ | exact Le.none _ | exact m_99s0e1dl22_le _ _ | apply Le.bind | apply Le.ite | apply Le.both | with_unfolding_all assumption | intro x
noncomputable def m_99s0e1d (k : Nat) (v : Reader × Unit) : Option (Bool × Reader × Unit) :=
 if (0 : Int) ≤ v.1.at0 then
  v.1.s[v.1.at0.toNat]? >>= fun x1 =>
  (if decide ((↑x1.toNat : Int) < (128 : Int)) = true then
     some (Sum.inl ((↑x1.toNat : Int), (128 : Int), (191 : Int), (0 : Int), v.1, ()))
    else (if decide ((↑x1.toNat : Int) < (194 : Int)) = true then
      some (((↑x1.toNat : Int), (128 : Int), (191 : Int), true, v.1, ()))
     else some (((↑x1.toNat : Int), (128 : Int), (191 : Int), decide ((↑x1.toNat : Int) > (244 : Int)), v.1, ()))) >>= fun x2 =>
    if x2.2.2.2.1 = true then
     some (Sum.inr (false, x2.2.2.2.2.1, ()))
    else if decide (x2.1 < (224 : Int)) = true then
     some (Sum.inl (x2.1, x2.2.1, x2.2.2.1, (1 : Int), x2.2.2.2.2.1, ()))
    else if decide (x2.1 < (240 : Int)) = true then
     some (Sum.inl (x2.1, x2.2.1, x2.2.2.1, (2 : Int), x2.2.2.2.2.1, ()))
    else some (Sum.inl (x2.1, x2.2.1, x2.2.2.1, (3 : Int), x2.2.2.2.2.1, ()))) >>= fun x2 => match x2 with
    | .inl y2 => (if (y2.1 == (224 : Int)) = true then
       some (((160 : Int), y2.2.2.1, y2.2.2.2.1, y2.2.2.2.2.1, ()))
      else if (y2.1 == (237 : Int)) = true then
       some ((y2.2.1, (159 : Int), y2.2.2.2.1, y2.2.2.2.2.1, ()))
      else if (y2.1 == (240 : Int)) = true then
       some (((144 : Int), y2.2.2.1, y2.2.2.2.1, y2.2.2.2.2.1, ()))
      else if (y2.1 == (244 : Int)) = true then
       some ((y2.2.1, (143 : Int), y2.2.2.2.1, y2.2.2.2.2.1, ()))
      else some ((y2.2.1, y2.2.2.1, y2.2.2.2.1, y2.2.2.2.2.1, ()))) >>= fun x3 =>
     m_99s0e1dl22 k (x3.1, x3.2.1, x3.2.2.1, (0 : Int), Reader.mk x3.2.2.2.1.s (i64.wrap (x3.2.2.2.1.at0 + (1 : Int))), ()) >>= fun x4 => match x4 with
      | .inl y4 => some y4
      | .inr y4 => some ((true, y4.1, ()))
    | .inr y2 => some y2
 else none
theorem m_99s0e1d_le (k : Nat) (v : Reader × Unit) : Le (m_99s0e1d k v) (n_99s0e1d v) := by
 unfold m_99s0e1d n_99s0e1d
 with_reducible repeat' first | exact Le.refl _ | exact Le.none _ | exact m_99s0e1dl22_le _ _ | apply Le.bind | apply Le.ite | apply Le.both | (rintro (x | x) <;> dsimp only) | with_unfolding_all assumption | intro x
noncomputable def m_71s0e1dl3 : Nat → Reader × Bool × (List Int) × Unit → Option ((ByteArray × Bool × Reader × Unit))
 | 0, _ => none
 | k + 1, v =>
  n_68s0e1d (v.1, ()) >>= fun x1 =>
  if (x1.1 == (34 : Int)) = true then
   n_96s8e4d (v.2.1, v.2.2.1, ()) >>= fun x2 =>
   some ((x2.1, true, Reader.mk x1.2.1.s (i64.wrap (x1.2.1.at0 + (1 : Int))), ()))
  else if decide (x1.1 < (32 : Int)) = true then
   some ((ByteArray.mk #[], false, x1.2.1, ()))
  else if (x1.1 == (92 : Int)) = true then
   m_97s0e1d k (Reader.mk x1.2.1.s (i64.wrap (x1.2.1.at0 + (1 : Int))), ()) >>= fun x2 =>
   if (!x2.2.1) = true then
    some ((ByteArray.mk #[], false, x2.2.2.1, ()))
   else m_98se46d k (x2.1, v.2.1, v.2.2.1, ()) >>= fun x3 =>
   m_71s0e1dl3 k (x2.2.2.1, x3.2.1, x3.2.2.1, ())
  else m_99s0e1d k (x1.2.1, ()) >>= fun x2 =>
  if (!x2.1) = true then
   some ((ByteArray.mk #[], false, x2.2.1, ()))
  else if (0 : Int) ≤ x1.2.1.at0 ∧ x1.2.1.at0 ≤ x2.2.1.at0 ∧ x2.2.1.at0 ≤ (↑x2.2.1.s.size : Int) then
   m_100s52d8 k (x2.2.1.s.extract x1.2.1.at0.toNat x2.2.1.at0.toNat, v.2.1, v.2.2.1, ()) >>= fun x3 =>
   m_71s0e1dl3 k (x2.2.1, x3.2.1, x3.2.2.1, ())
  else none
theorem m_71s0e1dl3_le : ∀ k v, Le (m_71s0e1dl3 k v) (n_71s0e1dl3 v)
 | 0, _ => Le.none _
 | k + 1, v => by
  rw [m_71s0e1dl3, n_71s0e1dl3]
  with_reducible repeat' first | exact Le.refl _ | exact Le.none _ | exact m_99s0e1d_le _ _ | exact m_100s52d8_le _ _ | exact m_97s0e1d_le _ _ | exact m_98se46d_le _ _ | exact m_71s0e1dl3_le _ _ | apply Le.bind | apply Le.ite | apply Le.both | with_unfolding_all assumption | intro x
noncomputable def m_71s0e1d (k : Nat) (v : Reader × Unit) : Option (ByteArray × Bool × Reader × Unit) :=
 some (v.1, false, [], ()) >>= fun x1 =>
 m_71s0e1dl3 k (Reader.mk x1.1.s (i64.wrap (x1.1.at0 + (1 : Int))), x1.2.1, x1.2.2.1, ()) >>= fun x2 =>
 some x2
theorem m_71s0e1d_le (k : Nat) (v : Reader × Unit) : Le (m_71s0e1d k v) (n_71s0e1d v) := by
 unfold m_71s0e1d n_71s0e1d
 with_reducible repeat' first | exact Le.refl _ | exact Le.none _ | exact m_71s0e1dl3_le _ _ | apply Le.bind | apply Le.ite | apply Le.both | with_unfolding_all assumption | intro x
mutual
noncomputable def m_49s0e1d : Nat → Reader × Unit → Option (Bool × Reader × Tag × Unit)
 | 0, _ => none
 | k + 1, v =>
  m_50s0e1d k (v.1, ()) >>= fun x1 =>
  n_68s0e1d (x1.1, ()) >>= fun x2 =>
  if (x2.1 == (110 : Int)) = true then
   m_69s5bd0 k (ByteArray.mk #[110, 117, 108, 108], x2.2.1, ()) >>= fun x3 =>
   some ((x3.1, x3.2.1, Tag.mk (0 : Int) (0 : Int) (ByteArray.mk #[]) [] [], ()))
  else if (x2.1 == (102 : Int)) = true then
   m_69s5bd0 k (ByteArray.mk #[102, 97, 108, 115, 101], x2.2.1, ()) >>= fun x3 =>
   some ((x3.1, x3.2.1, Tag.mk (1 : Int) (0 : Int) (ByteArray.mk #[]) [] [], ()))
  else if (x2.1 == (116 : Int)) = true then
   m_69s5bd0 k (ByteArray.mk #[116, 114, 117, 101], x2.2.1, ()) >>= fun x3 =>
   some ((x3.1, x3.2.1, Tag.mk (2 : Int) (0 : Int) (ByteArray.mk #[]) [] [], ()))
  else (if (x2.1 == (45 : Int)) = true then
    some ((x2.1, true, x2.2.1, Tag.mk (0 : Int) (0 : Int) (ByteArray.mk #[]) [] [], ()))
   else if decide (x2.1 ≥ (48 : Int)) = true then
    some ((x2.1, decide (x2.1 ≤ (57 : Int)), x2.2.1, Tag.mk (0 : Int) (0 : Int) (ByteArray.mk #[]) [] [], ()))
   else some ((x2.1, false, x2.2.1, Tag.mk (0 : Int) (0 : Int) (ByteArray.mk #[]) [] [], ()))) >>= fun x3 =>
  if x3.2.1 = true then
   m_70s0e1d k (x3.2.2.1, ()) >>= fun x4 =>
   some ((x4.1, x4.2.1, x4.2.2.1, ()))
  else if (x3.1 == (34 : Int)) = true then
   m_71s0e1d k (x3.2.2.1, ()) >>= fun x4 =>
   some ((x4.2.1, x4.2.2.1, Tag.mk (4 : Int) (0 : Int) x4.1 [] [], ()))
  else if (x3.1 == (91 : Int)) = true then
   m_72s0e1d k (x3.2.2.1, ()) >>= fun x4 =>
   some ((x4.1, x4.2.1, x4.2.2.1, ()))
  else if (x3.1 == (123 : Int)) = true then
   m_73s0e1d k (x3.2.2.1, ()) >>= fun x4 =>
   some ((x4.1, x4.2.1, x4.2.2.1, ()))
  else some ((false, x3.2.2.1, Tag.mk (0 : Int) (0 : Int) (ByteArray.mk #[]) [] [], ()))
noncomputable def m_73s0e1d : Nat → Reader × Unit → Option (Bool × Reader × Tag × Unit)
 | 0, _ => none
 | k + 1, v =>
  some (v.1, Tag.mk (0 : Int) (0 : Int) (ByteArray.mk #[]) [] [], (6 : Int), (0 : Int), ByteArray.mk #[], [], [], ()) >>= fun x1 =>
  m_50s0e1d k (Reader.mk x1.1.s (i64.wrap (x1.1.at0 + (1 : Int))), ()) >>= fun x2 =>
  m_74s5bd0 k (ByteArray.mk #[125], x2.1, ()) >>= fun x3 =>
  if x3.1 = true then
   some ((true, x3.2.1, Tag.mk x1.2.2.1 x1.2.2.2.1 x1.2.2.2.2.1 x1.2.2.2.2.2.1 x1.2.2.2.2.2.2.1, ()))
  else m_50s0e1d k (x3.2.1, ()) >>= fun x4 =>
  n_68s0e1d (x4.1, ()) >>= fun x5 =>
  if (x5.1 != (34 : Int)) = true then
   some ((false, x5.2.1, Tag.mk (0 : Int) (0 : Int) (ByteArray.mk #[]) [] [], ()))
  else m_71s0e1d k (x5.2.1, ()) >>= fun x6 =>
  if (!x6.2.1) = true then
   some ((false, x6.2.2.1, Tag.mk (0 : Int) (0 : Int) (ByteArray.mk #[]) [] [], ()))
  else m_50s0e1d k (x6.2.2.1, ()) >>= fun x7 =>
  m_74s5bd0 k (ByteArray.mk #[58], x7.1, ()) >>= fun x8 =>
  if (!x8.1) = true then
   some ((false, x8.2.1, Tag.mk (0 : Int) (0 : Int) (ByteArray.mk #[]) [] [], ()))
  else m_49s0e1d k (x8.2.1, ()) >>= fun x9 =>
  if (!x9.1) = true then
   some ((false, x9.2.1, Tag.mk (0 : Int) (0 : Int) (ByteArray.mk #[]) [] [], ()))
  else if x1.2.2.2.2.2.1.length + [x6.1].length ≤ (4294967296 : Nat) then
   if x1.2.2.2.2.2.2.1.length + [x9.2.2.1].length ≤ (4294967296 : Nat) then
    m_50s0e1d k (x9.2.1, ()) >>= fun x10 =>
    m_74s5bd0 k (ByteArray.mk #[44], x10.1, ()) >>= fun x11 =>
    if x11.1 = true then
     m_73s0e1dg1 k (x11.2.1, x1.2.1, x1.2.2.1, x1.2.2.2.1, x1.2.2.2.2.1, x1.2.2.2.2.2.1 ++ [x6.1], x1.2.2.2.2.2.2.1 ++ [x9.2.2.1], ()) >>= fun x12 =>
     some x12
    else m_74s5bd0 k (ByteArray.mk #[125], x11.2.1, ()) >>= fun x12 =>
    some ((x12.1, x12.2.1, Tag.mk x1.2.2.1 x1.2.2.2.1 x1.2.2.2.2.1 (x1.2.2.2.2.2.1 ++ [x6.1]) (x1.2.2.2.2.2.2.1 ++ [x9.2.2.1]), ()))
   else none
  else none
noncomputable def m_73s0e1dg1 : Nat → Reader × Tag × Int × Int × ByteArray × (List ByteArray) × (List Tag) × Unit → Option ((Bool × Reader × Tag × Unit))
 | 0, _ => none
 | k + 1, v =>
  m_50s0e1d k (v.1, ()) >>= fun x1 =>
  n_68s0e1d (x1.1, ()) >>= fun x2 =>
  if (x2.1 != (34 : Int)) = true then
   some ((false, x2.2.1, Tag.mk (0 : Int) (0 : Int) (ByteArray.mk #[]) [] [], ()))
  else m_71s0e1d k (x2.2.1, ()) >>= fun x3 =>
  if (!x3.2.1) = true then
   some ((false, x3.2.2.1, Tag.mk (0 : Int) (0 : Int) (ByteArray.mk #[]) [] [], ()))
  else m_50s0e1d k (x3.2.2.1, ()) >>= fun x4 =>
  m_74s5bd0 k (ByteArray.mk #[58], x4.1, ()) >>= fun x5 =>
  if (!x5.1) = true then
   some ((false, x5.2.1, Tag.mk (0 : Int) (0 : Int) (ByteArray.mk #[]) [] [], ()))
  else m_49s0e1d k (x5.2.1, ()) >>= fun x6 =>
  if (!x6.1) = true then
   some ((false, x6.2.1, Tag.mk (0 : Int) (0 : Int) (ByteArray.mk #[]) [] [], ()))
  else if v.2.2.2.2.2.1.length + [x3.1].length ≤ (4294967296 : Nat) then
   if v.2.2.2.2.2.2.1.length + [x6.2.2.1].length ≤ (4294967296 : Nat) then
    m_50s0e1d k (x6.2.1, ()) >>= fun x7 =>
    m_74s5bd0 k (ByteArray.mk #[44], x7.1, ()) >>= fun x8 =>
    if x8.1 = true then
     m_73s0e1dg1 k (x8.2.1, v.2.1, v.2.2.1, v.2.2.2.1, v.2.2.2.2.1, v.2.2.2.2.2.1 ++ [x3.1], v.2.2.2.2.2.2.1 ++ [x6.2.2.1], ())
    else m_74s5bd0 k (ByteArray.mk #[125], x8.2.1, ()) >>= fun x9 =>
    some ((x9.1, x9.2.1, Tag.mk v.2.2.1 v.2.2.2.1 v.2.2.2.2.1 (v.2.2.2.2.2.1 ++ [x3.1]) (v.2.2.2.2.2.2.1 ++ [x6.2.2.1]), ()))
   else none
  else none
noncomputable def m_72s0e1d : Nat → Reader × Unit → Option (Bool × Reader × Tag × Unit)
 | 0, _ => none
 | k + 1, v =>
  some (v.1, Tag.mk (0 : Int) (0 : Int) (ByteArray.mk #[]) [] [], (5 : Int), (0 : Int), ByteArray.mk #[], [], [], ()) >>= fun x1 =>
  m_50s0e1d k (Reader.mk x1.1.s (i64.wrap (x1.1.at0 + (1 : Int))), ()) >>= fun x2 =>
  m_74s5bd0 k (ByteArray.mk #[93], x2.1, ()) >>= fun x3 =>
  if x3.1 = true then
   some ((true, x3.2.1, Tag.mk x1.2.2.1 x1.2.2.2.1 x1.2.2.2.2.1 x1.2.2.2.2.2.1 x1.2.2.2.2.2.2.1, ()))
  else m_49s0e1d k (x3.2.1, ()) >>= fun x4 =>
  if (!x4.1) = true then
   some ((false, x4.2.1, Tag.mk (0 : Int) (0 : Int) (ByteArray.mk #[]) [] [], ()))
  else if x1.2.2.2.2.2.2.1.length + [x4.2.2.1].length ≤ (4294967296 : Nat) then
   m_50s0e1d k (x4.2.1, ()) >>= fun x5 =>
   m_74s5bd0 k (ByteArray.mk #[44], x5.1, ()) >>= fun x6 =>
   if x6.1 = true then
    m_72s0e1dg1 k (x6.2.1, x1.2.1, x1.2.2.1, x1.2.2.2.1, x1.2.2.2.2.1, x1.2.2.2.2.2.1, x1.2.2.2.2.2.2.1 ++ [x4.2.2.1], ()) >>= fun x7 =>
    some x7
   else m_74s5bd0 k (ByteArray.mk #[93], x6.2.1, ()) >>= fun x7 =>
   some ((x7.1, x7.2.1, Tag.mk x1.2.2.1 x1.2.2.2.1 x1.2.2.2.2.1 x1.2.2.2.2.2.1 (x1.2.2.2.2.2.2.1 ++ [x4.2.2.1]), ()))
  else none
noncomputable def m_72s0e1dg1 : Nat → Reader × Tag × Int × Int × ByteArray × (List ByteArray) × (List Tag) × Unit → Option ((Bool × Reader × Tag × Unit))
 | 0, _ => none
 | k + 1, v =>
  m_49s0e1d k (v.1, ()) >>= fun x1 =>
  if (!x1.1) = true then
   some ((false, x1.2.1, Tag.mk (0 : Int) (0 : Int) (ByteArray.mk #[]) [] [], ()))
  else if v.2.2.2.2.2.2.1.length + [x1.2.2.1].length ≤ (4294967296 : Nat) then
   m_50s0e1d k (x1.2.1, ()) >>= fun x2 =>
   m_74s5bd0 k (ByteArray.mk #[44], x2.1, ()) >>= fun x3 =>
   if x3.1 = true then
    m_72s0e1dg1 k (x3.2.1, v.2.1, v.2.2.1, v.2.2.2.1, v.2.2.2.2.1, v.2.2.2.2.2.1, v.2.2.2.2.2.2.1 ++ [x1.2.2.1], ())
   else m_74s5bd0 k (ByteArray.mk #[93], x3.2.1, ()) >>= fun x4 =>
   some ((x4.1, x4.2.1, Tag.mk v.2.2.1 v.2.2.2.1 v.2.2.2.2.1 v.2.2.2.2.2.1 (v.2.2.2.2.2.2.1 ++ [x1.2.2.1]), ()))
  else none
end
theorem m_49s0e1d_st (k : Nat) (h_72s0e1d : ∀ v, Le (m_72s0e1d k v) (n_72s0e1d v)) (h_73s0e1d : ∀ v, Le (m_73s0e1d k v) (n_73s0e1d v)) (v : Reader × Unit) : Le (m_49s0e1d (k + 1) v) (n_49s0e1d v) := by
 rw [m_49s0e1d, n_49s0e1d]
 with_reducible repeat' first | exact Le.refl _ | exact Le.none _ | exact m_70s0e1d_le _ _ | exact m_50s0e1d_le _ _ | exact m_71s0e1d_le _ _ | exact m_69s5bd0_le _ _ | exact h_72s0e1d _ | exact h_73s0e1d _ | apply Le.bind | apply Le.ite | apply Le.both | with_unfolding_all assumption | intro x
theorem m_73s0e1d_st (k : Nat) (h_49s0e1d : ∀ v, Le (m_49s0e1d k v) (n_49s0e1d v)) (h_73s0e1dg1 : ∀ v, Le (m_73s0e1dg1 k v) (n_73s0e1dg1 v)) (v : Reader × Unit) : Le (m_73s0e1d (k + 1) v) (n_73s0e1d v) := by
 rw [m_73s0e1d, n_73s0e1d]
 with_reducible repeat' first | exact Le.refl _ | exact Le.none _ | exact m_50s0e1d_le _ _ | exact m_74s5bd0_le _ _ | exact m_71s0e1d_le _ _ | exact h_49s0e1d _ | exact h_73s0e1dg1 _ | apply Le.bind | apply Le.ite | apply Le.both | with_unfolding_all assumption | intro x
theorem m_73s0e1dg1_st (k : Nat) (h_49s0e1d : ∀ v, Le (m_49s0e1d k v) (n_49s0e1d v)) (h_73s0e1dg1 : ∀ v, Le (m_73s0e1dg1 k v) (n_73s0e1dg1 v)) (v : Reader × Tag × Int × Int × ByteArray × (List ByteArray) × (List Tag) × Unit) : Le (m_73s0e1dg1 (k + 1) v) (n_73s0e1dg1 v) := by
 rw [m_73s0e1dg1, n_73s0e1dg1]
 with_reducible repeat' first | exact Le.refl _ | exact Le.none _ | exact m_50s0e1d_le _ _ | exact m_74s5bd0_le _ _ | exact m_71s0e1d_le _ _ | exact h_49s0e1d _ | exact h_73s0e1dg1 _ | apply Le.bind | apply Le.ite | apply Le.both | with_unfolding_all assumption | intro x
theorem m_72s0e1d_st (k : Nat) (h_49s0e1d : ∀ v, Le (m_49s0e1d k v) (n_49s0e1d v)) (h_72s0e1dg1 : ∀ v, Le (m_72s0e1dg1 k v) (n_72s0e1dg1 v)) (v : Reader × Unit) : Le (m_72s0e1d (k + 1) v) (n_72s0e1d v) := by
 rw [m_72s0e1d, n_72s0e1d]
 with_reducible repeat' first | exact Le.refl _ | exact Le.none _ | exact m_74s5bd0_le _ _ | exact m_50s0e1d_le _ _ | exact h_49s0e1d _ | exact h_72s0e1dg1 _ | apply Le.bind | apply Le.ite | apply Le.both | with_unfolding_all assumption | intro x
theorem m_72s0e1dg1_st (k : Nat) (h_49s0e1d : ∀ v, Le (m_49s0e1d k v) (n_49s0e1d v)) (h_72s0e1dg1 : ∀ v, Le (m_72s0e1dg1 k v) (n_72s0e1dg1 v)) (v : Reader × Tag × Int × Int × ByteArray × (List ByteArray) × (List Tag) × Unit) : Le (m_72s0e1dg1 (k + 1) v) (n_72s0e1dg1 v) := by
 rw [m_72s0e1dg1, n_72s0e1dg1]
 with_reducible repeat' first | exact Le.refl _ | exact Le.none _ | exact m_50s0e1d_le _ _ | exact m_74s5bd0_le _ _ | exact h_49s0e1d _ | exact h_72s0e1dg1 _ | apply Le.bind | apply Le.ite | apply Le.both | with_unfolding_all assumption | intro x
theorem m_49s0e1d_all : ∀ k, (∀ v, Le (m_49s0e1d k v) (n_49s0e1d v)) ∧ (∀ v, Le (m_73s0e1d k v) (n_73s0e1d v)) ∧ (∀ v, Le (m_73s0e1dg1 k v) (n_73s0e1dg1 v)) ∧ (∀ v, Le (m_72s0e1d k v) (n_72s0e1d v)) ∧ (∀ v, Le (m_72s0e1dg1 k v) (n_72s0e1dg1 v))
 | 0 => ⟨fun _ => Le.none _, fun _ => Le.none _, fun _ => Le.none _, fun _ => Le.none _, fun _ => Le.none _⟩
 | k + 1 => by
  have h := m_49s0e1d_all k
  exact ⟨m_49s0e1d_st k (h.2.2.2.1) (h.2.1), m_73s0e1d_st k (h.1) (h.2.2.1), m_73s0e1dg1_st k (h.1) (h.2.2.1), m_72s0e1d_st k (h.1) (h.2.2.2.2), m_72s0e1dg1_st k (h.1) (h.2.2.2.2)⟩
theorem m_49s0e1d_le (k : Nat) (v : Reader × Unit) : Le (m_49s0e1d k v) (n_49s0e1d v) := have h := m_49s0e1d_all k; h.1 v
noncomputable def m_28 (k : Nat) (v : ByteArray × Unit) : Option (Int × Int × Tag × Unit) :=
 if decide ((↑v.1.size : Int) > (65536 : Int)) = true then
  some (((0 : Int), (3 : Int), Tag.mk (0 : Int) (0 : Int) (ByteArray.mk #[]) [] [], ()))
 else m_49s0e1d k (Reader.mk v.1 (0 : Int), ()) >>= fun x1 =>
 (if x1.1 = true then
    m_50s0e1d k (x1.2.1, ()) >>= fun x2 =>
    some ((v.1, x1.1, Tag.mk (0 : Int) (0 : Int) (ByteArray.mk #[]) [] [], x2.1, x1.2.2.1, ()))
   else some ((v.1, x1.1, Tag.mk (0 : Int) (0 : Int) (ByteArray.mk #[]) [] [], x1.2.1, x1.2.2.1, ()))) >>= fun x2 =>
 (if (!x2.2.1) = true then
    some ((x2.1, true, x2.2.2.1, x2.2.2.2.1, x2.2.2.2.2.1, ()))
   else some ((x2.1, decide (x2.2.2.2.1.at0 < (↑x2.1.size : Int)), x2.2.2.1, x2.2.2.2.1, x2.2.2.2.2.1, ()))) >>= fun x3 =>
 if x3.2.1 = true then
  some ((x3.2.2.2.1.at0, (2 : Int), Tag.mk (0 : Int) (0 : Int) (ByteArray.mk #[]) [] [], ()))
 else m_29 k (x3.2.2.2.2.1, ()) >>= fun x4 =>
 if (x4.1 != (0 : Int)) = true then
  some (((0 : Int), x4.1, Tag.mk (0 : Int) (0 : Int) (ByteArray.mk #[]) [] [], ()))
 else some (((↑x3.1.size : Int), (0 : Int), x3.2.2.2.2.1, ()))
theorem m_28_le (k : Nat) (v : ByteArray × Unit) : Le (m_28 k v) (n_28 v) := by
 unfold m_28 n_28
 with_reducible repeat' first | exact Le.refl _ | exact Le.none _ | exact m_50s0e1d_le _ _ | exact m_29_le _ _ | exact m_49s0e1d_le _ _ | apply Le.bind | apply Le.ite | apply Le.both | with_unfolding_all assumption | intro x
noncomputable def m_9 (k : Nat) (v : Unit) : Option (Bool × Unit) :=
 m_28 k (ByteArray.mk #[123, 34, 97, 34, 58, 91, 49, 44, 50, 93, 125], ()) >>= fun x1 =>
 m_13 k (x1.2.2.1, [ByteArray.mk #[97], ByteArray.mk #[49]], ()) >>= fun x2 =>
 m_28 k (ByteArray.mk #[91, 49, 44, 93], ()) >>= fun x3 =>
 (if (x1.2.1 == (0 : Int)) = true then
    if (x1.1 == (11 : Int)) = true then
     if (x2.2.1 == (0 : Int)) = true then
      if x2.1 = true then
       if (x2.2.2.1.kind == (3 : Int)) = true then
        if (x2.2.2.1.n == (2 : Int)) = true then
         if (x3.2.1 == (2 : Int)) = true then
          some ((x3.1 == (3 : Int), ()))
         else some ((false, ()))
        else some ((false, ()))
       else some ((false, ()))
      else some ((false, ()))
     else some ((false, ()))
    else some ((false, ()))
   else some ((false, ()))) >>= fun x4 =>
 some ((x4.1, ()))
theorem m_9_le (k : Nat) (v : Unit) : Le (m_9 k v) (n_9 v) := by
 unfold m_9 n_9
 with_reducible repeat' first | exact Le.refl _ | exact Le.none _ | exact m_13_le _ _ | exact m_28_le _ _ | apply Le.bind | apply Le.ite | apply Le.both | with_unfolding_all assumption | intro x
end Go.Proofs.YtpndmanbfleadaaGreatDoor
end
section
namespace Go.Proofs.YtpndmanbfleadaaGreatDoor
set_option maxRecDepth 100000
theorem known_true : n_9 () = some (true, ()) := m_9_le 60 () _ (by kernel_rfl)
end Go.Proofs.YtpndmanbfleadaaGreatDoor
end
section
namespace Go.Proofs.YtpndmanbfleadaaGreatDoor
open Go.Awp Go.Tx
set_option maxRecDepth 20000
abbrev small : Nat := 4294967296
abbrev Tag.nil : Tag := Tag.mk 0 0 (ByteArray.mk #[]) [] []
theorem nil_fit (B : Nat) : Tag.nil.Fit B := .mk (Nat.zero_le _) (Nat.zero_le _) (fun s hs => by cases hs) (Nat.zero_le _) fun p hp => by cases hp
theorem small_big {t : Tag} (h : t.Fit small) : t.Fit big := Tag.Fit.mono (by decide) t h
theorem eta (t : Tag) : Tag.mk t.kind t.n t.text t.names t.parts = t := by cases t; rfl
theorem cpl (t : Tag) (ht : t.Fit small) (hp : ∀ p ∈ t.parts, n_31s06c9 (p, ()) = some (p.kind, p.n, p.text, p.names, p.parts, ())) (a b : Int) (c : ByteArray) (d : List Tag) (y : Tag) (e : List ByteArray) : ∀ (m k : Nat), t.parts.length - k = m →
  n_31s06c9l4 (t.parts, (t.parts.length : Int), (k : Int), a, b, c, d, y, t.parts.take k, e, ()) = some (a, b, c, d, y, t.parts, e, ()) := by
 intro m
 induction m with
 | zero =>
  intro k hk
  have hlt : ¬ k < t.parts.length := by omega
  rw [n_31s06c9l4, List.take_of_length_le (by omega)]
  simp only [sW, hlt]
 | succ m ih =>
  intro k hk
  have hlt : k < t.parts.length := by omega
  obtain ⟨p, hp1, hm, hd, g1, g2⟩ := at_lt hlt
  have h1 := ht.parts
  have e1 : (t.parts.take k).length + [p].length ≤ 4294967296 := by
   simp only [List.length_take, List.length_cons, List.length_nil]
   have : small = 4294967296 := rfl
   omega
  have e2 : t.parts.take k ++ [p] = t.parts.take (k + 1) := by rw [List.take_add_one, hp1]; rfl
  rw [n_31s06c9l4]
  simp only [sW, g1, g2, hlt, hp1, hp p hm, eta, e1, e2, wrap_succ hlt (small_big ht).parts]
  exact ih (k + 1) (by omega)
theorem cp : ∀ t : Tag, t.Fit small → n_31s06c9 (t, ()) = some (t.kind, t.n, t.text, t.names, t.parts, ()) := by
 refine Tag.ind fun t ih ht => ?_
 have h := cpl t ht (fun p hp => ih p hp (ht.part hp)) t.kind t.n t.text t.parts Tag.nil t.names _ 0 rfl
 simp only [Int.natCast_zero, Int.ofNat_eq_natCast, List.drop_zero, List.take_zero] at h
 rw [n_31s06c9]
 have e : n_53s5172 (t.names, ()) = some (t.names, ()) := by
  unfold n_53s5172
  rw [if_pos ht.names]
 simp only [e, sW]
 rw [h]
 rfl
theorem f77l (t : Tag) (ht : t.Fit big) (s : ByteArray) : ∀ (m k : Nat), t.names.length - k = m → ∃ o : Option Nat,
  n_58l2 (t.names, s, (t.names.length : Int), (k : Int), ()) = some (match o with | some i => .inl ((i : Int), ()) | none => .inr ()) ∧ n_56l7 (s, (k : Int), t, ()) = some (match o with | some i => .inl ((i : Int), ()) | none => .inr ()) ∧ (∀ i, o = some i → i < t.names.length) ∧ (o = none → s ∉ t.names.drop k) := by
 intro m
 induction m with
 | zero =>
  intro k hk
  have hlt : ¬ k < t.names.length := by omega
  rw [n_58l2, n_56l7]
  simp only [sW, hlt]
  exact ⟨.none, rfl, rfl, ⟨fun i h => (by cases h), fun _ => (by rw [(at_end hlt).1]; simp)⟩⟩
 | succ m ih =>
  intro k hk
  have hlt : k < t.names.length := by omega
  obtain ⟨p, hp1, hm, hd, g1, g2⟩ := at_lt hlt
  rw [n_58l2, n_56l7]
  simp only [sW, g1, g2, hlt, hp1, wrap_succ hlt ht.names]
  by_cases e : s = p
  ·subst e
   simp only [sW]
   exact ⟨some k, rfl, rfl, ⟨fun i h => (by cases h; exact hlt), fun h => (by cases h)⟩⟩
  ·have e1 : ¬ (s.toList = p.toList) := fun h => e (tl_eq.1 h)
   have e2 : ¬ (p.toList = s.toList) := fun h => e (tl_eq.1 h).symm
   simp only [e1, e2, sW]
   obtain ⟨o, o1, o2, o3, o4⟩ := ih (k + 1) (by omega)
   refine ⟨o, o1, o2, o3, fun h => ?_⟩
   rw [hd]
   simpa [e] using o4 h
theorem atoi_bnd {l : List UInt8} {n : Int} (h : Lib.atoiAll l = .ok n) : -9223372036854775808 ≤ n ∧ n ≤ 9223372036854775807 := by
 unfold Lib.atoiAll at h
 split at h
 ·cases h
 ·simp only [] at h
  split at h
  ·cases h
  ·cases h
  ·rename_i u hu
   split at h
   ·cases h
   ·split at h
    ·cases h
    ·cases h
     split <;> omega
theorem sat_cases (l : List UInt8) : Lib.atoiSat l = -9223372036854775808 ∨ Lib.atoiSat l = 9223372036854775807 := by
 unfold Lib.atoiSat
 split
 ·exact .inl rfl
 ·exact .inr rfl
theorem itoa_zero : Lib.itoa 0 = [48] := by
 unfold Lib.itoa
 rw [if_neg (by decide)]
 unfold Lib.decDigits
 rfl
theorem zero_ok : Lib.atoiAll [48] = .ok 0 := by kernel_rfl
theorem last_l (ns : List ByteArray) (s : ByteArray) (hs : s ∉ ns) (hl : ns.length + 1 ≤ big) : ∀ (m k : Nat), ns.length - k = m → k ≤ ns.length →
  n_58l2 (ns ++ [s], s, ((ns ++ [s]).length : Int), (k : Int), ()) = some (.inl ((ns.length : Int), ())) := by
 have hbig : big = 9223372036854775807 := rfl
 have hlen : (ns ++ [s]).length = ns.length + 1 := by simp
 intro m
 induction m with
 | zero =>
  intro k hk hle
  have hkl : k = ns.length := by omega
  subst hkl
  have hlt : ns.length < (ns ++ [s]).length := by omega
  obtain ⟨p, hp1, hm, hd, g1, g2⟩ := at_lt hlt
  have hp : p = s := by
   rw [List.getElem?_append_right (Nat.le_refl _)] at hp1
   simpa using hp1.symm
  subst hp
  rw [n_58l2]
  simp only [sW, g1, g2, hlt, hp1]
 | succ m ih =>
  intro k hk hle
  have hlt : k < (ns ++ [s]).length := by omega
  have hlt2 : k < ns.length := by omega
  obtain ⟨p, hp1, hm, hd, g1, g2⟩ := at_lt hlt
  obtain ⟨p2, hp2, hm2, _, _, _⟩ := at_lt hlt2
  have hpp : p = p2 := by
   rw [List.getElem?_append_left hlt2, hp2] at hp1
   exact (Option.some.inj hp1).symm
  subst hpp
  have e : ¬ s = p := fun e => hs (e ▸ hm2)
  have e1 : ¬ (s.toList = p.toList) := fun h => e (tl_eq.1 h)
  rw [n_58l2]
  simp only [sW, g1, g2, hlt, hp1, wrap_succ hlt (show (ns ++ [s]).length ≤ 9223372036854775807 by omega), e1]
  exact ih (k + 1) (by omega) (by omega)
theorem last (ns : List ByteArray) (s : ByteArray) (hs : s ∉ ns) (hl : ns.length + 1 ≤ big) : n_58 (ns ++ [s], s, ()) = some ((ns.length : Int), ()) := by
 have := last_l ns s hs hl _ 0 rfl (Nat.zero_le _)
 simp only [Int.natCast_zero, Int.ofNat_eq_natCast, List.drop_zero] at this
 unfold n_58
 simp only [this, sW]
theorem idx (s : ByteArray) (hs : s.size ≤ 5000) : ∃ (n : Int) (ok : Bool), n_57 (s, ()) = some (n, ok, ()) ∧ (ok = true → 0 ≤ n) ∧
  ∀ t : Tag, t.kind = 5 → t.parts.length < 9223372036854775807 → n_39 (t, s, ()) = some (if ok = true ∧ n ≤ (t.parts.length : Int) then n else -1, ()) := by
 have hsz : s.size ≤ 1000000000000 := by omega
 unfold n_57 n_39 n_59
 simp only [if_pos hsz]
 cases hq : Lib.atoiAll s.data.toList with
 | ok n =>
  obtain ⟨b1, b2⟩ := atoi_bnd hq
  have e79 : n_60 (n, ()) = some (⟨(Lib.itoa n).toArray⟩, ()) := by
   unfold n_60
   rw [if_pos ⟨b1, b2⟩]
  by_cases h0 : n < 0
  ·exact ⟨0, false, by simp [h0], by simp, fun t k5 _ => by simp [k5, h0]⟩
  ·by_cases e : Lib.itoa n = s.toList
   ·refine ⟨n, true, by simp [h0, e79, e], fun _ => by omega, fun t k5 _ => ?_⟩
    by_cases hl : n > (t.parts.length : Int)
    ·have : ¬ n ≤ (t.parts.length : Int) := by omega
     simp [k5, h0, hl, this]
    ·have : n ≤ (t.parts.length : Int) := by omega
     simp [k5, h0, hl, this, e79, e]
   ·refine ⟨0, false, by simp [h0, e79, e], by simp, fun t k5 _ => ?_⟩
    by_cases hl : n > (t.parts.length : Int)
    ·simp [k5, h0, hl]
    ·simp [k5, h0, hl, e79, e]
 | range =>
  rcases sat_cases s.data.toList with h | h
  ·exact ⟨0, false, by simp [h], by simp, fun t k5 _ => by simp [k5]⟩
  ·have e79 : n_60 (9223372036854775807, ()) = some (⟨(Lib.itoa 9223372036854775807).toArray⟩, ()) := by
    unfold n_60
    rw [if_pos ⟨by decide, by decide⟩]
   by_cases e : Lib.itoa 9223372036854775807 = s.toList
   ·refine ⟨9223372036854775807, true, by simp [h, e79, e], by simp, fun t k5 hl => ?_⟩
    have h3 : ¬ (9223372036854775807 : Int) ≤ (t.parts.length : Int) := by omega
    simp [k5, h3]
   ·exact ⟨0, false, by simp [h, e79, e], by simp, fun t k5 _ => by simp [k5]⟩
 | _ =>
  have e79 : n_60 (0, ()) = some (⟨(Lib.itoa 0).toArray⟩, ()) := by
   unfold n_60
   rw [if_pos ⟨by decide, by decide⟩]
  have e : ¬ Lib.itoa 0 = s.toList := by
   intro h
   rw [itoa_zero, ByteArray.toList_eq] at h
   rw [← h, zero_ok] at hq
   cases hq
  exact ⟨0, false, by simp [e79, e], by simp, fun t k5 _ => by simp [k5]⟩
theorem step (t : Tag) (ht : t.Fit big) (hl : t.parts.length < 9223372036854775807) (hr : t.Right) (s : ByteArray) (hs : s.size ≤ 5000) : ∃ c d : Int, n_39 (t, s, ()) = some (c, ()) ∧ n_56 (t, s, ()) = some (d, ()) ∧
  ((0 ≤ d ∧ c = d ∧ d < (t.parts.length : Int)) ∨ (d < 0 ∧ ((t.kind = 6 ∧ c < 0 ∧ s ∉ t.names) ∨ (t.kind = 5 ∧ ∃ n ok, n_57 (s, ()) = some (n, ok, ()) ∧ ((c < 0 ∧ (ok = false ∨ n ≠ (t.parts.length : Int))) ∨ (ok = true ∧ n = (t.parts.length : Int) ∧ c = n))) ∨ (t.kind ≠ 5 ∧ t.kind ≠ 6 ∧ c < 0)))) := by
 obtain ⟨o, o1, o2, o3, o4⟩ := f77l t ht s _ 0 rfl
 simp only [Int.natCast_zero, Int.ofNat_eq_natCast, List.drop_zero] at o1 o2 o4
 have hsz : s.size ≤ 1000000000000 := by omega
 by_cases k6 : t.kind = 6
 ·have hl := hr.len k6
  unfold n_39 n_56 n_58
  cases o with
  | none => exact ⟨-1, -1, by simp [k6, o1], by simp [k6, o2], .inr ⟨by omega, .inl ⟨k6, by omega, o4 rfl⟩⟩⟩
  | some i => exact ⟨i, i, by simp [k6, o1], by simp [k6, o2], .inl ⟨by omega, rfl, by have := o3 i rfl; omega⟩⟩
 by_cases k5 : t.kind = 5
 ·obtain ⟨n, ok, i1, i2, i3⟩ := idx s hs
  rw [i3 t k5 hl]
  unfold n_56
  simp only [k5, i1]
  cases ok with
  | false => exact ⟨-1, -1, by simp, by simp, .inr ⟨by omega, .inr (.inl ⟨trivial, n, false, rfl, .inl ⟨by omega, .inl rfl⟩⟩)⟩⟩
  | true =>
   have h0 := i2 rfl
   by_cases h1 : n < (t.parts.length : Int)
   ·exact ⟨n, n, by simp; omega, by simp [h1], .inl ⟨h0, rfl, h1⟩⟩
   ·by_cases h2 : n = (t.parts.length : Int)
    ·exact ⟨n, -1, by simp; omega, by simp [h1], .inr ⟨by omega, .inr (.inl ⟨trivial, n, true, rfl, .inr ⟨rfl, h2, rfl⟩⟩)⟩⟩
    ·exact ⟨-1, -1, by simp; omega, by simp [h1], .inr ⟨by omega, .inr (.inl ⟨trivial, n, true, rfl, .inl ⟨by omega, .inr h2⟩⟩)⟩⟩
 ·have hn := hr.none k6
  have e78 : ∃ x, n_59 (s, ()) = some x := by
   unfold n_59
   simp only [if_pos hsz]
   split <;> exact ⟨_, rfl⟩
  obtain ⟨x, hx⟩ := e78
  have o2' : n_56l7 (s, 0, t, ()) = some (.inr ()) := by
   cases o with
   | none => exact o2
   | some i => have := o3 i rfl; rw [hn] at this; simp at this
  unfold n_39 n_56
  exact ⟨-1, -1, by simp [k5, k6, hx], by simp [k5, k6, o2'], .inr ⟨by omega, .inr (.inr ⟨k5, k6, by omega⟩)⟩⟩
theorem f14l (path : List ByteArray) (hp : path.length ≤ big) : ∀ (m k : Nat), path.length - k = m → ∃ o : Bool,
  n_8l2 (path, (k : Int), ()) = some (if o = true then .inl (true, ()) else .inr (path, ())) ∧ (o = false → ∀ s ∈ path.drop k, s.size ≤ 5000) := by
 intro m
 induction m with
 | zero =>
  intro k hk
  have hlt : ¬ k < path.length := by omega
  rw [n_8l2]
  simp only [sW, hlt]
  exact ⟨false, by simp, fun _ s hs => by rw [(at_end hlt).1] at hs; cases hs⟩
 | succ m ih =>
  intro k hk
  have hlt : k < path.length := by omega
  obtain ⟨p, hp1, hm, hd, g1, g2⟩ := at_lt hlt
  rw [n_8l2]
  simp only [sW, g1, g2, hlt, hp1, wrap_succ hlt hp]
  by_cases e : (p.size : Int) > 5000
  ·exact ⟨true, by simp [e], fun h => by cases h⟩
  ·obtain ⟨o, o1, o2⟩ := ih (k + 1) (by omega)
   simp only [e, sW]
   refine ⟨o, o1, fun ho s hs => ?_⟩
   rw [hd] at hs
   rcases List.mem_cons.1 hs with rfl | hs
   ·omega
   ·exact o2 ho s hs
theorem f14 (path : List ByteArray) (hp : path.length ≤ big) : ∃ b, n_8 (path, ()) = some (b, ()) ∧ (b = false → ∀ s ∈ path, s.size ≤ 5000) := by
 obtain ⟨o, o1, o2⟩ := f14l path hp _ 0 rfl
 simp only [Int.natCast_zero, Int.ofNat_eq_natCast, List.drop_zero] at o1 o2
 unfold n_8
 cases o with
 | true => simp only [o1, sW]; exact ⟨_, rfl, fun h => by cases h⟩
 | false => simp only [o1, sW]; exact ⟨_, rfl, fun _ => o2 rfl⟩
end Go.Proofs.YtpndmanbfleadaaGreatDoor
end
section
namespace Go.Proofs.YtpndmanbfleadaaGreatDoor
open Go.Awp Go.Tx
set_option maxRecDepth 20000
def rem (x : Tag) (k : Nat) : Tag := Tag.mk x.kind x.n x.text (if x.kind = 6 then x.names.eraseIdx k else x.names) (x.parts.eraseIdx k)
def Put : Tag → List ByteArray → Tag → Tag → Prop
 | _, [], u, a => a = u
 | t, s :: r, u, a => ∃ (k : Nat) (q b : Tag), n_39 (t, s, ()) = some ((k : Int), ()) ∧ t.parts[k]? = some q ∧ Put q r u b ∧ a = Tag.mk t.kind t.n t.text t.names (t.parts.set k b)
def At2 : Tag → List ByteArray → Tag → Prop
 | x, [], u => x = u
 | x, s :: r, u => ∃ (k : Nat) (p : Tag), n_39 (x, s, ()) = some ((k : Int), ()) ∧ x.parts[k]? = some p ∧ At2 p r u
theorem cnt_set : ∀ {ps : List Tag} {k : Nat} {q b : Tag}, ps[k]? = some q → cntL (ps.set k b) + q.cnt = cntL ps + b.cnt
 | [], k, q, b, h => by simp at h
 | p :: ps, 0, q, b, h => by simp at h; subst h; simp only [List.set_cons_zero, cntL]; omega
 | p :: ps, k + 1, q, b, h => by
  have := cnt_set (ps := ps) (k := k) (q := q) (b := b) (by simpa using h)
  simp only [List.set_cons_succ, cntL]; omega
theorem byts_set : ∀ {ps : List Tag} {k : Nat} {q b : Tag}, ps[k]? = some q → bytsL (ps.set k b) + q.byts = bytsL ps + b.byts
 | [], k, q, b, h => by simp at h
 | p :: ps, 0, q, b, h => by simp at h; subst h; simp only [List.set_cons_zero, bytsL]; omega
 | p :: ps, k + 1, q, b, h => by
  have := byts_set (ps := ps) (k := k) (q := q) (b := b) (by simpa using h)
  simp only [List.set_cons_succ, bytsL]; omega
theorem dep_set : ∀ {ps : List Tag} {k : Nat} {q b : Tag}, ps[k]? = some q → b.dep ≤ q.dep → depL (ps.set k b) ≤ depL ps
 | [], k, q, b, h, _ => by simp at h
 | p :: ps, 0, q, b, h, hb => by simp at h; subst h; simp only [List.set_cons_zero, depL]; omega
 | p :: ps, k + 1, q, b, h, hb => by
  have := dep_set (ps := ps) (k := k) (q := q) (b := b) (by simpa using h) hb
  simp only [List.set_cons_succ, depL]; omega
theorem cnt_erase : ∀ {ps : List Tag} {k : Nat} {q : Tag}, ps[k]? = some q → cntL (ps.eraseIdx k) + q.cnt = cntL ps
 | [], k, q, h => by simp at h
 | p :: ps, 0, q, h => by simp at h; subst h; simp only [List.eraseIdx_cons_zero, cntL]; omega
 | p :: ps, k + 1, q, h => by
  have := cnt_erase (ps := ps) (k := k) (q := q) (by simpa using h)
  simp only [List.eraseIdx_cons_succ, cntL]; omega
theorem byts_erase : ∀ {ps : List Tag} {k : Nat} {q : Tag}, ps[k]? = some q → bytsL (ps.eraseIdx k) + q.byts = bytsL ps
 | [], k, q, h => by simp at h
 | p :: ps, 0, q, h => by simp at h; subst h; simp only [List.eraseIdx_cons_zero, bytsL]; omega
 | p :: ps, k + 1, q, h => by
  have := byts_erase (ps := ps) (k := k) (q := q) (by simpa using h)
  simp only [List.eraseIdx_cons_succ, bytsL]; omega
theorem dep_erase : ∀ {ps : List Tag} {k : Nat}, depL (ps.eraseIdx k) ≤ depL ps
 | [], k => by simp
 | p :: ps, 0 => by simp only [List.eraseIdx_cons_zero, depL]; omega
 | p :: ps, k + 1 => by
  have := dep_erase (ps := ps) (k := k)
  simp only [List.eraseIdx_cons_succ, depL]; omega
theorem size_erase : ∀ (ns : List ByteArray) (k : Nat), ((ns.eraseIdx k).map ByteArray.size).sum ≤ (ns.map ByteArray.size).sum
 | [], k => by simp
 | p :: ps, 0 => by simp
 | p :: ps, k + 1 => by
  have := size_erase ps k
  simp only [List.eraseIdx_cons_succ, List.map_cons, List.sum_cons]; omega
theorem cnt_pos (t : Tag) : 1 ≤ t.cnt := by rw [cnt_mk]; omega
structure Less (a t : Tag) : Prop where
 cnt : a.cnt < t.cnt
 byts : a.byts ≤ t.byts
 dep : a.dep ≤ t.dep
 good : Good t → Good a
 uniq : t.Uniq → a.Uniq
 fit : ∀ B, t.Fit B → a.Fit B
theorem Loc.congr {t : Tag} (L : Loc t) {ns : List ByteArray} {ps : List Tag} (hp : t.kind < 5 → ps = []) (hn : t.kind ≠ 6 → ns = []) (hl : t.kind = 6 → ns.length = ps.length) (hv : ∀ s ∈ ns, s ∈ t.names) : Loc (Tag.mk t.kind t.n t.text ns ps) :=
 ⟨L.k0, L.k6, L.n0, L.lo, L.hi, L.tx, hp, hl, hn, L.vt, fun s hs => L.vn s (hv s hs)⟩
theorem less_rem {x : Tag} {k : Nat} {q : Tag} (hq : x.parts[k]? = some q) (hr : x.kind = 6 → x.names.length = x.parts.length) : Less (rem x k) x := by
 have hk := (List.getElem?_eq_some_iff.1 hq).1
 have hnm : ∀ s ∈ (if x.kind = 6 then x.names.eraseIdx k else x.names), s ∈ x.names := fun s hs => by
  split at hs
  ·exact (List.eraseIdx_sublist _ _).subset hs
  ·exact hs
 have hpm : ∀ p ∈ x.parts.eraseIdx k, p ∈ x.parts := fun p hp => (List.eraseIdx_sublist _ _).subset hp
 have hnl : (if x.kind = 6 then x.names.eraseIdx k else x.names).length ≤ x.names.length := by
  split
  ·exact (List.eraseIdx_sublist _ _).length_le
  ·exact Nat.le_refl _
 refine ⟨?_, ?_, ?_, fun h => .mk (h.loc.congr (fun h5 => by rw [h.loc.pt h5]; rfl) (fun h6 => by rw [if_neg h6]; exact h.loc.nm h6) (fun h6 => ?_) hnm) fun p hp => h.part (hpm p hp), fun h => .mk ?_ fun p hp => h.part (hpm p hp), fun B h => .mk h.text (Nat.le_trans hnl h.names) (fun s hs => h.name (hnm s hs)) (Nat.le_trans (List.eraseIdx_sublist _ _).length_le h.parts) fun p hp => h.part (hpm p hp)⟩
 ·have := cnt_erase hq
  have := cnt_pos q
  rw [cnt_mk, cnt_mk x]
  show 1 + cntL (x.parts.eraseIdx k) < _
  omega
 ·have h1 := byts_erase hq
  have h2 := size_erase x.names k
  rw [byts_mk, byts_mk x]
  show x.text.size + ((if x.kind = 6 then x.names.eraseIdx k else x.names).map ByteArray.size).sum + bytsL (x.parts.eraseIdx k) ≤ _
  split <;> omega
 ·have h1 := dep_erase (ps := x.parts) (k := k)
  rw [dep_mk, dep_mk x]
  show depL (x.parts.eraseIdx k) + 1 ≤ _
  omega
 ·rw [if_pos h6, List.length_eraseIdx, List.length_eraseIdx, hr h6, if_pos hk]
 ·show (if x.kind = 6 then x.names.eraseIdx k else x.names).Nodup
  split
  ·exact (List.eraseIdx_sublist _ _).nodup h.nd
  ·exact h.nd
theorem less_set {t q b : Tag} {k : Nat} (hq : t.parts[k]? = some q) (h : Less b q) : Less (Tag.mk t.kind t.n t.text t.names (t.parts.set k b)) t := by
 have hk := (List.getElem?_eq_some_iff.1 hq).1
 have hqm := List.mem_of_getElem? hq
 have hpm : ∀ p ∈ t.parts.set k b, p ∈ t.parts ∨ p = b := fun p hp => List.mem_or_eq_of_mem_set hp
 refine ⟨?_, ?_, ?_, fun g => .mk (g.loc.congr (fun h5 => by rw [g.loc.pt h5] at hk; simp at hk) g.loc.nm (fun h6 => by rw [List.length_set]; exact g.loc.ln h6) fun s hs => hs) fun p hp => ?_, fun g => .mk g.nd fun p hp => ?_, fun B g => .mk g.text g.names (fun s hs => g.name hs) (by rw [show (Tag.mk t.kind t.n t.text t.names (t.parts.set k b)).parts = t.parts.set k b from rfl, List.length_set]; exact g.parts) fun p hp => ?_⟩
 ·have := cnt_set (b := b) hq
  have := h.cnt
  rw [cnt_mk, cnt_mk t]
  show 1 + cntL (t.parts.set k b) < _
  omega
 ·have := byts_set (b := b) hq
  have := h.byts
  rw [byts_mk, byts_mk t]
  show t.text.size + (t.names.map ByteArray.size).sum + bytsL (t.parts.set k b) ≤ _
  omega
 ·have := dep_set hq h.dep
  rw [dep_mk, dep_mk t]
  show depL (t.parts.set k b) + 1 ≤ _
  omega
 ·rcases hpm p hp with h1 | rfl
  ·exact g.part h1
  ·exact h.good (g.part hqm)
 ·rcases hpm p hp with h1 | rfl
  ·exact g.part h1
  ·exact h.uniq (g.part hqm)
 ·rcases hpm p hp with h1 | rfl
  ·exact g.part h1
  ·exact h.fit B (g.part hqm)
theorem less_put : ∀ {path : List ByteArray} {t x u a : Tag}, At2 t path x → Put t path u a → Less u x → Less a t
 | [], t, x, u, a, h, hp, hl => by
  have h : t = x := h
  have hp : a = u := hp
  subst h; subst hp; exact hl
 | s :: r, t, x, u, a, ⟨k, q, h1, h2, h3⟩, ⟨k', q', b, g1, g2, g3, g4⟩, hl => by
  rw [h1] at g1
  have : k = k' := by
   simp only [Option.some.injEq, Prod.mk.injEq, and_true] at g1
   omega
  subst this
  rw [h2] at g2; cases g2
  subst g4
  exact less_set h2 (less_put h3 g3 hl)
theorem at_right : ∀ {path : List ByteArray} {t x : Tag}, At2 t path x → (t.Right → x.Right) ∧ ∀ B, t.Fit B → x.Fit B
 | [], t, x, h => by
  have h : t = x := h
  subst h; exact ⟨id, fun _ => id⟩
 | s :: r, t, x, ⟨k, q, h1, h2, h3⟩ => by
  have hm := List.mem_of_getElem? h2
  exact ⟨fun h => (at_right h3).1 (h.part hm), fun B h => (at_right h3).2 B (h.part hm)⟩
end Go.Proofs.YtpndmanbfleadaaGreatDoor
end
section
namespace Go.Proofs.YtpndmanbfleadaaGreatDoor
open Go.Awp Go.Tx
set_option maxRecDepth 20000
theorem allS_some {α : Type} : ∀ l : List α, allS (l.map some) = some l
 | [] => rfl
 | x :: r => by simp [allS, allS_some r]
theorem allS_put {α : Type} (xs : List α) (k : Nat) (y : α) : allS (((xs.map some).set k none).set k (some y)) = some (xs.set k y) := by
 rw [List.set_set, ← List.map_set, allS_some]
theorem out_get {α : Type} (xs : List α) (k : Nat) (h : k < xs.length) : ((xs.map some).set k none)[k]? = some none := by
 rw [List.getElem?_set]
 simp [h]
theorem ty25 : Tryz.prog.types[(25 : Nat)].size = 5 := by kernel_rfl
theorem ty9 : Tryz.prog.types[(9 : Nat)].size = 1 := by kernel_rfl
theorem f40 (x : Tag) (hx : x.Fit small) (k : Nat) (hk : k < x.parts.length) (hn : x.kind = 6 → k < x.names.length) : n_40sf890 (x.kind, x.n, x.text, (k : Int), x.names, x.parts, ()) = some ((rem x k).kind, (rem x k).n, (rem x k).text, (rem x k).names, (rem x k).parts, ()) := by
 have hsm : small = 4294967296 := rfl
 have hp := hx.parts
 have hw : IntKind.i64.wrap ((k : Int) + 1) = (k : Int) + 1 := wrap64 (by omega) (by omega)
 unfold n_40sf890 n_61s434c n_62s58ed rem
 by_cases h6 : x.kind = 6
 ·have := hn h6
  simp [h6, hw, hk, this]
 ·simp [h6, hw, hk]
theorem put_at {B : Nat} (hB : B < small) (u : Tag) : ∀ (path : List ByteArray) (t x : Tag), t.Fit B → At2 t path x → ∃ a, Put t path u a ∧
  n_30se487 (t.kind, t.n, t.text, path, u.kind, u.n, u.text, t.names, t.parts, u.names, u.parts, ()) = some (true, a.kind, a.n, a.text, a.names, a.parts, ())
 | [], t, x, ht, h => by
  rw [n_30se487]
  exact ⟨u, rfl, by simp⟩
 | s :: r, t, x, ht, ⟨k, q, h1, h2, h3⟩ => by
  have hk := (List.getElem?_eq_some_iff.1 h2).1
  have hqm := List.mem_of_getElem? h2
  obtain ⟨b, b1, b2⟩ := put_at hB u r q x (ht.part hqm) h3
  have hz : ¬ (((s :: r).length : Int) = 0) := by simp only [List.length_cons]; omega
  have g1 : (1 : Int) ≤ ((s :: r).length : Int) := by simp only [List.length_cons]; omega
  have hdr : List.drop (Int.toNat (1 : Int)) (List.take ((s :: r).length : Int).toNat (s :: r)) = r := by
   have : ((s :: r).length : Int).toNat = (s :: r).length := Int.toNat_natCast _
   rw [this, List.take_length]; rfl
  have hdr2 : List.drop (Int.toNat (1 : Int)) (List.take (s :: r).length (s :: r)) = r := by rw [List.take_length]; rfl
  have h01 : (0 : Int) ≤ 1 := by decide
  have h0 : (s :: r)[Int.toNat (0 : Int)]? = some s := rfl
  have hd0 : (0 : Int) ≤ (k : Int) := by omega
  have hdl : (k : Int) < (t.parts.length : Int) := by omega
  have ho := out_get t.parts k hk
  have hol : ((t.parts.map some).set k none).length = t.parts.length := by simp
  refine ⟨Tag.mk t.kind t.n t.text t.names (t.parts.set k b), ⟨k, q, b, h1, h2, b1, rfl⟩, ?_⟩
  rw [n_30se487]
  simp only [beq_iff_eq, hz, h0, g1, hdr, hdr2, h01, eta, h1, h2, b2, ho, hol, allS_put, sW, hd0, hdl, hk, ge_iff_le, decide_true, and_self, Int.le_refl, and_true, true_and]
theorem find_l2 (path : List ByteArray) (hp : path.length ≤ big) (z : Tag) : ∀ (m k : Nat) (x : Tag), path.length - k = m → x.Fit small → x.Right → (∀ s ∈ path, s.size ≤ 5000) →
  (∃ u, At2 x (path.drop k) u ∧ n_36l2 (path, (path.length : Int), (k : Int), x, z, ()) = some (.inr (u, z, ()))) ∨
  ((¬ ∃ u, At2 x (path.drop k) u) ∧ n_36l2 (path, (path.length : Int), (k : Int), x, z, ()) = some (.inl (false, Tag.nil, ()))) := by
 intro m
 induction m with
 | zero =>
  intro k x hk hx hr hs
  have hlt : ¬ k < path.length := by omega
  refine .inl ⟨x, by rw [(at_end hlt).1]; rfl, ?_⟩
  rw [n_36l2]
  simp only [sW, hlt]
 | succ m ih =>
  intro k x hk hx hr hs
  have hlt : k < path.length := by omega
  obtain ⟨p, hp1, hm, hd, g1, g2⟩ := at_lt hlt
  have hxp := hx.parts
  have hkm : path.length - (k + 1) = m := by omega
  obtain ⟨c, d, hc, _, h⟩ := step x (small_big hx) (by have : small = 4294967296 := rfl; omega) hr p (hs p hm)
  rw [hd, n_36l2]
  simp only [sW, g1, g2, hlt, hp1, hc, wrap_succ hlt hp]
  by_cases hin : 0 ≤ c ∧ c < (x.parts.length : Int)
  ·obtain ⟨i, rfl⟩ : ∃ i : Nat, c = i := ⟨c.toNat, (Int.toNat_of_nonneg hin.1).symm⟩
   have hi : i < x.parts.length := by omega
   obtain ⟨q, hq, hqm, _⟩ := at_lt hi
   have hi0 : ¬ (i : Int) < 0 := by omega
   have hi1 : ¬ (i : Int) ≥ (x.parts.length : Int) := by omega
   simp only [hi0, hi1, hq, sW, decide_false, wrap_succ hlt hp]
   rcases ih (k + 1) q hkm (hx.part hqm) (hr.part hqm) hs with ⟨u, u1, u2⟩ | ⟨u1, u2⟩
   ·exact .inl ⟨u, ⟨i, q, hc, hq, u1⟩, u2⟩
   ·refine .inr ⟨fun ⟨u, k', q', e1, e2, e3⟩ => ?_, u2⟩
    rw [hc] at e1
    have : i = k' := by simp only [Option.some.injEq, Prod.mk.injEq, and_true] at e1; omega
    subst this
    rw [hq] at e2; cases e2
    exact u1 ⟨u, e3⟩
  ·refine .inr ⟨fun ⟨u, k', q', e1, e2, e3⟩ => ?_, ?_⟩
   ·rw [hc] at e1
    have hk' := (List.getElem?_eq_some_iff.1 e2).1
    have hck : c = ((k' : Nat) : Int) := by
     simp only [Option.some.injEq, Prod.mk.injEq, and_true] at e1
     exact e1
    clear e1 e3 ih
    subst hck
    exact hin ⟨Int.natCast_nonneg _, Int.ofNat_lt.2 hk'⟩
   ·by_cases h0 : c < 0
    ·simp [h0]
    ·have h1 : (x.parts.length : Int) ≤ c := by omega
     simp [h0, h1]
theorem f41 (s : ByteArray) (hs5 : s.size ≤ 5000) : ∀ (path : List ByteArray) (t : Tag), t.Fit small → t.Right → (∀ s ∈ path, s.size ≤ 5000) →
  (∃ x k a, At2 t path x ∧ n_39 (x, s, ()) = some (((k : Nat) : Int), ()) ∧ k < x.parts.length ∧ Put t path (rem x k) a ∧ n_41 (t, path ++ [s], ()) = some (true, a, ())) ∨
  ((∀ x, At2 t path x → ∃ c : Int, n_39 (x, s, ()) = some (c, ()) ∧ (c < 0 ∨ (x.parts.length : Int) ≤ c)) ∧ n_41 (t, path ++ [s], ()) = some (false, Tag.nil, ()))
 | [], t, ht, hr, hs => by
  have hsm : small = 4294967296 := rfl
  have hpl := ht.parts
  have hnl := ht.names
  obtain ⟨c, d, hc, hd, h⟩ := step t (small_big ht) (by omega) hr s hs5
  have hn1 : t.names.length ≤ 4294967296 := by omega
  have hp1 : t.parts.length ≤ 4294967296 := by omega
  rcases h with ⟨hd0, rfl, hdl⟩ | ⟨hd0, h⟩
  ·obtain ⟨k, rfl⟩ : ∃ k : Nat, c = k := ⟨c.toNat, (Int.toNat_of_nonneg hd0).symm⟩
   have hk : k < t.parts.length := by omega
   have hw : IntKind.i64.wrap ((k : Int) + 1) = (k : Int) + 1 := wrap64 (by omega) (by omega)
   have hw2 : ((k : Int) + 1).toNat = k + 1 := by omega
   refine .inl ⟨t, k, rem t k, rfl, hc, hk, rfl, ?_⟩
   rw [List.nil_append, n_41]
   have e1 : ¬ (k : Int) < 0 := by omega
   have e2 : 0 < t.parts.length := by omega
   have e3 : (k : Int) ≤ (t.parts.length : Int) := by omega
   have e4 : (0 : Int) ≤ (k : Int) + 1 := by omega
   have e5 : (k : Int) + 1 ≤ (t.parts.length : Int) := by omega
   have e6 : k ≤ k + 1 := by omega
   have e6' : (k : Int) ≤ max ((k : Int) + 1) 0 := by omega
   have e7 : k + 1 ≤ t.parts.length := by omega
   by_cases h6 : t.kind = 6
   ·have hl := hr.len h6
    have e8 : 0 < t.names.length := by omega
    have e9 : (k : Int) ≤ (t.names.length : Int) := by omega
    have e10 : (k : Int) + 1 ≤ (t.names.length : Int) := by omega
    have e11 : k + 1 ≤ t.names.length := by omega
    simp [hd, hn1, hp1, ty25, ty9, hw, hw2, e1, e2, e3, e4, e5, e6, e6', e7, e8, e9, e10, e11, h6, hk, rem, List.eraseIdx_eq_take_drop_succ]
    try omega
   ·simp [hd, hn1, hp1, ty25, ty9, hw, hw2, e1, e2, e3, e4, e5, e6, e6', e7, h6, hk, rem, List.eraseIdx_eq_take_drop_succ]
    try omega
  ·refine .inr ⟨fun x hx => ?_, ?_⟩
   ·have hx : t = x := hx
    subst hx
    refine ⟨c, hc, ?_⟩
    rcases h with ⟨_, h, _⟩ | ⟨_, n, ok, _, ⟨h, _⟩ | ⟨_, h1, h2⟩⟩ | ⟨_, _, h⟩ <;> omega
   ·rw [List.nil_append, n_41]
    simp [hd, hd0]
 | p :: r, t, ht, hr, hs => by
  have hsm : small = 4294967296 := rfl
  have hpl := ht.parts
  have hnl := ht.names
  obtain ⟨c, d, hc, hd, h⟩ := step t (small_big ht) (by omega) hr p (hs p List.mem_cons_self)
  have hn1 : t.names.length ≤ 4294967296 := by omega
  have hp1 : t.parts.length ≤ 4294967296 := by omega
  have hlen : (p :: r ++ [s]).length = r.length + 2 := by simp
  have hg1 : (((p :: r ++ [s]).length : Nat) : Int) > 1 := by rw [hlen]; omega
  have hg2 : (1 : Int) ≤ (((p :: r ++ [s]).length : Nat) : Int) := by omega
  have hdr2 : List.drop (Int.toNat (1 : Int)) (List.take (p :: r ++ [s]).length (p :: r ++ [s])) = r ++ [s] := by rw [List.take_length]; rfl
  have hdr : List.drop (Int.toNat (1 : Int)) (List.take (((p :: r ++ [s]).length : Nat) : Int).toNat (p :: r ++ [s])) = r ++ [s] := by rw [Int.toNat_natCast]; exact hdr2
  have h0 : (p :: r ++ [s])[Int.toNat (0 : Int)]? = some p := rfl
  have h01 : (0 : Int) ≤ 1 := by decide
  rcases h with ⟨hd0, rfl, hdl⟩ | ⟨hd0, h⟩
  ·obtain ⟨k, rfl⟩ : ∃ k : Nat, c = k := ⟨c.toNat, (Int.toNat_of_nonneg hd0).symm⟩
   have hk : k < t.parts.length := by omega
   have e1 : ¬ (k : Int) < 0 := by omega
   obtain ⟨q, hq, hqm, _⟩ := at_lt hk
   have hs' : ∀ s ∈ r, s.size ≤ 5000 := fun s h => hs s (List.mem_cons_of_mem _ h)
   rcases f41 s hs5 r q (ht.part hqm) (hr.part hqm) hs' with ⟨x, k', a, i1, i2, i3, i4, i5⟩ | ⟨i1, i2⟩
   ·refine .inl ⟨x, k', Tag.mk t.kind t.n t.text t.names (t.parts.set k a), ⟨k, q, hc, hq, i1⟩, i2, i3, ⟨k, q, a, hc, hq, i4, rfl⟩, ?_⟩
    rw [n_41]
    simp only [h0, hd, e1, hn1, hp1, hg1, hg2, hdr, hdr2, h01, hd0, hdl, hk, hq, i5, eta, sW, List.nil_append, Nat.zero_add, decide_true, and_self, Int.le_refl, and_true, true_and, Bool.not_true]
   ·refine .inr ⟨fun x ⟨k', q', g1, g2, g3⟩ => ?_, ?_⟩
    ·rw [hc] at g1
     have : k = k' := by simp only [Option.some.injEq, Prod.mk.injEq, and_true] at g1; omega
     subst this
     rw [hq] at g2; cases g2
     exact i1 x g3
    ·rw [n_41]
     simp only [h0, hd, e1, hn1, hp1, hg1, hg2, hdr, hdr2, h01, hd0, hdl, hk, hq, i2, eta, sW, List.nil_append, Nat.zero_add, decide_true, and_self, Int.le_refl, and_true, true_and, Bool.not_false]
  ·refine .inr ⟨fun x ⟨k', q', g1, g2, g3⟩ => ?_, ?_⟩
   ·exfalso
    rw [hc] at g1
    have hk' := (List.getElem?_eq_some_iff.1 g2).1
    have hck : c = ((k' : Nat) : Int) := by
     simp only [Option.some.injEq, Prod.mk.injEq, and_true] at g1
     exact g1
    subst hck
    rcases h with ⟨_, h, _⟩ | ⟨_, n, ok, _, ⟨h, _⟩ | ⟨_, h1, h2⟩⟩ | ⟨_, _, h⟩ <;> omega
   ·rw [n_41]
    simp only [h0, hd, hd0, sW]
theorem Put.det : ∀ {path : List ByteArray} {t u a b : Tag}, Put t path u a → Put t path u b → a = b
 | [], t, u, a, b, h, k => by
  have h : a = u := h
  have k : b = u := k
  rw [h, k]
 | s :: r, t, u, a, b, ⟨k, q, x, h1, h2, h3, h4⟩, ⟨k', q', x', g1, g2, g3, g4⟩ => by
  rw [h1] at g1
  have : k = k' := by simp only [Option.some.injEq, Prod.mk.injEq, and_true] at g1; omega
  subst this
  rw [h2] at g2; cases g2
  rw [h4, g4, Put.det h3 g3]
theorem At2.det : ∀ {path : List ByteArray} {t x y : Tag}, At2 t path x → At2 t path y → x = y
 | [], t, x, y, h, k => by
  have h : t = x := h
  have k : t = y := k
  rw [← h, ← k]
 | s :: r, t, x, y, ⟨k, q, h1, h2, h3⟩, ⟨k', q', g1, g2, g3⟩ => by
  rw [h1] at g1
  have : k = k' := by simp only [Option.some.injEq, Prod.mk.injEq, and_true] at g1; omega
  subst this
  rw [h2] at g2; cases g2
  exact At2.det h3 g3
theorem del_eq {B : Nat} (hB : B < small) (t : Tag) (path : List ByteArray) (ht : t.Fit B) (hp : path.length ≤ B) (hs : ∀ s ∈ path, s.size ≤ 5000) :
  ∃ (is : Bool) (e : Int) (x : Tag), n_16 (t, path, ()) = some (is, e, x, ()) ∧ n_17 (t, path, ()) = some (is, e, x, ()) ∧ x.Fit B ∧ (is = true → n_29 (t, ()) = some (0, ()) ∧ Less x t) := by
 have hsm : small = 4294967296 := rfl
 have hbig : big = 9223372036854775807 := rfl
 have hts : t.Fit small := Tag.Fit.mono (by omega) t ht
 obtain ⟨e1, a1, a2, a3⟩ := f29 t (small_big hts)
 unfold n_16 n_17
 by_cases h1 : e1 = 0
 ·subst h1
  have hr := a3 rfl
  rcases List.eq_nil_or_concat path with rfl | ⟨pre, s, rfl⟩
  ·exact ⟨false, 1, Tag.nil, by simp [a1], by simp [a2], nil_fit B, fun h => by cases h⟩
  ·rw [List.concat_eq_append] at hp hs ⊢
   have hlen : (pre ++ [s]).length = pre.length + 1 := by simp
   have hw : IntKind.i64.wrap (((pre ++ [s]).length : Int) - 1) = (pre.length : Int) := by rw [hlen, wrap64 (by omega) (by omega)]; omega
   have hz : ¬ (((pre ++ [s]).length : Nat) : Int) = 0 := by rw [hlen]; omega
   have hz2 : ¬ ((pre.length : Int) + 1 = 0) := by omega
   have hle : (pre.length : Int) ≤ (((pre ++ [s]).length : Nat) : Int) := by rw [hlen]; omega
   have htk : (pre ++ [s]).take pre.length = pre := by simp
   have hgt : (pre ++ [s])[pre.length]? = some s := by simp
   have hs5 : s.size ≤ 5000 := hs s (by simp)
   have hsp : ∀ s ∈ pre, s.size ≤ 5000 := fun s h => hs s (by simp [h])
   have hfind := find_l2 pre (by omega) Tag.nil _ 0 t rfl hts hr hsp
   simp only [Int.natCast_zero, Int.ofNat_eq_natCast, List.drop_zero] at hfind
   rcases f41 s hs5 pre t hts hr hsp with ⟨x, k, a, i1, i2, i3, i4, i5⟩ | ⟨i1, i2⟩
   ·rcases hfind with ⟨u, u1, u2⟩ | ⟨u1, u2⟩
    ·have := At2.det i1 u1
     subst this
     obtain ⟨r1, r2⟩ := at_right i1
     have hxs := r2 small hts
     have hxr := r1 hr
     obtain ⟨b, b1, b2⟩ := put_at hB (rem x k) pre t x ht i1
     have hba := Put.det b1 i4
     subst hba
     have hk0 : ¬ (k : Int) < 0 := by omega
     have hk1 : ¬ (k : Int) ≥ (x.parts.length : Int) := by omega
     have hk2 : ¬ (x.parts.length : Int) ≤ (k : Int) := by omega
     have h40 := f40 x hxs k i3 (fun h6 => by rw [hxr.len h6]; exact i3)
     have hl : Less (rem x k) x := less_rem (List.getElem?_eq_getElem i3) hxr.len
     have hl2 := less_put i1 i4 hl
     refine ⟨true, 0, b, ?_, by simp [a2, i5, hz2], hl2.fit B ht, fun _ => ⟨a1, hl2⟩⟩
     simp only [a1, hw, hz, hle, htk, hgt, n_36, u2, i2, hk0, hk1, h40, b2, cp t hts, cp x hxs, eta, sW, bne_iff_ne, ne_eq, not_true_eq_false, beq_iff_eq, decide_false, Int.le_refl, and_self, true_and, and_true, Bool.not_true]
    ·exact (u1 ⟨x, i1⟩).elim
   ·refine ⟨false, 0, Tag.nil, ?_, by simp [a2, i2, hz2], nil_fit B, fun h => by cases h⟩
    rcases hfind with ⟨u, u1, u2⟩ | ⟨u1, u2⟩
    ·obtain ⟨c, hc, hc2⟩ := i1 u u1
     simp only [a1, hw, hz, hle, htk, hgt, n_36, u2, hc, sW, bne_iff_ne, ne_eq, not_true_eq_false, beq_iff_eq, Int.le_refl, and_self, true_and, and_true, Bool.not_true]
     by_cases h0 : c < 0
     ·simp [h0]
     ·have : (u.parts.length : Int) ≤ c := by omega
      simp [h0, this]
    ·simp only [a1, hw, hz, hle, htk, hgt, n_36, u2, sW, bne_iff_ne, ne_eq, not_true_eq_false, beq_iff_eq, Int.le_refl, and_self, true_and, and_true, Bool.not_false]
 ·exact ⟨false, e1, Tag.nil, by simp [a1, h1], by simp [a2, h1], nil_fit B, fun h => by cases h⟩
theorem same26 (a : List ByteArray) (ha : a.length ≤ big) : n_26 (a, a, ()) = some (true, ()) := by
 have go : ∀ (m k : Nat), a.length - k = m → n_26l4 (a, a, (k : Int), ()) = some (.inr ()) := by
  intro m
  induction m with
  | zero =>
   intro k hk
   have hlt : ¬ k < a.length := by omega
   rw [n_26l4]
   simp only [sW, hlt]
  | succ m ih =>
   intro k hk
   have hlt : k < a.length := by omega
   obtain ⟨p, hp1, hm, hd, g1, g2⟩ := at_lt hlt
   rw [n_26l4]
   simp [hlt, hp1, wrap_succ hlt ha]
   exact_mod_cast ih (k + 1) (by omega)
 have := go _ 0 rfl
 simp only [Int.natCast_zero, Int.ofNat_eq_natCast, List.drop_zero] at this
 unfold n_26
 simp [this]
theorem same : ∀ a : Tag, a.Fit big → n_12 (a, a, ()) = some (true, ()) := by
 refine Tag.ind fun a ih ha => ?_
 have go : ∀ (m k : Nat), a.parts.length - k = m → n_12l4 ((k : Int), a, a, ()) = some (.inr ()) := by
  intro m
  induction m with
  | zero =>
   intro k hk
   have hlt : ¬ k < a.parts.length := by omega
   rw [n_12l4]
   simp only [sW, hlt]
  | succ m ih2 =>
   intro k hk
   have hlt : k < a.parts.length := by omega
   obtain ⟨p, hp1, hm, hd, g1, g2⟩ := at_lt hlt
   rw [n_12l4]
   simp only [sW, g1, g2, hlt, hp1, ih p hm (ha.part hm), wrap_succ hlt ha.parts, Bool.not_true]
   exact ih2 (k + 1) (by omega)
 have := go _ 0 rfl
 simp only [Int.natCast_zero, Int.ofNat_eq_natCast, List.drop_zero] at this
 rw [n_12]
 simp [same26 a.names ha.names, this]
theorem f18 (t : Tag) (ht : t.Fit big) : ∃ x, n_18 (t, ()) = some x := by
 obtain ⟨e, e1, _, _⟩ := f29 t ht
 obtain ⟨a, d, s, _, c2⟩ := f58 t ht
 unfold n_18
 by_cases h : e = 0
 ·simp [e1, h, c2]
 ·simp [e1, h]
theorem law5 {B : Nat} (hB : B < small) (t : Tag) (path : List ByteArray) (ht : t.Fit B) (hb : t.bulk ≤ half) (hp : path.length ≤ B) : n_5 (t, path, ()) = some (true, ()) := by
 have hsm : small = 4294967296 := rfl
 have hhf : half = 4611686018427387904 := rfl
 have hbig : big = 9223372036854775807 := rfl
 have hts : t.Fit small := Tag.Fit.mono (by omega) t ht
 have hth : t.Fit half := Tag.Fit.mono (by omega) t ht
 obtain ⟨x1, hx1⟩ := f13 t (small_big hts).wf
 obtain ⟨y, hy, hs5⟩ := f14 path (by omega)
 unfold n_5
 cases x1 with
 | true => simp [hx1, known_true]
 | false =>
  cases y with
  | true => simp [hx1, hy, known_true]
  | false =>
   obtain ⟨is, e, x, i1, i2, i3, i4⟩ := del_eq hB t path ht hp (hs5 rfl)
   have hxb : x.Fit big := Tag.Fit.mono (by omega) x i3
   have hxh : x.Fit half := Tag.Fit.mono (by omega) x i3
   obtain ⟨z1, hz1⟩ := f18 x hxb
   obtain ⟨z2, hz2⟩ := f18 t (small_big hts)
   cases is with
   | false => simp [hx1, hy, known_true, i1, i2, same x hxb, hz1, hz2]
   | true =>
    obtain ⟨v0, L⟩ := i4 rfl
    obtain ⟨g1, g2, g3, g4⟩ := f29x t hth hb v0
    have hu := uniq_valid t (small_big hts) v0
    have hbx : x.bulk ≤ half := by rw [bulk_eq] at hb ⊢; have := L.cnt; have := L.byts; omega
    have v1 := valid_of x hxh hbx (L.good g1) (L.uniq hu) (Nat.le_trans L.dep g2) (by have := L.cnt; omega) (Nat.le_trans L.byts g4)
    have c1 : n_18 (x, ()) = some ((x.cnt : Int), 0, ()) := by
     unfold n_18
     simp [v1, f58x x hxh hbx]
    have c2 : n_18 (t, ()) = some ((t.cnt : Int), 0, ()) := by
     unfold n_18
     simp [v0, f58x t hth hb]
    have hlt := L.cnt
    simp [hx1, hy, known_true, i1, i2, same x hxb, c1, c2, hlt]
theorem jsonDeletes_true (t : Tag) (path : List ByteArray) (h0 : Ok vw (.st .tagT) t) (h1 : Ok vw (.sl .str) path) (m0 : Nat) (b0 : Bk vw (.st .tagT) t m0) (m1 : Nat) (b1 : Bk vw (.sl .str) path m1) (hm : m0 + m1 ≤ 1048576) :
  n_5 (t, path, ()) = some (true, ()) :=
 law5 (B := 1048576) (by decide) t path (fit_of_bk t m0 (by omega) b0) (Nat.le_trans (bulk_bk t m0 b0) (Nat.le_trans (show m0 ≤ 1048576 by omega) (by decide))) (by have := (bk_sl b1).1; omega)
end Go.Proofs.YtpndmanbfleadaaGreatDoor
end
section
namespace Go.Proofs.YtpndmanbfleadaaGreatDoor.jsonDeletes
open Go.ChangeShapes Go.WideShapes Go.ChangeAt Go.RowKit Go.Awp Go.Tx
open Go.Proofs.Tryz (prog)
theorem laidOut : laidOutB prog = true := by kernel_rfl
theorem own : ownKnob prog.godebug = none := by kernel_rfl
theorem contract (x0 : Tag) (x1 : (List ByteArray)) (h0 : Ok vw (.st .tagT) x0) (h1 : Ok vw (.sl .str) x1) (m0 : Nat) (b0 : Bk vw (.st .tagT) x0 m0) (m1 : Nat) (b1 : Bk vw (.sl .str) x1 m1) (hm : m0 + m1 ≤ 1048576) : FnOk prog 5 [.d (encD szN encN (.st .tagT) x0), .d (encD szN encN (.sl .str) x1)] [] (.d (.v (.bool true))) [] :=
 kcast (by kernel_rfl) (n_5_ok (x0, x1, ()) (true, ()) (.lf .bool true) (jsonDeletes_true x0 x1 h0 h1 m0 b0 m1 b1 hm) rfl)
noncomputable def w0 (os : Os) : World := World.laidAll prog os Rows.jsonDeletesUptoRow.laid
theorem laid_met (os : Os) : laidMetH prog Rows.jsonDeletesUptoRow.laid ((w0 os).forCall (fun _ _ => 0) ⟨#[], #[.agg #[.int .i64 0, .int .i64 0, .string ByteArray.empty, .slice none 0 0, .slice none 0 0], .slice none 0 0], []⟩).memory := by
 rw [MakeChecks.laidMetH_plain _ _ _ (by kernel_rfl)]; exact laidMet_laidAll _ (by kernel_rfl) (by kernel_rfl)
set_option maxRecDepth 100000 in
theorem reads (os : Os) {H : Type} (enc : TypeId × Value → H) : DataW.whole enc prog ((w0 os).forCall (fun _ _ => 0) ⟨#[], #[.agg #[.int .i64 0, .int .i64 0, .string ByteArray.empty, .slice none 0 0, .slice none 0 0], .slice none 0 0], []⟩).memory Tryz.f5.params.toList Rows.jsonDeletesSpec.vars false #[.agg #[.int .i64 0, .int .i64 0, .string ByteArray.empty, .slice none 0 0, .slice none 0 0], .slice none 0 0].toList 8 = some ([.agg [.lit (.int .i64 0), .lit (.int .i64 0), .lit (.string []), .nil, .nil], .nil], [], []) := by kernel_rfl
set_option maxRecDepth 100000 in
theorem lifted (os : Os) (started : os.Started) (H : Type) (enc : TypeId × Value → H) (F : Stop.Interp) :
  ReturnsInHanded {} Tryz.checked os 5 .any ((Rows.OpenSpec.upto Rows.jsonDeletesSpec).preRow enc prog Tryz.f5 Rows.jsonDeletesUptoRow.domain false Rows.jsonDeletesUptoRow.laid) (((Rows.OpenSpec.upto Rows.jsonDeletesSpec).at F).post enc prog Tryz.f5 false true false false) := by
 have hok : Input.okWideB prog ((w0 os).forCall (fun _ _ => 0) ⟨#[], #[.agg #[.int .i64 0, .int .i64 0, .string ByteArray.empty, .slice none 0 0, .slice none 0 0], .slice none 0 0], []⟩) 5 ⟨#[], #[.agg #[.int .i64 0, .int .i64 0, .string ByteArray.empty, .slice none 0 0, .slice none 0 0], .slice none 0 0], []⟩ = true := by kernel_rfl
 refine returnsInHanded_of_row (C := Tryz.checked) (s := (Rows.OpenSpec.upto Rows.jsonDeletesSpec)) own started (by kernel_rfl) Tryz.func5
  ⟨w0 os, fun _ _ => 0, ⟨#[], #[.agg #[.int .i64 0, .int .i64 0, .string ByteArray.empty, .slice none 0 0, .slice none 0 0], .slice none 0 0], []⟩, World.laidAll_os _ _ _, World.shaped_of_ZipB (by kernel_rfl) (by kernel_rfl), (Input.okWide_of_okWideB (base := 0) hok).1, (Input.okWide_of_okWideB hok).2,
   OpenSpec.preRow_of_cond 8 (reads os enc) (by kernel_rfl) (fun k hk => by cases hk; kernel_rfl) (by kernel_rfl) (laid_met os),
   by simp only [Assume.holds]; exact ⟨by simp, by simp, fun _ => Modest.zero, by simp, by simp⟩⟩ ?_
 intro W base args ds gs before hval0 hW _ hcond _ hL _ _
 have hval : ∀ (j : Nat) t v, Tryz.f5.params[j]? = some t → args[j]? = some v → Value.okWide prog W .any base t v := hval0
 have hW' := hW
 obtain ⟨p, q, hA0, hV, rfl, hfz, hnd⟩ := hW'
 have hA : DataW.TrodAll enc prog W 0 (fun _ => true) true Tryz.f5.params.toList args.toList ds p := hA0
 rw [Tryz.params5] at hA hval
 obtain ⟨v0, vs0, d0, ds0, p0, q0, ha0, rfl, rfl, h0, r0⟩ := trodAll_cons hA
 obtain ⟨v1, vs1, d1, ds1, p1, q1, ha1, rfl, rfl, h1, r1⟩ := trodAll_cons r0
 subst ha1
 obtain ⟨rfl, rfl, rfl⟩ := trodAll_nil r1
 obtain rfl : args = #[v0, v1] := by cases args; simp_all
 obtain ⟨rfl, rfl⟩ := trodVars_none hV
 have hk : Rows.uptoBulkAll ([d0, d1] ++ []) ≤ 1048576 := of_decide_eq_true (hcond _ rfl)
 have hlt0 : ∀ x ∈ p0, x.block < W.heap.size := fun x hx => by simpa using hW.lt x (by simp [hx])
 have hd0 := dbulk_le d0
 have hlt1 : ∀ x ∈ p1, x.block < W.heap.size := fun x hx => by simpa using hW.lt x (by simp [hx])
 have hd1 := dbulk_le d1
 obtain ⟨x0, ok0, hr0, hb0⟩ := open_valB facts (τ := (.st .tagT)) rfl (hval 0 25 v0 rfl rfl) h0
 obtain ⟨x1, ok1, hr1, hb1⟩ := open_valB facts (τ := (.sl .str)) rfl (hval 1 22 v1 rfl rfl) h1
 have hm : dbulk d0 + dbulk d1 ≤ 1048576 := by
  simp only [List.append_nil, Rows.uptoBulkAll] at hk
  omega
 refine ((contract x0 x1 ok0 ok1 _ hb0 _ hb1 hm).closed (W := W) (vs := #[v0, v1]) (gmem_laid hL) ⟨rfl, fun i c x hc hx => ?_⟩).mono fun e W' ⟨he, hb⟩ => ?_
 ·match i with
  | 0 => simp at hc hx; subst hc; subst hx; exact .d hr0
  | 1 => simp at hc hx; subst hc; subst hx; exact .d hr1
  | i + 2 => simp at hc
 subst he
 exact ⟨_, rfl, _, _, _, [], _, [], hW, trodAll_cons_mk (shut_bool Tryz.underlying4 _) trodAll_mk0,
  (trodAll_cons_mk (Below.trod laidOut (by kernel_rfl) (of_decide_eq_true (by kernel_rfl)) h0 hb hlt0) (trodAll_cons_mk (Below.trod laidOut (by kernel_rfl) (of_decide_eq_true (by kernel_rfl)) h1 hb hlt1) trodAll_mk0)), rfl, hb.frame _, (fun h => by cases h)⟩
theorem row : Rows.JsonDeletesUptoSaid :=
 OpenClaim.holds_of_cond 5 Tryz.f5 rfl rfl rfl rfl rfl rfl rfl ⟨rfl, rfl, rfl, rfl, rfl⟩ rfl rfl rfl rfl rfl (by kernel_rfl) Tryz.func5 (by kernel_rfl)
  (of_decide_eq_true (by kernel_rfl)) (by unfold Func.isWrapper; first | (rw [if_pos (by decide +kernel)]; kernel_rfl) | (rw [if_neg (by decide +kernel)]; exact ⟨rfl, rfl⟩))
  (fun os started H enc _ F => by rw [OpenClaim.pre_eq_preRow]; exact lifted os started H enc F)
theorem proved : Rows.JsonDeletesUptoCardSaid :=
 Claim7.holds_tied_plain_at .later [] [.data, .data, .data, .data, .sentinel, .sentinel, .pinned, .pinned] true (true, "206fe8dbf8e52932ec9e8aabf78a392ee94f91dda865ff8bc96efe1930e8586b") true row (fun _ h => by cases h) (by kernel_rfl) (fun _ h => by cases h) jsonDeletesUpto_row_tie rfl ⟨rfl, rfl⟩ (by kernel_rfl) rfl
  (fun f fn hf hfn => by
    obtain rfl : f = 5 := Option.some.inj ((show prog.funcNamed "mandrel/mandrellaw20.JsonDeletes" = some 5 by kernel_rfl).symm.trans hf) |>.symm
    obtain rfl : fn = Tryz.f5 := (Option.some.inj (Tryz.func5.symm.trans hfn)).symm
    exact ⟨by kernel_rfl, fun j t ht => by
     rw [Tryz.params5] at ht
     have hm : t ∈ ([25, 22] : List TypeId) := by simpa using Array.mem_of_getElem? ht
     have hall : (([25, 22] : List TypeId).all fun u => !prog.wantsStandIn u) = true := by kernel_rfl
     exact (show prog.wantsStandIn t = false by simpa using List.all_eq_true.1 hall t hm)⟩)
  (by kernel_rfl)
end Go.Proofs.YtpndmanbfleadaaGreatDoor.jsonDeletes
end
