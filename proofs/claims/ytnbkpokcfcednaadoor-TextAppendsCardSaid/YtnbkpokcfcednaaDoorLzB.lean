/-
  Texts: what the functions compute (merged by a program of mine).
-/
import Derived.Test.YtnbkpokcfcednaaDoorLzA
import Derived.Test.YtnbkpokcfcednaaDoorEv
namespace Go.Proofs.YtnbkpokcfcednaaDoor
open Go.Lib Go.RowKit Go.Tx
set_option linter.unusedSimpArgs false
set_option linter.unusedVariables false
set_option maxRecDepth 20000

/-! ### texts of small bytes -/
def asc (s : ByteArray) : Prop := ∀ x ∈ s.data.toList, x.toNat < 128

theorem asc_flat : ∀ {l : List UInt8}, (∀ x ∈ l, x.toNat < 128) → (l.map fun x => (x.toNat : Int)).flatMap encodeRune = l
  | [], _ => rfl
  | x :: r, h => by
    have hx := h x (List.mem_cons_self ..)
    rw [List.map_cons, List.flatMap_cons, asc_flat fun y hy => h y (List.mem_cons_of_mem x hy)]
    unfold encodeRune
    rw [encodeRuneZ_one (by omega) (by omega)]
    simp

theorem code_flat {s : ByteArray} {ns : List Int} (h : ∀ x ∈ ns, isPt x) (hs : s.data.toList = ns.flatMap encodeRune) (hl : s.size ≤ 4096) : code s = 0 := by
  have hP := P_enc h
  unfold code fit
  rw [if_neg (by omega), hs, hP, if_pos]
  rw [← hs, ba_size]

theorem code_asc {s : ByteArray} (h : asc s) (hl : s.size ≤ 4096) : code s = 0 :=
  code_flat (ns := s.data.toList.map fun x => (x.toNat : Int)) (fun x hx => by
    obtain ⟨b, hb, rfl⟩ := List.mem_map.mp hx
    have := h b hb
    unfold isPt; omega) (asc_flat h).symm hl

theorem asc_app {a b : ByteArray} (ha : asc a) (hb : asc b) : asc (a ++ b) := by
  intro x hx
  rw [ba_append, List.mem_append] at hx
  exact hx.elim (ha x) (hb x)

/-! ### numbers -/
def D16 : ByteArray := ByteArray.mk #[(48 : UInt8), (49 : UInt8), (50 : UInt8), (51 : UInt8), (52 : UInt8), (53 : UInt8), (54 : UInt8), (55 : UInt8), (56 : UInt8), (57 : UInt8), (97 : UInt8), (98 : UInt8), (99 : UInt8), (100 : UInt8), (101 : UInt8), (102 : UInt8)]
theorem D16_size : D16.size = 16 := rfl
theorem D16_all : ∀ d : Fin 16, (D16.data.toList.getD d.val 0).toNat < 128 := by decide +kernel
theorem D16_at {d : Nat} (h : d < 16) : ∃ x : UInt8, x.toNat < 128 ∧ D16[d]? = some x ∧ Bs.enc1 (x.toNat : Int) = ⟨#[x]⟩ ∧ D16.extract d (d + 1) = ⟨#[x]⟩ := by
  have hx := D16_all ⟨d, h⟩
  simp only at hx
  refine ⟨D16.data.toList.getD d 0, hx, ba_get (by rw [D16_size]; exact h), ?_, ?_⟩
  · unfold Bs.enc1
    rw [encode_eq (by unfold isPt; omega)]
    unfold encodeRune
    rw [encodeRuneZ_one (by omega) (by omega)]
    simp
  · apply ba_ext
    rw [ba_extract]
    have hl : d < D16.data.toList.length := by rw [ba_size, D16_size]; exact h
    rw [List.drop_take, List.drop_eq_getElem_cons hl, List.getD_eq_getElem?_getD, List.getElem?_eq_getElem hl]
    simp

theorem one_size (x : UInt8) : (⟨#[x]⟩ : ByteArray).size = 1 := rfl
theorem one_asc {x : UInt8} (h : x.toNat < 128) : asc ⟨#[x]⟩ := by
  intro y hy; simp at hy; subst hy; exact h

theorem num_loop {b : Nat} (hb : 2 ≤ b ∧ b ≤ 16) : ∀ (k n : Nat) (acc : ByteArray), n < 2 ^ k → k ≤ 50 → acc.size + k ≤ 64 → asc acc →
    ∃ (m : Nat) (t : ByteArray), n_78l4 ((n : Int), (b : Int), acc, ()) = some ((m : Int), t, ()) ∧ n_84l4 ((n : Int), (b : Int), acc, ()) = some ((m : Int), t, ()) ∧ m < b ∧ t.size ≤ 64 ∧ asc t := by
  intro k
  induction k with
  | zero =>
    intro n acc hn hk ha hz
    refine ⟨n, acc, ?_, ?_, by omega, by omega, hz⟩
    · rw [n_78l4]; simp only; rw [if_neg (by simp; omega)]
    · rw [n_84l4]; simp only; rw [if_neg (by simp; omega)]
  | succ k ih =>
    intro n acc hn hk ha hz
    by_cases h : n < b
    · refine ⟨n, acc, ?_, ?_, by omega, by omega, hz⟩
      · rw [n_78l4]; simp only; rw [if_neg (by simp; omega)]
      · rw [n_84l4]; simp only; rw [if_neg (by simp; omega)]
    · have hd : n % b < 16 := Nat.lt_of_lt_of_le (Nat.mod_lt _ (by omega)) hb.2
      obtain ⟨x, hx, h1, h2, h3⟩ := D16_at hd
      have hq : n / b < 2 ^ k := by
        have : n / b ≤ n / 2 := Nat.div_le_div_left hb.1 (by omega)
        rw [Nat.pow_succ] at hn
        omega
      have hp : 2 ^ k ≤ 2 ^ 50 := Nat.pow_le_pow_right (by omega) (by omega)
      have hp2 : (2 : Nat) ^ 50 = 1125899906842624 := by decide
      have e1 : ((n : Int)).tmod (b : Int) = ((n % b : Nat) : Int) := by rw [Int.tmod_eq_emod_of_nonneg (by omega)]; rfl
      have e2 : IntKind.i64.wrap (((n : Int)).tdiv (b : Int)) = ((n / b : Nat) : Int) := by
        rw [Int.tdiv_eq_ediv_of_nonneg (by omega)]
        have : (n : Int) / (b : Int) = ((n / b : Nat) : Int) := rfl
        rw [this]
        generalize n / b = q at hq ⊢
        exact wrap64 (by omega) (by omega)
      have e3 : IntKind.i64.wrap (((n % b : Nat) : Int) + 1) = ((n % b + 1 : Nat) : Int) := by rw [wrap64 (by omega) (by omega)]; omega
      obtain ⟨m, t, r1, r2, r3, r4, r5⟩ := ih (n / b) (⟨#[x]⟩ ++ acc) hq (by omega) (by rw [add_size, one_size]; omega) (asc_app (one_asc hx) hz)
      refine ⟨m, t, ?_, ?_, r3, r4, r5⟩
      · rw [n_78l4]
        simp only [e1, e2]
        rw [if_pos (by simp; omega), if_neg (by omega), if_pos (by omega), Int.toNat_natCast]
        have : (ByteArray.mk #[(48 : UInt8), (49 : UInt8), (50 : UInt8), (51 : UInt8), (52 : UInt8), (53 : UInt8), (54 : UInt8), (55 : UInt8), (56 : UInt8), (57 : UInt8), (97 : UInt8), (98 : UInt8), (99 : UInt8), (100 : UInt8), (101 : UInt8), (102 : UInt8)]) = D16 := rfl
        rw [this, h1]
        simp only [Option.bind_eq_bind, Option.bind_some, Option.bind_none, if_true, if_false, Bool.false_eq_true, Bool.true_eq_false, Int.toNat_natCast, Int.natCast_nonneg, beq_iff_eq, decide_eq_true_eq, Int.ofNat_lt, decide_true, decide_false, Bool.not_true, Bool.not_false, h2, one_size]
        rw [if_pos (by omega), if_neg (by omega), r1]
      · rw [n_84l4]
        simp only [e1, e2, e3]
        have : (ByteArray.mk #[(48 : UInt8), (49 : UInt8), (50 : UInt8), (51 : UInt8), (52 : UInt8), (53 : UInt8), (54 : UInt8), (55 : UInt8), (56 : UInt8), (57 : UInt8), (97 : UInt8), (98 : UInt8), (99 : UInt8), (100 : UInt8), (101 : UInt8), (102 : UInt8)]) = D16 := rfl
        rw [this, if_pos (by simp; omega), if_neg (by omega), if_neg (by omega), if_pos (by rw [D16_size]; omega), Int.toNat_natCast, Int.toNat_natCast, h3, one_size, if_pos (by omega), if_neg (by omega), r2]

theorem num_pos {b : Nat} (hb : 2 ≤ b ∧ b ≤ 16) {n : Nat} (hn : n ≤ 1099511627776) : ∃ t : ByteArray, n_78 ((n : Int), (b : Int), ()) = some (t, ()) ∧ n_84 ((n : Int), (b : Int), ()) = some (t, ()) ∧ t.size ≤ 65 ∧ asc t := by
  obtain ⟨m, t, r1, r2, r3, r4, r5⟩ := num_loop hb 41 n (ByteArray.mk #[]) (by omega) (by omega) (by decide) (fun x hx => by cases hx)
  obtain ⟨x, hx, h1, h2, h3⟩ := D16_at (show m < 16 by omega)
  have : (ByteArray.mk #[(48 : UInt8), (49 : UInt8), (50 : UInt8), (51 : UInt8), (52 : UInt8), (53 : UInt8), (54 : UInt8), (55 : UInt8), (56 : UInt8), (57 : UInt8), (97 : UInt8), (98 : UInt8), (99 : UInt8), (100 : UInt8), (101 : UInt8), (102 : UInt8)]) = D16 := rfl
  have e3 : IntKind.i64.wrap ((m : Int) + 1) = ((m + 1 : Nat) : Int) := by rw [wrap64 (by omega) (by omega)]; omega
  refine ⟨⟨#[x]⟩ ++ t, ?_, ?_, by rw [add_size, one_size]; omega, asc_app (one_asc hx) r5⟩
  · rw [n_78]
    simp only
    rw [if_neg (by simp), r1]
    simp only [Option.bind_eq_bind, Option.bind_some, this]
    rw [if_pos (by omega), Int.toNat_natCast, h1]
    simp only [Option.bind_eq_bind, Option.bind_some, Option.bind_none, if_true, if_false, Bool.false_eq_true, Bool.true_eq_false, Int.toNat_natCast, Int.natCast_nonneg, beq_iff_eq, decide_eq_true_eq, Int.ofNat_lt, decide_true, decide_false, Bool.not_true, Bool.not_false, h2, one_size]
    rw [if_pos (by omega)]
  · rw [n_84]
    simp only
    rw [if_neg (by simp), r2]
    simp only [Option.bind_eq_bind, Option.bind_some, this, e3]
    rw [if_pos (by rw [D16_size]; omega), Int.toNat_natCast, Int.toNat_natCast, h3, one_size, if_pos (by omega)]

theorem num_eq {b : Nat} (hb : 2 ≤ b ∧ b ≤ 16) {n : Int} (hn : -1099511627776 ≤ n ∧ n ≤ 1099511627776) : ∃ t : ByteArray, n_60 (n, (b : Int), ()) = some (t, 0, ()) ∧ n_66 (n, (b : Int), ()) = some (t, 0, ()) ∧ t.size ≤ 66 ∧ asc t := by
  have h77 : n_77 ((b : Int), ()) = some (true, ()) := by
    unfold n_77
    simp only
    rw [if_pos (by simp; omega)]
    simp only [Option.bind_eq_bind, Option.bind_some, Option.bind_none, if_true, if_false, Bool.false_eq_true, Bool.true_eq_false, Int.toNat_natCast, Int.natCast_nonneg, beq_iff_eq, decide_eq_true_eq, Int.ofNat_lt, decide_true, decide_false, Bool.not_true, Bool.not_false]
    congr 2
    simp; omega
  have h83 (x y z : Int) (h : y ≤ x ∧ x ≤ z) : n_83 (x, y, z, ()) = some (true, ()) := by
    unfold n_83
    simp only
    rw [if_pos (by simp; omega)]
    simp only [Option.bind_eq_bind, Option.bind_some, Option.bind_none, if_true, if_false, Bool.false_eq_true, Bool.true_eq_false, Int.toNat_natCast, Int.natCast_nonneg, beq_iff_eq, decide_eq_true_eq, Int.ofNat_lt, decide_true, decide_false, Bool.not_true, Bool.not_false]
    congr 2
    simp; omega
  have key : ∃ t : ByteArray, n_78 (n, (b : Int), ()) = some (t, ()) ∧ n_84 (n, (b : Int), ()) = some (t, ()) ∧ t.size ≤ 66 ∧ asc t := by
    by_cases h : n < 0
    · obtain ⟨t, r1, r2, r3, r4⟩ := num_pos hb (show (0 - n).toNat ≤ 1099511627776 by omega)
      have e : IntKind.i64.wrap (0 - n) = (((0 - n).toNat : Nat) : Int) := by rw [wrap64 (by omega) (by omega)]; omega
      have hm : (ByteArray.mk #[(45 : UInt8)]).size = 1 := rfl
      refine ⟨ByteArray.mk #[(45 : UInt8)] ++ t, ?_, ?_, by rw [add_size, hm]; omega, asc_app (one_asc (by decide)) r4⟩
      · rw [n_78]
        simp only
        rw [if_pos (by simpa using h), e, r1]
        simp only [Option.bind_eq_bind, Option.bind_some, Option.bind_none, if_true, if_false, Bool.false_eq_true, Bool.true_eq_false, Int.toNat_natCast, Int.natCast_nonneg, beq_iff_eq, decide_eq_true_eq, Int.ofNat_lt, decide_true, decide_false, Bool.not_true, Bool.not_false, hm]
        rw [if_pos (by omega)]
      · rw [n_84]
        simp only
        rw [if_pos (by simpa using h), e, r2]
        simp only [Option.bind_eq_bind, Option.bind_some, Option.bind_none, if_true, if_false, Bool.false_eq_true, Bool.true_eq_false, Int.toNat_natCast, Int.natCast_nonneg, beq_iff_eq, decide_eq_true_eq, Int.ofNat_lt, decide_true, decide_false, Bool.not_true, Bool.not_false, hm]
        rw [if_pos (by omega)]
    · obtain ⟨t, r1, r2, r3, r4⟩ := num_pos hb (show n.toNat ≤ 1099511627776 by omega)
      rw [show n = ((n.toNat : Nat) : Int) by omega]
      exact ⟨t, r1, r2, by omega, r4⟩
  obtain ⟨t, r1, r2, r3, r4⟩ := key
  refine ⟨t, ?_, ?_, r3, r4⟩
  · unfold n_60
    simp only [h77, Option.bind_eq_bind, Option.bind_some, Option.bind_none, if_true, if_false, Bool.false_eq_true, Bool.true_eq_false, Int.toNat_natCast, Int.natCast_nonneg, beq_iff_eq, decide_eq_true_eq, Int.ofNat_lt, decide_true, decide_false, Bool.not_true, Bool.not_false]
    rw [if_neg (by omega)]
    simp only [show ¬ n > 1099511627776 by omega, Option.bind_eq_bind, Option.bind_some, Option.bind_none, if_true, if_false, Bool.false_eq_true, Bool.true_eq_false, Int.toNat_natCast, Int.natCast_nonneg, beq_iff_eq, decide_eq_true_eq, Int.ofNat_lt, decide_true, decide_false, Bool.not_true, Bool.not_false, r1]
  · unfold n_66
    simp only [h83 _ _ _ (show (2 : Int) ≤ b ∧ (b : Int) ≤ 16 by omega), h83 _ _ _ hn, Option.bind_eq_bind, Option.bind_some, Option.bind_none, if_true, if_false, Bool.false_eq_true, Bool.true_eq_false, Int.toNat_natCast, Int.natCast_nonneg, beq_iff_eq, decide_eq_true_eq, Int.ofNat_lt, decide_true, decide_false, Bool.not_true, Bool.not_false, r2]

structure ArgOk (a : Tag) : Prop where
  kind : a.kind = 1 ∨ a.kind = 2 ∨ a.kind = 3 ∨ (a.kind = 4 ∧ code a.text = 0)
  n : -1099511627776 ≤ a.n ∧ a.n ≤ 1099511627776

/-- what is ruled out first -/
def rest (a : Tag) : Bool := decide ((a.names.length : Int) > 0) || decide ((a.parts.length : Int) > 0) || (a.kind != 3 && a.n != 0) || (a.kind != 4 && !decide (a.text = ByteArray.mk #[]))

theorem f_rest (a : Tag) : (if decide ((↑a.names.length : Int) > 0) = true then
      some ((true, a, ()))
    else if decide ((↑a.parts.length : Int) > 0) = true then
      some ((true, a, ()))
    else if (a.kind != 3) = true then
      if (a.n != 0) = true then
        some ((true, a, ()))
      else if (a.kind != 4) = true then
        some ((!decide (a.text = ByteArray.mk #[]), a, ()))
      else some ((false, a, ()))
    else if (a.kind != 4) = true then
      some ((!decide (a.text = ByteArray.mk #[]), a, ()))
    else some ((false, a, ()))) = some (rest a, a, ()) := by
  unfold rest
  cases decide ((a.names.length : Int) > 0) <;> cases decide ((a.parts.length : Int) > 0) <;> cases (a.kind != 3) <;> cases (a.n != 0) <;> cases (a.kind != 4) <;> rfl

theorem f30 (a : Tag) : ∃ b, n_30 (a, ()) = some (b, ()) ∧ n_44 (a, ()) = some (b, ()) ∧ (b = true → ArgOk a) := by
  unfold n_30 n_44
  simp only [ba_beq, f_rest, Option.bind_eq_bind, Option.bind_some]
  by_cases hr : rest a = true
  · refine ⟨false, ?_, ?_, fun h => by cases h⟩
    · rw [if_pos hr]
    · rw [if_pos hr]
  rw [if_neg hr, if_neg hr]
  have hr2 : rest a = false := by simpa using hr
  unfold rest at hr2
  simp only [Bool.or_eq_false_iff] at hr2
  have hn : a.kind ≠ 3 → a.n = 0 := by
    intro h
    have := hr2.1.2
    simp [h] at this
    exact this
  by_cases k1 : a.kind = 1
  · refine ⟨true, ?_, ?_, fun _ => ⟨.inl k1, by have := hn (by omega); omega⟩⟩ <;> simp [k1]
  by_cases k2 : a.kind = 2
  · refine ⟨true, ?_, ?_, fun _ => ⟨.inr (.inl k2), by have := hn (by omega); omega⟩⟩ <;> simp [k2]
  by_cases k3 : a.kind = 3
  · refine ⟨decide (-1099511627776 ≤ a.n ∧ a.n ≤ 1099511627776), ?_, ?_, fun h => ⟨.inr (.inr (.inl k3)), of_decide_eq_true h⟩⟩
    · simp only [k3]
      by_cases c : a.n ≥ -1099511627776
      · simp [c]
      · simp [c]
    · simp only [k3, f39]
      simp
  by_cases k4 : a.kind = 4
  · refine ⟨code a.text == 0, ?_, ?_, fun h => ⟨.inr (.inr (.inr ⟨k4, by simpa using h⟩)), by have := hn (by omega); omega⟩⟩ <;> simp [k4, f36, f38]
  · refine ⟨false, ?_, ?_, fun h => by cases h⟩ <;> simp [k1, k2, k3, k4]

def letters : List Int := [100, 120, 98, 115, 116, 99, 106]

def tFalse : ByteArray := ByteArray.mk #[(102 : UInt8), (97 : UInt8), (108 : UInt8), (115 : UInt8), (101 : UInt8)]
def tTrue : ByteArray := ByteArray.mk #[(116 : UInt8), (114 : UInt8), (117 : UInt8), (101 : UInt8)]

/-- the base of a number -/
def base (c : Int) : Nat := if c = 120 then 16 else if c = 98 then 2 else 10
theorem base_ok (c : Int) : 2 ≤ base c ∧ base c ≤ 16 := by
  unfold base
  by_cases h : c = 120
  · rw [if_pos h]; omega
  · by_cases h2 : c = 98
    · rw [if_neg h, if_pos h2]; omega
    · rw [if_neg h, if_neg h2]; omega

/-- a letter and an arg: what is written, on which side -/
inductive Cell (c : Int) (a : Tag) : Prop
  | bad (t : ByteArray) (h1 : n_45 (c, a, ()) = some (false, ())) (h2 : n_32 (c, a, ()) = some (t, false, ()))
  | good (t : ByteArray) (sd : Int) (h1 : n_45 (c, a, ()) = some (true, ())) (h2 : n_32 (c, a, ()) = some (t, true, ())) (h3 : n_46 (c, a, ()) = some (t, sd, ()))
      (h4 : code t = 0) (h5 : (sd = 60 ∧ a.kind ≠ 3) ∨ (sd = 62 ∧ a.kind = 3))

theorem both_same {A : Type} {x : Option A} {r : A} (h : x = some r) : both x x = some r := both_mk h h

theorem enc1_code {x : Int} (h : isPt x) : code (Bs.enc1 x) = 0 := by
  have hl := enc_len (x := x)
  have hd : (Bs.enc1 x).data.toList = encodeRune x := by unfold Bs.enc1; rw [encode_eq h]
  refine code_flat (ns := [x]) (fun y hy => by simp at hy; subst hy; exact h) (by rw [hd]; simp) ?_
  rw [← ba_size, hd]; omega

theorem n45_num (c : Int) (a : Tag) (h : c = 100 ∨ c = 120 ∨ c = 98) : n_45 (c, a, ()) = some (a.kind == 3, ()) := by
  unfold n_45
  rcases h with rfl | rfl | rfl <;> rfl

theorem n32_num (c : Int) (a : Tag) (h : c = 100 ∨ c = 120 ∨ c = 98) {t : ByteArray} (ht : n_60 (a.n, (base c : Int), ()) = some (t, 0, ())) : n_32 (c, a, ()) = some (t, a.kind == 3, ()) := by
  unfold n_32
  rcases h with rfl | rfl | rfl
  · have : n_60 (a.n, 10, ()) = some (t, 0, ()) := ht
    simp [this]
  · have : n_60 (a.n, 16, ()) = some (t, 0, ()) := ht
    simp [this]
  · have : n_60 (a.n, 2, ()) = some (t, 0, ()) := ht
    simp [this]

theorem n46_num (c : Int) (a : Tag) (h : c ≠ 99) (hk : a.kind = 3) {t : ByteArray} (ht : n_66 (a.n, (base c : Int), ()) = some (t, 0, ())) : n_46 (c, a, ()) = some (t, 62, ()) := by
  unfold n_46
  unfold base at ht
  by_cases h1 : c = 120
  · subst h1
    have : n_66 (a.n, 16, ()) = some (t, 0, ()) := ht
    simp [hk, this]
  · by_cases h2 : c = 98
    · subst h2
      have : n_66 (a.n, 2, ()) = some (t, 0, ()) := ht
      simp [hk, this]
    · rw [if_neg h1, if_neg h2] at ht
      have : n_66 (a.n, 10, ()) = some (t, 0, ()) := ht
      simp [h, hk, h1, h2, this]

theorem mp_kind (k : Int) : (Mp.get Mp.ieq k (Mp.set Mp.ieq 4 115 (Mp.set Mp.ieq 3 100 (Mp.set Mp.ieq 2 116 (Mp.set Mp.ieq 1 116 []))))).getD 0 = (if k = 1 then 116 else if k = 2 then 116 else if k = 3 then 100 else if k = 4 then (115 : Int) else 0) := by
  by_cases h1 : k = 1
  · subst h1; rfl
  by_cases h2 : k = 2
  · subst h2; rfl
  by_cases h3 : k = 3
  · subst h3; rfl
  by_cases h4 : k = 4
  · subst h4; rfl
  rw [if_neg h1, if_neg h2, if_neg h3, if_neg h4]
  simp [Mp.get, Mp.set, Mp.ieq, h1, h2, h3, h4, Ne.symm h1, Ne.symm h2, Ne.symm h3, Ne.symm h4]

theorem mp_t1 (k : Int) : (Mp.get Mp.ieq k (Mp.set Mp.ieq 2 (ByteArray.mk #[(116 : UInt8), (114 : UInt8), (117 : UInt8), (101 : UInt8)]) (Mp.set Mp.ieq 1 (ByteArray.mk #[(102 : UInt8), (97 : UInt8), (108 : UInt8), (115 : UInt8), (101 : UInt8)]) []))).getD (ByteArray.mk #[]) = (if k = 1 then tFalse else if k = 2 then tTrue else ByteArray.mk #[]) := by
  by_cases h1 : k = 1
  · subst h1; rfl
  by_cases h2 : k = 2
  · subst h2; rfl
  rw [if_neg h1, if_neg h2]
  simp [Mp.get, Mp.set, Mp.ieq, h1, h2, Ne.symm h1, Ne.symm h2]
theorem mp_t2 (k : Int) : (Mp.get Mp.ieq k (Mp.set Mp.ieq 1 (ByteArray.mk #[(102 : UInt8), (97 : UInt8), (108 : UInt8), (115 : UInt8), (101 : UInt8)]) (Mp.set Mp.ieq 2 (ByteArray.mk #[(116 : UInt8), (114 : UInt8), (117 : UInt8), (101 : UInt8)]) []))).getD (ByteArray.mk #[]) = (if k = 1 then tFalse else if k = 2 then tTrue else ByteArray.mk #[]) := by
  by_cases h1 : k = 1
  · subst h1; rfl
  by_cases h2 : k = 2
  · subst h2; rfl
  rw [if_neg h1, if_neg h2]
  simp [Mp.get, Mp.set, Mp.ieq, h1, h2, Ne.symm h1, Ne.symm h2]
theorem both_self {A : Type} (r : A) : both (some r) (some r) = some r := both_mk rfl rfl

/-- letter t -/
theorem n32_t (a : Tag) : (a.kind = 1 → n_32 (116, a, ()) = some (tFalse, true, ())) ∧ (a.kind = 2 → n_32 (116, a, ()) = some (tTrue, true, ())) ∧
    (a.kind = 3 ∨ a.kind = 4 → n_32 (116, a, ()) = some (ByteArray.mk #[], false, ())) := by
  refine ⟨fun h => ?_, fun h => ?_, fun h => ?_⟩
  · unfold n_32
    simp only [mp_t1, mp_t2]
    simp [h, both_self]
  · unfold n_32
    simp only [mp_t1, mp_t2]
    simp [h, both_self]
  · unfold n_32
    simp only [mp_t1, mp_t2]
    rcases h with h | h <;> simp [h, both_self]

theorem tFalse_code : code tFalse = 0 := code_asc (by unfold asc tFalse; decide) (by decide)
theorem tTrue_code : code tTrue = 0 := code_asc (by unfold asc tTrue; decide) (by decide)

theorem cell (c : Int) (hc : c ∈ letters) {a : Tag} (ha : ArgOk a) : Cell c a := by
  obtain ⟨t, ht1, ht2, ht3, ht4⟩ := num_eq (base_ok c) ha.n
  have htc := code_asc ht4 (by omega)
  have num : ∀ (h : c = 100 ∨ c = 120 ∨ c = 98), Cell c a := by
    intro h
    by_cases hk : a.kind = 3
    · exact .good t 62 (by rw [n45_num c a h, hk]; rfl) (by rw [n32_num c a h ht1, hk]; rfl) (n46_num c a (by omega) hk ht2) htc (.inr ⟨rfl, hk⟩)
    · exact .bad t (by rw [n45_num c a h]; simp [hk]) (by rw [n32_num c a h ht1]; simp [hk])
  obtain ⟨q1, q2, q3⟩ := n32_t a
  simp only [letters, List.mem_cons, List.mem_nil_iff, or_false] at hc
  rcases hc with rfl | rfl | rfl | rfl | rfl | rfl | rfl
  · exact num (.inl rfl)
  · exact num (.inr (.inl rfl))
  · exact num (.inr (.inr rfl))
  · rcases ha.kind with k | k | k | ⟨k, kc⟩
    · exact .bad a.text (by simp [n_45, k]) (by simp [n_32, k])
    · exact .bad a.text (by simp [n_45, k]) (by simp [n_32, k])
    · exact .bad a.text (by simp [n_45, k]) (by simp [n_32, k])
    · exact .good a.text 60 (by simp [n_45, k]) (by simp [n_32, k]) (by simp [n_46, k]) kc (.inl ⟨rfl, by omega⟩)
  · rcases ha.kind with k | k | k | ⟨k, kc⟩
    · exact .good tFalse 60 (by simp [n_45, k]) (q1 k) (by simp [n_46, k]; rfl) tFalse_code (.inl ⟨rfl, by omega⟩)
    · exact .good tTrue 60 (by simp [n_45, k]) (q2 k) (by simp [n_46, k]; rfl) tTrue_code (.inl ⟨rfl, by omega⟩)
    · exact .bad _ (by simp [n_45, k]) (q3 (.inl k))
    · exact .bad _ (by simp [n_45, k]) (q3 (.inr k))
  · rcases ha.kind with k | k | k | ⟨k, kc⟩
    · exact .bad (ByteArray.mk #[]) (by simp [n_45, k]) (by simp [n_32, k])
    · exact .bad (ByteArray.mk #[]) (by simp [n_45, k]) (by simp [n_32, k])
    · by_cases hp : isPt a.n
      · have hp' := hp
        unfold isPt at hp'
        refine .good (Bs.enc1 a.n) 62 (by simp [n_45, k, f55, hp]) (by simp [n_32, k, f52, hp, wrap32 (show 0 ≤ a.n by omega) (show a.n ≤ 1114111 by omega)]) ?_ (enc1_code hp) (.inr ⟨rfl, k⟩)
        simp [n_46, f65 hp, Bs.enc1, encode_eq hp]
      · exact .bad (ByteArray.mk #[]) (by simp [n_45, k, f55, hp]) (by simp [n_32, k, f52, hp])
    · exact .bad (ByteArray.mk #[]) (by simp [n_45, k]) (by simp [n_32, k])
  · rcases ha.kind with k | k | k | ⟨k, kc⟩
    · refine .good tFalse 60 (by simp [n_45, k]) ?_ (by simp [n_46, k]; rfl) tFalse_code (.inl ⟨rfl, by omega⟩)
      rw [← q1 k]
      unfold n_32
      simp only [mp_kind, mp_t1, mp_t2]
      simp [k, both_self]
    · refine .good tTrue 60 (by simp [n_45, k]) ?_ (by simp [n_46, k]; rfl) tTrue_code (.inl ⟨rfl, by omega⟩)
      rw [← q2 k]
      unfold n_32
      simp only [mp_kind, mp_t1, mp_t2]
      simp [k, both_self]
    · refine .good t 62 (by simp [n_45, k]) ?_ (n46_num _ a (by omega) k ht2) htc (.inr ⟨rfl, k⟩)
      have h0 : n_60 (a.n, 10, ()) = some (t, 0, ()) := ht1
      unfold n_32
      simp only [mp_kind, mp_t1, mp_t2]
      simp [k, h0]
    · refine .good a.text 60 (by simp [n_45, k]) ?_ (by simp [n_46, k]) kc (.inl ⟨rfl, by omega⟩)
      unfold n_32
      simp only [mp_kind, mp_t1, mp_t2]
      simp [k]

theorem f9 : n_9 () = some (true, ()) := m_9_le 60 () _ (by kernel_rfl)

theorem f57 (a b : ByteArray) : n_57 (a, b, ()) = some (b.data.toList.isPrefixOf a.data.toList, ()) := by
  unfold n_57 n_75
  simp only [ba_beq]
  by_cases h : a.size ≥ b.size
  · rw [if_pos (by simpa using h), if_pos ⟨by omega, by omega, by omega⟩]
    simp only [Option.bind_eq_bind, Option.bind_some]
    congr 2
    rw [Bool.eq_iff_iff, decide_eq_true_iff, List.isPrefixOf_iff_prefix, List.prefix_iff_eq_take, ba_size]
    constructor
    · intro h2
      have := congrArg (fun b : ByteArray => b.data.toList) h2
      simp only [ba_extract] at this
      simpa using this.symm
    · intro h2
      apply ba_ext
      rw [ba_extract]
      simpa using h2.symm
  · rw [if_neg (by simpa using h)]
    simp only [Option.bind_eq_bind, Option.bind_some]
    congr 2
    symm
    rw [← Bool.not_eq_true, List.isPrefixOf_iff_prefix]
    intro h2
    have := h2.length_le
    rw [ba_size, ba_size] at this
    omega

theorem byt_drop (l : List UInt8) (i j : Nat) : byt (l.drop i) j = byt l (i + j) := by unfold byt; rw [getD_drop']
theorem ba_byt {s : ByteArray} {i : Nat} (h : i < s.size) : ∃ x : UInt8, s[i]? = some x ∧ (x.toNat : Int) = byt s.data.toList i := ⟨_, ba_get h, rfl⟩
theorem byt_out {l : List UInt8} {i : Nat} (h : l.length ≤ i) : byt l i = 0 := by
  unfold byt; rw [List.getD_eq_getElem?_getD, List.getElem?_eq_none h]; rfl

theorem one_pre (b : UInt8) (l : List UInt8) : [b].isPrefixOf l = decide (0 < l.length ∧ byt l 0 = (b.toNat : Int)) := by
  cases l with
  | nil => simp [List.isPrefixOf]
  | cons x r =>
    unfold byt
    simp only [List.isPrefixOf, Bool.and_true, List.getD_cons_zero, List.length_cons]
    rw [Bool.eq_iff_iff, beq_iff_eq, decide_eq_true_iff]
    constructor
    · rintro rfl; exact ⟨by omega, rfl⟩
    · rintro ⟨_, h⟩
      exact (UInt8.toNat_inj.mp (by omega)).symm

theorem pre1 {s : ByteArray} {i : Nat} (hi : i ≤ s.size) (b : UInt8) : n_57 (s.extract i s.size, ByteArray.mk #[b], ()) = some (decide (i < s.size ∧ byt s.data.toList i = (b.toNat : Int)), ()) := by
  rw [f57]
  have e : (s.extract i s.size).data.toList = s.data.toList.drop i := by
    rw [ba_extract, List.take_of_length_le (by rw [ba_size]; omega)]
  rw [e]
  show some ([b].isPrefixOf _, ()) = _
  rw [one_pre, byt_drop, List.length_drop, ba_size]
  congr 2
  rw [Bool.eq_iff_iff, decide_eq_true_iff, decide_eq_true_iff]
  simp only [Nat.add_zero]
  constructor <;> rintro ⟨h1, h2⟩ <;> exact ⟨by omega, h2⟩

def D7 : ByteArray := ByteArray.mk #[(100 : UInt8), (120 : UInt8), (98 : UInt8), (115 : UInt8), (116 : UInt8), (99 : UInt8), (106 : UInt8)]
theorem letter_all : ∀ c : Fin 256, decide (Lib.indexByte [100, 120, 98, 115, 116, 99, 106] c.val.toUInt8 < 0) = !letters.contains (c.val : Int) := by decide +kernel
theorem f37d {c : Int} (h : 0 ≤ c ∧ c < 256) : ∃ k, n_37 (D7, c, ()) = some (k, ()) ∧ decide (k < 0) = !letters.contains c := by
  refine ⟨Lib.indexByte [100, 120, 98, 115, 116, 99, 106] c.toNat.toUInt8, rfl, ?_⟩
  have := letter_all ⟨c.toNat, by omega⟩
  simp only at this
  rw [this, show ((c.toNat : Nat) : Int) = c by omega]

def dig (l : List UInt8) (i : Nat) : Prop := i < l.length ∧ 48 ≤ byt l i ∧ byt l i ≤ 57
instance (l : List UInt8) (i : Nat) : Decidable (dig l i) := inferInstanceAs (Decidable (_ ∧ _))

/-- where the digits begin -/
def n0 (l : List UInt8) : Nat := if 2 < l.length ∧ side (byt l 2) = true then 3 else 2
def sd0 (l : List UInt8) : Int := if 2 < l.length ∧ side (byt l 2) = true then byt l 2 else 0
def fieldS (l : List UInt8) : Option (Int × Int × Int × Nat) :=
  if l.length < 2 ∨ letters.contains (byt l 0) = false then none
  else if byt l 1 = 58 then
    (if ¬ dig l (n0 l) ∨ byt l (n0 l) = 48 then none
     else if dig l (n0 l + 1) then
       (if n0 l + 2 < l.length ∧ byt l (n0 l + 2) = 125 then some (byt l 0, sd0 l, 10 * (byt l (n0 l) - 48) + (byt l (n0 l + 1) - 48), n0 l + 3) else none)
     else (if n0 l + 1 < l.length ∧ byt l (n0 l + 1) = 125 then some (byt l 0, sd0 l, byt l (n0 l) - 48, n0 l + 2) else none))
  else if byt l 1 = 125 then some (byt l 0, 0, 0, 2) else none

theorem f58_step {s : ByteArray} (hs : s.size ≤ 1000000) {n st : Nat} (hn : n ≤ 1000000) (hst : st ≤ 1000000) {pz : Piece} {c sd w : Int} {t : ByteArray} (hw : 0 ≤ w ∧ w ≤ 10000) :
    n_58l11 (s, (n : Int), (st : Int), pz, Piece.mk t c sd w, ()) = if dig s.data.toList n ∧ n < st + 2 then n_58l11 (s, ((n + 1 : Nat) : Int), (st : Int), pz, Piece.mk t c sd (10 * w + (byt s.data.toList n - 48)), ()) else some (s, (n : Int), (st : Int), pz, Piece.mk t c sd w, ()) := by
  have hb := byt_bnd s.data.toList n
  rw [n_58l11]
  simp only
  by_cases h1 : n < s.size
  · obtain ⟨x, hx, hx2⟩ := ba_byt h1
    rw [if_pos (by simpa using h1), if_pos (Int.natCast_nonneg _), Int.toNat_natCast, hx]
    simp only [Option.bind_eq_bind, Option.bind_some, hx2]
    have hd : dig s.data.toList n ↔ 48 ≤ byt s.data.toList n ∧ byt s.data.toList n ≤ 57 := by
      unfold dig; rw [ba_size]; exact ⟨fun h => h.2, fun h => ⟨h1, h⟩⟩
    by_cases h2 : byt s.data.toList n ≥ 48
    · rw [if_pos (by simpa using h2), if_pos (Int.natCast_nonneg _)]
      try simp only [Option.bind_some]
      by_cases h3 : byt s.data.toList n ≤ 57
      · rw [if_pos (by simpa using h3)]
        simp only [Option.bind_some]
        rw [wrap64 (x := (st : Int) + 2) (by omega) (by omega)]
        by_cases h4 : n < st + 2
        · rw [if_pos (by simp; omega), if_pos (Int.natCast_nonneg _), Int.toNat_natCast, hx]
          simp only [Option.bind_some, hx2]
          rw [if_pos ⟨hd.mpr ⟨h2, h3⟩, h4⟩, wrap64 (x := (n : Int) + 1) (by omega) (by omega), wrap8 (by omega) (by omega), wrap64 (x := 10 * w) (by omega) (by omega), wrap64 (x := byt s.data.toList n - 48) (by omega) (by omega), wrap64 (by omega) (by omega)]
          rfl
        · rw [if_neg (by simp; omega), if_neg (fun h => h4 h.2)]
      · rw [if_neg (by simpa using h3)]
        simp only [Option.bind_some]
        rw [if_neg (by decide), if_neg (fun h => h3 (hd.mp h.1).2)]
    · rw [if_neg (by simpa using h2)]
      simp only [Option.bind_some]
      rw [if_neg (by decide), if_neg (fun h => h2 (hd.mp h.1).1)]
  · rw [if_neg (by simpa using h1)]
    simp only [Option.bind_eq_bind, Option.bind_some]
    rw [if_neg (by decide), if_neg (fun h => h1 (by have := h.1.1; rwa [ba_size] at this))]

theorem f64_step {s : ByteArray} (hs : s.size ≤ 1000000) {n st : Nat} (hn : n ≤ 1000000) (hst : st ≤ 1000000) {pz : Part} {c sd w : Int} {t : ByteArray} (hw : 0 ≤ w ∧ w ≤ 10000) :
    n_64l18 (s, (n : Int), (st : Int), pz, Part.mk t c sd w, ()) = if dig s.data.toList n ∧ n < st + 3 then n_64l18 (s, ((n + 1 : Nat) : Int), (st : Int), pz, Part.mk t c sd (10 * w + byt s.data.toList n - 48), ()) else some (s, (n : Int), (st : Int), pz, Part.mk t c sd w, ()) := by
  have hb := byt_bnd s.data.toList n
  rw [n_64l18]
  simp only
  by_cases h1 : n < s.size
  · obtain ⟨x, hx, hx2⟩ := ba_byt h1
    rw [if_pos (by simpa using h1), wrap64 (x := (st : Int) + 3) (by omega) (by omega)]
    have hd : dig s.data.toList n ↔ 48 ≤ byt s.data.toList n ∧ byt s.data.toList n ≤ 57 := by
      unfold dig; rw [ba_size]; exact ⟨fun h => h.2, fun h => ⟨h1, h⟩⟩
    by_cases h4 : n < st + 3
    · rw [if_pos (by simp; omega), if_pos (Int.natCast_nonneg _), Int.toNat_natCast, hx]
      simp only [Option.bind_eq_bind, Option.bind_some, hx2]
      by_cases h2 : byt s.data.toList n ≥ 48
      · rw [if_pos (by simpa using h2), if_pos (Int.natCast_nonneg _)]
        simp only [Option.bind_some]
        by_cases h3 : byt s.data.toList n ≤ 57
        · rw [if_pos (by simpa using h3), if_pos (Int.natCast_nonneg _), Int.toNat_natCast, hx]
          simp only [Option.bind_some, hx2]
          rw [if_pos ⟨hd.mpr ⟨h2, h3⟩, h4⟩, wrap64 (x := (n : Int) + 1) (by omega) (by omega), wrap64 (x := 10 * w) (by omega) (by omega), wrap64 (x := byt s.data.toList n) (by omega) (by omega), wrap64 (x := 10 * w + byt s.data.toList n) (by omega) (by omega), wrap64 (by omega) (by omega)]
          rfl
        · rw [if_neg (by simpa using h3), if_neg (fun h => h3 (hd.mp h.1).2)]
      · rw [if_neg (by simpa using h2)]
        simp only [Option.bind_some]
        rw [if_neg (by decide), if_neg (fun h => h2 (hd.mp h.1).1)]
    · rw [if_neg (by simp; omega)]
      simp only [Option.bind_eq_bind, Option.bind_some]
      rw [if_neg (by decide), if_neg (fun h => h4 h.2)]
  · rw [if_neg (by simpa using h1)]
    simp only [Option.bind_eq_bind, Option.bind_some]
    rw [if_neg (by decide), if_neg (fun h => h1 (by have := h.1.1; rwa [ba_size] at this))]

/-- the text of a small number -/
def dtext (w : Nat) : ByteArray := if w < 10 then ⟨#[UInt8.ofNat (48 + w)]⟩ else if w < 100 then ⟨#[UInt8.ofNat (48 + w / 10), UInt8.ofNat (48 + w % 10)]⟩ else ⟨#[UInt8.ofNat (48 + w / 100), UInt8.ofNat (48 + w / 10 % 10), UInt8.ofNat (48 + w % 10)]⟩
theorem dtext_all : ∀ w : Fin 1000, m_84 10 ((w.val : Int), 10, ()) = some (dtext w.val, ()) := by decide +kernel
theorem f82 {w : Nat} (h : w < 1000) : n_82 ((w : Int), ()) = some (dtext w, ()) := by
  unfold n_82
  simp only
  rw [m_84_le 10 _ _ (dtext_all ⟨w, h⟩)]
  rfl

def dg2 (l : List UInt8) (i : Nat) : Nat × Int := if dig l i then (if dig l (i + 1) then (i + 2, 10 * (byt l i - 48) + (byt l (i + 1) - 48)) else (i + 1, byt l i - 48)) else (i, 0)
def dg3 (l : List UInt8) (i : Nat) : Nat × Int := if dig l i then (if dig l (i + 1) then (if dig l (i + 2) then (i + 3, 10 * (10 * (byt l i - 48) + (byt l (i + 1) - 48)) + (byt l (i + 2) - 48)) else (i + 2, 10 * (byt l i - 48) + (byt l (i + 1) - 48))) else (i + 1, byt l i - 48)) else (i, 0)

theorem f58_loop {s : ByteArray} (hs : s.size ≤ 1000000) {i : Nat} (hi : i ≤ 10) {pz : Piece} {c sd : Int} {t : ByteArray} :
    n_58l11 (s, (i : Int), (i : Int), pz, Piece.mk t c sd 0, ()) = some (s, ((dg2 s.data.toList i).1 : Int), (i : Int), pz, Piece.mk t c sd (dg2 s.data.toList i).2, ()) := by
  have b0 := byt_bnd s.data.toList i
  have b1 := byt_bnd s.data.toList (i + 1)
  unfold dg2
  rw [f58_step hs (by omega) (by omega) (by omega)]
  by_cases d0 : dig s.data.toList i
  · have d0' := d0.2
    rw [if_pos ⟨d0, by omega⟩, if_pos d0, f58_step hs (by omega) (by omega) (by omega)]
    by_cases d1 : dig s.data.toList (i + 1)
    · have d1' := d1.2
      rw [if_pos ⟨d1, by omega⟩, if_pos d1, f58_step hs (by omega) (by omega) (by omega), if_neg (by omega)]
      simp
      omega
    · rw [if_neg (fun h => d1 h.1), if_neg d1]
      simp
  · rw [if_neg (fun h => d0 h.1), if_neg d0]

theorem f64_loop {s : ByteArray} (hs : s.size ≤ 1000000) {i : Nat} (hi : i ≤ 10) {pz : Part} {c sd : Int} {t : ByteArray} :
    n_64l18 (s, (i : Int), (i : Int), pz, Part.mk t c sd 0, ()) = some (s, ((dg3 s.data.toList i).1 : Int), (i : Int), pz, Part.mk t c sd (dg3 s.data.toList i).2, ()) := by
  have b0 := byt_bnd s.data.toList i
  have b1 := byt_bnd s.data.toList (i + 1)
  have b2 := byt_bnd s.data.toList (i + 2)
  unfold dg3
  rw [f64_step hs (by omega) (by omega) (by omega)]
  by_cases d0 : dig s.data.toList i
  · have d0' := d0.2
    rw [if_pos ⟨d0, by omega⟩, if_pos d0, f64_step hs (by omega) (by omega) (by omega)]
    by_cases d1 : dig s.data.toList (i + 1)
    · have d1' := d1.2
      rw [if_pos ⟨d1, by omega⟩, if_pos d1, show i + 1 + 1 = i + 2 from rfl, f64_step hs (by omega) (by omega) (by omega)]
      by_cases d2 : dig s.data.toList (i + 2)
      · have d2' := d2.2
        rw [if_pos ⟨d2, by omega⟩, if_pos d2, f64_step hs (by omega) (by omega) (by omega), if_neg (by omega)]
        congr 4
        congr 3
        congr 1
        omega
      · rw [if_neg (fun h => d2 h.1), if_neg d2]
        congr 4
        congr 3
        congr 1
        omega
    · rw [if_neg (fun h => d1 h.1), if_neg d1]
      congr 4
      congr 3
      congr 1
      omega
  · rw [if_neg (fun h => d0 h.1), if_neg d0]

theorem side_ge {c k : Int} (h : decide (k < 0) = !side c) : decide (k ≥ 0) = side c := by
  by_cases hk : k < 0
  · rw [decide_eq_true hk] at h
    rw [decide_eq_false (by omega)]
    cases hs : side c with
    | true => rw [hs] at h; cases h
    | false => rfl
  · rw [decide_eq_false hk] at h
    rw [decide_eq_true (by omega)]
    cases hs : side c with
    | true => rfl
    | false => rw [hs] at h; cases h

def p0 : Piece := Piece.mk (ByteArray.mk #[]) 0 0 0
def q0 : Part := Part.mk (ByteArray.mk #[]) 0 0 0
def r58 : Option (Int × Int × Int × Nat) → Int × Bool × Piece × Unit
  | none => (0, false, p0, ())
  | some (c, sd, w, n) => ((n : Int), true, Piece.mk (ByteArray.mk #[]) c sd w, ())
def r64 : Option (Int × Int × Int × Nat) → Int × Part × Unit
  | none => (0, q0, ())
  | some (c, sd, w, n) => ((n : Int), Part.mk (ByteArray.mk #[]) c sd w, ())

theorem n0_le (l : List UInt8) : 2 ≤ n0 l ∧ n0 l ≤ 3 ∧ (n0 l = 3 → 2 < l.length) := by
  unfold n0
  by_cases h : 2 < l.length ∧ side (byt l 2) = true
  · rw [if_pos h]; exact ⟨by omega, by omega, fun _ => h.1⟩
  · rw [if_neg h]; exact ⟨by omega, by omega, fun e => by omega⟩

theorem w11 : IntKind.i64.wrap (1 + 1) = ((2 : Nat) : Int) := by decide

set_option maxHeartbeats 1000000 in
theorem f58 {s : ByteArray} (hs : s.size ≤ 1000000) : n_58 (s, ()) = some (r58 (fieldS s.data.toList)) := by
  have hl := ba_size s
  unfold n_58
  simp only [ba_beq]
  by_cases hz : s.size = 0
  · have he : s = ByteArray.mk #[] := ba_ext (List.eq_nil_of_length_eq_zero (by omega))
    subst he
    rfl
  have hne : s ≠ ByteArray.mk #[] := fun h => by subst h; exact hz rfl
  obtain ⟨x, hx, hx2⟩ := ba_byt (show 0 < s.size by omega)
  have hb := byt_bnd s.data.toList 0
  obtain ⟨k, hk, hk2⟩ := f37d hb
  rw [decide_eq_false hne]
  simp only [Bool.false_eq_true, if_false, Option.bind_eq_bind]
  rw [show Int.toNat 0 = 0 from rfl, show Int.toNat 1 = 1 from rfl, hx]
  simp only [Option.bind_some, hx2]
  rw [show (ByteArray.mk #[(100 : UInt8), (120 : UInt8), (98 : UInt8), (115 : UInt8), (116 : UInt8), (99 : UInt8), (106 : UInt8)]) = D7 from rfl, hk]
  simp only [Option.bind_some, hk2]
  by_cases hlet : letters.contains (byt s.data.toList 0) = false
  · rw [hlet]
    have : fieldS s.data.toList = none := by unfold fieldS; rw [if_pos (.inr hlet)]
    rw [this]; rfl
  have hlet' : letters.contains (byt s.data.toList 0) = true := by simpa using hlet
  rw [hlet']
  simp only [Bool.not_true, Bool.false_eq_true, if_false]
  rw [hx]
  simp only [Option.bind_some, hx2, Int.toNat_natCast]
  rw [if_pos ⟨by omega, by omega, by omega⟩, pre1 (by omega)]
  simp only [Option.bind_some]
  have fin : ∀ (n : Nat) (b : Bool) (p : Piece), n ≤ s.size → (if 0 ≤ (n : Int) ∧ (n : Int) ≤ (↑s.size : Int) ∧ (↑s.size : Int) ≤ (↑s.size : Int) then
        n_57 (s.extract (n : Int).toNat (↑s.size : Int).toNat, ByteArray.mk #[(125 : UInt8)], ()) >>= fun x4 =>
        if (!x4.fst) = true then
          some ((0, false, Piece.mk (ByteArray.mk #[]) 0 0 0, ()))
        else some ((IntKind.i64.wrap ((n : Int) + 1), true, p, ()))
      else none) = some (if n < s.size ∧ byt s.data.toList n = 125 then (((n + 1 : Nat) : Int), true, p, ()) else (0, false, p0, ())) := by
    intro n b p hn
    rw [if_pos ⟨by omega, by omega, by omega⟩, Int.toNat_natCast, Int.toNat_natCast, pre1 hn]
    simp only [Option.bind_eq_bind, Option.bind_some]
    rw [wrap64 (by omega) (by omega), show (n : Int) + 1 = ((n + 1 : Nat) : Int) by omega]
    by_cases h : n < s.size ∧ byt s.data.toList n = 125
    · have : decide (n < s.size ∧ byt s.data.toList n = ((125 : UInt8).toNat : Int)) = true := decide_eq_true h
      rw [this, if_pos h]; rfl
    · have : decide (n < s.size ∧ byt s.data.toList n = ((125 : UInt8).toNat : Int)) = false := decide_eq_false h
      rw [this, if_neg h]; rfl
  by_cases hlen : s.data.toList.length < 2
  · have : fieldS s.data.toList = none := by unfold fieldS; rw [if_pos (.inl hlen)]
    rw [this, decide_eq_false (by omega)]
    simp only [Bool.false_eq_true, if_false, Option.bind_some]
    refine (fin 1 true _ (by omega)).trans ?_
    rw [if_neg (by omega)]; rfl
  by_cases hc : byt s.data.toList 1 = 58
  · have : decide (1 < s.size ∧ byt s.data.toList 1 = ((58 : UInt8).toNat : Int)) = true := decide_eq_true ⟨by omega, hc⟩
    rw [this, w11]
    simp only [if_true]
    have hn0 := n0_le s.data.toList
    have b0 := byt_bnd s.data.toList (n0 s.data.toList)
    -- the side
    have hside : ((if decide (((2 : Nat) : Int) < (↑s.size : Int)) = true then
          s[((2 : Nat) : Int).toNat]?.bind fun x4 =>
          (n_37 (ByteArray.mk #[(60 : UInt8), (62 : UInt8), (94 : UInt8)], (↑x4.toNat : Int), ())).bind fun x5 =>
          some ((s, ((2 : Nat) : Int), decide (x5.fst ≥ 0), Piece.mk (ByteArray.mk #[]) 0 0 0, Piece.mk (ByteArray.mk #[]) (byt s.data.toList 0) 0 0, ()))
        else some ((s, ((2 : Nat) : Int), false, Piece.mk (ByteArray.mk #[]) 0 0 0, Piece.mk (ByteArray.mk #[]) (byt s.data.toList 0) 0 0, ()))).bind fun x4 =>
          if x4.snd.snd.fst = true then
            if 0 ≤ x4.snd.fst then
              x4.fst[x4.snd.fst.toNat]?.bind fun x5 =>
              some ((x4.fst, IntKind.i64.wrap (x4.snd.fst + 1), x4.snd.snd.snd.fst, Piece.mk x4.snd.snd.snd.snd.fst.text x4.snd.snd.snd.snd.fst.letter (↑x5.toNat : Int) x4.snd.snd.snd.snd.fst.width, ()))
            else none
          else some ((x4.fst, x4.snd.fst, x4.snd.snd.snd.fst, x4.snd.snd.snd.snd.fst, ()))) =
        some (s, ((n0 s.data.toList : Nat) : Int), Piece.mk (ByteArray.mk #[]) 0 0 0, Piece.mk (ByteArray.mk #[]) (byt s.data.toList 0) (sd0 s.data.toList) 0, ()) := by
      by_cases h2 : 2 < s.size
      · obtain ⟨y, hy, hy2⟩ := ba_byt h2
        obtain ⟨k', hk', hk2'⟩ := f37 (byt_bnd s.data.toList 2)
        rw [if_pos (by simp; omega), Int.toNat_natCast, hy]
        simp only [Option.bind_some, hy2, hk', side_ge hk2']
        unfold n0 sd0
        by_cases h3 : side (byt s.data.toList 2) = true
        · rw [if_pos h3, if_pos (Int.natCast_nonneg _), Int.toNat_natCast, hy, if_pos ⟨by omega, h3⟩, if_pos ⟨by omega, h3⟩]
          simp only [Option.bind_some, hy2]
          rfl
        · rw [if_neg h3, if_neg (fun h => h3 h.2), if_neg (fun h => h3 h.2)]
      · rw [if_neg (by simp; omega)]
        unfold n0 sd0
        rw [if_neg (fun h => h2 (by omega)), if_neg (fun h => h2 (by omega))]
        rfl
    rw [hside]
    simp only [Option.bind_some]
    rw [f58_loop hs (by omega)]
    simp only [Option.bind_some]
    have hF : fieldS s.data.toList = (if ¬ dig s.data.toList (n0 s.data.toList) ∨ byt s.data.toList (n0 s.data.toList) = 48 then none
     else if dig s.data.toList (n0 s.data.toList + 1) then
       (if n0 s.data.toList + 2 < s.data.toList.length ∧ byt s.data.toList (n0 s.data.toList + 2) = 125 then some (byt s.data.toList 0, sd0 s.data.toList, 10 * (byt s.data.toList (n0 s.data.toList) - 48) + (byt s.data.toList (n0 s.data.toList + 1) - 48), n0 s.data.toList + 3) else none)
     else (if n0 s.data.toList + 1 < s.data.toList.length ∧ byt s.data.toList (n0 s.data.toList + 1) = 125 then some (byt s.data.toList 0, sd0 s.data.toList, byt s.data.toList (n0 s.data.toList) - 48, n0 s.data.toList + 2) else none)) := by
      unfold fieldS
      rw [if_neg (by rw [hlet']; simp; omega), if_pos hc]
    rw [hF]
    unfold dg2
    by_cases d0 : dig s.data.toList (n0 s.data.toList)
    · obtain ⟨y, hy, hy2⟩ := ba_byt (show n0 s.data.toList < s.size by have := d0.1; omega)
      have d0' := d0.2
      have hgo : ∀ (n : Nat) (w : Int), n ≠ n0 s.data.toList → ((if ((n : Int) == ((n0 s.data.toList : Nat) : Int)) = true then
            some ((s, (n : Int), true, Piece.mk (ByteArray.mk #[]) 0 0 0, Piece.mk (ByteArray.mk #[]) (byt s.data.toList 0) (sd0 s.data.toList) w, ()))
          else if 0 ≤ ((n0 s.data.toList : Nat) : Int) then
            s[((n0 s.data.toList : Nat) : Int).toNat]?.bind fun x6 =>
            some ((s, (n : Int), (↑x6.toNat : Int) == 48, Piece.mk (ByteArray.mk #[]) 0 0 0, Piece.mk (ByteArray.mk #[]) (byt s.data.toList 0) (sd0 s.data.toList) w, ()))
          else none)) = some (s, (n : Int), byt s.data.toList (n0 s.data.toList) == 48, Piece.mk (ByteArray.mk #[]) 0 0 0, Piece.mk (ByteArray.mk #[]) (byt s.data.toList 0) (sd0 s.data.toList) w, ()) := by
        intro n w hn
        rw [if_neg (by simp; omega), if_pos (Int.natCast_nonneg _), Int.toNat_natCast, hy]
        simp only [Option.bind_some, hy2]
      by_cases hz0 : byt s.data.toList (n0 s.data.toList) = 48
      · rw [if_pos (show ¬ dig s.data.toList (n0 s.data.toList) ∨ byt s.data.toList (n0 s.data.toList) = 48 from .inr hz0), if_pos d0]
        by_cases d1 : dig s.data.toList (n0 s.data.toList + 1)
        · rw [if_pos d1]
          simp only
          rw [hgo _ _ (by omega), hz0]; rfl
        · rw [if_neg d1]
          simp only
          rw [hgo _ _ (by omega), hz0]; rfl
      · rw [if_neg (show ¬ (¬ dig s.data.toList (n0 s.data.toList) ∨ byt s.data.toList (n0 s.data.toList) = 48) from fun h => h.elim (fun h => h d0) hz0), if_pos d0]
        have hz1 : (byt s.data.toList (n0 s.data.toList) == 48) = false := by simpa using hz0
        by_cases d1 : dig s.data.toList (n0 s.data.toList + 1)
        · rw [if_pos d1, if_pos d1]
          simp only
          rw [hgo _ _ (by omega), hz1]
          simp only [Option.bind_some, Bool.false_eq_true, if_false]
          have := d1.1
          refine (fin (n0 s.data.toList + 2) true _ (by omega)).trans ?_
          rw [ba_size]
          by_cases hq : n0 s.data.toList + 2 < s.size ∧ byt s.data.toList (n0 s.data.toList + 2) = 125
          · rw [if_pos hq, if_pos hq]; rfl
          · rw [if_neg hq, if_neg hq]; rfl
        · rw [if_neg d1, if_neg d1]
          simp only
          rw [hgo _ _ (by omega), hz1]
          simp only [Option.bind_some, Bool.false_eq_true, if_false]
          have := d0.1
          refine (fin (n0 s.data.toList + 1) true _ (by omega)).trans ?_
          rw [ba_size]
          by_cases hq : n0 s.data.toList + 1 < s.size ∧ byt s.data.toList (n0 s.data.toList + 1) = 125
          · rw [if_pos hq, if_pos hq]; rfl
          · rw [if_neg hq, if_neg hq]; rfl
    · rw [if_neg d0, if_pos (show ¬ dig s.data.toList (n0 s.data.toList) ∨ byt s.data.toList (n0 s.data.toList) = 48 from .inl d0)]
      simp only
      rw [if_pos (by simp)]
      rfl
  · have : decide (1 < s.size ∧ byt s.data.toList 1 = ((58 : UInt8).toNat : Int)) = false := decide_eq_false (fun h => hc h.2)
    rw [this]
    simp only [Bool.false_eq_true, if_false, Option.bind_some]
    refine (fin 1 true _ (by omega)).trans ?_
    have hF : fieldS s.data.toList = if byt s.data.toList 1 = 125 then some (byt s.data.toList 0, 0, 0, 2) else none := by
      unfold fieldS
      rw [if_neg (by rw [hlet']; simp; omega), if_neg hc]
    rw [hF]
    by_cases hq : byt s.data.toList 1 = 125
    · rw [if_pos ⟨by omega, hq⟩, if_pos hq]; rfl
    · rw [if_neg (fun h => hq h.2), if_neg hq]; rfl

theorem letter_step {s : ByteArray} (hs : 0 < s.size) {i : Nat} (hi : i < 7) (b : Bool) (p q : Part) :
    n_64l6 (s, b, (i : Int), p, q, ()) = n_64l6 (s, b || letters.getD i 0 == byt s.data.toList 0, ((i + 1 : Nat) : Int), p, q, ()) := by
  obtain ⟨x, hx, hx2⟩ := ba_byt hs
  have hd : ∃ y : UInt8, D7[i]? = some y ∧ (y.toNat : Int) = letters.getD i 0 := by
    have : i = 0 ∨ i = 1 ∨ i = 2 ∨ i = 3 ∨ i = 4 ∨ i = 5 ∨ i = 6 := by omega
    rcases this with rfl | rfl | rfl | rfl | rfl | rfl | rfl <;> exact ⟨_, rfl, rfl⟩
  obtain ⟨y, hy, hy2⟩ := hd
  conv => lhs; rw [n_64l6]
  simp only
  rw [show (ByteArray.mk #[(100 : UInt8), (120 : UInt8), (98 : UInt8), (115 : UInt8), (116 : UInt8), (99 : UInt8), (106 : UInt8)]) = D7 from rfl]
  rw [if_pos (by simp; omega), show Int.toNat 0 = 0 from rfl]
  cases b with
  | true =>
    rw [if_pos rfl]
    simp only [Option.bind_eq_bind, Option.bind_some, Bool.true_or]
    rw [wrap64 (by omega) (by omega)]
    rfl
  | false =>
    rw [if_neg (by decide), if_pos (Int.natCast_nonneg _), Int.toNat_natCast, hy, hx]
    simp only [Option.bind_eq_bind, Option.bind_some, hx2, hy2, Bool.false_or]
    rw [wrap64 (by omega) (by omega)]
    rfl

theorem f64_letters {s : ByteArray} (hs : 0 < s.size) (p q : Part) : n_64l6 (s, false, 0, p, q, ()) = some (s, letters.contains (byt s.data.toList 0), p, q, ()) := by
  rw [show (0 : Int) = ((0 : Nat) : Int) from rfl, letter_step hs (by omega), letter_step hs (by omega), letter_step hs (by omega), letter_step hs (by omega), letter_step hs (by omega), letter_step hs (by omega), letter_step hs (by omega), n_64l6]
  simp only
  rw [if_neg (by simp)]
  have e (a : Int) : (a == byt s.data.toList 0) = decide (byt s.data.toList 0 = a) := by rw [Bool.eq_iff_iff, beq_iff_eq, decide_eq_true_iff]; exact eq_comm
  congr 3
  simp [letters, Bool.or_assoc, e]

theorem dtext_size (w : Nat) : (dtext w).size = if w < 10 then 1 else if w < 100 then 2 else 3 := by
  unfold dtext
  by_cases h : w < 10
  · rw [if_pos h, if_pos h]; rfl
  · rw [if_neg h, if_neg h]
    by_cases h2 : w < 100
    · rw [if_pos h2, if_pos h2]; rfl
    · rw [if_neg h2, if_neg h2]; rfl

theorem ex_size {s : ByteArray} {i n : Nat} (h : i ≤ n) (h2 : n ≤ s.size) : (s.extract i n).size = n - i := by
  rw [← ba_size, ba_extract, List.length_drop, List.length_take, ba_size]; omega

theorem ex_data {s : ByteArray} {i n : Nat} : (s.extract i n).data.toList = (s.data.toList.drop i).take (n - i) := by
  rw [ba_extract, List.drop_take]

theorem dig1 {s : ByteArray} {i : Nat} (d0 : dig s.data.toList i) {w : Nat} (hw : (w : Int) = byt s.data.toList i - 48) : dtext w = s.extract i (i + 1) := by
  obtain ⟨h1, h2, h3⟩ := d0
  apply ba_ext
  rw [ex_data, show i + 1 - i = 1 by omega, takeA _ (by rw [List.length_drop]; omega), ← getD_drop']
  unfold dtext
  rw [if_pos (by omega)]
  unfold byt at hw h2
  simp only [Nat.add_zero]
  have : 48 + w = (s.data.toList.getD i 0).toNat := by omega
  rw [this]
  simp

theorem dig2 {s : ByteArray} {i : Nat} (d0 : dig s.data.toList i) (d1 : dig s.data.toList (i + 1)) (hz : byt s.data.toList i ≠ 48) {w : Nat} (hw : (w : Int) = 10 * (byt s.data.toList i - 48) + (byt s.data.toList (i + 1) - 48)) : dtext w = s.extract i (i + 2) := by
  obtain ⟨h1, h2, h3⟩ := d0
  obtain ⟨h4, h5, h6⟩ := d1
  apply ba_ext
  rw [ex_data, show i + 2 - i = 2 by omega, takeB _ (by rw [List.length_drop]; omega), ← getD_drop', ← getD_drop']
  unfold dtext
  rw [if_neg (by omega), if_pos (by omega)]
  unfold byt at hw h2 h3 h5 h6 hz
  simp only [Nat.add_zero]
  have e1 : 48 + w / 10 = (s.data.toList.getD i 0).toNat := by omega
  have e2 : 48 + w % 10 = (s.data.toList.getD (i + 1) 0).toNat := by omega
  rw [e1, e2]
  simp

set_option maxHeartbeats 1000000 in
theorem f64 {s : ByteArray} (hs : s.size ≤ 1000000) : n_64 (s, ()) = some (r64 (fieldS s.data.toList)) := by
  have hl := ba_size s
  unfold n_64
  simp only [ba_beq]
  by_cases hlen : s.size < 2
  · have : fieldS s.data.toList = none := by unfold fieldS; rw [if_pos (.inl (by omega))]
    rw [this, if_pos (by simp; omega)]
    rfl
  obtain ⟨x, hx, hx2⟩ := ba_byt (show 0 < s.size by omega)
  obtain ⟨z, hz, hz2⟩ := ba_byt (show 1 < s.size by omega)
  rw [if_neg (by simp; omega), show Int.toNat 0 = 0 from rfl, show Int.toNat 1 = 1 from rfl, hx]
  simp only [Option.bind_eq_bind, Option.bind_some, hx2]
  rw [f64_letters (by omega)]
  simp only [Option.bind_some]
  by_cases hlet : letters.contains (byt s.data.toList 0) = false
  · rw [hlet]
    have : fieldS s.data.toList = none := by unfold fieldS; rw [if_pos (.inr hlet)]
    rw [this]; rfl
  have hlet' : letters.contains (byt s.data.toList 0) = true := by simpa using hlet
  rw [hlet']
  simp only [Bool.not_true, Bool.false_eq_true, if_false]
  rw [hz]
  simp only [Option.bind_some, hz2]
  have fin : ∀ (n : Nat) (pz p : Part), n ≤ 1000000 → ((if decide ((n : Int) ≥ (↑s.size : Int)) = true then
          some (((n : Int), true, pz, p, ()))
        else if 0 ≤ (n : Int) then
          s[(n : Int).toNat]?.bind fun x4 =>
          some (((n : Int), (↑x4.toNat : Int) != 125, pz, p, ()))
        else none).bind fun x4 =>
      if x4.snd.fst = true then
        some ((0, Part.mk (ByteArray.mk #[]) 0 0 0, ()))
      else some ((IntKind.i64.wrap (x4.fst + 1), x4.snd.snd.snd.fst, ()))) = some (if n < s.size ∧ byt s.data.toList n = 125 then (((n + 1 : Nat) : Int), p, ()) else (0, q0, ())) := by
    intro n pz p hn
    by_cases h1 : n < s.size
    · obtain ⟨y, hy, hy2⟩ := ba_byt h1
      rw [if_neg (by simp; omega), if_pos (Int.natCast_nonneg _), Int.toNat_natCast, hy]
      simp only [Option.bind_some, hy2]
      rw [wrap64 (by omega) (by omega), show (n : Int) + 1 = ((n + 1 : Nat) : Int) by omega]
      by_cases h : byt s.data.toList n = 125
      · rw [if_pos (show n < s.size ∧ byt s.data.toList n = 125 from ⟨h1, h⟩), h]; rfl
      · rw [if_neg (show ¬ (n < s.size ∧ byt s.data.toList n = 125) from fun hh => h hh.2), if_pos (by simpa using h)]; rfl
    · rw [if_pos (by simp; omega), if_neg (show ¬ (n < s.size ∧ byt s.data.toList n = 125) from fun hh => h1 hh.1)]; rfl
  by_cases hc : byt s.data.toList 1 = 58
  · rw [hc, w11]
    simp only [beq_self_eq_true, if_true]
    have hn0 := n0_le s.data.toList
    have hside : ((if decide (((2 : Nat) : Int) < (↑s.size : Int)) = true then
          s[((2 : Nat) : Int).toNat]?.bind fun x4 =>
          (n_40 ((↑x4.toNat : Int), ())).bind fun x5 =>
          some ((s, ((2 : Nat) : Int), x5.fst, Part.mk (ByteArray.mk #[]) 0 0 0, Part.mk (ByteArray.mk #[]) (byt s.data.toList 0) 0 0, ()))
        else some ((s, ((2 : Nat) : Int), false, Part.mk (ByteArray.mk #[]) 0 0 0, Part.mk (ByteArray.mk #[]) (byt s.data.toList 0) 0 0, ()))).bind fun x4 =>
          if x4.snd.snd.fst = true then
            if 0 ≤ x4.snd.fst then
              x4.fst[x4.snd.fst.toNat]?.bind fun x5 =>
              some ((x4.fst, IntKind.i64.wrap (x4.snd.fst + 1), x4.snd.snd.snd.fst, Part.mk x4.snd.snd.snd.snd.fst.text x4.snd.snd.snd.snd.fst.letter (↑x5.toNat : Int) x4.snd.snd.snd.snd.fst.width, ()))
            else none
          else some ((x4.fst, x4.snd.fst, x4.snd.snd.snd.fst, x4.snd.snd.snd.snd.fst, ()))) =
        some (s, ((n0 s.data.toList : Nat) : Int), Part.mk (ByteArray.mk #[]) 0 0 0, Part.mk (ByteArray.mk #[]) (byt s.data.toList 0) (sd0 s.data.toList) 0, ()) := by
      by_cases h2 : 2 < s.size
      · obtain ⟨y, hy, hy2⟩ := ba_byt h2
        rw [if_pos (by simp; omega), Int.toNat_natCast, hy]
        simp only [Option.bind_some, hy2, f40]
        unfold n0 sd0
        by_cases h3 : side (byt s.data.toList 2) = true
        · rw [if_pos h3, if_pos (Int.natCast_nonneg _), Int.toNat_natCast, hy, if_pos ⟨by omega, h3⟩, if_pos ⟨by omega, h3⟩]
          simp only [Option.bind_some, hy2]
          rfl
        · rw [if_neg h3, if_neg (fun h => h3 h.2), if_neg (fun h => h3 h.2)]
      · rw [if_neg (by simp; omega)]
        unfold n0 sd0
        rw [if_neg (fun h => h2 (by omega)), if_neg (fun h => h2 (by omega))]
        rfl
    rw [hside]
    simp only [Option.bind_some]
    rw [f64_loop hs (by omega)]
    simp only [Option.bind_some]
    have hF : fieldS s.data.toList = (if ¬ dig s.data.toList (n0 s.data.toList) ∨ byt s.data.toList (n0 s.data.toList) = 48 then none
     else if dig s.data.toList (n0 s.data.toList + 1) then
       (if n0 s.data.toList + 2 < s.data.toList.length ∧ byt s.data.toList (n0 s.data.toList + 2) = 125 then some (byt s.data.toList 0, sd0 s.data.toList, 10 * (byt s.data.toList (n0 s.data.toList) - 48) + (byt s.data.toList (n0 s.data.toList + 1) - 48), n0 s.data.toList + 3) else none)
     else (if n0 s.data.toList + 1 < s.data.toList.length ∧ byt s.data.toList (n0 s.data.toList + 1) = 125 then some (byt s.data.toList 0, sd0 s.data.toList, byt s.data.toList (n0 s.data.toList) - 48, n0 s.data.toList + 2) else none)) := by
      unfold fieldS
      rw [if_neg (by rw [hlet']; simp; omega), if_pos hc]
    rw [hF]
    have hgo : ∀ (n w : Nat), n0 s.data.toList < n → n ≤ s.size → w < 1000 → ((if ((n : Int) == ((n0 s.data.toList : Nat) : Int)) = true then
          some ((s, (n : Int), true, Part.mk (ByteArray.mk #[]) 0 0 0, Part.mk (ByteArray.mk #[]) (byt s.data.toList 0) (sd0 s.data.toList) (w : Int), ()))
        else (n_82 ((w : Int), ())).bind fun x6 =>
        if 0 ≤ ((n0 s.data.toList : Nat) : Int) ∧ ((n0 s.data.toList : Nat) : Int) ≤ (n : Int) ∧ (n : Int) ≤ (↑s.size : Int) then
          if (!decide (x6.fst = s.extract ((n0 s.data.toList : Nat) : Int).toNat (n : Int).toNat)) = true then
            some ((s, (n : Int), true, Part.mk (ByteArray.mk #[]) 0 0 0, Part.mk (ByteArray.mk #[]) (byt s.data.toList 0) (sd0 s.data.toList) (w : Int), ()))
          else (n_39 ((w : Int), 1, 99, ())).bind fun x7 =>
          some ((s, (n : Int), !x7.fst, Part.mk (ByteArray.mk #[]) 0 0 0, Part.mk (ByteArray.mk #[]) (byt s.data.toList 0) (sd0 s.data.toList) (w : Int), ()))
        else none)) = some (s, (n : Int), !(decide (dtext w = s.extract (n0 s.data.toList) n) && decide (1 ≤ w ∧ w ≤ 99)), Part.mk (ByteArray.mk #[]) 0 0 0, Part.mk (ByteArray.mk #[]) (byt s.data.toList 0) (sd0 s.data.toList) (w : Int), ()) := by
      intro n w h1 h2 h3
      rw [if_neg (by simp; omega), f82 h3]
      simp only [Option.bind_some, Int.toNat_natCast]
      rw [if_pos ⟨by omega, by omega, by omega⟩, f39]
      by_cases h4 : dtext w = s.extract (n0 s.data.toList) n
      · simp only [h4, decide_true, Bool.not_true, Bool.false_eq_true, if_false, Option.bind_some, Bool.true_and]
        congr 5
        rw [Bool.eq_iff_iff, decide_eq_true_iff, decide_eq_true_iff]; omega
      · simp only [h4, decide_false, Bool.not_false, if_true, Bool.false_and]
    unfold dg3
    by_cases d0 : dig s.data.toList (n0 s.data.toList)
    · have d0' := d0.2
      have d0l := d0.1
      rw [if_pos d0]
      by_cases d1 : dig s.data.toList (n0 s.data.toList + 1)
      · have d1' := d1.2
        have d1l := d1.1
        rw [if_pos d1]
        by_cases d2 : dig s.data.toList (n0 s.data.toList + 2)
        · have d2' := d2.2
          have d2l := d2.1
          rw [if_pos d2]
          simp only
          obtain ⟨w, hw⟩ : ∃ w : Nat, (w : Int) = 10 * (10 * (byt s.data.toList (n0 s.data.toList) - 48) + (byt s.data.toList (n0 s.data.toList + 1) - 48)) + (byt s.data.toList (n0 s.data.toList + 2) - 48) := ⟨(10 * (10 * (byt s.data.toList (n0 s.data.toList) - 48) + (byt s.data.toList (n0 s.data.toList + 1) - 48)) + (byt s.data.toList (n0 s.data.toList + 2) - 48)).toNat, by omega⟩
          rw [← hw, hgo _ _ (by omega) (by omega) (by omega)]
          have hbad : (decide (dtext w = s.extract (n0 s.data.toList) (n0 s.data.toList + 3)) && decide (1 ≤ w ∧ w ≤ 99)) = false := by
            by_cases h : dtext w = s.extract (n0 s.data.toList) (n0 s.data.toList + 3)
            · have hsz := congrArg ByteArray.size h
              rw [dtext_size, ex_size (by omega) (by omega)] at hsz
              have : ¬ (1 ≤ w ∧ w ≤ 99) := by
                intro hh
                by_cases hw1 : w < 10
                · rw [if_pos hw1] at hsz; omega
                · rw [if_neg hw1, if_pos (by omega)] at hsz; omega
              rw [decide_eq_false this, Bool.and_false]
            · rw [decide_eq_false h, Bool.false_and]
          rw [hbad]
          simp only [Option.bind_some, Bool.not_false, if_true]
          have hnone : (if ¬ dig s.data.toList (n0 s.data.toList) ∨ byt s.data.toList (n0 s.data.toList) = 48 then (none : Option (Int × Int × Int × Nat))
            else if dig s.data.toList (n0 s.data.toList + 1) then
             (if n0 s.data.toList + 2 < s.data.toList.length ∧ byt s.data.toList (n0 s.data.toList + 2) = 125 then some (byt s.data.toList 0, sd0 s.data.toList, 10 * (byt s.data.toList (n0 s.data.toList) - 48) + (byt s.data.toList (n0 s.data.toList + 1) - 48), n0 s.data.toList + 3) else none)
            else (if n0 s.data.toList + 1 < s.data.toList.length ∧ byt s.data.toList (n0 s.data.toList + 1) = 125 then some (byt s.data.toList 0, sd0 s.data.toList, byt s.data.toList (n0 s.data.toList) - 48, n0 s.data.toList + 2) else none)) = none := by
            rw [if_pos d1, if_neg (show ¬ (n0 s.data.toList + 2 < s.data.toList.length ∧ byt s.data.toList (n0 s.data.toList + 2) = 125) from fun h => by omega)]
            split <;> rfl
          rw [hnone]; rfl
        · rw [if_neg d2]
          simp only
          obtain ⟨w, hw⟩ : ∃ w : Nat, (w : Int) = 10 * (byt s.data.toList (n0 s.data.toList) - 48) + (byt s.data.toList (n0 s.data.toList + 1) - 48) := ⟨(10 * (byt s.data.toList (n0 s.data.toList) - 48) + (byt s.data.toList (n0 s.data.toList + 1) - 48)).toNat, by omega⟩
          rw [← hw, hgo _ _ (by omega) (by omega) (by omega)]
          by_cases hz0 : byt s.data.toList (n0 s.data.toList) = 48
          · have hbad : decide (dtext w = s.extract (n0 s.data.toList) (n0 s.data.toList + 2)) = false := decide_eq_false fun h => by
              have hsz := congrArg ByteArray.size h
              rw [dtext_size, ex_size (by omega) (by omega), if_pos (by omega)] at hsz
              omega
            rw [hbad, if_pos (show ¬ dig s.data.toList (n0 s.data.toList) ∨ byt s.data.toList (n0 s.data.toList) = 48 from .inr hz0)]
            rfl
          · rw [decide_eq_true (dig2 d0 d1 hz0 hw), decide_eq_true (show 1 ≤ w ∧ w ≤ 99 by omega), if_neg (show ¬ (¬ dig s.data.toList (n0 s.data.toList) ∨ byt s.data.toList (n0 s.data.toList) = 48) from fun h => h.elim (fun h => h d0) hz0), if_pos d1]
            simp only [Option.bind_some, Bool.and_self, Bool.not_true, Bool.false_eq_true, if_false]
            refine (fin (n0 s.data.toList + 2) _ _ (by omega)).trans ?_
            rw [ba_size]
            by_cases hq : n0 s.data.toList + 2 < s.size ∧ byt s.data.toList (n0 s.data.toList + 2) = 125
            · rw [if_pos hq, if_pos hq]; rfl
            · rw [if_neg hq, if_neg hq]; rfl
      · rw [if_neg d1]
        simp only
        obtain ⟨w, hw⟩ : ∃ w : Nat, (w : Int) = byt s.data.toList (n0 s.data.toList) - 48 := ⟨(byt s.data.toList (n0 s.data.toList) - 48).toNat, by omega⟩
        rw [← hw, hgo _ _ (by omega) (by omega) (by omega), decide_eq_true (dig1 d0 hw)]
        by_cases hz0 : byt s.data.toList (n0 s.data.toList) = 48
        · rw [decide_eq_false (show ¬ (1 ≤ w ∧ w ≤ 99) by omega), if_pos (show ¬ dig s.data.toList (n0 s.data.toList) ∨ byt s.data.toList (n0 s.data.toList) = 48 from .inr hz0)]
          rfl
        · rw [decide_eq_true (show 1 ≤ w ∧ w ≤ 99 by omega), if_neg (show ¬ (¬ dig s.data.toList (n0 s.data.toList) ∨ byt s.data.toList (n0 s.data.toList) = 48) from fun h => h.elim (fun h => h d0) hz0), if_neg d1]
          simp only [Option.bind_some, Bool.and_self, Bool.not_true, Bool.false_eq_true, if_false]
          refine (fin (n0 s.data.toList + 1) _ _ (by omega)).trans ?_
          rw [ba_size]
          by_cases hq : n0 s.data.toList + 1 < s.size ∧ byt s.data.toList (n0 s.data.toList + 1) = 125
          · rw [if_pos hq, if_pos hq]; rfl
          · rw [if_neg hq, if_neg hq]; rfl
    · rw [if_neg d0, if_pos (show ¬ dig s.data.toList (n0 s.data.toList) ∨ byt s.data.toList (n0 s.data.toList) = 48 from .inl d0)]
      simp only
      rw [if_pos (by simp)]
      rfl
  · have : (byt s.data.toList 1 == 58) = false := by simpa using hc
    rw [this]
    simp only [Bool.false_eq_true, if_false, Option.bind_some]
    refine (fin 1 _ _ (by omega)).trans ?_
    have hF : fieldS s.data.toList = if byt s.data.toList 1 = 125 then some (byt s.data.toList 0, 0, 0, 2) else none := by
      unfold fieldS
      rw [if_neg (by rw [hlet']; simp; omega), if_neg hc]
    rw [hF]
    by_cases hq : byt s.data.toList 1 = 125
    · rw [if_pos ⟨by omega, hq⟩, if_pos hq]; rfl
    · rw [if_neg (fun h => hq h.2), if_neg hq]; rfl

end Go.Proofs.YtnbkpokcfcednaaDoor
