/-
  What the functions on texts compute: code points, widths, the text of code points.
-/
import Derived.Test.YtnbkpokcfcednaaDoorLtF
namespace Go.Proofs.YtnbkpokcfcednaaDoor
open Go.Lib
set_option linter.unusedSimpArgs false
set_option linter.unusedVariables false
set_option maxRecDepth 20000

theorem inside {s : ByteArray} {l : List UInt8} {i : Nat} (hl : l = s.data.toList.drop i) (hne : l ≠ []) : i < s.size := by
  rcases Nat.lt_or_ge i s.size with h | h
  · exact h
  · exact absurd (hl.trans (List.drop_eq_nil_of_le (by rw [ba_size]; omega))) hne
theorem at_end {s : ByteArray} {i : Nat} (hl : [] = s.data.toList.drop i) (hi : i ≤ s.size) : i = s.size := by
  have hl2 := congrArg List.length hl
  rw [List.length_drop, ba_size, List.length_nil] at hl2
  omega

theorem f51l {s : ByteArray} (hs : s.size ≤ 1000000) : ∀ (l : List UInt8) (i a : Nat), l = s.data.toList.drop i → i ≤ s.size → a ≤ i → i + (P l).2 = s.size →
    n_51l2 ((a : Int), s, (i : Int), ()) = some (((a + (P l).1.length : Nat) : Int), ()) := by
  intro l
  induction l using text_ind with
  | h0 =>
    intro i a hl hi ha hf
    obtain rfl := at_end hl hi
    rw [n_51l2]
    simp [P_nil]
  | h1 l hne hb =>
    intro i a hl hi ha hf
    have := inside hl hne
    rw [P_bad hb] at hf
    simp only at hf; omega
  | h2 l hne hb ih =>
    intro i a hl hi ha hf
    have hi2 := inside hl hne
    have hw := decodeL_width l
    have hle := decodeL_le l hne
    subst hl
    rw [List.length_drop, ba_size] at hle
    rw [P_step hne hb] at hf ⊢
    simp only at hf
    have ih2 := ih (i + (decodeL (s.data.toList.drop i)).2) (a + 1) (by rw [List.drop_drop]) (by omega) (by omega) (by omega)
    rw [n_51l2]
    simp only
    rw [if_pos (Int.natCast_nonneg _), if_pos (Int.ofNat_lt.mpr hi2), wid_eq, wrap64 (x := (a : Int) + 1) (by omega) (by omega)]
    rw [show (a : Int) + 1 = ((a + 1 : Nat) : Int) by omega, show (i : Int) + ((decodeL (s.data.toList.drop i)).2 : Int) = ((i + (decodeL (s.data.toList.drop i)).2 : Nat) : Int) by omega, ih2]
    simp only [List.length_cons]
    congr 3
    omega

theorem f22l {s : ByteArray} (hs : s.size ≤ 1000000) : ∀ (l : List UInt8) (i : Nat) (acc : List Int), l = s.data.toList.drop i → i ≤ s.size → acc.length ≤ i → i + (P l).2 = s.size →
    n_22l6 (acc, s, (i : Int), ()) = some (acc ++ (P l).1, ()) := by
  intro l
  induction l using text_ind with
  | h0 =>
    intro i a hl hi ha hf
    obtain rfl := at_end hl hi
    rw [n_22l6]
    simp [P_nil]
  | h1 l hne hb =>
    intro i a hl hi ha hf
    have := inside hl hne
    rw [P_bad hb] at hf
    simp only at hf; omega
  | h2 l hne hb ih =>
    intro i a hl hi ha hf
    have hi2 := inside hl hne
    have hw := decodeL_width l
    have hle := decodeL_le l hne
    have hr := decodeL_rune l
    subst hl
    rw [List.length_drop, ba_size] at hle
    rw [P_step hne hb] at hf ⊢
    simp only at hf
    have ih2 := ih (i + (decodeL (s.data.toList.drop i)).2) (a ++ [((decodeL (s.data.toList.drop i)).1 : Int)]) (by rw [List.drop_drop]) (by omega) (by rw [List.length_append, List.length_singleton]; omega) (by omega)
    rw [n_22l6]
    simp only
    rw [if_pos (Int.natCast_nonneg _), if_pos (Int.ofNat_lt.mpr hi2), wid_eq, dec_eq, wrap64 (x := (((decodeL (s.data.toList.drop i)).1 : Nat) : Int)) (by omega) (by omega), if_pos (by rw [List.length_singleton]; omega)]
    rw [show (i : Int) + ((decodeL (s.data.toList.drop i)).2 : Int) = ((i + (decodeL (s.data.toList.drop i)).2 : Nat) : Int) by omega, ih2]
    simp

theorem f51 {s : ByteArray} (h : code s = 0) : n_51 (s, ()) = some (((pts s).length : Int), ()) := by
  obtain ⟨h1, h2⟩ := code0 h
  have := f51l (show s.size ≤ 1000000 by omega) s.data.toList 0 0 (by simp) (by omega) (by omega) (by rw [Nat.zero_add]; exact h2)
  unfold n_51
  simp only
  rw [show ((0 : Int)) = ((0 : Nat) : Int) from rfl, this]
  simp [pts]

theorem f22 (s : ByteArray) : n_22 (s, ()) = some (if code s = 0 then pts s else [], code s, ()) := by
  unfold n_22
  simp only [f36, Option.bind_eq_bind, Option.bind_some, Option.bind_none, if_true, if_false, Bool.false_eq_true, Bool.true_eq_false, Int.toNat_natCast, Int.natCast_nonneg, beq_iff_eq, decide_eq_true_eq, Int.ofNat_lt, decide_true, decide_false, Bool.not_true, Bool.not_false]
  by_cases h : code s = 0
  · obtain ⟨h1, h2⟩ := code0 h
    have := f22l (show s.size ≤ 1000000 by omega) s.data.toList 0 [] (by simp) (by omega) (by simp) (by rw [Nat.zero_add]; exact h2)
    rw [if_pos h, if_neg (by simp [h]), h, show ((0 : Int)) = ((0 : Nat) : Int) from rfl, this]
    simp [pts]
  · rw [if_neg h, if_pos (by simpa using h)]

theorem f24 (s : ByteArray) : n_24 (s, ()) = some (((if code s = 0 then pts s else []).length : Int), code s, ()) := by
  unfold n_24
  simp only [f36, Option.bind_eq_bind, Option.bind_some, Option.bind_none, if_true, if_false, Bool.false_eq_true, Bool.true_eq_false, Int.toNat_natCast, Int.natCast_nonneg, beq_iff_eq, decide_eq_true_eq, Int.ofNat_lt, decide_true, decide_false, Bool.not_true, Bool.not_false]
  by_cases h : code s = 0
  · rw [if_pos h, if_neg (by simp [h]), f51 h, h]; rfl
  · rw [if_neg h, if_pos (by simpa using h)]; rfl

theorem f25 {s : ByteArray} (hs : s.size ≤ 1000000) : n_25 (s, ()) = some (((if code s = 0 then pts s else []).length : Int), code s, ()) := by
  unfold n_25
  simp only [f23 hs, Option.bind_eq_bind, Option.bind_some, Option.bind_none, if_true, if_false, Bool.false_eq_true, Bool.true_eq_false, Int.toNat_natCast, Int.natCast_nonneg, beq_iff_eq, decide_eq_true_eq, Int.ofNat_lt, decide_true, decide_false, Bool.not_true, Bool.not_false]

theorem f26l (a : List Int) (h : a.length ≤ 1000000000) : ∀ (n i : Nat), i + n = a.length → n_26l4 (a, a, (i : Int), ()) = some (.inr ())
  | 0, i, hi => by
    rw [n_26l4]
    simp only
    rw [if_neg (by simp; omega)]
  | n + 1, i, hi => by
    rw [n_26l4]
    simp only
    have e : a[i]? = some a[i] := List.getElem?_eq_getElem (by omega)
    rw [if_pos (by simp; omega), if_pos (Int.natCast_nonneg _), Int.toNat_natCast, e]
    simp only [Option.bind_eq_bind, Option.bind_some, Option.bind_none, if_true, if_false, Bool.false_eq_true, Bool.true_eq_false, Int.toNat_natCast, Int.natCast_nonneg, beq_iff_eq, decide_eq_true_eq, Int.ofNat_lt, decide_true, decide_false, Bool.not_true, Bool.not_false, bne_self_eq_false, Int.natCast_nonneg, if_true]
    rw [wrap64 (by omega) (by omega), show (i : Int) + 1 = ((i + 1 : Nat) : Int) by omega]
    exact f26l a h n (i + 1) (by omega)

theorem f26 {a : List Int} (h : a.length ≤ 1000000000) : n_26 (a, a, ()) = some (true, ()) := by
  unfold n_26
  simp only [bne_self_eq_false, Bool.false_eq_true, if_false]
  rw [show ((0 : Int)) = ((0 : Nat) : Int) from rfl, f26l a h a.length 0 (by omega)]
  rfl

/-! ### the text of code points -/
theorem wrap32 {x : Int} (h1 : 0 ≤ x) (h2 : x ≤ 1114111) : IntKind.i32.wrap x = x := by
  unfold IntKind.wrap
  simp only [IntKind.bits, IntKind.signed, Bool.true_and]
  split <;> rename_i h <;> simp at h <;> omega
theorem wrapU32 {x : Int} (h1 : 0 ≤ x) (h2 : x ≤ 1114111) : IntKind.u32.wrap x = x := by
  unfold IntKind.wrap
  simp only [IntKind.bits, IntKind.signed, Bool.false_and]
  simp; omega

theorem f69 {x : Int} (h1 : 0 ≤ x) (h2 : x ≤ 1114111) : n_69 (x, ()) = some (decide (isPt x), ()) := by
  unfold n_69
  simp only
  rw [if_pos (by simpa using h1)]
  simp only [Option.bind_eq_bind, Option.bind_some, Option.bind_none, if_true, if_false, Bool.false_eq_true, Bool.true_eq_false, Int.toNat_natCast, Int.natCast_nonneg, beq_iff_eq, decide_eq_true_eq, Int.ofNat_lt, decide_true, decide_false, Bool.not_true, Bool.not_false]
  by_cases c : x < 55296
  · rw [if_pos c, decide_eq_true (show isPt x by unfold isPt; omega)]
  · rw [if_neg c]
    by_cases c2 : 57343 < x
    · rw [if_pos c2]
      simp only [Option.bind_eq_bind, Option.bind_some, Option.bind_none, if_true, if_false, Bool.false_eq_true, Bool.true_eq_false, Int.toNat_natCast, Int.natCast_nonneg, beq_iff_eq, decide_eq_true_eq, Int.ofNat_lt, decide_true, decide_false, Bool.not_true, Bool.not_false, h2]
      rw [decide_eq_true (show isPt x by unfold isPt; omega)]
    · rw [if_neg c2]
      simp only [Option.bind_eq_bind, Option.bind_some, Option.bind_none, if_true, if_false, Bool.false_eq_true, Bool.true_eq_false, Int.toNat_natCast, Int.natCast_nonneg, beq_iff_eq, decide_eq_true_eq, Int.ofNat_lt, decide_true, decide_false, Bool.not_true, Bool.not_false]
      rw [decide_eq_false (show ¬ isPt x by unfold isPt; omega)]

theorem f52 (x : Int) : n_52 (x, ()) = some (decide (isPt x), ()) := by
  unfold n_52
  simp only
  by_cases h1 : x ≥ 0
  · rw [if_pos (by simpa using h1)]
    by_cases h2 : x ≤ 1114111
    · rw [if_pos (by simpa using h2), wrap32 h1 h2, f69 h1 h2]; rfl
    · rw [if_neg (by simpa using h2), decide_eq_false (by unfold isPt; omega)]; rfl
  · rw [if_neg (by simpa using h1), decide_eq_false (by unfold isPt; omega)]; rfl

theorem f53 {x : Int} (h : isPt x) : n_53 (x, ()) = some (((encodeRune x).length : Int), ()) := by
  unfold isPt at h
  unfold n_53 encodeRune
  simp only [List.length_map]
  rw [if_neg (by simp; omega)]
  by_cases c1 : x ≤ 127
  · rw [if_pos (by simpa using c1), encodeRuneZ_one (by omega) c1]; rfl
  rw [if_neg (by simpa using c1)]
  by_cases c2 : x ≤ 2047
  · rw [if_pos (by simpa using c2), encodeRuneZ_two (by omega) c2]; rfl
  rw [if_neg (by simpa using c2)]
  have : (if decide (55296 ≤ x) = true then some ((x, decide (x ≤ 57343), ())) else some ((x, false, ()))) = some (x, false, ()) := by
    by_cases c : 55296 ≤ x
    · rw [if_pos (by simpa using c)]
      have : ¬ x ≤ 57343 := by omega
      simp [this]
    · rw [if_neg (by simpa using c)]
  rw [this]
  simp only [Option.bind_eq_bind, Option.bind_some, Option.bind_none, if_true, if_false, Bool.false_eq_true, Bool.true_eq_false, Int.toNat_natCast, Int.natCast_nonneg, beq_iff_eq, decide_eq_true_eq, Int.ofNat_lt, decide_true, decide_false, Bool.not_true, Bool.not_false]
  by_cases c3 : x ≤ 65535
  · rw [if_pos c3, encodeRuneZ_three (by omega)]; rfl
  · rw [if_neg c3, if_pos (by omega), encodeRuneZ_four (by omega) (by omega)]; rfl

theorem and63 : ∀ y : Fin 256, Bs.iand .u8 (y.val : Int) 63 = ((y.val % 64 : Nat) : Int) := by decide +kernel
theorem or192 : ∀ y : Fin 64, Bs.ior .u8 192 (y.val : Int) = ((192 + y.val : Nat) : Int) := by decide +kernel
theorem or224 : ∀ y : Fin 32, Bs.ior .u8 224 (y.val : Int) = ((224 + y.val : Nat) : Int) := by decide +kernel
theorem or240 : ∀ y : Fin 16, Bs.ior .u8 240 (y.val : Int) = ((240 + y.val : Nat) : Int) := by decide +kernel
theorem or128 : ∀ y : Fin 128, Bs.ior .u8 128 (y.val : Int) = ((128 + y.val : Nat) : Int) := by decide +kernel

theorem wrap8' (x : Int) : IntKind.u8.wrap x = x % 256 := by
  unfold IntKind.wrap
  simp only [IntKind.bits, IntKind.signed, Bool.false_and]
  simp

/-- a byte behind the first one -/
theorem low6 {y : Int} (h : 0 ≤ y) : Bs.ior .u8 128 (Bs.iand .u8 (IntKind.u8.wrap y) 63) = 128 + y % 64 := by
  have e := and63 ⟨(y % 256).toNat, by omega⟩
  simp only at e
  rw [wrap8', show y % 256 = (((y % 256).toNat : Nat) : Int) by omega, e]
  have e2 := or128 ⟨(y % 256).toNat % 64, by omega⟩
  simp only at e2
  rw [e2]; omega
theorem lead2 {y : Int} (h : 0 ≤ y) (h2 : y < 64) : Bs.ior .u8 192 (IntKind.u8.wrap y) = 192 + y := by
  have e := or192 ⟨y.toNat, by omega⟩
  simp only at e
  rw [wrap8', show y % 256 = ((y.toNat : Nat) : Int) by omega, e]; omega
theorem lead3 {y : Int} (h : 0 ≤ y) (h2 : y < 32) : Bs.ior .u8 224 (IntKind.u8.wrap y) = 224 + y := by
  have e := or224 ⟨y.toNat, by omega⟩
  simp only at e
  rw [wrap8', show y % 256 = ((y.toNat : Nat) : Int) by omega, e]; omega
theorem lead4 {y : Int} (h : 0 ≤ y) (h2 : y < 16) : Bs.ior .u8 240 (IntKind.u8.wrap y) = 240 + y := by
  have e := or240 ⟨y.toNat, by omega⟩
  simp only at e
  rw [wrap8', show y % 256 = ((y.toNat : Nat) : Int) by omega, e]; omega
theorem shr6 (x : Int) : Bs.ishr .i32 x 6 = x / 64 := by
  show x.fdiv (2 ^ 6) = x / 64
  rw [Int.fdiv_eq_ediv_of_nonneg _ (by decide)]; rfl
theorem shr12 (x : Int) : Bs.ishr .i32 x 12 = x / 4096 := by
  show x.fdiv (2 ^ 12) = x / 4096
  rw [Int.fdiv_eq_ediv_of_nonneg _ (by decide)]; rfl
theorem shr18 (x : Int) : Bs.ishr .i32 x 18 = x / 262144 := by
  show x.fdiv (2 ^ 18) = x / 262144
  rw [Int.fdiv_eq_ediv_of_nonneg _ (by decide)]; rfl

theorem f85 {x : Int} {xs : List Int} (hx : isPt x) (h0 : ¬ x ≤ 127) (hl : xs.length ≤ 1000000) : n_85s43b2 (x, xs, ()) = some (xs ++ encodeRuneZ x, ()) := by
  unfold isPt at hx
  unfold n_85s43b2
  simp only [shr6, shr12, shr18]
  rw [wrapU32 (by omega) (by omega)]
  by_cases c2 : x ≤ 2047
  · rw [if_pos (by simpa using c2), if_pos (by simp only [List.length_cons, List.length_nil]; omega), low6 (by omega), lead2 (by omega) (by omega), encodeRuneZ_two (by omega) c2]
  rw [if_neg (by simpa using c2)]
  have e : (if decide (x < 55296) = true then
      some ((x, x, true, xs, ()))
    else (if decide (57343 < x) = true then
        some ((x, x, decide (x ≤ 65535), xs, ()))
      else some ((x, x, false, xs, ()))) >>= fun x1 =>
    some ((x1.fst, x1.snd.fst, x1.snd.snd.fst, x1.snd.snd.snd.fst, ()))) = some (x, x, decide (x ≤ 65535), xs, ()) := by
    by_cases c : x < 55296
    · rw [if_pos (by simpa using c), decide_eq_true (by omega)]
    · rw [if_neg (by simpa using c), if_pos (by simp; omega)]; rfl
  rw [e]
  simp only [Option.bind_eq_bind, Option.bind_some, Option.bind_none, if_true, if_false, Bool.false_eq_true, Bool.true_eq_false, Int.toNat_natCast, Int.natCast_nonneg, beq_iff_eq, decide_eq_true_eq, Int.ofNat_lt, decide_true, decide_false, Bool.not_true, Bool.not_false]
  by_cases c3 : x ≤ 65535
  · rw [if_pos c3, if_pos (by simp only [List.length_cons, List.length_nil]; omega), low6 (by omega), low6 (by omega), lead3 (by omega) (by omega), encodeRuneZ_three (by omega)]
  · rw [if_neg c3]
    simp only [show (x > 65535) by omega, show (x ≤ 1114111) by omega, Option.bind_eq_bind, Option.bind_some, Option.bind_none, if_true, if_false, Bool.false_eq_true, Bool.true_eq_false, Int.toNat_natCast, Int.natCast_nonneg, beq_iff_eq, decide_eq_true_eq, Int.ofNat_lt, decide_true, decide_false, Bool.not_true, Bool.not_false]
    rw [if_pos (by simp only [List.length_cons, List.length_nil]; omega), low6 (by omega), low6 (by omega), low6 (by omega), lead4 (by omega) (by omega), encodeRuneZ_four (by omega) (by omega)]

theorem f70 {x : Int} {xs : List Int} (hx : isPt x) (hl : xs.length ≤ 1000000) : n_70s43b2 (x, xs, ()) = some (xs ++ encodeRuneZ x, ()) := by
  unfold n_70s43b2
  simp only
  have hx' := hx
  unfold isPt at hx'
  rw [wrapU32 (by omega) (by omega)]
  by_cases c : x ≤ 127
  · rw [if_pos (by simpa using c), if_pos (by simp only [List.length_singleton]; omega), wrap8 (by omega) (by omega), encodeRuneZ_one (by omega) c]
  · rw [if_neg (by simpa using c), f85 hx c hl]; rfl

theorem f54 {x : Int} {xs : List Int} {b : Bool} (hx : isPt x) (hl : xs.length ≤ 1000000) : ∃ k, n_54s4c9b (x, b, xs, ()) = some (k, true, xs ++ encodeRuneZ x, ()) := by
  unfold n_54s4c9b n_59s4b14
  simp only [Option.bind_eq_bind, Option.bind_some, Option.bind_none, if_true, if_false, Bool.false_eq_true, Bool.true_eq_false, Int.toNat_natCast, Int.natCast_nonneg, beq_iff_eq, decide_eq_true_eq, Int.ofNat_lt, decide_true, decide_false, Bool.not_true, Bool.not_false, f70 hx hl]
  exact ⟨_, rfl⟩

theorem ints_enc (x : Int) : Bs.ints ⟨(encodeRune x).toArray⟩ = encodeRuneZ x := by
  unfold Bs.ints encodeRune
  simp only [List.map_map]
  conv => rhs; rw [← List.map_id (encodeRuneZ x)]
  apply List.map_congr_left
  intro y hy
  have := encodeRuneZ_byte x y hy
  simp only [Function.comp]
  rw [byteN y this]
  simp; omega

theorem bytes_encZ (ns : List Int) : Bs.bytes (ns.flatMap encodeRuneZ) = ⟨(ns.flatMap encodeRune).toArray⟩ := by
  rw [← bytes_ints]
  congr 1
  rw [List.map_flatMap]
  congr 1
  funext x
  exact (ints_enc x).symm

theorem encZ_len (ns : List Int) : (ns.flatMap encodeRuneZ).length = (ns.flatMap encodeRune).length := by
  induction ns with
  | nil => rfl
  | cons x r ih => rw [List.flatMap_cons, List.flatMap_cons, List.length_append, List.length_append, ih]; unfold encodeRune; rw [List.length_map]

/-! ### Text and its reference -/
def good (ns : List Int) : List Int := ns.filter fun x => decide (isPt x)
def tot (ns : List Int) : Nat := ((good ns).flatMap encodeRune).length
def off (ns : List Int) : Bool := ns.any fun x => !decide (isPt x)

theorem f35 {b : Bool} {xs : List Int} (h : xs.length ≤ 4294967296) : n_35s4b14 (b, xs, ()) = some (Bs.bytes xs, ()) := by
  unfold n_35s4b14
  rw [if_pos ⟨rfl, h⟩]

theorem drop_cons {ns : List Int} {i : Nat} {x : Int} {r : List Int} (h : ns.drop i = x :: r) : i < ns.length ∧ ns[i]? = some x ∧ ns.drop (i + 1) = r := by
  have h1 : i < ns.length := by
    rcases Nat.lt_or_ge i ns.length with h2 | h2
    · exact h2
    · rw [List.drop_eq_nil_of_le h2] at h; cases h
  rw [List.drop_eq_getElem_cons h1] at h
  injection h with h2 h3
  exact ⟨h1, by rw [List.getElem?_eq_getElem h1, h2], h3⟩

theorem drop_nil {ns : List Int} {i : Nat} (h : ns.drop i = []) (hi : i ≤ ns.length) : i = ns.length := by
  have := congrArg List.length h
  rw [List.length_drop, List.length_nil] at this; omega

theorem f27l {ns : List Int} (hn : ns.length ≤ 1000000) : ∀ (r : List Int) (i : Nat) (acc : List Int) (b b2 : Bool), ns.drop i = r → i ≤ ns.length → acc.length ≤ 4096 →
    ∃ b3, n_27l4 ((acc.length : Int), b, ns, (ns.length : Int), (i : Int), b2, acc, ()) =
      some (if acc.length + tot r > 4096 then .inl (ByteArray.mk #[], 3, ()) else .inr (b || off r, b3, acc ++ (good r).flatMap encodeRuneZ, ()))
  | [], i, acc, b, b2, hd, hi, ha => by
    obtain rfl := drop_nil hd hi
    refine ⟨b2, ?_⟩
    rw [n_27l4]
    simp only
    rw [if_neg (by simp), if_neg (by simp [tot, good]; omega)]
    simp [off, good]
  | x :: r, i, acc, b, b2, hd, hi, ha => by
    obtain ⟨h1, h2, h3⟩ := drop_cons hd
    rw [n_27l4]
    simp only
    rw [if_pos (by simpa using h1), if_pos (Int.natCast_nonneg _), Int.toNat_natCast, h2]
    simp only [Option.bind_eq_bind, Option.bind_some, Option.bind_none, if_true, if_false, Bool.false_eq_true, Bool.true_eq_false, Int.toNat_natCast, Int.natCast_nonneg, beq_iff_eq, decide_eq_true_eq, Int.ofNat_lt, decide_true, decide_false, Bool.not_true, Bool.not_false, f52]
    have ew : IntKind.i64.wrap ((i : Int) + 1) = ((i + 1 : Nat) : Int) := by rw [wrap64 (by omega) (by omega)]; omega
    by_cases hx : isPt x
    · simp only [hx, Option.bind_eq_bind, Option.bind_some, Option.bind_none, if_true, if_false, Bool.false_eq_true, Bool.true_eq_false, Int.toNat_natCast, Int.natCast_nonneg, beq_iff_eq, decide_eq_true_eq, Int.ofNat_lt, decide_true, decide_false, Bool.not_true, Bool.not_false]
      have hx' := hx
      unfold isPt at hx'
      rw [wrap32 (by omega) (by omega), f53 hx]
      simp only [Option.bind_eq_bind, Option.bind_some, Option.bind_none, if_true, if_false, Bool.false_eq_true, Bool.true_eq_false, Int.toNat_natCast, Int.natCast_nonneg, beq_iff_eq, decide_eq_true_eq, Int.ofNat_lt, decide_true, decide_false, Bool.not_true, Bool.not_false]
      have hl := enc_len (x := x)
      rw [wrap64 (x := (acc.length : Int) + _) (by omega) (by omega)]
      have et : tot (x :: r) = (encodeRune x).length + tot r := by
        unfold tot good
        rw [List.filter_cons_of_pos (by simpa using hx), List.flatMap_cons, List.length_append]
      have eg : (good (x :: r)).flatMap encodeRuneZ = encodeRuneZ x ++ (good r).flatMap encodeRuneZ := by
        unfold good
        rw [List.filter_cons_of_pos (by simpa using hx), List.flatMap_cons]
      have eo : off (x :: r) = off r := by
        unfold off; rw [List.any_cons, decide_eq_true hx]; rfl
      by_cases hz : (acc.length : Int) + ((encodeRune x).length : Int) > 4096
      · refine ⟨b2, ?_⟩
        rw [if_pos hz, if_pos (by omega)]; rfl
      · rw [if_neg hz]
        obtain ⟨k, hk⟩ := f54 (b := b2) hx (show acc.length ≤ 1000000 by omega)
        rw [hk]
        simp only [Option.bind_eq_bind, Option.bind_some, Option.bind_none, if_true, if_false, Bool.false_eq_true, Bool.true_eq_false, Int.toNat_natCast, Int.natCast_nonneg, beq_iff_eq, decide_eq_true_eq, Int.ofNat_lt, decide_true, decide_false, Bool.not_true, Bool.not_false]
        have ez : (acc ++ encodeRuneZ x).length = acc.length + (encodeRune x).length := by
          unfold encodeRune; rw [List.length_append, List.length_map]
        obtain ⟨b3, hb⟩ := f27l hn r (i + 1) (acc ++ encodeRuneZ x) b true h3 (by omega) (by omega)
        refine ⟨b3, ?_⟩
        rw [ez] at hb
        rw [ew, show (acc.length : Int) + ((encodeRune x).length : Int) = ((acc.length + (encodeRune x).length : Nat) : Int) by omega, hb, et, eg, eo, Nat.add_assoc, List.append_assoc]
    · simp only [hx, Option.bind_eq_bind, Option.bind_some, Option.bind_none, if_true, if_false, Bool.false_eq_true, Bool.true_eq_false, Int.toNat_natCast, Int.natCast_nonneg, beq_iff_eq, decide_eq_true_eq, Int.ofNat_lt, decide_true, decide_false, Bool.not_true, Bool.not_false]
      have et : tot (x :: r) = tot r := by
        unfold tot good
        rw [List.filter_cons_of_neg (by simpa using hx)]
      have eg : good (x :: r) = good r := by
        unfold good
        rw [List.filter_cons_of_neg (by simpa using hx)]
      have eo : off (x :: r) = true := by
        unfold off; rw [List.any_cons, decide_eq_false hx]; rfl
      obtain ⟨b3, hb⟩ := f27l hn r (i + 1) acc true b2 h3 (by omega) ha
      refine ⟨b3, ?_⟩
      rw [ew, hb, et, eg, eo]
      simp

/-- the text of code points, and what is wrong with them -/
noncomputable def txt (ns : List Int) : ByteArray × Int × Unit :=
  if tot ns > 4096 then (ByteArray.mk #[], 3, ()) else if off ns = true then (ByteArray.mk #[], 1, ()) else (⟨((good ns).flatMap encodeRune).toArray⟩, 0, ())

theorem f27 {ns : List Int} (hn : ns.length ≤ 1000000) : n_27 (ns, ()) = some (txt ns) := by
  obtain ⟨b, hb⟩ := f27l hn ns 0 [] false false (by simp) (by omega) (by simp)
  unfold n_27 txt
  simp only [Option.bind_eq_bind, Option.bind_some]
  simp only [List.length_nil, Nat.zero_add, Bool.false_or, List.nil_append] at hb
  rw [show ((0 : Int)) = ((0 : Nat) : Int) from rfl, hb]
  by_cases h : tot ns > 4096
  · rw [if_pos h, if_pos h]; rfl
  · rw [if_neg h, if_neg h]
    simp only [Option.bind_some]
    by_cases h2 : off ns = true
    · rw [if_pos h2, if_pos h2]
    · rw [if_neg h2, if_neg h2, f35 (by rw [encZ_len]; unfold tot at h; omega), bytes_encZ]; rfl

theorem f47l {ns : List Int} (hn : ns.length ≤ 1000000) : ∀ (r : List Int) (i : Nat) (acc : List Int), ns.drop i = r → i ≤ ns.length → acc.length ≤ 4 * i →
    n_47l3 (ns, (i : Int), acc, ()) = some (acc ++ (good r).flatMap encodeRuneZ, ())
  | [], i, acc, hd, hi, ha => by
    obtain rfl := drop_nil hd hi
    rw [n_47l3]
    simp only
    rw [if_neg (by simp)]
    simp [good]
  | x :: r, i, acc, hd, hi, ha => by
    obtain ⟨h1, h2, h3⟩ := drop_cons hd
    rw [n_47l3]
    simp only
    rw [if_pos (by simpa using h1), if_pos (Int.natCast_nonneg _), Int.toNat_natCast, h2]
    simp only [Option.bind_eq_bind, Option.bind_some, Option.bind_none, if_true, if_false, Bool.false_eq_true, Bool.true_eq_false, Int.toNat_natCast, Int.natCast_nonneg, beq_iff_eq, decide_eq_true_eq, Int.ofNat_lt, decide_true, decide_false, Bool.not_true, Bool.not_false, f55]
    have ew : IntKind.i64.wrap ((i : Int) + 1) = ((i + 1 : Nat) : Int) := by rw [wrap64 (by omega) (by omega)]; omega
    by_cases hx : isPt x
    · simp only [hx, Option.bind_eq_bind, Option.bind_some, Option.bind_none, if_true, if_false, Bool.false_eq_true, Bool.true_eq_false, Int.toNat_natCast, Int.natCast_nonneg, beq_iff_eq, decide_eq_true_eq, Int.ofNat_lt, decide_true, decide_false, Bool.not_true, Bool.not_false, f65 hx, ints_enc, ew]
      have hl := enc_len (x := x)
      have hl2 : (encodeRuneZ x).length = (encodeRune x).length := by unfold encodeRune; rw [List.length_map]
      have hs : (⟨(encodeRune x).toArray⟩ : ByteArray).size = (encodeRune x).length := by rw [← ba_size]
      rw [hs, if_pos (by omega)]
      simp only [Option.bind_eq_bind, Option.bind_some, Option.bind_none, if_true, if_false, Bool.false_eq_true, Bool.true_eq_false, Int.toNat_natCast, Int.natCast_nonneg, beq_iff_eq, decide_eq_true_eq, Int.ofNat_lt, decide_true, decide_false, Bool.not_true, Bool.not_false, ew]
      rw [f47l hn r (i + 1) _ h3 (by omega) (by rw [List.length_append]; omega)]
      unfold good
      rw [List.filter_cons_of_pos (by simpa using hx), List.flatMap_cons, List.append_assoc]
    · simp only [hx, Option.bind_eq_bind, Option.bind_some, Option.bind_none, if_true, if_false, Bool.false_eq_true, Bool.true_eq_false, Int.toNat_natCast, Int.natCast_nonneg, beq_iff_eq, decide_eq_true_eq, Int.ofNat_lt, decide_true, decide_false, Bool.not_true, Bool.not_false, ew]
      rw [f47l hn r (i + 1) _ h3 (by omega) (by omega)]
      unfold good
      rw [List.filter_cons_of_neg (by simpa using hx)]

theorem f47 {ns : List Int} (hn : ns.length ≤ 1000000) : n_47 (ns, ()) = some (⟨((good ns).flatMap encodeRune).toArray⟩, ()) := by
  unfold n_47
  simp only
  rw [show ((0 : Int)) = ((0 : Nat) : Int) from rfl, f47l hn ns 0 [] (by simp) (by omega) (by simp)]
  simp only [Option.bind_eq_bind, Option.bind_some, Option.bind_none, if_true, if_false, Bool.false_eq_true, Bool.true_eq_false, Int.toNat_natCast, Int.natCast_nonneg, beq_iff_eq, decide_eq_true_eq, Int.ofNat_lt, decide_true, decide_false, Bool.not_true, Bool.not_false, List.nil_append]
  rw [bytes_encZ]

theorem f28l {ns : List Int} (hn : ns.length ≤ 1000000) (s : ByteArray) : ∀ (r : List Int) (i : Nat), ns.drop i = r → i ≤ ns.length →
    n_28l5 (ns, s, (i : Int), ()) = some (if off r = true then .inl (ByteArray.mk #[], 1, ()) else .inr (s, ()))
  | [], i, hd, hi => by
    obtain rfl := drop_nil hd hi
    rw [n_28l5]
    simp only
    rw [if_neg (by simp)]
    simp [off]
  | x :: r, i, hd, hi => by
    obtain ⟨h1, h2, h3⟩ := drop_cons hd
    rw [n_28l5]
    simp only
    rw [if_pos (by simpa using h1), if_pos (Int.natCast_nonneg _), Int.toNat_natCast, h2]
    simp only [Option.bind_eq_bind, Option.bind_some, Option.bind_none, if_true, if_false, Bool.false_eq_true, Bool.true_eq_false, Int.toNat_natCast, Int.natCast_nonneg, beq_iff_eq, decide_eq_true_eq, Int.ofNat_lt, decide_true, decide_false, Bool.not_true, Bool.not_false, f55]
    have ew : IntKind.i64.wrap ((i : Int) + 1) = ((i + 1 : Nat) : Int) := by rw [wrap64 (by omega) (by omega)]; omega
    by_cases hx : isPt x
    · simp only [hx, Option.bind_eq_bind, Option.bind_some, Option.bind_none, if_true, if_false, Bool.false_eq_true, Bool.true_eq_false, Int.toNat_natCast, Int.natCast_nonneg, beq_iff_eq, decide_eq_true_eq, Int.ofNat_lt, decide_true, decide_false, Bool.not_true, Bool.not_false, ew]
      rw [f28l hn s r (i + 1) h3 (by omega)]
      unfold off; rw [List.any_cons, decide_eq_true hx]; rfl
    · simp only [hx, Option.bind_eq_bind, Option.bind_some, Option.bind_none, if_true, if_false, Bool.false_eq_true, Bool.true_eq_false, Int.toNat_natCast, Int.natCast_nonneg, beq_iff_eq, decide_eq_true_eq, Int.ofNat_lt, decide_true, decide_false, Bool.not_true, Bool.not_false]
      rw [if_pos]
      unfold off; rw [List.any_cons, decide_eq_false hx]; rfl

theorem f28 {ns : List Int} (hn : ns.length ≤ 1000000) : n_28 (ns, ()) = some (txt ns) := by
  unfold n_28 txt
  simp only [f47 hn, Option.bind_eq_bind, Option.bind_some, Option.bind_none, if_true, if_false, Bool.false_eq_true, Bool.true_eq_false, Int.toNat_natCast, Int.natCast_nonneg, beq_iff_eq, decide_eq_true_eq, Int.ofNat_lt, decide_true, decide_false, Bool.not_true, Bool.not_false]
  have hs : (⟨((good ns).flatMap encodeRune).toArray⟩ : ByteArray).size = tot ns := by rw [← ba_size]; rfl
  rw [hs, show ((0 : Int)) = ((0 : Nat) : Int) from rfl, f28l hn _ ns 0 (by simp) (by omega)]
  by_cases h : tot ns > 4096
  · rw [if_pos h, if_pos (by omega)]
  · rw [if_neg h, if_neg (by omega)]
    by_cases h2 : off ns = true
    · rw [if_pos h2, if_pos h2]; rfl
    · rw [if_neg h2, if_neg h2]; rfl

end Go.Proofs.YtnbkpokcfcednaaDoor
