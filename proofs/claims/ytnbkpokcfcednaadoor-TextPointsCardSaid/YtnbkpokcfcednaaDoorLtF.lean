/-
  What the functions on texts compute: how far a text is right, its code points, what encodes them.
-/
import Derived.Test.YtnbkpokcfcednaaDoorLtM
import Derived.Test.YtnbkpokcfcednaaDoorNatA
namespace Go.Proofs.YtnbkpokcfcednaaDoor
open Go.Lib
set_option linter.unusedSimpArgs false
set_option linter.unusedVariables false
set_option maxRecDepth 20000

theorem f49 {s : ByteArray} {i : Nat} (h : i < s.size) : n_49 (s.extract i s.size, ()) = some (((decodeL (s.data.toList.drop i)).1 : Int), ((decodeL (s.data.toList.drop i)).2 : Int), ()) := by
  have e : Lib.decodeGo (s.extract i s.size) = decodeL (s.data.toList.drop i) := by
    unfold Lib.decodeGo
    rw [tail_size, if_neg (by omega), tail_decode, Nat.add_zero, decodeL_drop]
  simp only [n_49, e]

theorem f20l (s : ByteArray) : ∀ (l : List UInt8) (i : Nat), l = s.data.toList.drop i → i ≤ s.size →
    n_20l2 (s, s, (i : Int), ()) = some (if i + (P l).2 = s.size then .inr (s, ()) else .inl (((i + (P l).2 : Nat) : Int), false, ())) := by
  intro l
  induction l using text_ind with
  | h0 =>
    intro i hl hi
    have hl2 := congrArg List.length hl
    rw [List.length_drop, ba_size, List.length_nil] at hl2
    have : i = s.size := by omega
    subst this
    rw [n_20l2]
    simp only [if_pos (Int.natCast_nonneg _), P_nil, Nat.add_zero, Int.lt_irrefl, if_true, if_false]
  | h1 l hne hb =>
    intro i hl hi
    have hi2 : i < s.size := by
      rcases Nat.lt_or_ge i s.size with h | h
      · exact h
      · exact absurd (hl.trans (List.drop_eq_nil_of_le (by rw [ba_size]; omega))) hne
    subst hl
    rw [n_20l2, dec_eq, hb.1]
    simp only [if_pos (Int.natCast_nonneg _), if_pos (Int.ofNat_lt.mpr hi2), Int.toNat_natCast]
    rw [if_pos (by decide), if_pos (by omega), f49 hi2]
    simp only [Option.bind_eq_bind, Option.bind_some, Option.bind_none, if_true, if_false, Bool.false_eq_true, Bool.true_eq_false, Int.toNat_natCast, Int.natCast_nonneg, beq_iff_eq, decide_eq_true_eq, Int.ofNat_lt, decide_true, decide_false, Bool.not_true, Bool.not_false, hb.2]
    rw [P_bad hb]
    simp only [Nat.add_zero]
    rw [if_neg (show ¬ i = s.size by omega)]
    rfl
  | h2 l hne hb ih =>
    intro i hl hi
    have hi2 : i < s.size := by
      rcases Nat.lt_or_ge i s.size with h | h
      · exact h
      · exact absurd (hl.trans (List.drop_eq_nil_of_le (by rw [ba_size]; omega))) hne
    have hw := decodeL_width l
    have hle := decodeL_le l hne
    subst hl
    rw [List.length_drop, ba_size] at hle
    have ih2 := ih (i + (decodeL (s.data.toList.drop i)).2) (by rw [List.drop_drop]) (by omega)
    rw [P_step hne hb]
    simp only
    rw [← Nat.add_assoc, ← ih2]
    rw [n_20l2, dec_eq, wid_eq]
    simp only [if_pos (Int.natCast_nonneg _), if_pos (Int.ofNat_lt.mpr hi2), Int.toNat_natCast]
    have e : (i : Int) + ((decodeL (s.data.toList.drop i)).2 : Int) = ((i + (decodeL (s.data.toList.drop i)).2 : Nat) : Int) := by omega
    rw [e]
    by_cases h1 : (((decodeL (s.data.toList.drop i)).1 : Int) == 65533) = true
    · rw [if_pos h1, if_pos (by omega), f49 hi2]
      simp only [Option.bind_eq_bind, Option.bind_some, Option.bind_none, if_true, if_false, Bool.false_eq_true, Bool.true_eq_false, Int.toNat_natCast, Int.natCast_nonneg, beq_iff_eq, decide_eq_true_eq, Int.ofNat_lt, decide_true, decide_false, Bool.not_true, Bool.not_false]
      rw [if_neg]
      intro h2
      exact hb ⟨by simp at h1; omega, by omega⟩
    · rw [if_neg h1]

/-- how far a text is right -/
def fit (s : ByteArray) : Nat := (P s.data.toList).2

theorem fit_le (s : ByteArray) : fit s ≤ s.size := by
  have := (P_len s.data.toList).2
  rwa [ba_size] at this

theorem f20 (s : ByteArray) : n_20 (s, ()) = some ((fit s : Int), decide (fit s = s.size), ()) := by
  have := f20l s s.data.toList 0 (by simp) (by omega)
  simp only [n_20]
  rw [show ((0 : Int)) = ((0 : Nat) : Int) from rfl, this]
  unfold fit
  simp only [Nat.zero_add]
  by_cases h : (P s.data.toList).2 = s.size
  · simp only [if_pos h, Option.bind_eq_bind, Option.bind_some, Option.bind_none, if_true, if_false, Bool.false_eq_true, Bool.true_eq_false, Int.toNat_natCast, Int.natCast_nonneg, beq_iff_eq, decide_eq_true_eq, Int.ofNat_lt, decide_true, decide_false, Bool.not_true, Bool.not_false, h]
  · simp only [if_neg h, Option.bind_eq_bind, Option.bind_some, Option.bind_none, if_true, if_false, Bool.false_eq_true, Bool.true_eq_false, Int.toNat_natCast, Int.natCast_nonneg, beq_iff_eq, decide_eq_true_eq, Int.ofNat_lt, decide_true, decide_false, Bool.not_true, Bool.not_false, h]

/-- what is wrong with a text -/
def code (s : ByteArray) : Int := if s.size > 4096 then 3 else if fit s = s.size then 0 else 2

theorem f36 (s : ByteArray) : n_36 (s, ()) = some (code s, ()) := by
  simp only [n_36, f20, code]
  by_cases h : s.size > 4096
  · have : ((s.size : Int) > 4096) := by omega
    simp only [if_pos h, Option.bind_eq_bind, Option.bind_some, Option.bind_none, if_true, if_false, Bool.false_eq_true, Bool.true_eq_false, Int.toNat_natCast, Int.natCast_nonneg, beq_iff_eq, decide_eq_true_eq, Int.ofNat_lt, decide_true, decide_false, Bool.not_true, Bool.not_false, this]
  · have : ¬ ((s.size : Int) > 4096) := by omega
    simp only [if_neg h, Option.bind_eq_bind, Option.bind_some, Option.bind_none, if_true, if_false, Bool.false_eq_true, Bool.true_eq_false, Int.toNat_natCast, Int.natCast_nonneg, beq_iff_eq, decide_eq_true_eq, Int.ofNat_lt, decide_true, decide_false, Bool.not_true, Bool.not_false, this]
    by_cases h2 : fit s = s.size
    · simp only [h2, Option.bind_eq_bind, Option.bind_some, Option.bind_none, if_true, if_false, Bool.false_eq_true, Bool.true_eq_false, Int.toNat_natCast, Int.natCast_nonneg, beq_iff_eq, decide_eq_true_eq, Int.ofNat_lt, decide_true, decide_false, Bool.not_true, Bool.not_false]
    · simp only [h2, Option.bind_eq_bind, Option.bind_some, Option.bind_none, if_true, if_false, Bool.false_eq_true, Bool.true_eq_false, Int.toNat_natCast, Int.natCast_nonneg, beq_iff_eq, decide_eq_true_eq, Int.ofNat_lt, decide_true, decide_false, Bool.not_true, Bool.not_false]

/-! ### the reference's decoder -/
theorem f39 (a b c : Int) : n_39 (a, b, c, ()) = some (decide (b ≤ a ∧ a ≤ c), ()) := by
  simp only [n_39]
  by_cases h : a ≥ b <;> by_cases h2 : a ≤ c <;> simp [h, h2] <;> omega

theorem f55 (x : Int) : n_55 (x, ()) = some (decide (isPt x), ()) := by
  simp only [n_55, f39, Option.bind_eq_bind, Option.bind_some, Option.bind_none, if_true, if_false, Bool.false_eq_true, Bool.true_eq_false, Int.toNat_natCast, Int.natCast_nonneg, beq_iff_eq, decide_eq_true_eq, Int.ofNat_lt, decide_true, decide_false, Bool.not_true, Bool.not_false]
  unfold isPt
  by_cases h : 0 ≤ x ∧ x ≤ 55295
  · simp [h]
  · by_cases h2 : 57344 ≤ x ∧ x ≤ 1114111
    · simp [h, h2]
    · simp [h, h2]

theorem wrap8 {x : Int} (h1 : 0 ≤ x) (h2 : x < 256) : IntKind.u8.wrap x = x := by
  unfold IntKind.wrap
  simp only [IntKind.bits, IntKind.signed, Bool.false_and]
  simp; omega

theorem f65 {x : Int} (hx : isPt x) : n_65 (x, ()) = some (⟨(encodeRune x).toArray⟩, ()) := by
  unfold isPt at hx
  have t64 : x.tdiv 64 = x / 64 := Int.tdiv_eq_ediv_of_nonneg (by omega)
  have t4096 : x.tdiv 4096 = x / 4096 := Int.tdiv_eq_ediv_of_nonneg (by omega)
  have t262144 : x.tdiv 262144 = x / 262144 := Int.tdiv_eq_ediv_of_nonneg (by omega)
  have m1 : x.tmod 64 = x % 64 := Int.tmod_eq_emod_of_nonneg (by omega)
  have m2 : (x / 64).tmod 64 = x / 64 % 64 := Int.tmod_eq_emod_of_nonneg (by omega)
  have m3 : (x / 4096).tmod 64 = x / 4096 % 64 := Int.tmod_eq_emod_of_nonneg (by omega)
  have w (y : Int) (h1 : 0 ≤ y) (h2 : y ≤ 9000000) : IntKind.i64.wrap y = y := wrap64 (by omega) (by omega)
  simp only [n_65, t64, t4096, t262144]
  rw [w (x / 64) (by omega) (by omega), w (x / 4096) (by omega) (by omega), w (x / 262144) (by omega) (by omega)]
  simp only [m1, m2, m3]
  unfold encodeRune
  by_cases c1 : x ≤ 127
  · rw [encodeRuneZ_one (by omega) c1, if_pos (by simp; omega), wrap8 (by omega) (by omega)]; rfl
  · rw [if_neg (by simp; omega)]
    by_cases c2 : x ≤ 2047
    · rw [encodeRuneZ_two (by omega) c2, if_pos (by simp; omega), w (192 + x / 64) (by omega) (by omega), w (128 + x % 64) (by omega) (by omega), wrap8 (by omega) (by omega), wrap8 (by omega) (by omega)]; rfl
    · rw [if_neg (by simp; omega)]
      by_cases c3 : x ≤ 65535
      · rw [encodeRuneZ_three (by omega), if_pos (by simp; omega), w (224 + x / 4096) (by omega) (by omega), w (128 + x % 64) (by omega) (by omega), w (128 + x / 64 % 64) (by omega) (by omega), wrap8 (by omega) (by omega), wrap8 (by omega) (by omega), wrap8 (by omega) (by omega)]; rfl
      · rw [if_neg (by simp; omega), encodeRuneZ_four (by omega) (by omega), w (240 + x / 262144) (by omega) (by omega), w (128 + x / 4096 % 64) (by omega) (by omega), w (128 + x % 64) (by omega) (by omega), w (128 + x / 64 % 64) (by omega) (by omega), wrap8 (by omega) (by omega), wrap8 (by omega) (by omega), wrap8 (by omega) (by omega), wrap8 (by omega) (by omega)]; rfl

/-- is that code point here? -/
def chk (l : List UInt8) (k : Nat) (v : Int) : Int × Int × Unit := if isPt v ∧ encodeRune v = l.take k then (v, (k : Int), ()) else (0, 0, ())

def cont (l : List UInt8) (k : Nat) : Prop := (l.getD k 0).toNat / 64 = 2
instance (l : List UInt8) (k : Nat) : Decidable (cont l k) := inferInstanceAs (Decidable (_ = _))
def byt (l : List UInt8) (k : Nat) : Int := ((l.getD k 0).toNat : Int)
theorem byt_bnd (l : List UInt8) (k : Nat) : 0 ≤ byt l k ∧ byt l k < 256 := by
  have := (l.getD k 0).toNat_lt
  unfold byt; omega
theorem cont_byt (l : List UInt8) (k : Nat) : cont l k ↔ 128 ≤ byt l k ∧ byt l k ≤ 191 := by
  unfold byt cont; omega

def cand (l : List UInt8) : Int × Int × Unit :=
  if 240 ≤ byt l 0 then (if 4 ≤ l.length ∧ cont l 1 ∧ cont l 2 ∧ cont l 3 then chk l 4 (64 * (64 * (64 * (byt l 0 - 240) + byt l 1 - 128) + byt l 2 - 128) + byt l 3 - 128) else (0, 0, ()))
  else if 224 ≤ byt l 0 then (if 3 ≤ l.length ∧ cont l 1 ∧ cont l 2 then chk l 3 (64 * (64 * (byt l 0 - 224) + byt l 1 - 128) + byt l 2 - 128) else (0, 0, ()))
  else if 192 ≤ byt l 0 then (if 2 ≤ l.length ∧ cont l 1 then chk l 2 (64 * (byt l 0 - 192) + byt l 1 - 128) else (0, 0, ()))
  else if 128 ≤ byt l 0 then (0, 0, ())
  else chk l 1 (byt l 0)

theorem chk_bad {l : List UInt8} (h : bad l) (k : Nat) (v : Int) : chk l k v = (0, 0, ()) := by
  unfold chk
  rw [if_neg]
  rintro ⟨h1, h2⟩
  have := enc_good h1 (l.drop k)
  rw [h2, List.take_append_drop] at this
  exact this h

theorem chk_good {l : List UInt8} (hne : l ≠ []) (h : ¬ bad l) {k : Nat} {v : Int} (hk : k = (decodeL l).2) (hv : v = ((decodeL l).1 : Int)) : chk l k v = (((decodeL l).1 : Int), ((decodeL l).2 : Int), ()) := by
  subst hk hv
  unfold chk
  rw [if_pos ⟨pt_decode l, encode_decode l hne h⟩]

theorem cand_bad {l : List UInt8} (h : bad l) : cand l = (0, 0, ()) := by
  unfold cand
  simp only [chk_bad h]
  (repeat' split) <;> rfl

theorem cand_good {l : List UInt8} (hne : l ≠ []) (h : ¬ bad l) : cand l = (((decodeL l).1 : Int), ((decodeL l).2 : Int), ()) := by
  have g (k : Nat) (v : Int) := @chk_good l hne h k v
  have h2 := h
  unfold bad at h2
  rw [decodeL_N] at h2 g ⊢
  unfold cand cont byt
  have hl : 0 < l.length := List.length_pos_iff.2 hne
  have k0 := (l.getD 0 0).toNat_lt
  have k1 := (l.getD 1 0).toNat_lt
  have k2 := (l.getD 2 0).toNat_lt
  have k3 := (l.getD 3 0).toNat_lt
  rcases decodeN_shape l.length (l.getD 0 0).toNat (l.getD 1 0).toNat (l.getD 2 0).toNat (l.getD 3 0).toNat with ⟨c, e⟩ | ⟨c1, c2, c3, cv, e⟩ | ⟨c1, c2, c3, c4, cv, cs, e⟩ | ⟨c1, c2, c3, c4, c5, cv, cw, e⟩ | e
  · rw [e] at g ⊢
    rw [if_neg (by omega), if_neg (by omega), if_neg (by omega), if_neg (by omega)]
    exact g _ _ rfl (by simp)
  · rw [e] at g ⊢
    rw [if_neg (by omega), if_neg (by omega), if_pos (by omega), if_pos (by omega)]
    exact g _ _ rfl (by simp only; omega)
  · rw [e] at g ⊢
    rw [if_neg (by omega), if_pos (by omega), if_pos (by omega)]
    exact g _ _ rfl (by simp only; omega)
  · rw [e] at g ⊢
    rw [if_pos (by omega), if_pos (by omega)]
    exact g _ _ rfl (by simp only; omega)
  · rw [e] at h2
    exact absurd ⟨rfl, rfl⟩ h2

theorem getD_drop' (l : List UInt8) (i j : Nat) : l.getD (i + j) 0 = (l.drop i).getD j 0 := by
  simp [List.getD_eq_getElem?_getD]

theorem f68_step {s : ByteArray} {i k j : Nat} {v : Int} (hs : s.size ≤ 1000000) (hi : i + j < s.size) (hj : j < k) (hk : k ≤ 4) (hv : 0 ≤ v ∧ v ≤ 10000000) :
    n_68l14 (s, (i : Int), (k : Int), v, (j : Int), ()) = if cont (s.data.toList.drop i) j then n_68l14 (s, (i : Int), (k : Int), 64 * v + byt (s.data.toList.drop i) j - 128, ((j + 1 : Nat) : Int), ()) else some (.inl (0, 0, ())) := by
  have hb := byt_bnd (s.data.toList.drop i) j
  have hc := cont_byt (s.data.toList.drop i) j
  have e1 : IntKind.i64.wrap ((i : Int) + (j : Int)) = ((i + j : Nat) : Int) := by rw [wrap64 (by omega) (by omega)]; omega
  have e2 : IntKind.i64.wrap ((j : Int) + 1) = ((j + 1 : Nat) : Int) := by rw [wrap64 (by omega) (by omega)]; omega
  rw [n_68l14]
  simp only
  rw [if_pos (by simp; omega), e1, if_pos (Int.natCast_nonneg _), Int.toNat_natCast, ba_get hi, getD_drop']
  simp only [Option.bind_eq_bind, Option.bind_some, Option.bind_none, if_true, if_false, Bool.false_eq_true, Bool.true_eq_false, Int.toNat_natCast, Int.natCast_nonneg, beq_iff_eq, decide_eq_true_eq, Int.ofNat_lt, decide_true, decide_false, Bool.not_true, Bool.not_false]
  have e0 : (((s.data.toList.drop i).getD j 0).toNat : Int) = byt (s.data.toList.drop i) j := rfl
  rw [e0, wrap64 (x := byt (s.data.toList.drop i) j) (by omega) (by omega)]
  by_cases c : cont (s.data.toList.drop i) j
  · have c' := hc.mp c
    rw [if_pos c, if_neg (by omega)]
    simp only [Option.bind_eq_bind, Option.bind_some, Option.bind_none, if_true, if_false, Bool.false_eq_true, Bool.true_eq_false, Int.toNat_natCast, Int.natCast_nonneg, beq_iff_eq, decide_eq_true_eq, Int.ofNat_lt, decide_true, decide_false, Bool.not_true, Bool.not_false]
    rw [if_neg (by omega), e2, wrap64 (x := 64 * v) (by omega) (by omega), wrap64 (x := 64 * v + byt (s.data.toList.drop i) j) (by omega) (by omega), wrap64 (by omega) (by omega)]
  · rw [if_neg c]
    by_cases c2 : byt (s.data.toList.drop i) j < 128
    · simp only [if_pos c2, Option.bind_eq_bind, Option.bind_some, Option.bind_none, if_true, if_false, Bool.false_eq_true, Bool.true_eq_false, Int.toNat_natCast, Int.natCast_nonneg, beq_iff_eq, decide_eq_true_eq, Int.ofNat_lt, decide_true, decide_false, Bool.not_true, Bool.not_false]
    · have : byt (s.data.toList.drop i) j > 191 := by
        rw [hc] at c; omega
      simp only [if_neg c2, Option.bind_eq_bind, Option.bind_some, Option.bind_none, if_true, if_false, Bool.false_eq_true, Bool.true_eq_false, Int.toNat_natCast, Int.natCast_nonneg, beq_iff_eq, decide_eq_true_eq, Int.ofNat_lt, decide_true, decide_false, Bool.not_true, Bool.not_false, this]

theorem f68_end {s : ByteArray} {i k : Nat} {v : Int} : n_68l14 (s, (i : Int), (k : Int), v, (k : Int), ()) = some (.inr (s, (i : Int), (k : Int), v, ())) := by
  rw [n_68l14]
  simp

/-- the end: is the number a code point whose bytes these are? -/
theorem f68_chk {s : ByteArray} {i k : Nat} {v : Int} (hs : s.size ≤ 1000000) (hi : i + k ≤ s.size) :
    ((some (.inr (s, (i : Int), (k : Int), v, ())) : Option ((Int × Int × Unit) ⊕ (ByteArray × Int × Int × Int × Unit))) >>= fun x3 => match x3 with
          | .inl y3 => some y3
          | .inr y3 => (n_55 (y3.snd.snd.snd.fst, ()) >>= fun x4 =>
              if (!x4.fst) = true then
                some ((y3.snd.snd.fst, y3.snd.snd.snd.fst, true, ()))
              else n_65 (y3.snd.snd.snd.fst, ()) >>= fun x5 =>
              if 0 ≤ y3.snd.fst ∧ y3.snd.fst ≤ IntKind.i64.wrap (y3.snd.fst + y3.snd.snd.fst) ∧ IntKind.i64.wrap (y3.snd.fst + y3.snd.snd.fst) ≤ (↑y3.fst.size : Int) then
                some ((y3.snd.snd.fst, y3.snd.snd.snd.fst, !x5.fst.toList == (y3.fst.extract y3.snd.fst.toNat (IntKind.i64.wrap (y3.snd.fst + y3.snd.snd.fst)).toNat).toList, ()))
              else none) >>= fun x4 =>
            if x4.snd.snd.fst = true then
              some ((0, 0, ()))
            else some ((x4.snd.fst, x4.fst, ()))) = some (chk (s.data.toList.drop i) k v) := by
  have e1 : IntKind.i64.wrap ((i : Int) + (k : Int)) = ((i + k : Nat) : Int) := by rw [wrap64 (by omega) (by omega)]; omega
  simp only [Option.bind_eq_bind, Option.bind_some]
  rw [f55]
  simp only [Option.bind_some]
  unfold chk
  by_cases h : isPt v
  · simp only [h, Option.bind_eq_bind, Option.bind_some, Option.bind_none, if_true, if_false, Bool.false_eq_true, Bool.true_eq_false, Int.toNat_natCast, Int.natCast_nonneg, beq_iff_eq, decide_eq_true_eq, Int.ofNat_lt, decide_true, decide_false, Bool.not_true, Bool.not_false, true_and]
    rw [f65 h]
    simp only [Option.bind_some, e1]
    rw [if_pos (by omega)]
    simp only [Option.bind_some, ba_beq, Int.toNat_natCast]
    have : (⟨(encodeRune v).toArray⟩ : ByteArray) = s.extract i (i + k) ↔ encodeRune v = (s.data.toList.drop i).take k := by
      constructor
      · intro h2
        have := congrArg (fun b : ByteArray => b.data.toList) h2
        simp only [ba_extract] at this
        rw [this, List.drop_take, Nat.add_sub_cancel_left]
      · intro h2
        apply ba_ext
        rw [ba_extract, List.drop_take, Nat.add_sub_cancel_left]
        exact h2
    by_cases h2 : encodeRune v = (s.data.toList.drop i).take k
    · rw [if_pos h2]; simp [this.mpr h2]
    · rw [if_neg h2]
      simp
      intro h
      exact absurd (this.mp h) h2
  · simp only [h, Option.bind_eq_bind, Option.bind_some, Option.bind_none, if_true, if_false, Bool.false_eq_true, Bool.true_eq_false, Int.toNat_natCast, Int.natCast_nonneg, beq_iff_eq, decide_eq_true_eq, Int.ofNat_lt, decide_true, decide_false, Bool.not_true, Bool.not_false, false_and]

theorem f68' {s : ByteArray} {i : Nat} (hs : s.size ≤ 1000000) (hi : i < s.size) : n_68 (s, (i : Int), ()) = some (cand (s.data.toList.drop i)) := by
  have hl : (s.data.toList.drop i).length = s.size - i := by rw [List.length_drop, ba_size]
  have hb := byt_bnd (s.data.toList.drop i) 0
  have hb1 := byt_bnd (s.data.toList.drop i) 1
  have hb2 := byt_bnd (s.data.toList.drop i) 2
  have hb3 := byt_bnd (s.data.toList.drop i) 3
  have e0 : (((s.data.toList.drop i).getD 0 0).toNat : Int) = byt (s.data.toList.drop i) 0 := rfl
  have ew (k : Nat) (h : k ≤ 4) : IntKind.i64.wrap ((i : Int) + (k : Int)) = ((i + k : Nat) : Int) := by rw [wrap64 (by omega) (by omega)]; omega
  have hlt : ∀ k : Nat, (decide (((i + k : Nat) : Int) > (s.size : Int)) = true) = (s.size < i + k) := fun k => by simp; omega
  have get := ba_get hi
  have := getD_drop' s.data.toList i 0
  rw [Nat.add_zero] at this
  rw [this] at get
  unfold n_68
  simp only
  rw [if_pos (Int.natCast_nonneg _), Int.toNat_natCast, get]
  simp only [Option.bind_eq_bind, Option.bind_some]
  rw [e0, wrap64 (x := byt (s.data.toList.drop i) 0) (by omega) (by omega)]
  have c1 := cont_byt (s.data.toList.drop i) 1
  have c2 := cont_byt (s.data.toList.drop i) 2
  have c3 := cont_byt (s.data.toList.drop i) 3
  unfold cand
  by_cases h4 : 240 ≤ byt (s.data.toList.drop i) 0
  · rw [if_pos (by simpa using h4), if_pos h4]
    simp only [Option.bind_some]
    rw [show ((4 : Int)) = ((4 : Nat) : Int) from rfl, ew 4 (by omega), wrap64 (x := _ - 240) (by omega) (by omega)]
    simp only [hlt]
    by_cases hz : s.size < i + 4
    · rw [if_pos hz, if_neg (by omega)]
    · rw [if_neg hz]
      rw [show ((1 : Int)) = ((1 : Nat) : Int) from rfl, f68_step hs (by omega) (by omega) (by omega) (by omega)]
      by_cases d1 : cont (s.data.toList.drop i) 1
      · have d1' := c1.mp d1
        rw [if_pos d1, f68_step hs (by omega) (by omega) (by omega) (by omega)]
        by_cases d2 : cont (s.data.toList.drop i) 2
        · have d2' : 128 ≤ byt (s.data.toList.drop i) (1 + 1) ∧ byt (s.data.toList.drop i) (1 + 1) ≤ 191 := c2.mp d2
          rw [if_pos d2, f68_step hs (by omega) (by omega) (by omega) (by omega)]
          by_cases d3 : cont (s.data.toList.drop i) 3
          · rw [if_pos d3, f68_end, if_pos ⟨by omega, d1, d2, d3⟩]
            exact f68_chk hs (by omega)
          · rw [if_neg d3, if_neg (fun h => d3 h.2.2.2)]; rfl
        · rw [if_neg d2, if_neg (fun h => d2 h.2.2.1)]; rfl
      · rw [if_neg d1, if_neg (fun h => d1 h.2.1)]; rfl
  rw [if_neg (by simpa using h4), if_neg h4]
  by_cases h3 : 224 ≤ byt (s.data.toList.drop i) 0
  · rw [if_pos (by simpa using h3), if_pos h3]
    simp only [Option.bind_some]
    rw [show ((3 : Int)) = ((3 : Nat) : Int) from rfl, ew 3 (by omega), wrap64 (x := _ - 224) (by omega) (by omega)]
    simp only [hlt]
    by_cases hz : s.size < i + 3
    · rw [if_pos hz, if_neg (by omega)]
    · rw [if_neg hz]
      rw [show ((1 : Int)) = ((1 : Nat) : Int) from rfl, f68_step hs (by omega) (by omega) (by omega) (by omega)]
      by_cases d1 : cont (s.data.toList.drop i) 1
      · have d1' := c1.mp d1
        rw [if_pos d1, f68_step hs (by omega) (by omega) (by omega) (by omega)]
        by_cases d2 : cont (s.data.toList.drop i) 2
        · rw [if_pos d2, f68_end, if_pos ⟨by omega, d1, d2⟩]
          exact f68_chk hs (by omega)
        · rw [if_neg d2, if_neg (fun h => d2 h.2.2)]; rfl
      · rw [if_neg d1, if_neg (fun h => d1 h.2.1)]; rfl
  rw [if_neg (by simpa using h3), if_neg h3]
  by_cases h2 : 192 ≤ byt (s.data.toList.drop i) 0
  · rw [if_pos (by simpa using h2), if_pos h2]
    simp only [Option.bind_some]
    rw [show ((2 : Int)) = ((2 : Nat) : Int) from rfl, ew 2 (by omega), wrap64 (x := _ - 192) (by omega) (by omega)]
    simp only [hlt]
    by_cases hz : s.size < i + 2
    · rw [if_pos hz, if_neg (by omega)]
    · rw [if_neg hz]
      rw [show ((1 : Int)) = ((1 : Nat) : Int) from rfl, f68_step hs (by omega) (by omega) (by omega) (by omega)]
      by_cases d1 : cont (s.data.toList.drop i) 1
      · rw [if_pos d1, f68_end, if_pos ⟨by omega, d1⟩]
        exact f68_chk hs (by omega)
      · rw [if_neg d1, if_neg (fun h => d1 h.2)]; rfl
  rw [if_neg (by simpa using h2), if_neg h2]
  by_cases h1 : 128 ≤ byt (s.data.toList.drop i) 0
  · rw [if_pos (by simpa using h1), if_pos h1]; rfl
  rw [if_neg (by simpa using h1), if_neg h1]
  simp only [Option.bind_some]
  rw [show ((1 : Int)) = ((1 : Nat) : Int) from rfl, ew 1 (by omega)]
  simp only [hlt]
  rw [if_neg (by omega), f68_end]
  exact f68_chk hs (by omega)

theorem f68 {s : ByteArray} {i : Nat} (hs : s.size ≤ 1000000) (hi : i < s.size) :
    n_68 (s, (i : Int), ()) = some (if bad (s.data.toList.drop i) then (0, 0, ()) else (((decodeL (s.data.toList.drop i)).1 : Int), ((decodeL (s.data.toList.drop i)).2 : Int), ())) := by
  rw [f68' hs hi]
  by_cases h : bad (s.data.toList.drop i)
  · rw [if_pos h, cand_bad h]
  · rw [if_neg h, cand_good (drop_ne hi) h]

theorem f50l {s : ByteArray} (hs : s.size ≤ 1000000) : ∀ (l : List UInt8) (i : Nat) (acc : List Int), l = s.data.toList.drop i → i ≤ s.size → acc.length ≤ i →
    n_50l3 (s, (i : Int), acc, ()) = some (if i + (P l).2 = s.size then .inr ((s.size : Int), acc ++ (P l).1, ()) else .inl (acc ++ (P l).1, ((i + (P l).2 : Nat) : Int), ())) := by
  intro l
  induction l using text_ind with
  | h0 =>
    intro i acc hl hi ha
    have hl2 := congrArg List.length hl
    rw [List.length_drop, ba_size, List.length_nil] at hl2
    have : i = s.size := by omega
    subst this
    rw [n_50l3]
    simp [P_nil]
  | h1 l hne hb =>
    intro i acc hl hi ha
    have hi2 : i < s.size := by
      rcases Nat.lt_or_ge i s.size with h | h
      · exact h
      · exact absurd (hl.trans (List.drop_eq_nil_of_le (by rw [ba_size]; omega))) hne
    rw [n_50l3]
    simp only
    subst hl
    rw [if_pos (by simpa using hi2), f68 hs hi2, if_pos hb, P_bad hb]
    simp only [Nat.add_zero]
    rw [if_neg (show ¬ i = s.size by omega)]
    simp
  | h2 l hne hb ih =>
    intro i acc hl hi ha
    have hi2 : i < s.size := by
      rcases Nat.lt_or_ge i s.size with h | h
      · exact h
      · exact absurd (hl.trans (List.drop_eq_nil_of_le (by rw [ba_size]; omega))) hne
    have hw := decodeL_width l
    have hle := decodeL_le l hne
    subst hl
    rw [List.length_drop, ba_size] at hle
    have ih2 := ih (i + (decodeL (s.data.toList.drop i)).2) (acc ++ [((decodeL (s.data.toList.drop i)).1 : Int)]) (by rw [List.drop_drop]) (by omega) (by rw [List.length_append, List.length_singleton]; omega)
    rw [P_step hne hb]
    simp only
    rw [show acc ++ ((decodeL (s.data.toList.drop i)).1 : Int) :: (P ((s.data.toList.drop i).drop (decodeL (s.data.toList.drop i)).2)).1 = acc ++ [((decodeL (s.data.toList.drop i)).1 : Int)] ++ (P ((s.data.toList.drop i).drop (decodeL (s.data.toList.drop i)).2)).1 by simp]
    rw [← Nat.add_assoc, ← ih2]
    rw [n_50l3]
    simp only
    rw [if_pos (by simpa using hi2), f68 hs hi2, if_neg hb]
    simp only [Option.bind_eq_bind, Option.bind_some]
    have e : IntKind.i64.wrap ((i : Int) + ((decodeL (s.data.toList.drop i)).2 : Int)) = ((i + (decodeL (s.data.toList.drop i)).2 : Nat) : Int) := by rw [wrap64 (by omega) (by omega)]; omega
    rw [e, if_neg (by simp; omega), if_pos (by simp only [List.length_singleton]; omega)]

def pts (s : ByteArray) : List Int := (P s.data.toList).1

theorem f50 {s : ByteArray} (hs : s.size ≤ 1000000) : n_50 (s, ()) = some (pts s, (fit s : Int), ()) := by
  have := f50l hs s.data.toList 0 [] (by simp) (by omega) (by simp)
  unfold n_50
  simp only
  rw [show ((0 : Int)) = ((0 : Nat) : Int) from rfl, this]
  unfold fit pts
  simp only [Nat.zero_add, List.nil_append]
  by_cases h : (P s.data.toList).2 = s.size
  · rw [if_pos h, h]; rfl
  · rw [if_neg h]; rfl

theorem f21 {s : ByteArray} (hs : s.size ≤ 1000000) : n_21 (s, ()) = some ((fit s : Int), decide (fit s = s.size), ()) := by
  unfold n_21
  simp only [f50 hs, Option.bind_eq_bind, Option.bind_some, Option.bind_none, if_true, if_false, Bool.false_eq_true, Bool.true_eq_false, Int.toNat_natCast, Int.natCast_nonneg, beq_iff_eq, decide_eq_true_eq, Int.ofNat_lt, decide_true, decide_false, Bool.not_true, Bool.not_false]
  congr 2
  by_cases h : fit s = s.size
  · simp [h]
  · simp [h]; omega

theorem f38 (s : ByteArray) : n_38 (s, ()) = some (code s, ()) := by
  unfold n_38 code
  by_cases h : s.size > 4096
  · have : ((s.size : Int) > 4096) := by omega
    simp only [if_pos h, Option.bind_eq_bind, Option.bind_some, Option.bind_none, if_true, if_false, Bool.false_eq_true, Bool.true_eq_false, Int.toNat_natCast, Int.natCast_nonneg, beq_iff_eq, decide_eq_true_eq, Int.ofNat_lt, decide_true, decide_false, Bool.not_true, Bool.not_false, this]
  · have : ¬ ((s.size : Int) > 4096) := by omega
    simp only [if_neg h, Option.bind_eq_bind, Option.bind_some, Option.bind_none, if_true, if_false, Bool.false_eq_true, Bool.true_eq_false, Int.toNat_natCast, Int.natCast_nonneg, beq_iff_eq, decide_eq_true_eq, Int.ofNat_lt, decide_true, decide_false, Bool.not_true, Bool.not_false, this, f21 (show s.size ≤ 1000000 by omega)]
    by_cases h2 : fit s = s.size
    · simp only [h2, Option.bind_eq_bind, Option.bind_some, Option.bind_none, if_true, if_false, Bool.false_eq_true, Bool.true_eq_false, Int.toNat_natCast, Int.natCast_nonneg, beq_iff_eq, decide_eq_true_eq, Int.ofNat_lt, decide_true, decide_false, Bool.not_true, Bool.not_false]
    · simp only [h2, Option.bind_eq_bind, Option.bind_some, Option.bind_none, if_true, if_false, Bool.false_eq_true, Bool.true_eq_false, Int.toNat_natCast, Int.natCast_nonneg, beq_iff_eq, decide_eq_true_eq, Int.ofNat_lt, decide_true, decide_false, Bool.not_true, Bool.not_false]

theorem code0 {s : ByteArray} (h : code s = 0) : s.size ≤ 4096 ∧ fit s = s.size := by
  unfold code at h
  split at h
  · omega
  · split at h
    · omega
    · omega

theorem f23 {s : ByteArray} (hs : s.size ≤ 1000000) : n_23 (s, ()) = some (if code s = 0 then pts s else [], code s, ()) := by
  unfold n_23
  simp only [f38, f50 hs, Option.bind_eq_bind, Option.bind_some, Option.bind_none, if_true, if_false, Bool.false_eq_true, Bool.true_eq_false, Int.toNat_natCast, Int.natCast_nonneg, beq_iff_eq, decide_eq_true_eq, Int.ofNat_lt, decide_true, decide_false, Bool.not_true, Bool.not_false]
  by_cases h : code s = 0
  · rw [if_pos h, if_neg (by simp [h]), h]
  · rw [if_neg h, if_pos (by simpa using h)]

end Go.Proofs.YtnbkpokcfcednaaDoor
