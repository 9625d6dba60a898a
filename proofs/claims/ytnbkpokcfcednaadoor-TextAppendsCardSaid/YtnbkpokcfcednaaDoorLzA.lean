/-
  Texts: what the functions compute (merged by a program of mine).
-/
import Derived.Test.YtnbkpokcfcednaaDoorAwpA
import Derived.Lib.MapLaws
import Derived.Lib.TrimUEq
import Derived.Lib.Repeat
import Derived.Lib.RuneCountTail
import Derived.Lib.Bytealg
import Derived.Test.YtnbkpokcfcednaaDoorNatA
namespace Go.Proofs.YtnbkpokcfcednaaDoor
open Go.Lib
set_option linter.unusedVariables false
set_option linter.unusedSimpArgs false
set_option maxRecDepth 20000

theorem wrap64 {x : Int} (h1 : -9223372036854775808 ≤ x) (h2 : x ≤ 9223372036854775807) : IntKind.i64.wrap x = x := by
  unfold IntKind.wrap
  simp only [IntKind.bits, IntKind.signed, Bool.true_and]
  split <;> rename_i h <;> simp at h <;> omega

theorem ba_size (s : ByteArray) : s.data.toList.length = s.size := Array.length_toList

theorem toList_loop (s : ByteArray) : ∀ (n i : Nat) (r : List UInt8), s.size - i = n → ByteArray.toList.loop s i r = r.reverse ++ s.data.toList.drop i
  | 0, i, r, h => by
    have hs := ba_size s
    rw [ByteArray.toList.loop, if_neg (by omega), List.drop_eq_nil_of_le (by omega), List.append_nil]
  | n + 1, i, r, h => by
    have hs := ba_size s
    have hi : i < s.data.toList.length := by omega
    rw [ByteArray.toList.loop, if_pos (by omega), toList_loop s n (i + 1) _ (by omega), List.drop_eq_getElem_cons hi, List.reverse_cons, List.append_assoc]
    have : s.get! i = s.data.toList[i] := by
      have := getD_get!' s i
      rw [← this, List.getD_eq_getElem?_getD, List.getElem?_eq_getElem hi]; rfl
    rw [this]; rfl

theorem toList_data (s : ByteArray) : s.toList = s.data.toList := by
  unfold ByteArray.toList
  rw [toList_loop s _ 0 [] rfl]; simp

theorem ba_ext {a b : ByteArray} (h : a.data.toList = b.data.toList) : a = b := by
  cases a; cases b; simp only at h; congr 1; exact Array.toList_inj.mp h

theorem ba_beq (a b : ByteArray) : (a.toList == b.toList) = decide (a = b) := by
  rw [toList_data, toList_data]
  by_cases h : a = b
  · subst h; simp
  · rw [decide_eq_false h]
    exact beq_eq_false_iff_ne.mpr fun h2 => h (ba_ext h2)

theorem ba_get {s : ByteArray} {i : Nat} (h : i < s.size) : s[i]? = some (s.data.toList.getD i 0) := by
  rw [List.getD_eq_getElem?_getD, List.getElem?_eq_getElem (by rw [ba_size]; exact h)]
  rw [getElem?_pos s i h]; rfl

theorem ba_extract (s : ByteArray) (a b : Nat) : (s.extract a b).data.toList = (s.data.toList.take b).drop a := by
  rw [ByteArray.data_extract, Array.toList_extract]; simp [List.extract, List.drop_take]

theorem ba_eta (s : ByteArray) : (⟨s.data.toList.toArray⟩ : ByteArray) = s := by cases s; simp

/-! ### a text's code points as far as it is right -/
def bad (l : List UInt8) : Prop := (decodeL l).1 = 65533 ∧ (decodeL l).2 = 1
instance (l : List UInt8) : Decidable (bad l) := inferInstanceAs (Decidable (_ ∧ _))

def pre : Nat → List UInt8 → List Int × Nat
  | 0, _ => ([], 0)
  | n + 1, l => if l = [] ∨ bad l then ([], 0) else (((decodeL l).1 : Int) :: (pre n (l.drop (decodeL l).2)).1, (decodeL l).2 + (pre n (l.drop (decodeL l).2)).2)
def P (l : List UInt8) : List Int × Nat := pre l.length l

theorem pre_nil : ∀ n, pre n [] = ([], 0)
  | 0 => rfl
  | n + 1 => by simp [pre]
theorem pre_fuel : ∀ (n m : Nat) (l : List UInt8), l.length ≤ n → l.length ≤ m → pre n l = pre m l
  | 0, m, l, hn, _ => by
    have : l = [] := List.eq_nil_of_length_eq_zero (by omega)
    subst this; rw [pre_nil, pre_nil]
  | n + 1, 0, l, _, hm => by
    have : l = [] := List.eq_nil_of_length_eq_zero (by omega)
    subst this; rw [pre_nil, pre_nil]
  | n + 1, m + 1, l, hn, hm => by
    have hw := decodeL_width l
    simp only [pre]
    by_cases hc : l = [] ∨ bad l
    · rw [if_pos hc, if_pos hc]
    · have hl : 0 < l.length := List.length_pos_iff.2 fun h => hc (.inl h)
      rw [if_neg hc, if_neg hc, pre_fuel n m _ (by rw [List.length_drop]; omega) (by rw [List.length_drop]; omega)]
theorem P_nil : P [] = ([], 0) := rfl
theorem P_bad {l : List UInt8} (h : bad l) : P l = ([], 0) := by
  unfold P
  cases hn : l.length with
  | zero => rfl
  | succ n => simp only [pre]; rw [if_pos (.inr h)]
theorem P_step {l : List UInt8} (hne : l ≠ []) (h : ¬ bad l) : P l = (((decodeL l).1 : Int) :: (P (l.drop (decodeL l).2)).1, (decodeL l).2 + (P (l.drop (decodeL l).2)).2) := by
  have hw := decodeL_width l
  have hl : 0 < l.length := List.length_pos_iff.2 hne
  unfold P
  obtain ⟨n, hn⟩ : ∃ n, l.length = n + 1 := ⟨l.length - 1, by omega⟩
  rw [hn]
  simp only [pre]
  rw [if_neg (fun hc => hc.elim hne h), pre_fuel n _ _ (by rw [List.length_drop]; omega) (Nat.le_refl _)]

/-- induction over a text, code point by code point -/
theorem text_ind {motive : List UInt8 → Prop} (h0 : motive []) (h1 : ∀ l, l ≠ [] → bad l → motive l)
    (h2 : ∀ l, l ≠ [] → ¬ bad l → motive (l.drop (decodeL l).2) → motive l) (l : List UInt8) : motive l := by
  have : ∀ n l, List.length l ≤ n → motive l := by
    intro n
    induction n with
    | zero =>
      intro l hl
      have : l = [] := List.eq_nil_of_length_eq_zero (by omega)
      subst this; exact h0
    | succ n ih =>
      intro l hl
      by_cases hne : l = []
      · subst hne; exact h0
      · by_cases hb : bad l
        · exact h1 l hne hb
        · have hw := decodeL_width l
          have := List.length_pos_iff.2 hne
          exact h2 l hne hb (ih _ (by rw [List.length_drop]; omega))
  exact this _ l (Nat.le_refl _)

def isPt (x : Int) : Prop := (0 ≤ x ∧ x ≤ 55295) ∨ (57344 ≤ x ∧ x ≤ 1114111)
instance (x : Int) : Decidable (isPt x) := inferInstanceAs (Decidable (_ ∨ _))

theorem pt_decode (l : List UInt8) : isPt ((decodeL l).1 : Int) := by
  rw [decodeL_N]
  have k0 := (l.getD 0 0).toNat_lt
  have k1 := (l.getD 1 0).toNat_lt
  have k2 := (l.getD 2 0).toNat_lt
  have k3 := (l.getD 3 0).toNat_lt
  unfold isPt
  rcases decodeN_shape l.length (l.getD 0 0).toNat (l.getD 1 0).toNat (l.getD 2 0).toNat (l.getD 3 0).toNat with ⟨c, e⟩ | ⟨c1, c2, c3, cv, e⟩ | ⟨c1, c2, c3, c4, cv, cs, e⟩ | ⟨c1, c2, c3, c4, c5, cv, cw, e⟩ | e
  all_goals (rw [e]; dsimp only; omega)

theorem P_pts (l : List UInt8) : ∀ x ∈ (P l).1, isPt x := by
  induction l using text_ind with
  | h0 => simp [P_nil]
  | h1 l hne hb => simp [P_bad hb]
  | h2 l hne hb ih =>
    rw [P_step hne hb]
    intro x hx
    rcases List.mem_cons.mp hx with rfl | hx
    · exact pt_decode l
    · exact ih x hx

theorem P_len (l : List UInt8) : (P l).1.length ≤ (P l).2 ∧ (P l).2 ≤ l.length := by
  induction l using text_ind with
  | h0 => simp [P_nil]
  | h1 l hne hb => simp [P_bad hb]
  | h2 l hne hb ih =>
    rw [P_step hne hb]
    have h1 := decodeL_width l
    have h2 := decodeL_le l hne
    rw [List.length_drop] at ih
    simp only [List.length_cons]
    omega

theorem P_full {l : List UInt8} : (P l).2 = l.length → (P l).1.flatMap encodeRune = l := by
  induction l using text_ind with
  | h0 => simp [P_nil]
  | h1 l hne hb =>
    rw [P_bad hb]; intro h
    exact absurd (List.eq_nil_of_length_eq_zero h.symm) hne
  | h2 l hne hb ih =>
    rw [P_step hne hb]
    have h1 := decodeL_width l
    have h2 := decodeL_le l hne
    rw [List.length_drop] at ih
    intro h
    rw [List.flatMap_cons, ih (by omega), encode_decode l hne hb, List.take_append_drop]

theorem enc_len {x : Int} : 1 ≤ (encodeRune x).length ∧ (encodeRune x).length ≤ 4 := by
  unfold encodeRune; rw [List.length_map]; exact encodeRuneZ_length x

theorem byteN (n : Int) (h : 0 ≤ n ∧ n < 256) : n.toNat.toUInt8.toNat = n.toNat := by
  show (UInt8.ofNat n.toNat).toNat = _
  rw [UInt8.toNat_ofNat']; omega

set_option maxHeartbeats 1000000 in
theorem enc_dec {x : Int} (hx : isPt x) (t : List UInt8) : decodeL (encodeRune x ++ t) = (x.toNat, (encodeRune x).length) := by
  rw [decodeL_N]
  unfold encodeRune
  unfold isPt at hx
  by_cases c1 : x ≤ 127
  · rw [encodeRuneZ_one (by omega) c1]
    simp only [List.map_cons, List.map_nil, List.cons_append, List.nil_append, List.getD_cons_zero, List.getD_cons_succ, List.length_cons, List.length_nil]
    rw [byteN _ (by omega)]
    unfold decodeN; rw [if_pos (by omega)]
  · by_cases c2 : x ≤ 2047
    · rw [encodeRuneZ_two (by omega) c2]
      simp only [List.map_cons, List.map_nil, List.cons_append, List.nil_append, List.getD_cons_zero, List.getD_cons_succ, List.length_cons, List.length_nil]
      rw [byteN _ (by omega), byteN _ (by omega)]
      unfold decodeN; rw [if_neg (by omega), if_pos (by omega), if_pos (by omega)]
      apply Prod.ext <;> simp only <;> omega
    · by_cases c3 : x ≤ 65535
      · rw [encodeRuneZ_three (by omega)]
        simp only [List.map_cons, List.map_nil, List.cons_append, List.nil_append, List.getD_cons_zero, List.getD_cons_succ, List.length_cons, List.length_nil]
        rw [byteN _ (by omega), byteN _ (by omega), byteN _ (by omega)]
        unfold decodeN; rw [if_neg (by omega), if_neg (by omega), if_pos (by omega), if_pos (by omega)]
        apply Prod.ext <;> simp only <;> omega
      · rw [encodeRuneZ_four (by omega) (by omega)]
        simp only [List.map_cons, List.map_nil, List.cons_append, List.nil_append, List.getD_cons_zero, List.getD_cons_succ, List.length_cons, List.length_nil]
        rw [byteN _ (by omega), byteN _ (by omega), byteN _ (by omega), byteN _ (by omega)]
        unfold decodeN; rw [if_neg (by omega), if_neg (by omega), if_neg (by omega), if_pos (by omega), if_pos (by omega)]
        apply Prod.ext <;> simp only <;> omega

theorem enc_good {x : Int} (hx : isPt x) (t : List UInt8) : ¬ bad (encodeRune x ++ t) := by
  unfold bad
  rw [enc_dec hx t]
  rintro ⟨h1, h2⟩
  simp only at h1 h2
  have : x = 65533 := by unfold isPt at hx; omega
  subst this
  revert h2
  decide

theorem enc_ne (x : Int) (t : List UInt8) : encodeRune x ++ t ≠ [] := by
  intro h
  have := congrArg List.length h
  have := (enc_len (x := x)).1
  simp only [List.length_append, List.length_nil] at *
  omega

theorem P_enc : ∀ {ns : List Int}, (∀ x ∈ ns, isPt x) → P (ns.flatMap encodeRune) = (ns, (ns.flatMap encodeRune).length)
  | [], _ => rfl
  | x :: r, h => by
    have hx := h x (List.mem_cons_self ..)
    have ih := P_enc fun y hy => h y (List.mem_cons_of_mem x hy)
    rw [List.flatMap_cons, P_step (enc_ne x _) (enc_good hx _), enc_dec hx, List.drop_left, ih]
    unfold isPt at hx
    simp only [List.length_append]
    rw [show ((x.toNat : Nat) : Int) = x by omega]

theorem enc_rev_len : ∀ ns : List Int, (ns.reverse.flatMap encodeRune).length = (ns.flatMap encodeRune).length
  | [] => rfl
  | x :: r => by
    rw [List.reverse_cons, List.flatMap_append, List.length_append, enc_rev_len r]
    simp [Nat.add_comm]

/-! ### the program's own words -/
theorem dec_eq (s : ByteArray) (i : Nat) : Bs.dec s (i : Int) = ((decodeL (s.data.toList.drop i)).1 : Int) := by
  unfold Bs.dec; rw [decodeL_drop]; rfl
theorem wid_eq (s : ByteArray) (i : Nat) : Bs.wid s (i : Int) = ((decodeL (s.data.toList.drop i)).2 : Int) := by
  unfold Bs.wid; rw [decodeL_drop]; rfl

theorem drop_ne {s : ByteArray} {i : Nat} (h : i < s.size) : s.data.toList.drop i ≠ [] := by
  intro h2
  have := congrArg List.length h2
  rw [List.length_drop, ba_size] at this
  simp at this; omega

theorem runesAt_eq (s : ByteArray) : ∀ (n i : Nat), s.size - i ≤ n → i ≤ s.size → (P (s.data.toList.drop i)).2 = s.size - i → Bs.runesAt s n i = (P (s.data.toList.drop i)).1
  | 0, i, hn, hi, _ => by
    have : s.data.toList.drop i = [] := List.drop_eq_nil_of_le (by rw [ba_size]; omega)
    rw [this]; rfl
  | n + 1, i, hn, hi, h => by
    by_cases hc : i < s.size
    · have hne := drop_ne hc
      have hg : ¬ bad (s.data.toList.drop i) := fun hb => by rw [P_bad hb] at h; simp only at h; omega
      have hw := decodeL_width (s.data.toList.drop i)
      have hle := decodeL_le _ hne
      rw [List.length_drop, ba_size] at hle
      rw [P_step hne hg] at h ⊢
      rw [List.drop_drop] at h ⊢
      simp only at h ⊢
      rw [Bs.runesAt, if_pos hc, ← decodeL_drop]
      rw [runesAt_eq s n (i + (decodeL (s.data.toList.drop i)).2) (by omega) (by omega) (by omega)]
    · have : s.data.toList.drop i = [] := List.drop_eq_nil_of_le (by rw [ba_size]; omega)
      rw [this, Bs.runesAt, if_neg hc]; rfl

theorem runes_eq {s : ByteArray} (h : (P s.data.toList).2 = s.size) : Bs.runes s = (P s.data.toList).1 := by
  unfold Bs.runes
  have := runesAt_eq s s.size 0 (by omega) (by omega) (by rw [List.drop_zero]; omega)
  rwa [List.drop_zero] at this

theorem u8_ofInt (n : Int) (k : Nat) (h : n.toNat = k) : UInt8.ofNat k = n.toNat.toUInt8 := by subst h; rfl

theorem encode_eq {x : Int} (hx : isPt x) : Utf8.encode x = ⟨(encodeRune x).toArray⟩ := by
  unfold isPt at hx
  have hv : Utf8.valid x = true := by
    unfold Utf8.valid
    simp only [Bool.or_eq_true, Bool.and_eq_true, decide_eq_true_eq]
    omega
  unfold Utf8.encode encodeRune
  simp only [hv, if_true]
  by_cases c1 : x ≤ 127
  · rw [encodeRuneZ_one (by omega) c1, if_pos (by omega)]; rfl
  · rw [if_neg (by omega)]
    by_cases c2 : x ≤ 2047
    · rw [encodeRuneZ_two (by omega) c2, if_pos (by omega)]
      simp only [List.map_cons, List.map_nil]
      rw [u8_ofInt (192 + x / 64) _ (by omega), u8_ofInt (128 + x % 64) _ (by omega)]
    · rw [if_neg (by omega)]
      by_cases c3 : x ≤ 65535
      · rw [encodeRuneZ_three (by omega), if_pos (by omega)]
        simp only [List.map_cons, List.map_nil]
        rw [u8_ofInt (224 + x / 4096) _ (by omega), u8_ofInt (128 + x / 64 % 64) _ (by omega), u8_ofInt (128 + x % 64) _ (by omega)]
      · rw [encodeRuneZ_four (by omega) (by omega), if_neg (by omega)]
        simp only [List.map_cons, List.map_nil]
        rw [u8_ofInt (240 + x / 262144) _ (by omega), u8_ofInt (128 + x / 4096 % 64) _ (by omega), u8_ofInt (128 + x / 64 % 64) _ (by omega), u8_ofInt (128 + x % 64) _ (by omega)]

theorem ba_append (a b : ByteArray) : (a ++ b).data.toList = a.data.toList ++ b.data.toList := by
  simp [ByteArray.data_append]

theorem text_go : ∀ (ns : List Int) (r : ByteArray), (∀ x ∈ ns, isPt x) → (ns.foldl (fun r n => r ++ Utf8.encode n) r).data.toList = r.data.toList ++ ns.flatMap encodeRune
  | [], r, _ => by simp
  | x :: t, r, h => by
    rw [List.foldl_cons, text_go t _ fun y hy => h y (List.mem_cons_of_mem x hy), ba_append, encode_eq (h x (List.mem_cons_self ..)), List.flatMap_cons]
    simp
theorem text_eq {ns : List Int} (h : ∀ x ∈ ns, isPt x) : Bs.text ns = ⟨(ns.flatMap encodeRune).toArray⟩ := by
  apply ba_ext
  unfold Bs.text
  rw [text_go ns _ h]
  simp

theorem bytes_ints (l : List UInt8) : Bs.bytes (l.map fun b => (b.toNat : Int)) = ⟨l.toArray⟩ := by
  unfold Bs.bytes
  rw [List.map_map]
  congr 2
  conv => rhs; rw [← List.map_id l]
  apply List.map_congr_left
  intro b _
  simp

theorem f49 {s : ByteArray} {i : Nat} (h : i < s.size) : n_49 (s.extract i s.size, ()) = some (((decodeL (s.data.toList.drop i)).1 : Int), ((decodeL (s.data.toList.drop i)).2 : Int), ()) := by
  have e : Lib.decodeGo (s.extract i s.size) = decodeL (s.data.toList.drop i) := by
    unfold Lib.decodeGo
    rw [tail_size, if_neg (by omega), tail_decode, Nat.add_zero, decodeL_drop]
  simp only [n_49, e]

theorem f20l (s : ByteArray) : ∀ (l : List UInt8) (i : Nat), l = s.data.toList.drop i → i ≤ s.size →
    n_20l2 (s, s, (i : Int), ()) = some (if i + (P l).2 = s.size then .inr (s, ()) else .inl (((i + (P l).2 : Nat) : Int), false, ())) := by
  intro l
  induction l using text_ind with
  | h0 =>
    intro i hl hi
    have hl2 := congrArg List.length hl
    rw [List.length_drop, ba_size, List.length_nil] at hl2
    have : i = s.size := by omega
    subst this
    rw [n_20l2]
    simp only [if_pos (Int.natCast_nonneg _), P_nil, Nat.add_zero, Int.lt_irrefl, if_true, if_false]
  | h1 l hne hb =>
    intro i hl hi
    have hi2 : i < s.size := by
      rcases Nat.lt_or_ge i s.size with h | h
      · exact h
      · exact absurd (hl.trans (List.drop_eq_nil_of_le (by rw [ba_size]; omega))) hne
    subst hl
    rw [n_20l2, dec_eq, hb.1]
    simp only [if_pos (Int.natCast_nonneg _), if_pos (Int.ofNat_lt.mpr hi2), Int.toNat_natCast]
    rw [if_pos (by decide), if_pos (by omega), f49 hi2]
    simp only [Option.bind_eq_bind, Option.bind_some, Option.bind_none, if_true, if_false, Bool.false_eq_true, Bool.true_eq_false, Int.toNat_natCast, Int.natCast_nonneg, beq_iff_eq, decide_eq_true_eq, Int.ofNat_lt, decide_true, decide_false, Bool.not_true, Bool.not_false, hb.2]
    rw [P_bad hb]
    simp only [Nat.add_zero]
    rw [if_neg (show ¬ i = s.size by omega)]
    rfl
  | h2 l hne hb ih =>
    intro i hl hi
    have hi2 : i < s.size := by
      rcases Nat.lt_or_ge i s.size with h | h
      · exact h
      · exact absurd (hl.trans (List.drop_eq_nil_of_le (by rw [ba_size]; omega))) hne
    have hw := decodeL_width l
    have hle := decodeL_le l hne
    subst hl
    rw [List.length_drop, ba_size] at hle
    have ih2 := ih (i + (decodeL (s.data.toList.drop i)).2) (by rw [List.drop_drop]) (by omega)
    rw [P_step hne hb]
    simp only
    rw [← Nat.add_assoc, ← ih2]
    rw [n_20l2, dec_eq, wid_eq]
    simp only [if_pos (Int.natCast_nonneg _), if_pos (Int.ofNat_lt.mpr hi2), Int.toNat_natCast]
    have e : (i : Int) + ((decodeL (s.data.toList.drop i)).2 : Int) = ((i + (decodeL (s.data.toList.drop i)).2 : Nat) : Int) := by omega
    rw [e]
    by_cases h1 : (((decodeL (s.data.toList.drop i)).1 : Int) == 65533) = true
    · rw [if_pos h1, if_pos (by omega), f49 hi2]
      simp only [Option.bind_eq_bind, Option.bind_some, Option.bind_none, if_true, if_false, Bool.false_eq_true, Bool.true_eq_false, Int.toNat_natCast, Int.natCast_nonneg, beq_iff_eq, decide_eq_true_eq, Int.ofNat_lt, decide_true, decide_false, Bool.not_true, Bool.not_false]
      rw [if_neg]
      intro h2
      exact hb ⟨by simp at h1; omega, by omega⟩
    · rw [if_neg h1]

/-- how far a text is right -/
def fit (s : ByteArray) : Nat := (P s.data.toList).2

theorem fit_le (s : ByteArray) : fit s ≤ s.size := by
  have := (P_len s.data.toList).2
  rwa [ba_size] at this

theorem f20 (s : ByteArray) : n_20 (s, ()) = some ((fit s : Int), decide (fit s = s.size), ()) := by
  have := f20l s s.data.toList 0 (by simp) (by omega)
  simp only [n_20]
  rw [show ((0 : Int)) = ((0 : Nat) : Int) from rfl, this]
  unfold fit
  simp only [Nat.zero_add]
  by_cases h : (P s.data.toList).2 = s.size
  · simp only [if_pos h, Option.bind_eq_bind, Option.bind_some, Option.bind_none, if_true, if_false, Bool.false_eq_true, Bool.true_eq_false, Int.toNat_natCast, Int.natCast_nonneg, beq_iff_eq, decide_eq_true_eq, Int.ofNat_lt, decide_true, decide_false, Bool.not_true, Bool.not_false, h]
  · simp only [if_neg h, Option.bind_eq_bind, Option.bind_some, Option.bind_none, if_true, if_false, Bool.false_eq_true, Bool.true_eq_false, Int.toNat_natCast, Int.natCast_nonneg, beq_iff_eq, decide_eq_true_eq, Int.ofNat_lt, decide_true, decide_false, Bool.not_true, Bool.not_false, h]

/-- what is wrong with a text -/
def code (s : ByteArray) : Int := if s.size > 4096 then 3 else if fit s = s.size then 0 else 2

theorem f36 (s : ByteArray) : n_36 (s, ()) = some (code s, ()) := by
  simp only [n_36, f20, code]
  by_cases h : s.size > 4096
  · have : ((s.size : Int) > 4096) := by omega
    simp only [if_pos h, Option.bind_eq_bind, Option.bind_some, Option.bind_none, if_true, if_false, Bool.false_eq_true, Bool.true_eq_false, Int.toNat_natCast, Int.natCast_nonneg, beq_iff_eq, decide_eq_true_eq, Int.ofNat_lt, decide_true, decide_false, Bool.not_true, Bool.not_false, this]
  · have : ¬ ((s.size : Int) > 4096) := by omega
    simp only [if_neg h, Option.bind_eq_bind, Option.bind_some, Option.bind_none, if_true, if_false, Bool.false_eq_true, Bool.true_eq_false, Int.toNat_natCast, Int.natCast_nonneg, beq_iff_eq, decide_eq_true_eq, Int.ofNat_lt, decide_true, decide_false, Bool.not_true, Bool.not_false, this]
    by_cases h2 : fit s = s.size
    · simp only [h2, Option.bind_eq_bind, Option.bind_some, Option.bind_none, if_true, if_false, Bool.false_eq_true, Bool.true_eq_false, Int.toNat_natCast, Int.natCast_nonneg, beq_iff_eq, decide_eq_true_eq, Int.ofNat_lt, decide_true, decide_false, Bool.not_true, Bool.not_false]
    · simp only [h2, Option.bind_eq_bind, Option.bind_some, Option.bind_none, if_true, if_false, Bool.false_eq_true, Bool.true_eq_false, Int.toNat_natCast, Int.natCast_nonneg, beq_iff_eq, decide_eq_true_eq, Int.ofNat_lt, decide_true, decide_false, Bool.not_true, Bool.not_false]

/-! ### the reference's decoder -/
theorem f39 (a b c : Int) : n_39 (a, b, c, ()) = some (decide (b ≤ a ∧ a ≤ c), ()) := by
  simp only [n_39]
  by_cases h : a ≥ b <;> by_cases h2 : a ≤ c <;> simp [h, h2] <;> omega

theorem f55 (x : Int) : n_55 (x, ()) = some (decide (isPt x), ()) := by
  simp only [n_55, f39, Option.bind_eq_bind, Option.bind_some, Option.bind_none, if_true, if_false, Bool.false_eq_true, Bool.true_eq_false, Int.toNat_natCast, Int.natCast_nonneg, beq_iff_eq, decide_eq_true_eq, Int.ofNat_lt, decide_true, decide_false, Bool.not_true, Bool.not_false]
  unfold isPt
  by_cases h : 0 ≤ x ∧ x ≤ 55295
  · simp [h]
  · by_cases h2 : 57344 ≤ x ∧ x ≤ 1114111
    · simp [h, h2]
    · simp [h, h2]

theorem wrap8 {x : Int} (h1 : 0 ≤ x) (h2 : x < 256) : IntKind.u8.wrap x = x := by
  unfold IntKind.wrap
  simp only [IntKind.bits, IntKind.signed, Bool.false_and]
  simp; omega

theorem f65 {x : Int} (hx : isPt x) : n_65 (x, ()) = some (⟨(encodeRune x).toArray⟩, ()) := by
  unfold isPt at hx
  have t64 : x.tdiv 64 = x / 64 := Int.tdiv_eq_ediv_of_nonneg (by omega)
  have t4096 : x.tdiv 4096 = x / 4096 := Int.tdiv_eq_ediv_of_nonneg (by omega)
  have t262144 : x.tdiv 262144 = x / 262144 := Int.tdiv_eq_ediv_of_nonneg (by omega)
  have m1 : x.tmod 64 = x % 64 := Int.tmod_eq_emod_of_nonneg (by omega)
  have m2 : (x / 64).tmod 64 = x / 64 % 64 := Int.tmod_eq_emod_of_nonneg (by omega)
  have m3 : (x / 4096).tmod 64 = x / 4096 % 64 := Int.tmod_eq_emod_of_nonneg (by omega)
  have w (y : Int) (h1 : 0 ≤ y) (h2 : y ≤ 9000000) : IntKind.i64.wrap y = y := wrap64 (by omega) (by omega)
  simp only [n_65, t64, t4096, t262144]
  rw [w (x / 64) (by omega) (by omega), w (x / 4096) (by omega) (by omega), w (x / 262144) (by omega) (by omega)]
  simp only [m1, m2, m3]
  unfold encodeRune
  by_cases c1 : x ≤ 127
  · rw [encodeRuneZ_one (by omega) c1, if_pos (by simp; omega), wrap8 (by omega) (by omega)]; rfl
  · rw [if_neg (by simp; omega)]
    by_cases c2 : x ≤ 2047
    · rw [encodeRuneZ_two (by omega) c2, if_pos (by simp; omega), w (192 + x / 64) (by omega) (by omega), w (128 + x % 64) (by omega) (by omega), wrap8 (by omega) (by omega), wrap8 (by omega) (by omega)]; rfl
    · rw [if_neg (by simp; omega)]
      by_cases c3 : x ≤ 65535
      · rw [encodeRuneZ_three (by omega), if_pos (by simp; omega), w (224 + x / 4096) (by omega) (by omega), w (128 + x % 64) (by omega) (by omega), w (128 + x / 64 % 64) (by omega) (by omega), wrap8 (by omega) (by omega), wrap8 (by omega) (by omega), wrap8 (by omega) (by omega)]; rfl
      · rw [if_neg (by simp; omega), encodeRuneZ_four (by omega) (by omega), w (240 + x / 262144) (by omega) (by omega), w (128 + x / 4096 % 64) (by omega) (by omega), w (128 + x % 64) (by omega) (by omega), w (128 + x / 64 % 64) (by omega) (by omega), wrap8 (by omega) (by omega), wrap8 (by omega) (by omega), wrap8 (by omega) (by omega), wrap8 (by omega) (by omega)]; rfl

/-- is that code point here? -/
def chk (l : List UInt8) (k : Nat) (v : Int) : Int × Int × Unit := if isPt v ∧ encodeRune v = l.take k then (v, (k : Int), ()) else (0, 0, ())

def cont (l : List UInt8) (k : Nat) : Prop := (l.getD k 0).toNat / 64 = 2
instance (l : List UInt8) (k : Nat) : Decidable (cont l k) := inferInstanceAs (Decidable (_ = _))
def byt (l : List UInt8) (k : Nat) : Int := ((l.getD k 0).toNat : Int)
theorem byt_bnd (l : List UInt8) (k : Nat) : 0 ≤ byt l k ∧ byt l k < 256 := by
  have := (l.getD k 0).toNat_lt
  unfold byt; omega
theorem cont_byt (l : List UInt8) (k : Nat) : cont l k ↔ 128 ≤ byt l k ∧ byt l k ≤ 191 := by
  unfold byt cont; omega

def cand (l : List UInt8) : Int × Int × Unit :=
  if 240 ≤ byt l 0 then (if 4 ≤ l.length ∧ cont l 1 ∧ cont l 2 ∧ cont l 3 then chk l 4 (64 * (64 * (64 * (byt l 0 - 240) + byt l 1 - 128) + byt l 2 - 128) + byt l 3 - 128) else (0, 0, ()))
  else if 224 ≤ byt l 0 then (if 3 ≤ l.length ∧ cont l 1 ∧ cont l 2 then chk l 3 (64 * (64 * (byt l 0 - 224) + byt l 1 - 128) + byt l 2 - 128) else (0, 0, ()))
  else if 192 ≤ byt l 0 then (if 2 ≤ l.length ∧ cont l 1 then chk l 2 (64 * (byt l 0 - 192) + byt l 1 - 128) else (0, 0, ()))
  else if 128 ≤ byt l 0 then (0, 0, ())
  else chk l 1 (byt l 0)

theorem chk_bad {l : List UInt8} (h : bad l) (k : Nat) (v : Int) : chk l k v = (0, 0, ()) := by
  unfold chk
  rw [if_neg]
  rintro ⟨h1, h2⟩
  have := enc_good h1 (l.drop k)
  rw [h2, List.take_append_drop] at this
  exact this h

theorem chk_good {l : List UInt8} (hne : l ≠ []) (h : ¬ bad l) {k : Nat} {v : Int} (hk : k = (decodeL l).2) (hv : v = ((decodeL l).1 : Int)) : chk l k v = (((decodeL l).1 : Int), ((decodeL l).2 : Int), ()) := by
  subst hk hv
  unfold chk
  rw [if_pos ⟨pt_decode l, encode_decode l hne h⟩]

theorem cand_bad {l : List UInt8} (h : bad l) : cand l = (0, 0, ()) := by
  unfold cand
  simp only [chk_bad h]
  (repeat' split) <;> rfl

theorem cand_good {l : List UInt8} (hne : l ≠ []) (h : ¬ bad l) : cand l = (((decodeL l).1 : Int), ((decodeL l).2 : Int), ()) := by
  have g (k : Nat) (v : Int) := @chk_good l hne h k v
  have h2 := h
  unfold bad at h2
  rw [decodeL_N] at h2 g ⊢
  unfold cand cont byt
  have hl : 0 < l.length := List.length_pos_iff.2 hne
  have k0 := (l.getD 0 0).toNat_lt
  have k1 := (l.getD 1 0).toNat_lt
  have k2 := (l.getD 2 0).toNat_lt
  have k3 := (l.getD 3 0).toNat_lt
  rcases decodeN_shape l.length (l.getD 0 0).toNat (l.getD 1 0).toNat (l.getD 2 0).toNat (l.getD 3 0).toNat with ⟨c, e⟩ | ⟨c1, c2, c3, cv, e⟩ | ⟨c1, c2, c3, c4, cv, cs, e⟩ | ⟨c1, c2, c3, c4, c5, cv, cw, e⟩ | e
  · rw [e] at g ⊢
    rw [if_neg (by omega), if_neg (by omega), if_neg (by omega), if_neg (by omega)]
    exact g _ _ rfl (by simp)
  · rw [e] at g ⊢
    rw [if_neg (by omega), if_neg (by omega), if_pos (by omega), if_pos (by omega)]
    exact g _ _ rfl (by simp only; omega)
  · rw [e] at g ⊢
    rw [if_neg (by omega), if_pos (by omega), if_pos (by omega)]
    exact g _ _ rfl (by simp only; omega)
  · rw [e] at g ⊢
    rw [if_pos (by omega), if_pos (by omega)]
    exact g _ _ rfl (by simp only; omega)
  · rw [e] at h2
    exact absurd ⟨rfl, rfl⟩ h2

theorem getD_drop' (l : List UInt8) (i j : Nat) : l.getD (i + j) 0 = (l.drop i).getD j 0 := by
  simp [List.getD_eq_getElem?_getD]

theorem f68_step {s : ByteArray} {i k j : Nat} {v : Int} (hs : s.size ≤ 1000000) (hi : i + j < s.size) (hj : j < k) (hk : k ≤ 4) (hv : 0 ≤ v ∧ v ≤ 10000000) :
    n_68l14 (s, (i : Int), (k : Int), v, (j : Int), ()) = if cont (s.data.toList.drop i) j then n_68l14 (s, (i : Int), (k : Int), 64 * v + byt (s.data.toList.drop i) j - 128, ((j + 1 : Nat) : Int), ()) else some (.inl (0, 0, ())) := by
  have hb := byt_bnd (s.data.toList.drop i) j
  have hc := cont_byt (s.data.toList.drop i) j
  have e1 : IntKind.i64.wrap ((i : Int) + (j : Int)) = ((i + j : Nat) : Int) := by rw [wrap64 (by omega) (by omega)]; omega
  have e2 : IntKind.i64.wrap ((j : Int) + 1) = ((j + 1 : Nat) : Int) := by rw [wrap64 (by omega) (by omega)]; omega
  rw [n_68l14]
  simp only
  rw [if_pos (by simp; omega), e1, if_pos (Int.natCast_nonneg _), Int.toNat_natCast, ba_get hi, getD_drop']
  simp only [Option.bind_eq_bind, Option.bind_some, Option.bind_none, if_true, if_false, Bool.false_eq_true, Bool.true_eq_false, Int.toNat_natCast, Int.natCast_nonneg, beq_iff_eq, decide_eq_true_eq, Int.ofNat_lt, decide_true, decide_false, Bool.not_true, Bool.not_false]
  have e0 : (((s.data.toList.drop i).getD j 0).toNat : Int) = byt (s.data.toList.drop i) j := rfl
  rw [e0, wrap64 (x := byt (s.data.toList.drop i) j) (by omega) (by omega)]
  by_cases c : cont (s.data.toList.drop i) j
  · have c' := hc.mp c
    rw [if_pos c, if_neg (by omega)]
    simp only [Option.bind_eq_bind, Option.bind_some, Option.bind_none, if_true, if_false, Bool.false_eq_true, Bool.true_eq_false, Int.toNat_natCast, Int.natCast_nonneg, beq_iff_eq, decide_eq_true_eq, Int.ofNat_lt, decide_true, decide_false, Bool.not_true, Bool.not_false]
    rw [if_neg (by omega), e2, wrap64 (x := 64 * v) (by omega) (by omega), wrap64 (x := 64 * v + byt (s.data.toList.drop i) j) (by omega) (by omega), wrap64 (by omega) (by omega)]
  · rw [if_neg c]
    by_cases c2 : byt (s.data.toList.drop i) j < 128
    · simp only [if_pos c2, Option.bind_eq_bind, Option.bind_some, Option.bind_none, if_true, if_false, Bool.false_eq_true, Bool.true_eq_false, Int.toNat_natCast, Int.natCast_nonneg, beq_iff_eq, decide_eq_true_eq, Int.ofNat_lt, decide_true, decide_false, Bool.not_true, Bool.not_false]
    · have : byt (s.data.toList.drop i) j > 191 := by
        rw [hc] at c; omega
      simp only [if_neg c2, Option.bind_eq_bind, Option.bind_some, Option.bind_none, if_true, if_false, Bool.false_eq_true, Bool.true_eq_false, Int.toNat_natCast, Int.natCast_nonneg, beq_iff_eq, decide_eq_true_eq, Int.ofNat_lt, decide_true, decide_false, Bool.not_true, Bool.not_false, this]

theorem f68_end {s : ByteArray} {i k : Nat} {v : Int} : n_68l14 (s, (i : Int), (k : Int), v, (k : Int), ()) = some (.inr (s, (i : Int), (k : Int), v, ())) := by
  rw [n_68l14]
  simp

/-- the end: is the number a code point whose bytes these are? -/
theorem f68_chk {s : ByteArray} {i k : Nat} {v : Int} (hs : s.size ≤ 1000000) (hi : i + k ≤ s.size) :
    ((some (.inr (s, (i : Int), (k : Int), v, ())) : Option ((Int × Int × Unit) ⊕ (ByteArray × Int × Int × Int × Unit))) >>= fun x3 => match x3 with
          | .inl y3 => some y3
          | .inr y3 => (n_55 (y3.snd.snd.snd.fst, ()) >>= fun x4 =>
              if (!x4.fst) = true then
                some ((y3.snd.snd.fst, y3.snd.snd.snd.fst, true, ()))
              else n_65 (y3.snd.snd.snd.fst, ()) >>= fun x5 =>
              if 0 ≤ y3.snd.fst ∧ y3.snd.fst ≤ IntKind.i64.wrap (y3.snd.fst + y3.snd.snd.fst) ∧ IntKind.i64.wrap (y3.snd.fst + y3.snd.snd.fst) ≤ (↑y3.fst.size : Int) then
                some ((y3.snd.snd.fst, y3.snd.snd.snd.fst, !x5.fst.toList == (y3.fst.extract y3.snd.fst.toNat (IntKind.i64.wrap (y3.snd.fst + y3.snd.snd.fst)).toNat).toList, ()))
              else none) >>= fun x4 =>
            if x4.snd.snd.fst = true then
              some ((0, 0, ()))
            else some ((x4.snd.fst, x4.fst, ()))) = some (chk (s.data.toList.drop i) k v) := by
  have e1 : IntKind.i64.wrap ((i : Int) + (k : Int)) = ((i + k : Nat) : Int) := by rw [wrap64 (by omega) (by omega)]; omega
  simp only [Option.bind_eq_bind, Option.bind_some]
  rw [f55]
  simp only [Option.bind_some]
  unfold chk
  by_cases h : isPt v
  · simp only [h, Option.bind_eq_bind, Option.bind_some, Option.bind_none, if_true, if_false, Bool.false_eq_true, Bool.true_eq_false, Int.toNat_natCast, Int.natCast_nonneg, beq_iff_eq, decide_eq_true_eq, Int.ofNat_lt, decide_true, decide_false, Bool.not_true, Bool.not_false, true_and]
    rw [f65 h]
    simp only [Option.bind_some, e1]
    rw [if_pos (by omega)]
    simp only [Option.bind_some, ba_beq, Int.toNat_natCast]
    have : (⟨(encodeRune v).toArray⟩ : ByteArray) = s.extract i (i + k) ↔ encodeRune v = (s.data.toList.drop i).take k := by
      constructor
      · intro h2
        have := congrArg (fun b : ByteArray => b.data.toList) h2
        simp only [ba_extract] at this
        rw [this, List.drop_take, Nat.add_sub_cancel_left]
      · intro h2
        apply ba_ext
        rw [ba_extract, List.drop_take, Nat.add_sub_cancel_left]
        exact h2
    by_cases h2 : encodeRune v = (s.data.toList.drop i).take k
    · rw [if_pos h2]; simp [this.mpr h2]
    · rw [if_neg h2]
      simp
      intro h
      exact absurd (this.mp h) h2
  · simp only [h, Option.bind_eq_bind, Option.bind_some, Option.bind_none, if_true, if_false, Bool.false_eq_true, Bool.true_eq_false, Int.toNat_natCast, Int.natCast_nonneg, beq_iff_eq, decide_eq_true_eq, Int.ofNat_lt, decide_true, decide_false, Bool.not_true, Bool.not_false, false_and]

theorem f68' {s : ByteArray} {i : Nat} (hs : s.size ≤ 1000000) (hi : i < s.size) : n_68 (s, (i : Int), ()) = some (cand (s.data.toList.drop i)) := by
  have hl : (s.data.toList.drop i).length = s.size - i := by rw [List.length_drop, ba_size]
  have hb := byt_bnd (s.data.toList.drop i) 0
  have hb1 := byt_bnd (s.data.toList.drop i) 1
  have hb2 := byt_bnd (s.data.toList.drop i) 2
  have hb3 := byt_bnd (s.data.toList.drop i) 3
  have e0 : (((s.data.toList.drop i).getD 0 0).toNat : Int) = byt (s.data.toList.drop i) 0 := rfl
  have ew (k : Nat) (h : k ≤ 4) : IntKind.i64.wrap ((i : Int) + (k : Int)) = ((i + k : Nat) : Int) := by rw [wrap64 (by omega) (by omega)]; omega
  have hlt : ∀ k : Nat, (decide (((i + k : Nat) : Int) > (s.size : Int)) = true) = (s.size < i + k) := fun k => by simp; omega
  have get := ba_get hi
  have := getD_drop' s.data.toList i 0
  rw [Nat.add_zero] at this
  rw [this] at get
  unfold n_68
  simp only
  rw [if_pos (Int.natCast_nonneg _), Int.toNat_natCast, get]
  simp only [Option.bind_eq_bind, Option.bind_some]
  rw [e0, wrap64 (x := byt (s.data.toList.drop i) 0) (by omega) (by omega)]
  have c1 := cont_byt (s.data.toList.drop i) 1
  have c2 := cont_byt (s.data.toList.drop i) 2
  have c3 := cont_byt (s.data.toList.drop i) 3
  unfold cand
  by_cases h4 : 240 ≤ byt (s.data.toList.drop i) 0
  · rw [if_pos (by simpa using h4), if_pos h4]
    simp only [Option.bind_some]
    rw [show ((4 : Int)) = ((4 : Nat) : Int) from rfl, ew 4 (by omega), wrap64 (x := _ - 240) (by omega) (by omega)]
    simp only [hlt]
    by_cases hz : s.size < i + 4
    · rw [if_pos hz, if_neg (by omega)]
    · rw [if_neg hz]
      rw [show ((1 : Int)) = ((1 : Nat) : Int) from rfl, f68_step hs (by omega) (by omega) (by omega) (by omega)]
      by_cases d1 : cont (s.data.toList.drop i) 1
      · have d1' := c1.mp d1
        rw [if_pos d1, f68_step hs (by omega) (by omega) (by omega) (by omega)]
        by_cases d2 : cont (s.data.toList.drop i) 2
        · have d2' : 128 ≤ byt (s.data.toList.drop i) (1 + 1) ∧ byt (s.data.toList.drop i) (1 + 1) ≤ 191 := c2.mp d2
          rw [if_pos d2, f68_step hs (by omega) (by omega) (by omega) (by omega)]
          by_cases d3 : cont (s.data.toList.drop i) 3
          · rw [if_pos d3, f68_end, if_pos ⟨by omega, d1, d2, d3⟩]
            exact f68_chk hs (by omega)
          · rw [if_neg d3, if_neg (fun h => d3 h.2.2.2)]; rfl
        · rw [if_neg d2, if_neg (fun h => d2 h.2.2.1)]; rfl
      · rw [if_neg d1, if_neg (fun h => d1 h.2.1)]; rfl
  rw [if_neg (by simpa using h4), if_neg h4]
  by_cases h3 : 224 ≤ byt (s.data.toList.drop i) 0
  · rw [if_pos (by simpa using h3), if_pos h3]
    simp only [Option.bind_some]
    rw [show ((3 : Int)) = ((3 : Nat) : Int) from rfl, ew 3 (by omega), wrap64 (x := _ - 224) (by omega) (by omega)]
    simp only [hlt]
    by_cases hz : s.size < i + 3
    · rw [if_pos hz, if_neg (by omega)]
    · rw [if_neg hz]
      rw [show ((1 : Int)) = ((1 : Nat) : Int) from rfl, f68_step hs (by omega) (by omega) (by omega) (by omega)]
      by_cases d1 : cont (s.data.toList.drop i) 1
      · have d1' := c1.mp d1
        rw [if_pos d1, f68_step hs (by omega) (by omega) (by omega) (by omega)]
        by_cases d2 : cont (s.data.toList.drop i) 2
        · rw [if_pos d2, f68_end, if_pos ⟨by omega, d1, d2⟩]
          exact f68_chk hs (by omega)
        · rw [if_neg d2, if_neg (fun h => d2 h.2.2)]; rfl
      · rw [if_neg d1, if_neg (fun h => d1 h.2.1)]; rfl
  rw [if_neg (by simpa using h3), if_neg h3]
  by_cases h2 : 192 ≤ byt (s.data.toList.drop i) 0
  · rw [if_pos (by simpa using h2), if_pos h2]
    simp only [Option.bind_some]
    rw [show ((2 : Int)) = ((2 : Nat) : Int) from rfl, ew 2 (by omega), wrap64 (x := _ - 192) (by omega) (by omega)]
    simp only [hlt]
    by_cases hz : s.size < i + 2
    · rw [if_pos hz, if_neg (by omega)]
    · rw [if_neg hz]
      rw [show ((1 : Int)) = ((1 : Nat) : Int) from rfl, f68_step hs (by omega) (by omega) (by omega) (by omega)]
      by_cases d1 : cont (s.data.toList.drop i) 1
      · rw [if_pos d1, f68_end, if_pos ⟨by omega, d1⟩]
        exact f68_chk hs (by omega)
      · rw [if_neg d1, if_neg (fun h => d1 h.2)]; rfl
  rw [if_neg (by simpa using h2), if_neg h2]
  by_cases h1 : 128 ≤ byt (s.data.toList.drop i) 0
  · rw [if_pos (by simpa using h1), if_pos h1]; rfl
  rw [if_neg (by simpa using h1), if_neg h1]
  simp only [Option.bind_some]
  rw [show ((1 : Int)) = ((1 : Nat) : Int) from rfl, ew 1 (by omega)]
  simp only [hlt]
  rw [if_neg (by omega), f68_end]
  exact f68_chk hs (by omega)

theorem f68 {s : ByteArray} {i : Nat} (hs : s.size ≤ 1000000) (hi : i < s.size) :
    n_68 (s, (i : Int), ()) = some (if bad (s.data.toList.drop i) then (0, 0, ()) else (((decodeL (s.data.toList.drop i)).1 : Int), ((decodeL (s.data.toList.drop i)).2 : Int), ())) := by
  rw [f68' hs hi]
  by_cases h : bad (s.data.toList.drop i)
  · rw [if_pos h, cand_bad h]
  · rw [if_neg h, cand_good (drop_ne hi) h]

theorem f50l {s : ByteArray} (hs : s.size ≤ 1000000) : ∀ (l : List UInt8) (i : Nat) (acc : List Int), l = s.data.toList.drop i → i ≤ s.size → acc.length ≤ i →
    n_50l3 (s, (i : Int), acc, ()) = some (if i + (P l).2 = s.size then .inr ((s.size : Int), acc ++ (P l).1, ()) else .inl (acc ++ (P l).1, ((i + (P l).2 : Nat) : Int), ())) := by
  intro l
  induction l using text_ind with
  | h0 =>
    intro i acc hl hi ha
    have hl2 := congrArg List.length hl
    rw [List.length_drop, ba_size, List.length_nil] at hl2
    have : i = s.size := by omega
    subst this
    rw [n_50l3]
    simp [P_nil]
  | h1 l hne hb =>
    intro i acc hl hi ha
    have hi2 : i < s.size := by
      rcases Nat.lt_or_ge i s.size with h | h
      · exact h
      · exact absurd (hl.trans (List.drop_eq_nil_of_le (by rw [ba_size]; omega))) hne
    rw [n_50l3]
    simp only
    subst hl
    rw [if_pos (by simpa using hi2), f68 hs hi2, if_pos hb, P_bad hb]
    simp only [Nat.add_zero]
    rw [if_neg (show ¬ i = s.size by omega)]
    simp
  | h2 l hne hb ih =>
    intro i acc hl hi ha
    have hi2 : i < s.size := by
      rcases Nat.lt_or_ge i s.size with h | h
      · exact h
      · exact absurd (hl.trans (List.drop_eq_nil_of_le (by rw [ba_size]; omega))) hne
    have hw := decodeL_width l
    have hle := decodeL_le l hne
    subst hl
    rw [List.length_drop, ba_size] at hle
    have ih2 := ih (i + (decodeL (s.data.toList.drop i)).2) (acc ++ [((decodeL (s.data.toList.drop i)).1 : Int)]) (by rw [List.drop_drop]) (by omega) (by rw [List.length_append, List.length_singleton]; omega)
    rw [P_step hne hb]
    simp only
    rw [show acc ++ ((decodeL (s.data.toList.drop i)).1 : Int) :: (P ((s.data.toList.drop i).drop (decodeL (s.data.toList.drop i)).2)).1 = acc ++ [((decodeL (s.data.toList.drop i)).1 : Int)] ++ (P ((s.data.toList.drop i).drop (decodeL (s.data.toList.drop i)).2)).1 by simp]
    rw [← Nat.add_assoc, ← ih2]
    rw [n_50l3]
    simp only
    rw [if_pos (by simpa using hi2), f68 hs hi2, if_neg hb]
    simp only [Option.bind_eq_bind, Option.bind_some]
    have e : IntKind.i64.wrap ((i : Int) + ((decodeL (s.data.toList.drop i)).2 : Int)) = ((i + (decodeL (s.data.toList.drop i)).2 : Nat) : Int) := by rw [wrap64 (by omega) (by omega)]; omega
    rw [e, if_neg (by simp; omega), if_pos (by simp only [List.length_singleton]; omega)]

def pts (s : ByteArray) : List Int := (P s.data.toList).1

theorem f50 {s : ByteArray} (hs : s.size ≤ 1000000) : n_50 (s, ()) = some (pts s, (fit s : Int), ()) := by
  have := f50l hs s.data.toList 0 [] (by simp) (by omega) (by simp)
  unfold n_50
  simp only
  rw [show ((0 : Int)) = ((0 : Nat) : Int) from rfl, this]
  unfold fit pts
  simp only [Nat.zero_add, List.nil_append]
  by_cases h : (P s.data.toList).2 = s.size
  · rw [if_pos h, h]; rfl
  · rw [if_neg h]; rfl

theorem f21 {s : ByteArray} (hs : s.size ≤ 1000000) : n_21 (s, ()) = some ((fit s : Int), decide (fit s = s.size), ()) := by
  unfold n_21
  simp only [f50 hs, Option.bind_eq_bind, Option.bind_some, Option.bind_none, if_true, if_false, Bool.false_eq_true, Bool.true_eq_false, Int.toNat_natCast, Int.natCast_nonneg, beq_iff_eq, decide_eq_true_eq, Int.ofNat_lt, decide_true, decide_false, Bool.not_true, Bool.not_false]
  congr 2
  by_cases h : fit s = s.size
  · simp [h]
  · simp [h]; omega

theorem f38 (s : ByteArray) : n_38 (s, ()) = some (code s, ()) := by
  unfold n_38 code
  by_cases h : s.size > 4096
  · have : ((s.size : Int) > 4096) := by omega
    simp only [if_pos h, Option.bind_eq_bind, Option.bind_some, Option.bind_none, if_true, if_false, Bool.false_eq_true, Bool.true_eq_false, Int.toNat_natCast, Int.natCast_nonneg, beq_iff_eq, decide_eq_true_eq, Int.ofNat_lt, decide_true, decide_false, Bool.not_true, Bool.not_false, this]
  · have : ¬ ((s.size : Int) > 4096) := by omega
    simp only [if_neg h, Option.bind_eq_bind, Option.bind_some, Option.bind_none, if_true, if_false, Bool.false_eq_true, Bool.true_eq_false, Int.toNat_natCast, Int.natCast_nonneg, beq_iff_eq, decide_eq_true_eq, Int.ofNat_lt, decide_true, decide_false, Bool.not_true, Bool.not_false, this, f21 (show s.size ≤ 1000000 by omega)]
    by_cases h2 : fit s = s.size
    · simp only [h2, Option.bind_eq_bind, Option.bind_some, Option.bind_none, if_true, if_false, Bool.false_eq_true, Bool.true_eq_false, Int.toNat_natCast, Int.natCast_nonneg, beq_iff_eq, decide_eq_true_eq, Int.ofNat_lt, decide_true, decide_false, Bool.not_true, Bool.not_false]
    · simp only [h2, Option.bind_eq_bind, Option.bind_some, Option.bind_none, if_true, if_false, Bool.false_eq_true, Bool.true_eq_false, Int.toNat_natCast, Int.natCast_nonneg, beq_iff_eq, decide_eq_true_eq, Int.ofNat_lt, decide_true, decide_false, Bool.not_true, Bool.not_false]

theorem code0 {s : ByteArray} (h : code s = 0) : s.size ≤ 4096 ∧ fit s = s.size := by
  unfold code at h
  split at h
  · omega
  · split at h
    · omega
    · omega

theorem f23 {s : ByteArray} (hs : s.size ≤ 1000000) : n_23 (s, ()) = some (if code s = 0 then pts s else [], code s, ()) := by
  unfold n_23
  simp only [f38, f50 hs, Option.bind_eq_bind, Option.bind_some, Option.bind_none, if_true, if_false, Bool.false_eq_true, Bool.true_eq_false, Int.toNat_natCast, Int.natCast_nonneg, beq_iff_eq, decide_eq_true_eq, Int.ofNat_lt, decide_true, decide_false, Bool.not_true, Bool.not_false]
  by_cases h : code s = 0
  · rw [if_pos h, if_neg (by simp [h]), h]
  · rw [if_neg h, if_pos (by simpa using h)]

theorem inside {s : ByteArray} {l : List UInt8} {i : Nat} (hl : l = s.data.toList.drop i) (hne : l ≠ []) : i < s.size := by
  rcases Nat.lt_or_ge i s.size with h | h
  · exact h
  · exact absurd (hl.trans (List.drop_eq_nil_of_le (by rw [ba_size]; omega))) hne
theorem at_end {s : ByteArray} {i : Nat} (hl : [] = s.data.toList.drop i) (hi : i ≤ s.size) : i = s.size := by
  have hl2 := congrArg List.length hl
  rw [List.length_drop, ba_size, List.length_nil] at hl2
  omega

theorem f51l {s : ByteArray} (hs : s.size ≤ 1000000) : ∀ (l : List UInt8) (i a : Nat), l = s.data.toList.drop i → i ≤ s.size → a ≤ i → i + (P l).2 = s.size →
    n_51l2 ((a : Int), s, (i : Int), ()) = some (((a + (P l).1.length : Nat) : Int), ()) := by
  intro l
  induction l using text_ind with
  | h0 =>
    intro i a hl hi ha hf
    obtain rfl := at_end hl hi
    rw [n_51l2]
    simp [P_nil]
  | h1 l hne hb =>
    intro i a hl hi ha hf
    have := inside hl hne
    rw [P_bad hb] at hf
    simp only at hf; omega
  | h2 l hne hb ih =>
    intro i a hl hi ha hf
    have hi2 := inside hl hne
    have hw := decodeL_width l
    have hle := decodeL_le l hne
    subst hl
    rw [List.length_drop, ba_size] at hle
    rw [P_step hne hb] at hf ⊢
    simp only at hf
    have ih2 := ih (i + (decodeL (s.data.toList.drop i)).2) (a + 1) (by rw [List.drop_drop]) (by omega) (by omega) (by omega)
    rw [n_51l2]
    simp only
    rw [if_pos (Int.natCast_nonneg _), if_pos (Int.ofNat_lt.mpr hi2), wid_eq, wrap64 (x := (a : Int) + 1) (by omega) (by omega)]
    rw [show (a : Int) + 1 = ((a + 1 : Nat) : Int) by omega, show (i : Int) + ((decodeL (s.data.toList.drop i)).2 : Int) = ((i + (decodeL (s.data.toList.drop i)).2 : Nat) : Int) by omega, ih2]
    simp only [List.length_cons]
    congr 3
    omega

theorem f22l {s : ByteArray} (hs : s.size ≤ 1000000) : ∀ (l : List UInt8) (i : Nat) (acc : List Int), l = s.data.toList.drop i → i ≤ s.size → acc.length ≤ i → i + (P l).2 = s.size →
    n_22l6 (acc, s, (i : Int), ()) = some (acc ++ (P l).1, ()) := by
  intro l
  induction l using text_ind with
  | h0 =>
    intro i a hl hi ha hf
    obtain rfl := at_end hl hi
    rw [n_22l6]
    simp [P_nil]
  | h1 l hne hb =>
    intro i a hl hi ha hf
    have := inside hl hne
    rw [P_bad hb] at hf
    simp only at hf; omega
  | h2 l hne hb ih =>
    intro i a hl hi ha hf
    have hi2 := inside hl hne
    have hw := decodeL_width l
    have hle := decodeL_le l hne
    have hr := decodeL_rune l
    subst hl
    rw [List.length_drop, ba_size] at hle
    rw [P_step hne hb] at hf ⊢
    simp only at hf
    have ih2 := ih (i + (decodeL (s.data.toList.drop i)).2) (a ++ [((decodeL (s.data.toList.drop i)).1 : Int)]) (by rw [List.drop_drop]) (by omega) (by rw [List.length_append, List.length_singleton]; omega) (by omega)
    rw [n_22l6]
    simp only
    rw [if_pos (Int.natCast_nonneg _), if_pos (Int.ofNat_lt.mpr hi2), wid_eq, dec_eq, wrap64 (x := (((decodeL (s.data.toList.drop i)).1 : Nat) : Int)) (by omega) (by omega), if_pos (by rw [List.length_singleton]; omega)]
    rw [show (i : Int) + ((decodeL (s.data.toList.drop i)).2 : Int) = ((i + (decodeL (s.data.toList.drop i)).2 : Nat) : Int) by omega, ih2]
    simp

theorem f51 {s : ByteArray} (h : code s = 0) : n_51 (s, ()) = some (((pts s).length : Int), ()) := by
  obtain ⟨h1, h2⟩ := code0 h
  have := f51l (show s.size ≤ 1000000 by omega) s.data.toList 0 0 (by simp) (by omega) (by omega) (by rw [Nat.zero_add]; exact h2)
  unfold n_51
  simp only
  rw [show ((0 : Int)) = ((0 : Nat) : Int) from rfl, this]
  simp [pts]

theorem f22 (s : ByteArray) : n_22 (s, ()) = some (if code s = 0 then pts s else [], code s, ()) := by
  unfold n_22
  simp only [f36, Option.bind_eq_bind, Option.bind_some, Option.bind_none, if_true, if_false, Bool.false_eq_true, Bool.true_eq_false, Int.toNat_natCast, Int.natCast_nonneg, beq_iff_eq, decide_eq_true_eq, Int.ofNat_lt, decide_true, decide_false, Bool.not_true, Bool.not_false]
  by_cases h : code s = 0
  · obtain ⟨h1, h2⟩ := code0 h
    have := f22l (show s.size ≤ 1000000 by omega) s.data.toList 0 [] (by simp) (by omega) (by simp) (by rw [Nat.zero_add]; exact h2)
    rw [if_pos h, if_neg (by simp [h]), h, show ((0 : Int)) = ((0 : Nat) : Int) from rfl, this]
    simp [pts]
  · rw [if_neg h, if_pos (by simpa using h)]

theorem f24 (s : ByteArray) : n_24 (s, ()) = some (((if code s = 0 then pts s else []).length : Int), code s, ()) := by
  unfold n_24
  simp only [f36, Option.bind_eq_bind, Option.bind_some, Option.bind_none, if_true, if_false, Bool.false_eq_true, Bool.true_eq_false, Int.toNat_natCast, Int.natCast_nonneg, beq_iff_eq, decide_eq_true_eq, Int.ofNat_lt, decide_true, decide_false, Bool.not_true, Bool.not_false]
  by_cases h : code s = 0
  · rw [if_pos h, if_neg (by simp [h]), f51 h, h]; rfl
  · rw [if_neg h, if_pos (by simpa using h)]; rfl

theorem f25 {s : ByteArray} (hs : s.size ≤ 1000000) : n_25 (s, ()) = some (((if code s = 0 then pts s else []).length : Int), code s, ()) := by
  unfold n_25
  simp only [f23 hs, Option.bind_eq_bind, Option.bind_some, Option.bind_none, if_true, if_false, Bool.false_eq_true, Bool.true_eq_false, Int.toNat_natCast, Int.natCast_nonneg, beq_iff_eq, decide_eq_true_eq, Int.ofNat_lt, decide_true, decide_false, Bool.not_true, Bool.not_false]

theorem f26l (a : List Int) (h : a.length ≤ 1000000000) : ∀ (n i : Nat), i + n = a.length → n_26l4 (a, a, (i : Int), ()) = some (.inr ())
  | 0, i, hi => by
    rw [n_26l4]
    simp only
    rw [if_neg (by simp; omega)]
  | n + 1, i, hi => by
    rw [n_26l4]
    simp only
    have e : a[i]? = some a[i] := List.getElem?_eq_getElem (by omega)
    rw [if_pos (by simp; omega), if_pos (Int.natCast_nonneg _), Int.toNat_natCast, e]
    simp only [Option.bind_eq_bind, Option.bind_some, Option.bind_none, if_true, if_false, Bool.false_eq_true, Bool.true_eq_false, Int.toNat_natCast, Int.natCast_nonneg, beq_iff_eq, decide_eq_true_eq, Int.ofNat_lt, decide_true, decide_false, Bool.not_true, Bool.not_false, bne_self_eq_false, Int.natCast_nonneg, if_true]
    rw [wrap64 (by omega) (by omega), show (i : Int) + 1 = ((i + 1 : Nat) : Int) by omega]
    exact f26l a h n (i + 1) (by omega)

theorem f26 {a : List Int} (h : a.length ≤ 1000000000) : n_26 (a, a, ()) = some (true, ()) := by
  unfold n_26
  simp only [bne_self_eq_false, Bool.false_eq_true, if_false]
  rw [show ((0 : Int)) = ((0 : Nat) : Int) from rfl, f26l a h a.length 0 (by omega)]
  rfl

/-! ### the text of code points -/
theorem wrap32 {x : Int} (h1 : 0 ≤ x) (h2 : x ≤ 1114111) : IntKind.i32.wrap x = x := by
  unfold IntKind.wrap
  simp only [IntKind.bits, IntKind.signed, Bool.true_and]
  split <;> rename_i h <;> simp at h <;> omega
theorem wrapU32 {x : Int} (h1 : 0 ≤ x) (h2 : x ≤ 1114111) : IntKind.u32.wrap x = x := by
  unfold IntKind.wrap
  simp only [IntKind.bits, IntKind.signed, Bool.false_and]
  simp; omega

theorem f69 {x : Int} (h1 : 0 ≤ x) (h2 : x ≤ 1114111) : n_69 (x, ()) = some (decide (isPt x), ()) := by
  unfold n_69
  simp only
  rw [if_pos (by simpa using h1)]
  simp only [Option.bind_eq_bind, Option.bind_some, Option.bind_none, if_true, if_false, Bool.false_eq_true, Bool.true_eq_false, Int.toNat_natCast, Int.natCast_nonneg, beq_iff_eq, decide_eq_true_eq, Int.ofNat_lt, decide_true, decide_false, Bool.not_true, Bool.not_false]
  by_cases c : x < 55296
  · rw [if_pos c, decide_eq_true (show isPt x by unfold isPt; omega)]
  · rw [if_neg c]
    by_cases c2 : 57343 < x
    · rw [if_pos c2]
      simp only [Option.bind_eq_bind, Option.bind_some, Option.bind_none, if_true, if_false, Bool.false_eq_true, Bool.true_eq_false, Int.toNat_natCast, Int.natCast_nonneg, beq_iff_eq, decide_eq_true_eq, Int.ofNat_lt, decide_true, decide_false, Bool.not_true, Bool.not_false, h2]
      rw [decide_eq_true (show isPt x by unfold isPt; omega)]
    · rw [if_neg c2]
      simp only [Option.bind_eq_bind, Option.bind_some, Option.bind_none, if_true, if_false, Bool.false_eq_true, Bool.true_eq_false, Int.toNat_natCast, Int.natCast_nonneg, beq_iff_eq, decide_eq_true_eq, Int.ofNat_lt, decide_true, decide_false, Bool.not_true, Bool.not_false]
      rw [decide_eq_false (show ¬ isPt x by unfold isPt; omega)]

theorem f52 (x : Int) : n_52 (x, ()) = some (decide (isPt x), ()) := by
  unfold n_52
  simp only
  by_cases h1 : x ≥ 0
  · rw [if_pos (by simpa using h1)]
    by_cases h2 : x ≤ 1114111
    · rw [if_pos (by simpa using h2), wrap32 h1 h2, f69 h1 h2]; rfl
    · rw [if_neg (by simpa using h2), decide_eq_false (by unfold isPt; omega)]; rfl
  · rw [if_neg (by simpa using h1), decide_eq_false (by unfold isPt; omega)]; rfl

theorem f53 {x : Int} (h : isPt x) : n_53 (x, ()) = some (((encodeRune x).length : Int), ()) := by
  unfold isPt at h
  unfold n_53 encodeRune
  simp only [List.length_map]
  rw [if_neg (by simp; omega)]
  by_cases c1 : x ≤ 127
  · rw [if_pos (by simpa using c1), encodeRuneZ_one (by omega) c1]; rfl
  rw [if_neg (by simpa using c1)]
  by_cases c2 : x ≤ 2047
  · rw [if_pos (by simpa using c2), encodeRuneZ_two (by omega) c2]; rfl
  rw [if_neg (by simpa using c2)]
  have : (if decide (55296 ≤ x) = true then some ((x, decide (x ≤ 57343), ())) else some ((x, false, ()))) = some (x, false, ()) := by
    by_cases c : 55296 ≤ x
    · rw [if_pos (by simpa using c)]
      have : ¬ x ≤ 57343 := by omega
      simp [this]
    · rw [if_neg (by simpa using c)]
  rw [this]
  simp only [Option.bind_eq_bind, Option.bind_some, Option.bind_none, if_true, if_false, Bool.false_eq_true, Bool.true_eq_false, Int.toNat_natCast, Int.natCast_nonneg, beq_iff_eq, decide_eq_true_eq, Int.ofNat_lt, decide_true, decide_false, Bool.not_true, Bool.not_false]
  by_cases c3 : x ≤ 65535
  · rw [if_pos c3, encodeRuneZ_three (by omega)]; rfl
  · rw [if_neg c3, if_pos (by omega), encodeRuneZ_four (by omega) (by omega)]; rfl

theorem and63 : ∀ y : Fin 256, Bs.iand .u8 (y.val : Int) 63 = ((y.val % 64 : Nat) : Int) := by decide +kernel
theorem or192 : ∀ y : Fin 64, Bs.ior .u8 192 (y.val : Int) = ((192 + y.val : Nat) : Int) := by decide +kernel
theorem or224 : ∀ y : Fin 32, Bs.ior .u8 224 (y.val : Int) = ((224 + y.val : Nat) : Int) := by decide +kernel
theorem or240 : ∀ y : Fin 16, Bs.ior .u8 240 (y.val : Int) = ((240 + y.val : Nat) : Int) := by decide +kernel
theorem or128 : ∀ y : Fin 128, Bs.ior .u8 128 (y.val : Int) = ((128 + y.val : Nat) : Int) := by decide +kernel

theorem wrap8' (x : Int) : IntKind.u8.wrap x = x % 256 := by
  unfold IntKind.wrap
  simp only [IntKind.bits, IntKind.signed, Bool.false_and]
  simp

/-- a byte behind the first one -/
theorem low6 {y : Int} (h : 0 ≤ y) : Bs.ior .u8 128 (Bs.iand .u8 (IntKind.u8.wrap y) 63) = 128 + y % 64 := by
  have e := and63 ⟨(y % 256).toNat, by omega⟩
  simp only at e
  rw [wrap8', show y % 256 = (((y % 256).toNat : Nat) : Int) by omega, e]
  have e2 := or128 ⟨(y % 256).toNat % 64, by omega⟩
  simp only at e2
  rw [e2]; omega
theorem lead2 {y : Int} (h : 0 ≤ y) (h2 : y < 64) : Bs.ior .u8 192 (IntKind.u8.wrap y) = 192 + y := by
  have e := or192 ⟨y.toNat, by omega⟩
  simp only at e
  rw [wrap8', show y % 256 = ((y.toNat : Nat) : Int) by omega, e]; omega
theorem lead3 {y : Int} (h : 0 ≤ y) (h2 : y < 32) : Bs.ior .u8 224 (IntKind.u8.wrap y) = 224 + y := by
  have e := or224 ⟨y.toNat, by omega⟩
  simp only at e
  rw [wrap8', show y % 256 = ((y.toNat : Nat) : Int) by omega, e]; omega
theorem lead4 {y : Int} (h : 0 ≤ y) (h2 : y < 16) : Bs.ior .u8 240 (IntKind.u8.wrap y) = 240 + y := by
  have e := or240 ⟨y.toNat, by omega⟩
  simp only at e
  rw [wrap8', show y % 256 = ((y.toNat : Nat) : Int) by omega, e]; omega
theorem shr6 (x : Int) : Bs.ishr .i32 x 6 = x / 64 := by
  show x.fdiv (2 ^ 6) = x / 64
  rw [Int.fdiv_eq_ediv_of_nonneg _ (by decide)]; rfl
theorem shr12 (x : Int) : Bs.ishr .i32 x 12 = x / 4096 := by
  show x.fdiv (2 ^ 12) = x / 4096
  rw [Int.fdiv_eq_ediv_of_nonneg _ (by decide)]; rfl
theorem shr18 (x : Int) : Bs.ishr .i32 x 18 = x / 262144 := by
  show x.fdiv (2 ^ 18) = x / 262144
  rw [Int.fdiv_eq_ediv_of_nonneg _ (by decide)]; rfl

theorem f85 {x : Int} {xs : List Int} (hx : isPt x) (h0 : ¬ x ≤ 127) (hl : xs.length ≤ 1000000) : n_85s43b2 (x, xs, ()) = some (xs ++ encodeRuneZ x, ()) := by
  unfold isPt at hx
  unfold n_85s43b2
  simp only [shr6, shr12, shr18]
  rw [wrapU32 (by omega) (by omega)]
  by_cases c2 : x ≤ 2047
  · rw [if_pos (by simpa using c2), if_pos (by simp only [List.length_cons, List.length_nil]; omega), low6 (by omega), lead2 (by omega) (by omega), encodeRuneZ_two (by omega) c2]
  rw [if_neg (by simpa using c2)]
  have e : (if decide (x < 55296) = true then
      some ((x, x, true, xs, ()))
    else (if decide (57343 < x) = true then
        some ((x, x, decide (x ≤ 65535), xs, ()))
      else some ((x, x, false, xs, ()))) >>= fun x1 =>
    some ((x1.fst, x1.snd.fst, x1.snd.snd.fst, x1.snd.snd.snd.fst, ()))) = some (x, x, decide (x ≤ 65535), xs, ()) := by
    by_cases c : x < 55296
    · rw [if_pos (by simpa using c), decide_eq_true (by omega)]
    · rw [if_neg (by simpa using c), if_pos (by simp; omega)]; rfl
  rw [e]
  simp only [Option.bind_eq_bind, Option.bind_some, Option.bind_none, if_true, if_false, Bool.false_eq_true, Bool.true_eq_false, Int.toNat_natCast, Int.natCast_nonneg, beq_iff_eq, decide_eq_true_eq, Int.ofNat_lt, decide_true, decide_false, Bool.not_true, Bool.not_false]
  by_cases c3 : x ≤ 65535
  · rw [if_pos c3, if_pos (by simp only [List.length_cons, List.length_nil]; omega), low6 (by omega), low6 (by omega), lead3 (by omega) (by omega), encodeRuneZ_three (by omega)]
  · rw [if_neg c3]
    simp only [show (x > 65535) by omega, show (x ≤ 1114111) by omega, Option.bind_eq_bind, Option.bind_some, Option.bind_none, if_true, if_false, Bool.false_eq_true, Bool.true_eq_false, Int.toNat_natCast, Int.natCast_nonneg, beq_iff_eq, decide_eq_true_eq, Int.ofNat_lt, decide_true, decide_false, Bool.not_true, Bool.not_false]
    rw [if_pos (by simp only [List.length_cons, List.length_nil]; omega), low6 (by omega), low6 (by omega), low6 (by omega), lead4 (by omega) (by omega), encodeRuneZ_four (by omega) (by omega)]

theorem f70 {x : Int} {xs : List Int} (hx : isPt x) (hl : xs.length ≤ 1000000) : n_70s43b2 (x, xs, ()) = some (xs ++ encodeRuneZ x, ()) := by
  unfold n_70s43b2
  simp only
  have hx' := hx
  unfold isPt at hx'
  rw [wrapU32 (by omega) (by omega)]
  by_cases c : x ≤ 127
  · rw [if_pos (by simpa using c), if_pos (by simp only [List.length_singleton]; omega), wrap8 (by omega) (by omega), encodeRuneZ_one (by omega) c]
  · rw [if_neg (by simpa using c), f85 hx c hl]; rfl

theorem f54 {x : Int} {xs : List Int} {b : Bool} (hx : isPt x) (hl : xs.length ≤ 1000000) : ∃ k, n_54s4c9b (x, b, xs, ()) = some (k, true, xs ++ encodeRuneZ x, ()) := by
  unfold n_54s4c9b n_59s4b14
  simp only [Option.bind_eq_bind, Option.bind_some, Option.bind_none, if_true, if_false, Bool.false_eq_true, Bool.true_eq_false, Int.toNat_natCast, Int.natCast_nonneg, beq_iff_eq, decide_eq_true_eq, Int.ofNat_lt, decide_true, decide_false, Bool.not_true, Bool.not_false, f70 hx hl]
  exact ⟨_, rfl⟩

theorem ints_enc (x : Int) : Bs.ints ⟨(encodeRune x).toArray⟩ = encodeRuneZ x := by
  unfold Bs.ints encodeRune
  simp only [List.map_map]
  conv => rhs; rw [← List.map_id (encodeRuneZ x)]
  apply List.map_congr_left
  intro y hy
  have := encodeRuneZ_byte x y hy
  simp only [Function.comp]
  rw [byteN y this]
  simp; omega

theorem bytes_encZ (ns : List Int) : Bs.bytes (ns.flatMap encodeRuneZ) = ⟨(ns.flatMap encodeRune).toArray⟩ := by
  rw [← bytes_ints]
  congr 1
  rw [List.map_flatMap]
  congr 1
  funext x
  exact (ints_enc x).symm

theorem encZ_len (ns : List Int) : (ns.flatMap encodeRuneZ).length = (ns.flatMap encodeRune).length := by
  induction ns with
  | nil => rfl
  | cons x r ih => rw [List.flatMap_cons, List.flatMap_cons, List.length_append, List.length_append, ih]; unfold encodeRune; rw [List.length_map]

/-! ### Text and its reference -/
def good (ns : List Int) : List Int := ns.filter fun x => decide (isPt x)
def tot (ns : List Int) : Nat := ((good ns).flatMap encodeRune).length
def off (ns : List Int) : Bool := ns.any fun x => !decide (isPt x)

theorem f35 {b : Bool} {xs : List Int} (h : xs.length ≤ 4294967296) : n_35s4b14 (b, xs, ()) = some (Bs.bytes xs, ()) := by
  unfold n_35s4b14
  rw [if_pos ⟨rfl, h⟩]

theorem drop_cons {ns : List Int} {i : Nat} {x : Int} {r : List Int} (h : ns.drop i = x :: r) : i < ns.length ∧ ns[i]? = some x ∧ ns.drop (i + 1) = r := by
  have h1 : i < ns.length := by
    rcases Nat.lt_or_ge i ns.length with h2 | h2
    · exact h2
    · rw [List.drop_eq_nil_of_le h2] at h; cases h
  rw [List.drop_eq_getElem_cons h1] at h
  injection h with h2 h3
  exact ⟨h1, by rw [List.getElem?_eq_getElem h1, h2], h3⟩

theorem drop_nil {ns : List Int} {i : Nat} (h : ns.drop i = []) (hi : i ≤ ns.length) : i = ns.length := by
  have := congrArg List.length h
  rw [List.length_drop, List.length_nil] at this; omega

theorem f27l {ns : List Int} (hn : ns.length ≤ 1000000) : ∀ (r : List Int) (i : Nat) (acc : List Int) (b b2 : Bool), ns.drop i = r → i ≤ ns.length → acc.length ≤ 4096 →
    ∃ b3, n_27l4 ((acc.length : Int), b, ns, (ns.length : Int), (i : Int), b2, acc, ()) =
      some (if acc.length + tot r > 4096 then .inl (ByteArray.mk #[], 3, ()) else .inr (b || off r, b3, acc ++ (good r).flatMap encodeRuneZ, ()))
  | [], i, acc, b, b2, hd, hi, ha => by
    obtain rfl := drop_nil hd hi
    refine ⟨b2, ?_⟩
    rw [n_27l4]
    simp only
    rw [if_neg (by simp), if_neg (by simp [tot, good]; omega)]
    simp [off, good]
  | x :: r, i, acc, b, b2, hd, hi, ha => by
    obtain ⟨h1, h2, h3⟩ := drop_cons hd
    rw [n_27l4]
    simp only
    rw [if_pos (by simpa using h1), if_pos (Int.natCast_nonneg _), Int.toNat_natCast, h2]
    simp only [Option.bind_eq_bind, Option.bind_some, Option.bind_none, if_true, if_false, Bool.false_eq_true, Bool.true_eq_false, Int.toNat_natCast, Int.natCast_nonneg, beq_iff_eq, decide_eq_true_eq, Int.ofNat_lt, decide_true, decide_false, Bool.not_true, Bool.not_false, f52]
    have ew : IntKind.i64.wrap ((i : Int) + 1) = ((i + 1 : Nat) : Int) := by rw [wrap64 (by omega) (by omega)]; omega
    by_cases hx : isPt x
    · simp only [hx, Option.bind_eq_bind, Option.bind_some, Option.bind_none, if_true, if_false, Bool.false_eq_true, Bool.true_eq_false, Int.toNat_natCast, Int.natCast_nonneg, beq_iff_eq, decide_eq_true_eq, Int.ofNat_lt, decide_true, decide_false, Bool.not_true, Bool.not_false]
      have hx' := hx
      unfold isPt at hx'
      rw [wrap32 (by omega) (by omega), f53 hx]
      simp only [Option.bind_eq_bind, Option.bind_some, Option.bind_none, if_true, if_false, Bool.false_eq_true, Bool.true_eq_false, Int.toNat_natCast, Int.natCast_nonneg, beq_iff_eq, decide_eq_true_eq, Int.ofNat_lt, decide_true, decide_false, Bool.not_true, Bool.not_false]
      have hl := enc_len (x := x)
      rw [wrap64 (x := (acc.length : Int) + _) (by omega) (by omega)]
      have et : tot (x :: r) = (encodeRune x).length + tot r := by
        unfold tot good
        rw [List.filter_cons_of_pos (by simpa using hx), List.flatMap_cons, List.length_append]
      have eg : (good (x :: r)).flatMap encodeRuneZ = encodeRuneZ x ++ (good r).flatMap encodeRuneZ := by
        unfold good
        rw [List.filter_cons_of_pos (by simpa using hx), List.flatMap_cons]
      have eo : off (x :: r) = off r := by
        unfold off; rw [List.any_cons, decide_eq_true hx]; rfl
      by_cases hz : (acc.length : Int) + ((encodeRune x).length : Int) > 4096
      · refine ⟨b2, ?_⟩
        rw [if_pos hz, if_pos (by omega)]; rfl
      · rw [if_neg hz]
        obtain ⟨k, hk⟩ := f54 (b := b2) hx (show acc.length ≤ 1000000 by omega)
        rw [hk]
        simp only [Option.bind_eq_bind, Option.bind_some, Option.bind_none, if_true, if_false, Bool.false_eq_true, Bool.true_eq_false, Int.toNat_natCast, Int.natCast_nonneg, beq_iff_eq, decide_eq_true_eq, Int.ofNat_lt, decide_true, decide_false, Bool.not_true, Bool.not_false]
        have ez : (acc ++ encodeRuneZ x).length = acc.length + (encodeRune x).length := by
          unfold encodeRune; rw [List.length_append, List.length_map]
        obtain ⟨b3, hb⟩ := f27l hn r (i + 1) (acc ++ encodeRuneZ x) b true h3 (by omega) (by omega)
        refine ⟨b3, ?_⟩
        rw [ez] at hb
        rw [ew, show (acc.length : Int) + ((encodeRune x).length : Int) = ((acc.length + (encodeRune x).length : Nat) : Int) by omega, hb, et, eg, eo, Nat.add_assoc, List.append_assoc]
    · simp only [hx, Option.bind_eq_bind, Option.bind_some, Option.bind_none, if_true, if_false, Bool.false_eq_true, Bool.true_eq_false, Int.toNat_natCast, Int.natCast_nonneg, beq_iff_eq, decide_eq_true_eq, Int.ofNat_lt, decide_true, decide_false, Bool.not_true, Bool.not_false]
      have et : tot (x :: r) = tot r := by
        unfold tot good
        rw [List.filter_cons_of_neg (by simpa using hx)]
      have eg : good (x :: r) = good r := by
        unfold good
        rw [List.filter_cons_of_neg (by simpa using hx)]
      have eo : off (x :: r) = true := by
        unfold off; rw [List.any_cons, decide_eq_false hx]; rfl
      obtain ⟨b3, hb⟩ := f27l hn r (i + 1) acc true b2 h3 (by omega) ha
      refine ⟨b3, ?_⟩
      rw [ew, hb, et, eg, eo]
      simp

/-- the text of code points, and what is wrong with them -/
noncomputable def txt (ns : List Int) : ByteArray × Int × Unit :=
  if tot ns > 4096 then (ByteArray.mk #[], 3, ()) else if off ns = true then (ByteArray.mk #[], 1, ()) else (⟨((good ns).flatMap encodeRune).toArray⟩, 0, ())

theorem f27 {ns : List Int} (hn : ns.length ≤ 1000000) : n_27 (ns, ()) = some (txt ns) := by
  obtain ⟨b, hb⟩ := f27l hn ns 0 [] false false (by simp) (by omega) (by simp)
  unfold n_27 txt
  simp only [Option.bind_eq_bind, Option.bind_some]
  simp only [List.length_nil, Nat.zero_add, Bool.false_or, List.nil_append] at hb
  rw [show ((0 : Int)) = ((0 : Nat) : Int) from rfl, hb]
  by_cases h : tot ns > 4096
  · rw [if_pos h, if_pos h]; rfl
  · rw [if_neg h, if_neg h]
    simp only [Option.bind_some]
    by_cases h2 : off ns = true
    · rw [if_pos h2, if_pos h2]
    · rw [if_neg h2, if_neg h2, f35 (by rw [encZ_len]; unfold tot at h; omega), bytes_encZ]; rfl

theorem f47l {ns : List Int} (hn : ns.length ≤ 1000000) : ∀ (r : List Int) (i : Nat) (acc : List Int), ns.drop i = r → i ≤ ns.length → acc.length ≤ 4 * i →
    n_47l3 (ns, (i : Int), acc, ()) = some (acc ++ (good r).flatMap encodeRuneZ, ())
  | [], i, acc, hd, hi, ha => by
    obtain rfl := drop_nil hd hi
    rw [n_47l3]
    simp only
    rw [if_neg (by simp)]
    simp [good]
  | x :: r, i, acc, hd, hi, ha => by
    obtain ⟨h1, h2, h3⟩ := drop_cons hd
    rw [n_47l3]
    simp only
    rw [if_pos (by simpa using h1), if_pos (Int.natCast_nonneg _), Int.toNat_natCast, h2]
    simp only [Option.bind_eq_bind, Option.bind_some, Option.bind_none, if_true, if_false, Bool.false_eq_true, Bool.true_eq_false, Int.toNat_natCast, Int.natCast_nonneg, beq_iff_eq, decide_eq_true_eq, Int.ofNat_lt, decide_true, decide_false, Bool.not_true, Bool.not_false, f55]
    have ew : IntKind.i64.wrap ((i : Int) + 1) = ((i + 1 : Nat) : Int) := by rw [wrap64 (by omega) (by omega)]; omega
    by_cases hx : isPt x
    · simp only [hx, Option.bind_eq_bind, Option.bind_some, Option.bind_none, if_true, if_false, Bool.false_eq_true, Bool.true_eq_false, Int.toNat_natCast, Int.natCast_nonneg, beq_iff_eq, decide_eq_true_eq, Int.ofNat_lt, decide_true, decide_false, Bool.not_true, Bool.not_false, f65 hx, ints_enc, ew]
      have hl := enc_len (x := x)
      have hl2 : (encodeRuneZ x).length = (encodeRune x).length := by unfold encodeRune; rw [List.length_map]
      have hs : (⟨(encodeRune x).toArray⟩ : ByteArray).size = (encodeRune x).length := by rw [← ba_size]
      rw [hs, if_pos (by omega)]
      simp only [Option.bind_eq_bind, Option.bind_some, Option.bind_none, if_true, if_false, Bool.false_eq_true, Bool.true_eq_false, Int.toNat_natCast, Int.natCast_nonneg, beq_iff_eq, decide_eq_true_eq, Int.ofNat_lt, decide_true, decide_false, Bool.not_true, Bool.not_false, ew]
      rw [f47l hn r (i + 1) _ h3 (by omega) (by rw [List.length_append]; omega)]
      unfold good
      rw [List.filter_cons_of_pos (by simpa using hx), List.flatMap_cons, List.append_assoc]
    · simp only [hx, Option.bind_eq_bind, Option.bind_some, Option.bind_none, if_true, if_false, Bool.false_eq_true, Bool.true_eq_false, Int.toNat_natCast, Int.natCast_nonneg, beq_iff_eq, decide_eq_true_eq, Int.ofNat_lt, decide_true, decide_false, Bool.not_true, Bool.not_false, ew]
      rw [f47l hn r (i + 1) _ h3 (by omega) (by omega)]
      unfold good
      rw [List.filter_cons_of_neg (by simpa using hx)]

theorem f47 {ns : List Int} (hn : ns.length ≤ 1000000) : n_47 (ns, ()) = some (⟨((good ns).flatMap encodeRune).toArray⟩, ()) := by
  unfold n_47
  simp only
  rw [show ((0 : Int)) = ((0 : Nat) : Int) from rfl, f47l hn ns 0 [] (by simp) (by omega) (by simp)]
  simp only [Option.bind_eq_bind, Option.bind_some, Option.bind_none, if_true, if_false, Bool.false_eq_true, Bool.true_eq_false, Int.toNat_natCast, Int.natCast_nonneg, beq_iff_eq, decide_eq_true_eq, Int.ofNat_lt, decide_true, decide_false, Bool.not_true, Bool.not_false, List.nil_append]
  rw [bytes_encZ]

theorem f28l {ns : List Int} (hn : ns.length ≤ 1000000) (s : ByteArray) : ∀ (r : List Int) (i : Nat), ns.drop i = r → i ≤ ns.length →
    n_28l5 (ns, s, (i : Int), ()) = some (if off r = true then .inl (ByteArray.mk #[], 1, ()) else .inr (s, ()))
  | [], i, hd, hi => by
    obtain rfl := drop_nil hd hi
    rw [n_28l5]
    simp only
    rw [if_neg (by simp)]
    simp [off]
  | x :: r, i, hd, hi => by
    obtain ⟨h1, h2, h3⟩ := drop_cons hd
    rw [n_28l5]
    simp only
    rw [if_pos (by simpa using h1), if_pos (Int.natCast_nonneg _), Int.toNat_natCast, h2]
    simp only [Option.bind_eq_bind, Option.bind_some, Option.bind_none, if_true, if_false, Bool.false_eq_true, Bool.true_eq_false, Int.toNat_natCast, Int.natCast_nonneg, beq_iff_eq, decide_eq_true_eq, Int.ofNat_lt, decide_true, decide_false, Bool.not_true, Bool.not_false, f55]
    have ew : IntKind.i64.wrap ((i : Int) + 1) = ((i + 1 : Nat) : Int) := by rw [wrap64 (by omega) (by omega)]; omega
    by_cases hx : isPt x
    · simp only [hx, Option.bind_eq_bind, Option.bind_some, Option.bind_none, if_true, if_false, Bool.false_eq_true, Bool.true_eq_false, Int.toNat_natCast, Int.natCast_nonneg, beq_iff_eq, decide_eq_true_eq, Int.ofNat_lt, decide_true, decide_false, Bool.not_true, Bool.not_false, ew]
      rw [f28l hn s r (i + 1) h3 (by omega)]
      unfold off; rw [List.any_cons, decide_eq_true hx]; rfl
    · simp only [hx, Option.bind_eq_bind, Option.bind_some, Option.bind_none, if_true, if_false, Bool.false_eq_true, Bool.true_eq_false, Int.toNat_natCast, Int.natCast_nonneg, beq_iff_eq, decide_eq_true_eq, Int.ofNat_lt, decide_true, decide_false, Bool.not_true, Bool.not_false]
      rw [if_pos]
      unfold off; rw [List.any_cons, decide_eq_false hx]; rfl

theorem f28 {ns : List Int} (hn : ns.length ≤ 1000000) : n_28 (ns, ()) = some (txt ns) := by
  unfold n_28 txt
  simp only [f47 hn, Option.bind_eq_bind, Option.bind_some, Option.bind_none, if_true, if_false, Bool.false_eq_true, Bool.true_eq_false, Int.toNat_natCast, Int.natCast_nonneg, beq_iff_eq, decide_eq_true_eq, Int.ofNat_lt, decide_true, decide_false, Bool.not_true, Bool.not_false]
  have hs : (⟨((good ns).flatMap encodeRune).toArray⟩ : ByteArray).size = tot ns := by rw [← ba_size]; rfl
  rw [hs, show ((0 : Int)) = ((0 : Nat) : Int) from rfl, f28l hn _ ns 0 (by simp) (by omega)]
  by_cases h : tot ns > 4096
  · rw [if_pos h, if_pos (by omega)]
  · rw [if_neg h, if_neg (by omega)]
    by_cases h2 : off ns = true
    · rw [if_pos h2, if_pos h2]; rfl
    · rw [if_neg h2, if_neg h2]; rfl

/-! ### pads -/
def side (c : Int) : Bool := decide (c = 60 ∨ c = 62 ∨ c = 94)
theorem side_all : ∀ c : Fin 256, decide (Lib.indexByte [60, 62, 94] c.val.toUInt8 < 0) = !side (c.val : Int) := by decide +kernel
theorem f37 {c : Int} (h : 0 ≤ c ∧ c < 256) : ∃ k, n_37 (ByteArray.mk #[(60 : UInt8), (62 : UInt8), (94 : UInt8)], c, ()) = some (k, ()) ∧ decide (k < 0) = !side c := by
  refine ⟨Lib.indexByte [60, 62, 94] c.toNat.toUInt8, rfl, ?_⟩
  have := side_all ⟨c.toNat, by omega⟩
  simp only at this
  rw [this, show ((c.toNat : Nat) : Int) = c by omega]
theorem f40 (c : Int) : n_40 (c, ()) = some (side c, ()) := by
  unfold n_40 side
  by_cases h : c = 60
  · subst h; rfl
  by_cases h2 : c = 62
  · subst h2; rfl
  by_cases h3 : c = 94
  · subst h3; rfl
  simp [h, h2, h3]

/-- so many blanks -/
def sp (n : Nat) : ByteArray := ⟨(List.replicate n (32 : UInt8)).toArray⟩
theorem sp_data (n : Nat) : (sp n).data.toList = List.replicate n 32 := rfl
theorem sp_size (n : Nat) : (sp n).size = n := by rw [← ba_size, sp_data, List.length_replicate]

theorem f61 {k : Nat} (h : k ≤ 100) : n_61 (ByteArray.mk #[(32 : UInt8)], (k : Int), ()) = some (sp k, ()) := by
  unfold n_61
  have hs : (ByteArray.mk #[(32 : UInt8)]).size = 1 := rfl
  simp only [hs]
  rw [if_pos ⟨by omega, by omega, by omega⟩]
  have := repeatL_replicate (32 : UInt8) 1 k
  rw [Nat.mul_one] at this
  rw [Int.toNat_natCast]
  unfold sp
  rw [← this]; rfl

theorem f63l {n : Nat} (hn : n ≤ 100) : ∀ (d i : Nat), i + d = n → n_63l3 ((n : Int), (i : Int), List.replicate i 32, ()) = some (List.replicate n 32, ())
  | 0, i, hi => by
    obtain rfl : i = n := by omega
    rw [n_63l3]
    simp only
    rw [if_neg (by simp)]
  | d + 1, i, hi => by
    rw [n_63l3]
    simp only [List.length_replicate, List.length_singleton]
    rw [if_pos (by simp; omega), if_pos (by omega), wrap64 (by omega) (by omega), show (i : Int) + 1 = ((i + 1 : Nat) : Int) by omega]
    rw [show List.replicate i (32 : Int) ++ [32] = List.replicate (i + 1) 32 from List.replicate_succ'.symm]
    exact f63l hn d (i + 1) (by omega)

theorem f63 {n : Nat} (hn : n ≤ 100) : n_63 ((n : Int), ()) = some (sp n, ()) := by
  unfold n_63
  simp only
  have := f63l hn n 0 (by omega)
  rw [show ((0 : Int)) = ((0 : Nat) : Int) from rfl]
  rw [show ([] : List Int) = List.replicate 0 32 from rfl, this]
  simp only [Option.bind_eq_bind, Option.bind_some, Option.bind_none, if_true, if_false, Bool.false_eq_true, Bool.true_eq_false, Int.toNat_natCast, Int.natCast_nonneg, beq_iff_eq, decide_eq_true_eq, Int.ofNat_lt, decide_true, decide_false, Bool.not_true, Bool.not_false]
  congr 2
  unfold Bs.bytes sp
  rw [List.map_replicate]; rfl

theorem add_size (a b : ByteArray) : (a ++ b).size = a.size + b.size := by rw [← ba_size, ba_append, List.length_append, ba_size, ba_size]
theorem sp_left (s : ByteArray) : sp 0 ++ s = s := by apply ba_ext; rw [ba_append, sp_data]; rfl
theorem sp_right (s : ByteArray) : s ++ sp 0 = s := by apply ba_ext; rw [ba_append, sp_data]; simp

def padS (s : ByteArray) (b : Nat) (c : Int) : ByteArray :=
  if c = 60 then s ++ sp b else if c = 94 then sp (b / 2) ++ s ++ sp (b - b / 2) else sp b ++ s

theorem f33 {s : ByteArray} (h : code s = 0) {w : Int} (hw : 0 ≤ w ∧ w ≤ 99) (c : Int) : n_33 (s, w, c, ()) = some (padS s (w - (pts s).length).toNat c, ()) := by
  obtain ⟨h1, h2⟩ := code0 h
  have hp : (pts s).length ≤ s.size := by
    have := P_len s.data.toList
    rw [ba_size] at this
    unfold pts; omega
  obtain ⟨b, hb⟩ : ∃ b : Nat, b = (w - (pts s).length).toNat := ⟨_, rfl⟩
  have hm : max 0 (IntKind.i64.wrap (w - (pts s).length)) = (b : Int) := by rw [wrap64 (by omega) (by omega)]; omega
  have ht : ((b : Int)).tdiv 2 = ((b / 2 : Nat) : Int) := by rw [Int.tdiv_eq_ediv_of_nonneg (by omega)]; omega
  unfold n_33 padS
  simp only [f51 h, Option.bind_eq_bind, Option.bind_some, Option.bind_none, if_true, if_false, Bool.false_eq_true, Bool.true_eq_false, Int.toNat_natCast, Int.natCast_nonneg, beq_iff_eq, decide_eq_true_eq, Int.ofNat_lt, decide_true, decide_false, Bool.not_true, Bool.not_false, hm]
  rw [← hb]
  by_cases c1 : c = 60
  · simp only [if_pos c1, Option.bind_eq_bind, Option.bind_some, Option.bind_none, if_true, if_false, Bool.false_eq_true, Bool.true_eq_false, Int.toNat_natCast, Int.natCast_nonneg, beq_iff_eq, decide_eq_true_eq, Int.ofNat_lt, decide_true, decide_false, Bool.not_true, Bool.not_false]
    rw [show ((0 : Int)) = ((0 : Nat) : Int) from rfl, f61 (by omega)]
    simp only [Option.bind_eq_bind, Option.bind_some, Option.bind_none, if_true, if_false, Bool.false_eq_true, Bool.true_eq_false, Int.toNat_natCast, Int.natCast_nonneg, beq_iff_eq, decide_eq_true_eq, Int.ofNat_lt, decide_true, decide_false, Bool.not_true, Bool.not_false, sp_left, sp_size]
    rw [if_pos (by omega), wrap64 (by omega) (by omega), show (b : Int) - ((0 : Nat) : Int) = (b : Int) by omega, f61 (by omega)]
    simp only [Option.bind_eq_bind, Option.bind_some, Option.bind_none, if_true, if_false, Bool.false_eq_true, Bool.true_eq_false, Int.toNat_natCast, Int.natCast_nonneg, beq_iff_eq, decide_eq_true_eq, Int.ofNat_lt, decide_true, decide_false, Bool.not_true, Bool.not_false, sp_size]
    rw [if_pos (by omega)]
  · simp only [if_neg c1]
    by_cases c2 : c = 94
    · simp only [if_pos c2, Option.bind_eq_bind, Option.bind_some, Option.bind_none, if_true, if_false, Bool.false_eq_true, Bool.true_eq_false, Int.toNat_natCast, Int.natCast_nonneg, beq_iff_eq, decide_eq_true_eq, Int.ofNat_lt, decide_true, decide_false, Bool.not_true, Bool.not_false]
      rw [ht, wrap64 (by omega) (by omega), f61 (by omega)]
      simp only [Option.bind_eq_bind, Option.bind_some, Option.bind_none, if_true, if_false, Bool.false_eq_true, Bool.true_eq_false, Int.toNat_natCast, Int.natCast_nonneg, beq_iff_eq, decide_eq_true_eq, Int.ofNat_lt, decide_true, decide_false, Bool.not_true, Bool.not_false, sp_size]
      rw [if_pos (by omega), wrap64 (by omega) (by omega), show (b : Int) - ((b / 2 : Nat) : Int) = ((b - b / 2 : Nat) : Int) by omega, f61 (by omega)]
      simp only [Option.bind_eq_bind, Option.bind_some, Option.bind_none, if_true, if_false, Bool.false_eq_true, Bool.true_eq_false, Int.toNat_natCast, Int.natCast_nonneg, beq_iff_eq, decide_eq_true_eq, Int.ofNat_lt, decide_true, decide_false, Bool.not_true, Bool.not_false, sp_size, add_size]
      rw [if_pos (by omega)]
    · simp only [if_neg c2, Option.bind_eq_bind, Option.bind_some, Option.bind_none, if_true, if_false, Bool.false_eq_true, Bool.true_eq_false, Int.toNat_natCast, Int.natCast_nonneg, beq_iff_eq, decide_eq_true_eq, Int.ofNat_lt, decide_true, decide_false, Bool.not_true, Bool.not_false]
      rw [f61 (by omega)]
      simp only [Option.bind_eq_bind, Option.bind_some, Option.bind_none, if_true, if_false, Bool.false_eq_true, Bool.true_eq_false, Int.toNat_natCast, Int.natCast_nonneg, beq_iff_eq, decide_eq_true_eq, Int.ofNat_lt, decide_true, decide_false, Bool.not_true, Bool.not_false, sp_size]
      rw [if_pos (by omega), wrap64 (by omega) (by omega), show (b : Int) - (b : Int) = ((0 : Nat) : Int) by omega, f61 (by omega)]
      simp only [Option.bind_eq_bind, Option.bind_some, Option.bind_none, if_true, if_false, Bool.false_eq_true, Bool.true_eq_false, Int.toNat_natCast, Int.natCast_nonneg, beq_iff_eq, decide_eq_true_eq, Int.ofNat_lt, decide_true, decide_false, Bool.not_true, Bool.not_false, sp_size, add_size, sp_right]
      rw [if_pos (by omega)]

theorem f41 {s : ByteArray} (h : code s = 0) {w : Int} (hw : 0 ≤ w ∧ w ≤ 99) {c : Int} (hc : side c = true) : n_41 (s, w, c, ()) = some (padS s (w - (pts s).length).toNat c, ()) := by
  obtain ⟨h1, h2⟩ := code0 h
  have hp : (pts s).length ≤ s.size := by
    have := P_len s.data.toList
    rw [ba_size] at this
    unfold pts; omega
  have hc' : c = 60 ∨ c = 62 ∨ c = 94 := of_decide_eq_true hc
  obtain ⟨b, hb⟩ : ∃ b : Nat, b = (w - (pts s).length).toNat := ⟨_, rfl⟩
  unfold n_41 padS
  simp only [f50 (show s.size ≤ 1000000 by omega), Option.bind_eq_bind, Option.bind_some, Option.bind_none, if_true, if_false, Bool.false_eq_true, Bool.true_eq_false, Int.toNat_natCast, Int.natCast_nonneg, beq_iff_eq, decide_eq_true_eq, Int.ofNat_lt, decide_true, decide_false, Bool.not_true, Bool.not_false]
  rw [← hb, wrap64 (x := w - _) (by omega) (by omega)]
  by_cases hz : w - ((pts s).length : Int) ≤ 0
  · obtain rfl : b = 0 := by omega
    simp only [if_pos hz, Option.bind_eq_bind, Option.bind_some, Option.bind_none, if_true, if_false, Bool.false_eq_true, Bool.true_eq_false, Int.toNat_natCast, Int.natCast_nonneg, beq_iff_eq, decide_eq_true_eq, Int.ofNat_lt, decide_true, decide_false, Bool.not_true, Bool.not_false, sp_left, sp_right, Nat.zero_div, Nat.sub_zero]
    (repeat' split) <;> rfl
  · rw [if_neg hz, show w - ((pts s).length : Int) = (b : Int) by omega]
    by_cases c1 : c = 60
    · rw [if_pos c1, if_pos c1, f63 (by omega)]
      simp only [Option.bind_eq_bind, Option.bind_some, Option.bind_none, if_true, if_false, Bool.false_eq_true, Bool.true_eq_false, Int.toNat_natCast, Int.natCast_nonneg, beq_iff_eq, decide_eq_true_eq, Int.ofNat_lt, decide_true, decide_false, Bool.not_true, Bool.not_false, sp_size]
      rw [if_pos (by omega)]
    · rw [if_neg c1, if_neg c1]
      by_cases c2 : c = 62
      · rw [if_pos c2, if_neg (by omega), f63 (by omega)]
        simp only [Option.bind_eq_bind, Option.bind_some, Option.bind_none, if_true, if_false, Bool.false_eq_true, Bool.true_eq_false, Int.toNat_natCast, Int.natCast_nonneg, beq_iff_eq, decide_eq_true_eq, Int.ofNat_lt, decide_true, decide_false, Bool.not_true, Bool.not_false, sp_size]
        rw [if_pos (by omega)]
      · have ht : ((b : Int)).tdiv 2 = ((b / 2 : Nat) : Int) := by rw [Int.tdiv_eq_ediv_of_nonneg (by omega)]; omega
        rw [if_neg c2, if_pos (by omega), ht, wrap64 (x := ((b / 2 : Nat) : Int)) (by omega) (by omega), f63 (by omega)]
        simp only [Option.bind_eq_bind, Option.bind_some, Option.bind_none, if_true, if_false, Bool.false_eq_true, Bool.true_eq_false, Int.toNat_natCast, Int.natCast_nonneg, beq_iff_eq, decide_eq_true_eq, Int.ofNat_lt, decide_true, decide_false, Bool.not_true, Bool.not_false, sp_size]
        rw [if_pos (by omega), wrap64 (by omega) (by omega), show (b : Int) - ((b / 2 : Nat) : Int) = ((b - b / 2 : Nat) : Int) by omega, f63 (by omega)]
        simp only [Option.bind_eq_bind, Option.bind_some, Option.bind_none, if_true, if_false, Bool.false_eq_true, Bool.true_eq_false, Int.toNat_natCast, Int.natCast_nonneg, beq_iff_eq, decide_eq_true_eq, Int.ofNat_lt, decide_true, decide_false, Bool.not_true, Bool.not_false, sp_size, add_size]
        rw [if_pos (by omega)]

def padR (s : ByteArray) (w c : Int) : ByteArray × Int × Unit :=
  if code s = 0 then (if 0 ≤ w ∧ w ≤ 99 ∧ side c = true then (padS s (w - (pts s).length).toNat c, 0, ()) else (ByteArray.mk #[], 1, ())) else (ByteArray.mk #[], code s, ())

theorem f11 (s : ByteArray) (w : Int) {c : Int} (hc : 0 ≤ c ∧ c < 256) : n_11 (s, w, c, ()) = some (padR s w c) := by
  unfold n_11 padR
  simp only [f36, Option.bind_eq_bind, Option.bind_some, Option.bind_none, if_true, if_false, Bool.false_eq_true, Bool.true_eq_false, Int.toNat_natCast, Int.natCast_nonneg, beq_iff_eq, decide_eq_true_eq, Int.ofNat_lt, decide_true, decide_false, Bool.not_true, Bool.not_false]
  by_cases h : code s = 0
  · rw [if_neg (by simp [h]), if_pos h]
    by_cases h1 : w < 0
    · rw [if_pos h1, if_neg (by omega)]; rfl
    rw [if_neg h1]
    by_cases h2 : w > 99
    · rw [if_pos h2, if_neg (by omega)]; rfl
    rw [if_neg h2]
    obtain ⟨k, hk, hk2⟩ := f37 hc
    rw [hk]
    simp only [Option.bind_eq_bind, Option.bind_some, Option.bind_none, if_true, if_false, Bool.false_eq_true, Bool.true_eq_false, Int.toNat_natCast, Int.natCast_nonneg, beq_iff_eq, decide_eq_true_eq, Int.ofNat_lt, decide_true, decide_false, Bool.not_true, Bool.not_false, hk2]
    by_cases h3 : side c = true
    · rw [if_neg (by simp [h3]), if_pos ⟨by omega, by omega, h3⟩, f33 h ⟨by omega, by omega⟩]; rfl
    · rw [if_pos (by simpa using h3), if_neg (fun hh => h3 hh.2.2)]
  · rw [if_pos (by simpa using h), if_neg h]

theorem f12 (s : ByteArray) (w : Int) (c : Int) : n_12 (s, w, c, ()) = some (padR s w c) := by
  unfold n_12 padR
  simp only [f38, f39, Option.bind_eq_bind, Option.bind_some, Option.bind_none, if_true, if_false, Bool.false_eq_true, Bool.true_eq_false, Int.toNat_natCast, Int.natCast_nonneg, beq_iff_eq, decide_eq_true_eq, Int.ofNat_lt, decide_true, decide_false, Bool.not_true, Bool.not_false]
  by_cases h : code s = 0
  · rw [if_neg (by simp [h]), if_pos h]
    by_cases h1 : 0 ≤ w ∧ w ≤ 99
    · simp only [h1, f40, Option.bind_eq_bind, Option.bind_some, Option.bind_none, if_true, if_false, Bool.false_eq_true, Bool.true_eq_false, Int.toNat_natCast, Int.natCast_nonneg, beq_iff_eq, decide_eq_true_eq, Int.ofNat_lt, decide_true, decide_false, Bool.not_true, Bool.not_false, and_self, true_and]
      by_cases h3 : side c = true
      · simp only [h3, Option.bind_eq_bind, Option.bind_some, Option.bind_none, if_true, if_false, Bool.false_eq_true, Bool.true_eq_false, Int.toNat_natCast, Int.natCast_nonneg, beq_iff_eq, decide_eq_true_eq, Int.ofNat_lt, decide_true, decide_false, Bool.not_true, Bool.not_false]
        rw [f41 h h1 h3]; rfl
      · simp [h3]
    · simp only [h1, Option.bind_eq_bind, Option.bind_some, Option.bind_none, if_true, if_false, Bool.false_eq_true, Bool.true_eq_false, Int.toNat_natCast, Int.natCast_nonneg, beq_iff_eq, decide_eq_true_eq, Int.ofNat_lt, decide_true, decide_false, Bool.not_true, Bool.not_false]
      rw [if_neg (fun hh => h1 ⟨hh.1, hh.2.1⟩)]
  · rw [if_pos (by simpa using h), if_neg h]

/-! ### cuts -/
theorem good_pts {ns : List Int} (h : ∀ x ∈ ns, isPt x) : good ns = ns := by
  unfold good
  exact List.filter_eq_self.mpr fun x hx => by simpa using h x hx
theorem pts_pt (s : ByteArray) : ∀ x ∈ pts s, isPt x := P_pts _
theorem pts_len (s : ByteArray) : (pts s).length ≤ s.size := by
  have := P_len s.data.toList
  rw [ba_size] at this
  unfold pts; omega

def cutR (s : ByteArray) (a b : Int) : ByteArray × Int × Unit :=
  if code s = 0 then (if 0 ≤ a ∧ a ≤ b ∧ b ≤ (pts s).length then (⟨((((pts s).take b.toNat).drop a.toNat).flatMap encodeRune).toArray⟩, 0, ()) else (ByteArray.mk #[], 1, ())) else (ByteArray.mk #[], code s, ())

theorem f16 (s : ByteArray) (a b : Int) : n_16 (s, a, b, ()) = some (cutR s a b) := by
  unfold n_16 cutR
  simp only [f36, Option.bind_eq_bind, Option.bind_some, Option.bind_none, if_true, if_false, Bool.false_eq_true, Bool.true_eq_false, Int.toNat_natCast, Int.natCast_nonneg, beq_iff_eq, decide_eq_true_eq, Int.ofNat_lt, decide_true, decide_false, Bool.not_true, Bool.not_false]
  by_cases h : code s = 0
  · obtain ⟨h1, h2⟩ := code0 h
    have hr : Bs.runes s = pts s := runes_eq h2
    rw [if_neg (by simp [h]), if_pos h, if_pos (by omega), hr]
    by_cases c1 : a < 0
    · rw [if_pos c1, if_neg (by omega)]; rfl
    rw [if_neg c1]
    by_cases c2 : a > b
    · rw [if_pos c2, if_neg (by omega)]; rfl
    rw [if_neg c2]
    simp only [Option.bind_eq_bind, Option.bind_some, Option.bind_none, if_true, if_false, Bool.false_eq_true, Bool.true_eq_false, Int.toNat_natCast, Int.natCast_nonneg, beq_iff_eq, decide_eq_true_eq, Int.ofNat_lt, decide_true, decide_false, Bool.not_true, Bool.not_false]
    by_cases c3 : b > ((pts s).length : Int)
    · rw [if_pos c3, if_neg (by omega)]
    rw [if_neg c3, if_pos (by omega), if_pos (by omega), text_eq]
    exact fun x hx => pts_pt s x (List.mem_of_mem_take (List.mem_of_mem_drop hx))
  · rw [if_pos (by simpa using h), if_neg h]

theorem f17 {s : ByteArray} (hs : s.size ≤ 1000000) (a b : Int) : n_17 (s, a, b, ()) = some (cutR s a b) := by
  unfold n_17 cutR
  simp only [f23 hs, Option.bind_eq_bind, Option.bind_some, Option.bind_none, if_true, if_false, Bool.false_eq_true, Bool.true_eq_false, Int.toNat_natCast, Int.natCast_nonneg, beq_iff_eq, decide_eq_true_eq, Int.ofNat_lt, decide_true, decide_false, Bool.not_true, Bool.not_false]
  by_cases h : code s = 0
  · obtain ⟨h1, h2⟩ := code0 h
    simp only [if_pos h]
    rw [if_neg (by simp [h])]
    have hp := pts_len s
    by_cases c1 : a < 0
    · rw [if_pos c1, if_neg (by omega)]; rfl
    rw [if_neg c1]
    by_cases c2 : a > b
    · rw [if_pos c2, if_neg (by omega)]; rfl
    rw [if_neg c2]
    simp only [Option.bind_eq_bind, Option.bind_some, Option.bind_none, if_true, if_false, Bool.false_eq_true, Bool.true_eq_false, Int.toNat_natCast, Int.natCast_nonneg, beq_iff_eq, decide_eq_true_eq, Int.ofNat_lt, decide_true, decide_false, Bool.not_true, Bool.not_false]
    by_cases c3 : b > ((pts s).length : Int)
    · rw [if_pos c3, if_neg (by omega)]
    rw [if_neg c3, if_pos (by omega), if_pos (by omega), f47 (by rw [List.length_drop, List.length_take]; omega), good_pts]
    · rfl
    exact fun x hx => pts_pt s x (List.mem_of_mem_take (List.mem_of_mem_drop hx))
  · rw [if_pos (by simpa using h), if_neg h]

theorem f48l {orig : List Int} (hn : orig.length ≤ 1000000) : ∀ (d i j : Nat) (xs : List Int), j ≤ d + i → i + j + 1 = orig.length → xs.length = orig.length →
    (∀ k, k < orig.length → xs[k]? = if i ≤ k ∧ k ≤ j then orig[k]? else orig[orig.length - 1 - k]?) →
    n_48s6d60l1 ((i : Int), (j : Int), xs, ()) = some (orig.reverse, ()) := by
  have fin : ∀ (i j : Nat) (xs : List Int), ¬ i < j → i + j + 1 = orig.length → xs.length = orig.length →
    (∀ k, k < orig.length → xs[k]? = if i ≤ k ∧ k ≤ j then orig[k]? else orig[orig.length - 1 - k]?) → n_48s6d60l1 ((i : Int), (j : Int), xs, ()) = some (orig.reverse, ()) := by
    intro i j xs hij h1 h2 h3
    rw [n_48s6d60l1]
    simp only
    rw [if_neg (by simp; omega)]
    congr 2
    apply List.ext_getElem?
    intro k
    by_cases hk : k < orig.length
    · rw [h3 k hk, List.getElem?_reverse hk]
      split
      · rw [show orig.length - 1 - k = k by omega]
      · rfl
    · rw [List.getElem?_eq_none (by omega), List.getElem?_eq_none (by rw [List.length_reverse]; omega)]
  intro d
  induction d with
  | zero =>
    intro i j xs hd h1 h2 h3
    exact fin i j xs (by omega) h1 h2 h3
  | succ d ih =>
    intro i j xs hd h1 h2 h3
    by_cases hij : i < j
    · have hi : i < xs.length := by omega
      have hj : j < xs.length := by omega
      have ei : xs[i]? = some xs[i] := List.getElem?_eq_getElem hi
      have ej : xs[j]? = some xs[j] := List.getElem?_eq_getElem hj
      rw [n_48s6d60l1]
      simp only [List.length_set]
      rw [if_pos (by simp; omega), if_pos ⟨by omega, by omega⟩, Int.toNat_natCast, Int.toNat_natCast, ej]
      simp only [Option.bind_eq_bind, Option.bind_some]
      rw [if_pos ⟨by omega, by omega⟩, ei]
      simp only [Option.bind_some]
      rw [if_pos ⟨by omega, by omega⟩, if_pos ⟨by omega, by omega⟩]
      rw [List.getElem?_set_ne (by omega), ej]
      simp only [Option.bind_some]
      rw [wrap64 (by omega) (by omega), wrap64 (by omega) (by omega), show (i : Int) + 1 = ((i + 1 : Nat) : Int) by omega, show (j : Int) - 1 = ((j - 1 : Nat) : Int) by omega]
      apply ih (i + 1) (j - 1) _ (by omega) (by omega) (by simp; omega)
      intro k hk
      have gi := h3 i (by omega)
      have gj := h3 j (by omega)
      rw [if_pos ⟨by omega, by omega⟩] at gi gj
      by_cases k1 : k = j
      · subst k1
        rw [List.getElem?_set_self (by simp; omega), if_neg (by omega), show orig.length - 1 - k = i by omega, ← gi, ei]
      · rw [List.getElem?_set_ne (by omega)]
        by_cases k2 : k = i
        · subst k2
          rw [List.getElem?_set_self (by omega), if_neg (by omega), show orig.length - 1 - k = j by omega, ← gj, ej]
        · rw [List.getElem?_set_ne (by omega), h3 k hk]
          by_cases k3 : i ≤ k ∧ k ≤ j
          · rw [if_pos k3, if_pos (by omega)]
          · rw [if_neg k3, if_neg (by omega)]
    · exact fin i j xs hij h1 h2 h3

theorem f48 {ns : List Int} (hn : ns.length ≤ 1000000) : n_48s6d60 (ns, ()) = some (ns.reverse, ()) := by
  unfold n_48s6d60
  simp only
  by_cases h : ns = []
  · subst h
    rw [n_48s6d60l1]; rfl
  · have := List.length_pos_iff.2 h
    rw [wrap64 (by omega) (by omega), show (ns.length : Int) - 1 = ((ns.length - 1 : Nat) : Int) by omega, show ((0 : Int)) = ((0 : Nat) : Int) from rfl,
      f48l hn (ns.length - 1) 0 (ns.length - 1) ns (by omega) (by omega) rfl (fun k hk => by rw [if_pos ⟨by omega, by omega⟩])]
    rfl

def revR (s : ByteArray) : ByteArray × Int × Unit :=
  (if code s = 0 then ⟨((pts s).reverse.flatMap encodeRune).toArray⟩ else ByteArray.mk #[], code s, ())

theorem f18 (s : ByteArray) : n_18 (s, ()) = some (revR s) := by
  unfold n_18 revR
  simp only [f36, Option.bind_eq_bind, Option.bind_some, Option.bind_none, if_true, if_false, Bool.false_eq_true, Bool.true_eq_false, Int.toNat_natCast, Int.natCast_nonneg, beq_iff_eq, decide_eq_true_eq, Int.ofNat_lt, decide_true, decide_false, Bool.not_true, Bool.not_false]
  by_cases h : code s = 0
  · obtain ⟨h1, h2⟩ := code0 h
    have hr : Bs.runes s = pts s := runes_eq h2
    have hp := pts_len s
    rw [if_neg (by simp [h]), if_pos h, if_pos (by omega), hr, f48 (by omega)]
    simp only [Option.bind_eq_bind, Option.bind_some, Option.bind_none, if_true, if_false, Bool.false_eq_true, Bool.true_eq_false, Int.toNat_natCast, Int.natCast_nonneg, beq_iff_eq, decide_eq_true_eq, Int.ofNat_lt, decide_true, decide_false, Bool.not_true, Bool.not_false]
    rw [if_pos (by rw [List.length_reverse]), text_eq, h]
    exact fun x hx => pts_pt s x (List.mem_reverse.mp hx)
  · rw [if_pos (by simpa using h), if_neg h]

theorem f19l {ns : List Int} (hn : ns.length ≤ 1000000) (e : Int) : ∀ (i : Nat) (acc : List Int), i ≤ ns.length → acc.length ≤ ns.length - i →
    n_19l4 (ns, e, (i : Int) - 1, acc, ()) = some (e, acc ++ (ns.take i).reverse, ())
  | 0, acc, hi, ha => by
    rw [n_19l4]
    simp only
    rw [if_neg (by simp)]
    simp
  | i + 1, acc, hi, ha => by
    rw [n_19l4]
    simp only
    have e1 : (((i + 1 : Nat) : Int) - 1) = (i : Int) := by omega
    have ei : ns[i]? = some ns[i] := List.getElem?_eq_getElem (by omega)
    rw [e1, if_pos (by simp), if_pos (by omega), Int.toNat_natCast, ei]
    simp only [Option.bind_eq_bind, Option.bind_some]
    rw [if_pos (by simp only [List.length_singleton]; omega), wrap64 (by omega) (by omega), f19l hn e i _ (by omega) (by rw [List.length_append, List.length_singleton]; omega)]
    rw [List.take_add_one, ei]
    simp only [Option.toList_some, List.reverse_append, List.reverse_singleton, List.singleton_append, List.append_assoc]

theorem f19 {s : ByteArray} (hs : s.size ≤ 1000000) : n_19 (s, ()) = some (revR s) := by
  unfold n_19 revR
  simp only [f23 hs, Option.bind_eq_bind, Option.bind_some, Option.bind_none, if_true, if_false, Bool.false_eq_true, Bool.true_eq_false, Int.toNat_natCast, Int.natCast_nonneg, beq_iff_eq, decide_eq_true_eq, Int.ofNat_lt, decide_true, decide_false, Bool.not_true, Bool.not_false]
  have hp := pts_len s
  have hl : (if code s = 0 then pts s else []).length ≤ 1000000 := by
    split
    · omega
    · simp
  rw [wrap64 (by omega) (by omega), f19l hl _ _ [] (Nat.le_refl _) (by simp)]
  simp only [Option.bind_eq_bind, Option.bind_some, Option.bind_none, if_true, if_false, Bool.false_eq_true, Bool.true_eq_false, Int.toNat_natCast, Int.natCast_nonneg, beq_iff_eq, decide_eq_true_eq, Int.ofNat_lt, decide_true, decide_false, Bool.not_true, Bool.not_false, List.nil_append, List.take_length]
  rw [f47 (by rw [List.length_reverse]; exact hl)]
  simp only [Option.bind_eq_bind, Option.bind_some, Option.bind_none, if_true, if_false, Bool.false_eq_true, Bool.true_eq_false, Int.toNat_natCast, Int.natCast_nonneg, beq_iff_eq, decide_eq_true_eq, Int.ofNat_lt, decide_true, decide_false, Bool.not_true, Bool.not_false]
  by_cases h : code s = 0
  · simp only [if_pos h]
    rw [good_pts]
    exact fun x hx => pts_pt s x (List.mem_reverse.mp hx)
  · simp only [if_neg h]
    rfl

/-- A text's opposite: its code points are the text's, in the opposite order. -/
theorem rev_twice {s : ByteArray} (h : code s = 0) : revR (revR s).1 = (s, 0, ()) := by
  obtain ⟨h1, h2⟩ := code0 h
  have hp : ∀ x ∈ (pts s).reverse, isPt x := fun x hx => pts_pt s x (List.mem_reverse.mp hx)
  obtain ⟨t, ht⟩ : ∃ t, t = (revR s).1 := ⟨_, rfl⟩
  have hd : t.data.toList = (pts s).reverse.flatMap encodeRune := by rw [ht]; unfold revR; rw [if_pos h]
  have hP := P_enc hp
  have hfull : (pts s).flatMap encodeRune = s.data.toList := P_full (by rw [ba_size]; exact h2)
  have hsz : t.size = s.size := by rw [← ba_size, hd, enc_rev_len, hfull, ba_size]
  have hpt : pts t = (pts s).reverse := by unfold pts at *; rw [hd, hP]
  have hft : fit t = t.size := by rw [← ba_size]; unfold fit; rw [hd, hP]
  have hc : code t = 0 := by unfold code; rw [if_neg (by omega), if_pos hft]
  rw [← ht]
  unfold revR
  rw [if_pos hc, hc, hpt, List.reverse_reverse, hfull, ba_eta]

end Go.Proofs.YtnbkpokcfcednaaDoor
