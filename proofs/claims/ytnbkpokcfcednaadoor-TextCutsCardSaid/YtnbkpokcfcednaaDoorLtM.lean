/-
  Bytes and code points: plain mathematics, no program.
-/
import Derived.Test.YtnbkpokcfcednaaDoorAwpA
import Derived.Lib.MapLaws
import Derived.Lib.TrimUEq
import Derived.Lib.Repeat
import Derived.Lib.RuneCountTail
import Derived.Lib.Bytealg
set_option linter.unusedVariables false
namespace Go.Proofs.YtnbkpokcfcednaaDoor
open Go.Lib

theorem wrap64 {x : Int} (h1 : -9223372036854775808 ≤ x) (h2 : x ≤ 9223372036854775807) : IntKind.i64.wrap x = x := by
  unfold IntKind.wrap
  simp only [IntKind.bits, IntKind.signed, Bool.true_and]
  split <;> rename_i h <;> simp at h <;> omega

theorem ba_size (s : ByteArray) : s.data.toList.length = s.size := Array.length_toList

theorem toList_loop (s : ByteArray) : ∀ (n i : Nat) (r : List UInt8), s.size - i = n → ByteArray.toList.loop s i r = r.reverse ++ s.data.toList.drop i
  | 0, i, r, h => by
    have hs := ba_size s
    rw [ByteArray.toList.loop, if_neg (by omega), List.drop_eq_nil_of_le (by omega), List.append_nil]
  | n + 1, i, r, h => by
    have hs := ba_size s
    have hi : i < s.data.toList.length := by omega
    rw [ByteArray.toList.loop, if_pos (by omega), toList_loop s n (i + 1) _ (by omega), List.drop_eq_getElem_cons hi, List.reverse_cons, List.append_assoc]
    have : s.get! i = s.data.toList[i] := by
      have := getD_get!' s i
      rw [← this, List.getD_eq_getElem?_getD, List.getElem?_eq_getElem hi]; rfl
    rw [this]; rfl

theorem toList_data (s : ByteArray) : s.toList = s.data.toList := by
  unfold ByteArray.toList
  rw [toList_loop s _ 0 [] rfl]; simp

theorem ba_ext {a b : ByteArray} (h : a.data.toList = b.data.toList) : a = b := by
  cases a; cases b; simp only at h; congr 1; exact Array.toList_inj.mp h

theorem ba_beq (a b : ByteArray) : (a.toList == b.toList) = decide (a = b) := by
  rw [toList_data, toList_data]
  by_cases h : a = b
  · subst h; simp
  · rw [decide_eq_false h]
    exact beq_eq_false_iff_ne.mpr fun h2 => h (ba_ext h2)

theorem ba_get {s : ByteArray} {i : Nat} (h : i < s.size) : s[i]? = some (s.data.toList.getD i 0) := by
  rw [List.getD_eq_getElem?_getD, List.getElem?_eq_getElem (by rw [ba_size]; exact h)]
  rw [getElem?_pos s i h]; rfl

theorem ba_extract (s : ByteArray) (a b : Nat) : (s.extract a b).data.toList = (s.data.toList.take b).drop a := by
  rw [ByteArray.data_extract, Array.toList_extract]; simp [List.extract, List.drop_take]

theorem ba_eta (s : ByteArray) : (⟨s.data.toList.toArray⟩ : ByteArray) = s := by cases s; simp

/-! ### a text's code points as far as it is right -/
def bad (l : List UInt8) : Prop := (decodeL l).1 = 65533 ∧ (decodeL l).2 = 1
instance (l : List UInt8) : Decidable (bad l) := inferInstanceAs (Decidable (_ ∧ _))

def pre : Nat → List UInt8 → List Int × Nat
  | 0, _ => ([], 0)
  | n + 1, l => if l = [] ∨ bad l then ([], 0) else (((decodeL l).1 : Int) :: (pre n (l.drop (decodeL l).2)).1, (decodeL l).2 + (pre n (l.drop (decodeL l).2)).2)
def P (l : List UInt8) : List Int × Nat := pre l.length l

theorem pre_nil : ∀ n, pre n [] = ([], 0)
  | 0 => rfl
  | n + 1 => by simp [pre]
theorem pre_fuel : ∀ (n m : Nat) (l : List UInt8), l.length ≤ n → l.length ≤ m → pre n l = pre m l
  | 0, m, l, hn, _ => by
    have : l = [] := List.eq_nil_of_length_eq_zero (by omega)
    subst this; rw [pre_nil, pre_nil]
  | n + 1, 0, l, _, hm => by
    have : l = [] := List.eq_nil_of_length_eq_zero (by omega)
    subst this; rw [pre_nil, pre_nil]
  | n + 1, m + 1, l, hn, hm => by
    have hw := decodeL_width l
    simp only [pre]
    by_cases hc : l = [] ∨ bad l
    · rw [if_pos hc, if_pos hc]
    · have hl : 0 < l.length := List.length_pos_iff.2 fun h => hc (.inl h)
      rw [if_neg hc, if_neg hc, pre_fuel n m _ (by rw [List.length_drop]; omega) (by rw [List.length_drop]; omega)]
theorem P_nil : P [] = ([], 0) := rfl
theorem P_bad {l : List UInt8} (h : bad l) : P l = ([], 0) := by
  unfold P
  cases hn : l.length with
  | zero => rfl
  | succ n => simp only [pre]; rw [if_pos (.inr h)]
theorem P_step {l : List UInt8} (hne : l ≠ []) (h : ¬ bad l) : P l = (((decodeL l).1 : Int) :: (P (l.drop (decodeL l).2)).1, (decodeL l).2 + (P (l.drop (decodeL l).2)).2) := by
  have hw := decodeL_width l
  have hl : 0 < l.length := List.length_pos_iff.2 hne
  unfold P
  obtain ⟨n, hn⟩ : ∃ n, l.length = n + 1 := ⟨l.length - 1, by omega⟩
  rw [hn]
  simp only [pre]
  rw [if_neg (fun hc => hc.elim hne h), pre_fuel n _ _ (by rw [List.length_drop]; omega) (Nat.le_refl _)]

/-- induction over a text, code point by code point -/
theorem text_ind {motive : List UInt8 → Prop} (h0 : motive []) (h1 : ∀ l, l ≠ [] → bad l → motive l)
    (h2 : ∀ l, l ≠ [] → ¬ bad l → motive (l.drop (decodeL l).2) → motive l) (l : List UInt8) : motive l := by
  have : ∀ n l, List.length l ≤ n → motive l := by
    intro n
    induction n with
    | zero =>
      intro l hl
      have : l = [] := List.eq_nil_of_length_eq_zero (by omega)
      subst this; exact h0
    | succ n ih =>
      intro l hl
      by_cases hne : l = []
      · subst hne; exact h0
      · by_cases hb : bad l
        · exact h1 l hne hb
        · have hw := decodeL_width l
          have := List.length_pos_iff.2 hne
          exact h2 l hne hb (ih _ (by rw [List.length_drop]; omega))
  exact this _ l (Nat.le_refl _)

def isPt (x : Int) : Prop := (0 ≤ x ∧ x ≤ 55295) ∨ (57344 ≤ x ∧ x ≤ 1114111)
instance (x : Int) : Decidable (isPt x) := inferInstanceAs (Decidable (_ ∨ _))

theorem pt_decode (l : List UInt8) : isPt ((decodeL l).1 : Int) := by
  rw [decodeL_N]
  have k0 := (l.getD 0 0).toNat_lt
  have k1 := (l.getD 1 0).toNat_lt
  have k2 := (l.getD 2 0).toNat_lt
  have k3 := (l.getD 3 0).toNat_lt
  unfold isPt
  rcases decodeN_shape l.length (l.getD 0 0).toNat (l.getD 1 0).toNat (l.getD 2 0).toNat (l.getD 3 0).toNat with ⟨c, e⟩ | ⟨c1, c2, c3, cv, e⟩ | ⟨c1, c2, c3, c4, cv, cs, e⟩ | ⟨c1, c2, c3, c4, c5, cv, cw, e⟩ | e
  all_goals (rw [e]; dsimp only; omega)

theorem P_pts (l : List UInt8) : ∀ x ∈ (P l).1, isPt x := by
  induction l using text_ind with
  | h0 => simp [P_nil]
  | h1 l hne hb => simp [P_bad hb]
  | h2 l hne hb ih =>
    rw [P_step hne hb]
    intro x hx
    rcases List.mem_cons.mp hx with rfl | hx
    · exact pt_decode l
    · exact ih x hx

theorem P_len (l : List UInt8) : (P l).1.length ≤ (P l).2 ∧ (P l).2 ≤ l.length := by
  induction l using text_ind with
  | h0 => simp [P_nil]
  | h1 l hne hb => simp [P_bad hb]
  | h2 l hne hb ih =>
    rw [P_step hne hb]
    have h1 := decodeL_width l
    have h2 := decodeL_le l hne
    rw [List.length_drop] at ih
    simp only [List.length_cons]
    omega

theorem P_full {l : List UInt8} : (P l).2 = l.length → (P l).1.flatMap encodeRune = l := by
  induction l using text_ind with
  | h0 => simp [P_nil]
  | h1 l hne hb =>
    rw [P_bad hb]; intro h
    exact absurd (List.eq_nil_of_length_eq_zero h.symm) hne
  | h2 l hne hb ih =>
    rw [P_step hne hb]
    have h1 := decodeL_width l
    have h2 := decodeL_le l hne
    rw [List.length_drop] at ih
    intro h
    rw [List.flatMap_cons, ih (by omega), encode_decode l hne hb, List.take_append_drop]

theorem enc_len {x : Int} : 1 ≤ (encodeRune x).length ∧ (encodeRune x).length ≤ 4 := by
  unfold encodeRune; rw [List.length_map]; exact encodeRuneZ_length x

theorem byteN (n : Int) (h : 0 ≤ n ∧ n < 256) : n.toNat.toUInt8.toNat = n.toNat := by
  show (UInt8.ofNat n.toNat).toNat = _
  rw [UInt8.toNat_ofNat']; omega

set_option maxHeartbeats 1000000 in
theorem enc_dec {x : Int} (hx : isPt x) (t : List UInt8) : decodeL (encodeRune x ++ t) = (x.toNat, (encodeRune x).length) := by
  rw [decodeL_N]
  unfold encodeRune
  unfold isPt at hx
  by_cases c1 : x ≤ 127
  · rw [encodeRuneZ_one (by omega) c1]
    simp only [List.map_cons, List.map_nil, List.cons_append, List.nil_append, List.getD_cons_zero, List.getD_cons_succ, List.length_cons, List.length_nil]
    rw [byteN _ (by omega)]
    unfold decodeN; rw [if_pos (by omega)]
  · by_cases c2 : x ≤ 2047
    · rw [encodeRuneZ_two (by omega) c2]
      simp only [List.map_cons, List.map_nil, List.cons_append, List.nil_append, List.getD_cons_zero, List.getD_cons_succ, List.length_cons, List.length_nil]
      rw [byteN _ (by omega), byteN _ (by omega)]
      unfold decodeN; rw [if_neg (by omega), if_pos (by omega), if_pos (by omega)]
      apply Prod.ext <;> simp only <;> omega
    · by_cases c3 : x ≤ 65535
      · rw [encodeRuneZ_three (by omega)]
        simp only [List.map_cons, List.map_nil, List.cons_append, List.nil_append, List.getD_cons_zero, List.getD_cons_succ, List.length_cons, List.length_nil]
        rw [byteN _ (by omega), byteN _ (by omega), byteN _ (by omega)]
        unfold decodeN; rw [if_neg (by omega), if_neg (by omega), if_pos (by omega), if_pos (by omega)]
        apply Prod.ext <;> simp only <;> omega
      · rw [encodeRuneZ_four (by omega) (by omega)]
        simp only [List.map_cons, List.map_nil, List.cons_append, List.nil_append, List.getD_cons_zero, List.getD_cons_succ, List.length_cons, List.length_nil]
        rw [byteN _ (by omega), byteN _ (by omega), byteN _ (by omega), byteN _ (by omega)]
        unfold decodeN; rw [if_neg (by omega), if_neg (by omega), if_neg (by omega), if_pos (by omega), if_pos (by omega)]
        apply Prod.ext <;> simp only <;> omega

theorem enc_good {x : Int} (hx : isPt x) (t : List UInt8) : ¬ bad (encodeRune x ++ t) := by
  unfold bad
  rw [enc_dec hx t]
  rintro ⟨h1, h2⟩
  simp only at h1 h2
  have : x = 65533 := by unfold isPt at hx; omega
  subst this
  revert h2
  decide

theorem enc_ne (x : Int) (t : List UInt8) : encodeRune x ++ t ≠ [] := by
  intro h
  have := congrArg List.length h
  have := (enc_len (x := x)).1
  simp only [List.length_append, List.length_nil] at *
  omega

theorem P_enc : ∀ {ns : List Int}, (∀ x ∈ ns, isPt x) → P (ns.flatMap encodeRune) = (ns, (ns.flatMap encodeRune).length)
  | [], _ => rfl
  | x :: r, h => by
    have hx := h x (List.mem_cons_self ..)
    have ih := P_enc fun y hy => h y (List.mem_cons_of_mem x hy)
    rw [List.flatMap_cons, P_step (enc_ne x _) (enc_good hx _), enc_dec hx, List.drop_left, ih]
    unfold isPt at hx
    simp only [List.length_append]
    rw [show ((x.toNat : Nat) : Int) = x by omega]

theorem enc_rev_len : ∀ ns : List Int, (ns.reverse.flatMap encodeRune).length = (ns.flatMap encodeRune).length
  | [] => rfl
  | x :: r => by
    rw [List.reverse_cons, List.flatMap_append, List.length_append, enc_rev_len r]
    simp [Nat.add_comm]

/-! ### the program's own words -/
theorem dec_eq (s : ByteArray) (i : Nat) : Bs.dec s (i : Int) = ((decodeL (s.data.toList.drop i)).1 : Int) := by
  unfold Bs.dec; rw [decodeL_drop]; rfl
theorem wid_eq (s : ByteArray) (i : Nat) : Bs.wid s (i : Int) = ((decodeL (s.data.toList.drop i)).2 : Int) := by
  unfold Bs.wid; rw [decodeL_drop]; rfl

theorem drop_ne {s : ByteArray} {i : Nat} (h : i < s.size) : s.data.toList.drop i ≠ [] := by
  intro h2
  have := congrArg List.length h2
  rw [List.length_drop, ba_size] at this
  simp at this; omega

theorem runesAt_eq (s : ByteArray) : ∀ (n i : Nat), s.size - i ≤ n → i ≤ s.size → (P (s.data.toList.drop i)).2 = s.size - i → Bs.runesAt s n i = (P (s.data.toList.drop i)).1
  | 0, i, hn, hi, _ => by
    have : s.data.toList.drop i = [] := List.drop_eq_nil_of_le (by rw [ba_size]; omega)
    rw [this]; rfl
  | n + 1, i, hn, hi, h => by
    by_cases hc : i < s.size
    · have hne := drop_ne hc
      have hg : ¬ bad (s.data.toList.drop i) := fun hb => by rw [P_bad hb] at h; simp only at h; omega
      have hw := decodeL_width (s.data.toList.drop i)
      have hle := decodeL_le _ hne
      rw [List.length_drop, ba_size] at hle
      rw [P_step hne hg] at h ⊢
      rw [List.drop_drop] at h ⊢
      simp only at h ⊢
      rw [Bs.runesAt, if_pos hc, ← decodeL_drop]
      rw [runesAt_eq s n (i + (decodeL (s.data.toList.drop i)).2) (by omega) (by omega) (by omega)]
    · have : s.data.toList.drop i = [] := List.drop_eq_nil_of_le (by rw [ba_size]; omega)
      rw [this, Bs.runesAt, if_neg hc]; rfl

theorem runes_eq {s : ByteArray} (h : (P s.data.toList).2 = s.size) : Bs.runes s = (P s.data.toList).1 := by
  unfold Bs.runes
  have := runesAt_eq s s.size 0 (by omega) (by omega) (by rw [List.drop_zero]; omega)
  rwa [List.drop_zero] at this

theorem u8_ofInt (n : Int) (k : Nat) (h : n.toNat = k) : UInt8.ofNat k = n.toNat.toUInt8 := by subst h; rfl

theorem encode_eq {x : Int} (hx : isPt x) : Utf8.encode x = ⟨(encodeRune x).toArray⟩ := by
  unfold isPt at hx
  have hv : Utf8.valid x = true := by
    unfold Utf8.valid
    simp only [Bool.or_eq_true, Bool.and_eq_true, decide_eq_true_eq]
    omega
  unfold Utf8.encode encodeRune
  simp only [hv, if_true]
  by_cases c1 : x ≤ 127
  · rw [encodeRuneZ_one (by omega) c1, if_pos (by omega)]; rfl
  · rw [if_neg (by omega)]
    by_cases c2 : x ≤ 2047
    · rw [encodeRuneZ_two (by omega) c2, if_pos (by omega)]
      simp only [List.map_cons, List.map_nil]
      rw [u8_ofInt (192 + x / 64) _ (by omega), u8_ofInt (128 + x % 64) _ (by omega)]
    · rw [if_neg (by omega)]
      by_cases c3 : x ≤ 65535
      · rw [encodeRuneZ_three (by omega), if_pos (by omega)]
        simp only [List.map_cons, List.map_nil]
        rw [u8_ofInt (224 + x / 4096) _ (by omega), u8_ofInt (128 + x / 64 % 64) _ (by omega), u8_ofInt (128 + x % 64) _ (by omega)]
      · rw [encodeRuneZ_four (by omega) (by omega), if_neg (by omega)]
        simp only [List.map_cons, List.map_nil]
        rw [u8_ofInt (240 + x / 262144) _ (by omega), u8_ofInt (128 + x / 4096 % 64) _ (by omega), u8_ofInt (128 + x / 64 % 64) _ (by omega), u8_ofInt (128 + x % 64) _ (by omega)]

theorem ba_append (a b : ByteArray) : (a ++ b).data.toList = a.data.toList ++ b.data.toList := by
  simp [ByteArray.data_append]

theorem text_go : ∀ (ns : List Int) (r : ByteArray), (∀ x ∈ ns, isPt x) → (ns.foldl (fun r n => r ++ Utf8.encode n) r).data.toList = r.data.toList ++ ns.flatMap encodeRune
  | [], r, _ => by simp
  | x :: t, r, h => by
    rw [List.foldl_cons, text_go t _ fun y hy => h y (List.mem_cons_of_mem x hy), ba_append, encode_eq (h x (List.mem_cons_self ..)), List.flatMap_cons]
    simp
theorem text_eq {ns : List Int} (h : ∀ x ∈ ns, isPt x) : Bs.text ns = ⟨(ns.flatMap encodeRune).toArray⟩ := by
  apply ba_ext
  unfold Bs.text
  rw [text_go ns _ h]
  simp

theorem bytes_ints (l : List UInt8) : Bs.bytes (l.map fun b => (b.toNat : Int)) = ⟨l.toArray⟩ := by
  unfold Bs.bytes
  rw [List.map_map]
  congr 2
  conv => rhs; rw [← List.map_id l]
  apply List.map_congr_left
  intro b _
  simp

end Go.Proofs.YtnbkpokcfcednaaDoor
