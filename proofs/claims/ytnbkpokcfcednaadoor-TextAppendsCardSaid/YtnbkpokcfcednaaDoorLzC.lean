/-
  Texts: what the functions compute (merged by a program of mine).
-/
import Derived.Test.YtnbkpokcfcednaaDoorLzB
import Derived.Test.YtnbkpokcfcednaaDoorTxR
namespace Go.Proofs.YtnbkpokcfcednaaDoor
open Go.Awp Go.Lib Go.RowKit Go.Tx
set_option linter.unusedSimpArgs false
set_option linter.unusedVariables false
set_option maxRecDepth 20000

inductive Item where
  | lit (b : UInt8)
  | fld (c sd w : Int)

theorem fieldS_le {l : List UInt8} {c sd w : Int} {k : Nat} (h : fieldS l = some (c, sd, w, k)) : 2 ≤ k ∧ k ≤ l.length ∧ c ∈ letters ∧ 0 ≤ w ∧ w ≤ 99 ∧ (sd = 0 ∨ side sd = true) := by
  unfold fieldS at h
  have hn := n0_le l
  by_cases h1 : l.length < 2 ∨ letters.contains (byt l 0) = false
  · rw [if_pos h1] at h; cases h
  rw [if_neg h1] at h
  have hlet : byt l 0 ∈ letters := by
    have : letters.contains (byt l 0) = true := by
      cases hh : letters.contains (byt l 0) with
      | true => rfl
      | false => exact absurd (.inr hh) h1
    exact List.contains_iff_mem.mp this
  have hlen : ¬ l.length < 2 := fun hh => h1 (.inl hh)
  have hsd : sd0 l = 0 ∨ side (sd0 l) = true := by
    unfold sd0
    by_cases hs : 2 < l.length ∧ side (byt l 2) = true
    · rw [if_pos hs]; exact .inr hs.2
    · rw [if_neg hs]; exact .inl rfl
  by_cases h2 : byt l 1 = 58
  · rw [if_pos h2] at h
    by_cases h3 : ¬ dig l (n0 l) ∨ byt l (n0 l) = 48
    · rw [if_pos h3] at h; cases h
    rw [if_neg h3] at h
    have hd : dig l (n0 l) := Decidable.of_not_not fun hh => h3 (.inl hh)
    have hd2 := hd.2
    by_cases h4 : dig l (n0 l + 1)
    · rw [if_pos h4] at h
      have h4' := h4.2
      split at h
      · rename_i h5
        cases h
        have : byt l (n0 l) ≠ 48 := fun hh => h3 (.inr hh)
        exact ⟨by omega, by omega, hlet, by omega, by omega, hsd⟩
      · cases h
    · rw [if_neg h4] at h
      split at h
      · rename_i h5
        cases h
        exact ⟨by omega, by omega, hlet, by omega, by omega, hsd⟩
      · cases h
  · rw [if_neg h2] at h
    split at h
    · cases h
      exact ⟨by omega, by omega, hlet, by omega, by omega, .inl rfl⟩
    · cases h

def brace (b : UInt8) : Bool := b == 123 || b == 125

def itemsF : Nat → List UInt8 → Option (List Item)
  | _, [] => some []
  | 0, _ :: _ => none
  | n + 1, b :: r =>
    if brace b = false then (itemsF n r).map (Item.lit b :: ·)
    else if r.head? = some b then (itemsF n r.tail).map (Item.lit b :: ·)
    else if b = 125 then none
    else match fieldS r with
      | none => none
      | some (c, sd, w, k) => (itemsF n (r.drop k)).map (Item.fld c sd w :: ·)
def items (l : List UInt8) : Option (List Item) := itemsF l.length l

theorem itemsF_fuel : ∀ (n m : Nat) (l : List UInt8), l.length ≤ n → l.length ≤ m → itemsF n l = itemsF m l
  | _, _, [], _, _ => by rw [itemsF, itemsF]
  | 0, _, _ :: _, h, _ => by simp at h
  | _ + 1, 0, _ :: _, _, h => by simp at h
  | n + 1, m + 1, b :: r, hn, hm => by
    simp only [List.length_cons] at hn hm
    simp only [itemsF]
    rw [itemsF_fuel n m r (by omega) (by omega), itemsF_fuel n m r.tail (by rw [List.length_tail]; omega) (by rw [List.length_tail]; omega)]
    have : ∀ k, itemsF n (r.drop k) = itemsF m (r.drop k) := fun k => itemsF_fuel n m _ (by rw [List.length_drop]; omega) (by rw [List.length_drop]; omega)
    simp only [this]

theorem items_nil : items [] = some [] := rfl
theorem items_cons (b : UInt8) (r : List UInt8) : items (b :: r) =
    if brace b = false then (items r).map (Item.lit b :: ·)
    else if r.head? = some b then (items r.tail).map (Item.lit b :: ·)
    else if b = 125 then none
    else match fieldS r with
      | none => none
      | some (c, sd, w, k) => (items (r.drop k)).map (Item.fld c sd w :: ·) := by
  unfold items
  simp only [List.length_cons, itemsF]
  rw [itemsF_fuel r.length r.tail.length r.tail (by rw [List.length_tail]; omega) (Nat.le_refl _)]
  have : ∀ k, itemsF r.length (r.drop k) = itemsF (r.drop k).length (r.drop k) := fun k => itemsF_fuel _ _ _ (by rw [List.length_drop]; omega) (Nat.le_refl _)
  simp only [this]

/-! ### the reference -/
def partOf : Item → Part
  | .lit b => Part.mk ⟨#[b]⟩ 0 0 0
  | .fld c sd w => Part.mk (ByteArray.mk #[]) c sd w

theorem ext1 {s : ByteArray} {i : Nat} (h : i < s.size) : s.extract i (i + 1) = ⟨#[s.data.toList.getD i 0]⟩ := by
  apply ba_ext
  rw [ex_data, show i + 1 - i = 1 by omega, takeA _ (by rw [List.length_drop, ba_size]; omega), ← getD_drop']
  simp

theorem drop_byt {s : ByteArray} {i : Nat} (h : i < s.size) : s.data.toList.drop i = s.data.toList.getD i 0 :: s.data.toList.drop (i + 1) := by
  have h2 : i < s.data.toList.length := by rw [ba_size]; exact h
  rw [List.drop_eq_getElem_cons h2, List.getD_eq_getElem?_getD, List.getElem?_eq_getElem h2]; rfl

theorem byt_eq (l : List UInt8) (i : Nat) (b : UInt8) : byt l i = (b.toNat : Int) ↔ l.getD i 0 = b := by
  unfold byt
  constructor
  · intro h; exact UInt8.toNat_inj.mp (by omega)
  · rintro rfl; rfl

theorem brace_byt (l : List UInt8) (i : Nat) : brace (l.getD i 0) = true ↔ byt l i = 123 ∨ byt l i = 125 := by
  have h1 := byt_eq l i 123
  have h2 := byt_eq l i 125
  have e1 : ((123 : UInt8).toNat : Int) = 123 := rfl
  have e2 : ((125 : UInt8).toNat : Int) = 125 := rfl
  rw [e1] at h1
  rw [e2] at h2
  unfold brace
  rw [h1, h2, Bool.or_eq_true, beq_iff_eq, beq_iff_eq]

theorem head_drop {s : ByteArray} {i : Nat} (b : UInt8) : (s.data.toList.drop i).head? = some b ↔ i < s.size ∧ s.data.toList.getD i 0 = b := by
  by_cases h : i < s.size
  · rw [drop_byt h]; simp [h]
  · rw [List.drop_eq_nil_of_le (by rw [ba_size]; omega)]; simp [h]

set_option maxHeartbeats 1000000 in
theorem f42l {s : ByteArray} (hs : s.size ≤ 1000000) : ∀ (d i : Nat) (acc : List Part), s.size - i ≤ d → i ≤ s.size → acc.length ≤ i →
    n_42l5 (s, (i : Int), acc, ()) = some (match items (s.data.toList.drop i) with | none => .inl ([], 2, ()) | some its => .inr (acc ++ its.map partOf, ())) := by
  intro d
  induction d with
  | zero =>
    intro i acc hd hi ha
    obtain rfl : i = s.size := by omega
    rw [n_42l5, List.drop_eq_nil_of_le (by rw [ba_size]; omega), items_nil]
    simp
  | succ d ih =>
    intro i acc hd hi ha
    by_cases hi2 : i < s.size
    · obtain ⟨x, hx, hx2⟩ := ba_byt hi2
      have hb := byt_bnd s.data.toList i
      have ew : IntKind.i64.wrap ((i : Int) + 1) = ((i + 1 : Nat) : Int) := by rw [wrap64 (by omega) (by omega)]; omega
      have ew2 : IntKind.i64.wrap ((i : Int) + 2) = ((i + 2 : Nat) : Int) := by rw [wrap64 (by omega) (by omega)]; omega
      have hbr := brace_byt s.data.toList i
      have h125 := byt_eq s.data.toList i 125
      rw [show ((125 : UInt8).toNat : Int) = 125 from rfl] at h125
      have hhd := head_drop (s := s) (i := i + 1) (s.data.toList.getD i 0)
      have hpush : ∀ (n : Nat) (its : Option (List Item)) (it : Item), (n_42l5 (s, (n : Int), acc ++ [partOf it], ()) = some (match its with | none => .inl ([], 2, ()) | some its => .inr (acc ++ [partOf it] ++ its.map partOf, ()))) →
          n_42l5 (s, (n : Int), acc ++ [partOf it], ()) = some (match its.map (it :: ·) with | none => .inl ([], 2, ()) | some its => .inr (acc ++ its.map partOf, ())) := by
        intro n its it h
        rw [h]
        cases its with
        | none => rfl
        | some its => simp
      rw [n_42l5]
      simp only
      rw [if_pos (by simpa using hi2), if_pos (Int.natCast_nonneg _), Int.toNat_natCast, hx, ew]
      simp only [Option.bind_eq_bind, Option.bind_some, hx2]
      rw [drop_byt hi2, items_cons]
      -- is the next one the same?
      have hsame : (if decide (((i + 1 : Nat) : Int) < (↑s.size : Int)) = true then
          if 0 ≤ ((i + 1 : Nat) : Int) then
            s[((i + 1 : Nat) : Int).toNat]?.bind fun x2 =>
            some ((s, (i : Int), byt s.data.toList i, (↑x2.toNat : Int) == byt s.data.toList i, acc, ()))
          else none
        else some ((s, (i : Int), byt s.data.toList i, false, acc, ()))) = some (s, (i : Int), byt s.data.toList i, decide ((s.data.toList.drop (i + 1)).head? = some (s.data.toList.getD i 0)), acc, ()) := by
        by_cases h1 : i + 1 < s.size
        · obtain ⟨y, hy, hy2⟩ := ba_byt h1
          rw [if_pos (by simp; omega), if_pos (Int.natCast_nonneg _), Int.toNat_natCast, hy]
          simp only [Option.bind_some, hy2]
          congr 5
          rw [Bool.eq_iff_iff, beq_iff_eq, decide_eq_true_iff, hhd]
          constructor
          · intro h; exact ⟨h1, (byt_eq _ _ _).mp h⟩
          · intro h; exact (byt_eq _ _ _).mpr h.2
        · rw [if_neg (by simp; omega), decide_eq_false (fun h => h1 (hhd.mp h).1)]
      rw [hsame]
      simp only [Option.bind_some]
      have hnb : (if (byt s.data.toList i != 123) = true then
          some ((s, (i : Int), byt s.data.toList i, decide ((s.data.toList.drop (i + 1)).head? = some (s.data.toList.getD i 0)), byt s.data.toList i != 125, acc, ()))
        else some ((s, (i : Int), byt s.data.toList i, decide ((s.data.toList.drop (i + 1)).head? = some (s.data.toList.getD i 0)), false, acc, ()))) =
          some (s, (i : Int), byt s.data.toList i, decide ((s.data.toList.drop (i + 1)).head? = some (s.data.toList.getD i 0)), !brace (s.data.toList.getD i 0), acc, ()) := by
        by_cases h1 : byt s.data.toList i = 123
        · rw [h1, hbr.mpr (.inl h1)]; rfl
        · rw [if_pos (by simpa using h1)]
          by_cases h2 : byt s.data.toList i = 125
          · rw [h2, hbr.mpr (.inr h2)]; rfl
          · have : brace (s.data.toList.getD i 0) = false := by
              cases hh : brace (s.data.toList.getD i 0) with
              | false => rfl
              | true => exact absurd (hbr.mp hh) (fun h => h.elim h1 h2)
            rw [this, show (byt s.data.toList i != 125) = true by simpa using h2]; rfl
      rw [hnb]
      simp only [Option.bind_some, ew, ew2]
      have e1 : s.extract (i : Int).toNat (((i + 1 : Nat) : Int)).toNat = ⟨#[s.data.toList.getD i 0]⟩ := by rw [Int.toNat_natCast, Int.toNat_natCast, ext1 hi2]
      by_cases hbrace : brace (s.data.toList.getD i 0) = false
      · rw [hbrace]
        simp only [Bool.not_false, if_true]
        rw [if_pos ⟨by omega, by omega, by omega⟩, if_pos (by simp only [List.length_singleton]; omega), e1]
        exact hpush (i + 1) _ (.lit _) (ih (i + 1) (acc ++ [partOf (.lit (s.data.toList.getD i 0))]) (by omega) (by omega) (by rw [List.length_append, List.length_singleton]; omega))
      · have hbt : brace (s.data.toList.getD i 0) = true := by simpa using hbrace
        rw [hbt]
        simp only [Bool.not_true, Bool.false_eq_true, if_false, Bool.true_eq_false]
        by_cases hdb : (s.data.toList.drop (i + 1)).head? = some (s.data.toList.getD i 0)
        · have h1 := (hhd.mp hdb).1
          simp only [hdb, decide_true, if_true]
          rw [if_pos ⟨by omega, by omega, by omega⟩, if_pos (by simp only [List.length_singleton]; omega), e1, List.tail_drop]
          exact hpush (i + 2) _ (.lit _) (ih (i + 2) (acc ++ [partOf (.lit (s.data.toList.getD i 0))]) (by omega) (by omega) (by rw [List.length_append, List.length_singleton]; omega))
        · simp only [hdb, decide_false, Bool.false_eq_true, if_false]
          by_cases h2 : byt s.data.toList i = 125
          · rw [if_pos (by simpa using h2), if_pos (h125.mp h2)]
          · rw [if_neg (by simpa using h2), if_neg (fun h => h2 (h125.mpr h)), if_pos ⟨by omega, by omega, by omega⟩, Int.toNat_natCast, Int.toNat_natCast, f64 (by rw [tail_size]; omega)]
            have e2 : (s.extract (i + 1) s.size).data.toList = s.data.toList.drop (i + 1) := by rw [ba_extract, List.take_of_length_le (by rw [ba_size]; omega)]
            rw [e2]
            simp only [Option.bind_some]
            cases hf : fieldS (s.data.toList.drop (i + 1)) with
            | none => rfl
            | some q =>
              obtain ⟨c, sd, w, k⟩ := q
              obtain ⟨k1, k2, _⟩ := fieldS_le hf
              rw [List.length_drop, ba_size] at k2
              simp only [r64]
              have hk0 : ((k : Int) == 0) = false := by simp; omega
              refine (if_neg (by rw [hk0]; decide)).trans ?_
              rw [if_pos (by simp only [List.length_singleton]; omega), wrap64 (x := 1 + (k : Int)) (by omega) (by omega), wrap64 (by omega) (by omega), show (i : Int) + (1 + (k : Int)) = ((i + 1 + k : Nat) : Int) by omega, List.drop_drop]
              exact hpush (i + 1 + k) _ (.fld c sd w) (ih (i + 1 + k) (acc ++ [partOf (.fld c sd w)]) (by omega) (by omega) (by rw [List.length_append, List.length_singleton]; omega))
    · obtain rfl : i = s.size := by omega
      rw [n_42l5, List.drop_eq_nil_of_le (by rw [ba_size]; omega), items_nil]
      simp

theorem f42 {s : ByteArray} (hs : s.size ≤ 1000000) : n_42 (s, ()) = some (if s.size > 4096 then (([], 3, ()) : List Part × Int × Unit) else match items s.data.toList with | none => ([], 2, ()) | some its => (its.map partOf, 0, ())) := by
  have := f42l hs s.size 0 [] (by omega) (by omega) (by simp)
  unfold n_42
  simp only
  by_cases h : s.size > 4096
  · rw [if_pos (by simp; omega), if_pos h]
  · rw [if_neg (by simp; omega), if_neg h, show (0 : Int) = ((0 : Nat) : Int) from rfl, this, List.drop_zero]
    cases items s.data.toList with
    | none => rfl
    | some its => rfl

/-! ### the program's -/
def flatP (ps : List Piece) : List Item := ps.flatMap fun p => if p.letter = 0 then p.text.data.toList.map Item.lit else [Item.fld p.letter p.side p.width]

/-- how many bytes stand ahead of the first brace -/
def fb : List UInt8 → Nat
  | [] => 0
  | b :: r => if brace b then 0 else fb r + 1
theorem fb_le : ∀ l : List UInt8, fb l ≤ l.length
  | [] => Nat.le_refl _
  | b :: r => by
    unfold fb
    have := fb_le r
    split <;> simp only [List.length_cons] <;> omega

theorem fb_skip : ∀ (w : Nat) (l : List UInt8), w ≤ l.length → (∀ b ∈ l.take w, brace b = false) → fb l = w + fb (l.drop w)
  | 0, l, _, _ => by simp
  | w + 1, [], h, _ => by simp at h
  | w + 1, b :: r, h, hb => by
    have h1 := hb b (by simp)
    rw [fb, if_neg (by rw [h1]; decide), List.drop_succ_cons, fb_skip w r (by simpa using h) fun x hx => hb x (by rw [List.take_succ_cons]; exact List.mem_cons_of_mem _ hx)]
    omega

theorem items_fb : ∀ l : List UInt8, items l = (items (l.drop (fb l))).map ((l.take (fb l)).map Item.lit ++ ·)
  | [] => by simp [fb, items_nil]
  | b :: r => by
    unfold fb
    by_cases h : brace b = true
    · rw [if_pos h]; simp
    · have h' : brace b = false := by simpa using h
      rw [if_neg h, items_cons, if_pos h', List.drop_succ_cons, List.take_succ_cons, items_fb r, Option.map_map]
      rfl

theorem fb_at : ∀ l : List UInt8, fb l < l.length → brace (l.getD (fb l) 0) = true
  | [], h => by simp at h
  | b :: r, h => by
    unfold fb at h ⊢
    by_cases hb : brace b = true
    · rw [if_pos hb]; simpa using hb
    · rw [if_neg hb] at h ⊢
      rw [List.getD_cons_succ]
      exact fb_at r (by simpa using h)

theorem indexAny_fb : ∀ l : List UInt8, Lib.indexAny l [123, 125] = if fb l < l.length then (fb l : Int) else -1
  | [] => rfl
  | b :: r => by
    unfold Lib.indexAny fb
    have hc : [123, 125].contains b = brace b := by
      unfold brace; simp; rfl
    rw [hc]
    by_cases hb : brace b = true
    · rw [if_pos hb, if_pos hb]; simp
    · rw [if_neg hb, if_neg hb, indexAny_fb r]
      by_cases h : fb r < r.length
      · have e : (if fb r < r.length then (fb r : Int) else -1) = (fb r : Int) := if_pos h
        have h2 : fb r + 1 < (b :: r).length := by simpa using h
        have e2 : ((fb r : Int) == -1) = false := by simp
        rw [e, if_pos h2, e2]
        simp
      · have e : (if fb r < r.length then (fb r : Int) else -1) = -1 := if_neg h
        have h2 : ¬ fb r + 1 < (b :: r).length := by simpa using h
        rw [e, if_neg h2]
        simp

def B2 : ByteArray := ByteArray.mk #[123, 125]
theorem small_all : ∀ c : Fin 128, decide (Lib.indexByte [123, 125] c.val.toUInt8 ≥ 0) = (c.val == 123 || c.val == 125) := by decide +kernel

theorem enc_hi {x : Int} (hx : isPt x) (h : 128 ≤ x) : ∀ b ∈ encodeRune x, 128 ≤ b.toNat := by
  have : ∀ y ∈ encodeRuneZ x, 128 ≤ y ∧ y < 256 := by
    intro y hy
    refine ⟨?_, (encodeRuneZ_byte x y hy).2⟩
    unfold isPt at hx
    by_cases c2 : x ≤ 2047
    · rw [encodeRuneZ_two (by omega) c2] at hy; simp at hy; omega
    · by_cases c3 : x ≤ 65535
      · rw [encodeRuneZ_three (by omega)] at hy; simp at hy; omega
      · rw [encodeRuneZ_four (by omega) (by omega)] at hy; simp at hy; omega
  intro b hb
  unfold encodeRune at hb
  obtain ⟨y, hy, rfl⟩ := List.mem_map.mp hb
  have := this y hy
  rw [byteN y (by omega)]; omega

theorem enc_len_hi {x : Int} (hx : isPt x) (h : 128 ≤ x) : 2 ≤ (encodeRune x).length := by
  unfold encodeRune
  rw [List.length_map]
  unfold isPt at hx
  by_cases c2 : x ≤ 2047
  · rw [encodeRuneZ_two (by omega) c2]; simp
  · by_cases c3 : x ≤ 65535
    · rw [encodeRuneZ_three (by omega)]; simp
    · rw [encodeRuneZ_four (by omega) (by omega)]; simp

theorem f71_err : n_71 (B2, 65533, ()) = some (-1, ()) := m_71_le 20 _ _ (by kernel_rfl)

theorem f71 {x : Int} (hx : isPt x) : ∃ k, n_71 (B2, x, ()) = some (k, ()) ∧ decide (k ≥ 0) = decide (x = 123 ∨ x = 125) := by
  have hx' := hx
  unfold isPt at hx'
  by_cases h1 : x < 128
  · refine ⟨Lib.indexByte [123, 125] x.toNat.toUInt8, ?_, ?_⟩
    · unfold n_71
      simp only
      rw [if_pos (by simp; omega)]
      simp only [Option.bind_eq_bind, Option.bind_some]
      rw [if_pos (by simpa using h1), wrap8 (by omega) (by omega)]
      rfl
    · have := small_all ⟨x.toNat, by omega⟩
      simp only at this
      rw [this, Bool.eq_iff_iff, Bool.or_eq_true, beq_iff_eq, beq_iff_eq, decide_eq_true_iff]
      omega
  · by_cases h2 : x = 65533
    · subst h2
      exact ⟨-1, f71_err, by decide⟩
    · refine ⟨-1, ?_, by rw [decide_eq_false (by omega), decide_eq_false (by omega)]⟩
      have hlo := enc_len_hi hx (by omega)
      have hl := enc_len (x := x)
      have hhi := enc_hi hx (by omega)
      have hd : (Bs.enc1 x).data.toList = encodeRune x := by unfold Bs.enc1; rw [encode_eq hx]
      have hsz : (Bs.enc1 x).size = (encodeRune x).length := by rw [← ba_size, hd]
      have e1 : IntKind.i64.wrap (((Bs.enc1 x).size : Int) - 1) = (((encodeRune x).length - 1 : Nat) : Int) := by rw [hsz, wrap64 (by omega) (by omega)]; omega
      unfold n_71
      simp only
      rw [if_pos (by simp; omega)]
      simp only [Option.bind_eq_bind, Option.bind_some]
      rw [if_neg (by simpa using h1), if_neg (by simpa using h2), f69 (by omega) (by omega), decide_eq_true hx]
      simp only [Option.bind_some, Bool.not_true, Bool.false_eq_true, if_false, e1]
      have : n_71l5 (B2, Bs.enc1 x, (((encodeRune x).length - 1 : Nat) : Int), (((encodeRune x).length - 1 : Nat) : Int), ()) = some (.inr ()) ∨ n_71l5 (B2, Bs.enc1 x, (((encodeRune x).length - 1 : Nat) : Int), (((encodeRune x).length - 1 : Nat) : Int), ()) = some (.inl (-1, ())) := by
        unfold n_71l5
        simp only
        have hB : B2.size = 2 := rfl
        by_cases h3 : (encodeRune x).length = 2
        · refine .inr ?_
          rw [h3, if_pos (by simp [hB]), if_pos (by simp)]
          have hy : ∃ y : UInt8, (Bs.enc1 x)[(((2 - 1 : Nat) : Int)).toNat]? = some y ∧ 128 ≤ y.toNat := by
            refine ⟨_, ba_get (by rw [hsz, h3]; decide), hhi _ ?_⟩
            rw [hd]
            have : 1 < (encodeRune x).length := by omega
            show (encodeRune x).getD 1 0 ∈ encodeRune x
            rw [List.getD_eq_getElem?_getD, List.getElem?_eq_getElem this]
            exact List.getElem_mem this
          obtain ⟨y, hy, hy2⟩ := hy
          rw [hy]
          have hb1 : B2[(((2 - 1 : Nat) : Int)).toNat]? = some 125 := rfl
          rw [hb1]
          simp only [Option.bind_eq_bind, Option.bind_some]
          rw [if_pos (by simp), if_pos (by simp; omega)]
          have ew : IntKind.i64.wrap ((((2 - 1 : Nat)) : Int) + 1) = 2 := by decide
          rw [ew, hB, if_pos (by decide), if_pos (by simp)]
          have hidx : n_37 (B2.extract (2 : Int).toNat ((2 : Nat) : Int).toNat, (y.toNat : Int), ()) = some (-1, ()) := rfl
          rw [hidx]
          rfl
        · refine .inl ?_
          rw [if_neg (by simp [hB]; omega)]
      rcases this with h | h
      · rw [h]; rfl
      · rw [h]; rfl

theorem first_of {l : List UInt8} (hne : l ≠ []) : (((l.getD 0 0).toNat < 128 ∧ decodeL l = ((l.getD 0 0).toNat, 1)) ∨ (128 ≤ (decodeL l).1 ∧ ∀ b ∈ l.take (decodeL l).2, brace b = false)) := by
  have hnb : ∀ b : UInt8, 128 ≤ b.toNat → brace b = false := by
    intro b hb
    unfold brace
    rw [Bool.or_eq_false_iff]
    constructor
    · rw [beq_eq_false_iff_ne]; rintro rfl; revert hb; decide
    · rw [beq_eq_false_iff_ne]; rintro rfl; revert hb; decide
  have hl : 0 < l.length := List.length_pos_iff.2 hne
  by_cases h0 : (l.getD 0 0).toNat < 128
  · refine .inl ⟨h0, ?_⟩
    rw [decodeL_N]
    unfold decodeN; rw [if_pos h0]
  · refine .inr ?_
    have hN := decodeL_N l
    have h1 : 128 ≤ (decodeL l).1 := by
      rw [hN]
      have k1 := (l.getD 1 0).toNat_lt
      rcases decodeN_shape l.length (l.getD 0 0).toNat (l.getD 1 0).toNat (l.getD 2 0).toNat (l.getD 3 0).toNat with ⟨c, e⟩ | ⟨c1, c2, c3, cv, e⟩ | ⟨c1, c2, c3, c4, cv, cs, e⟩ | ⟨c1, c2, c3, c4, c5, cv, cw, e⟩ | e
      all_goals (rw [e]; dsimp only; omega)
    refine ⟨h1, fun b hb => ?_⟩
    by_cases hbad : bad l
    · rw [hbad.2, takeA l hl] at hb
      simp only [List.mem_singleton] at hb
      subst hb
      exact hnb _ (by omega)
    · rw [← encode_decode l hne hbad] at hb
      exact hnb b (enc_hi (pt_decode l) (by omega) b hb)

theorem brace_nat (b : UInt8) : brace b = decide ((b.toNat : Int) = 123 ∨ (b.toNat : Int) = 125) := by
  unfold brace
  rw [Bool.eq_iff_iff, Bool.or_eq_true, beq_iff_eq, beq_iff_eq, decide_eq_true_iff]
  constructor
  · rintro (rfl | rfl) <;> decide
  · rintro (h | h)
    · exact .inl (UInt8.toNat_inj.mp (show b.toNat = 123 by omega))
    · exact .inr (UInt8.toNat_inj.mp (show b.toNat = 125 by omega))

theorem f56l {s : ByteArray} : ∀ (d i : Nat), s.size - i ≤ d → i ≤ s.size →
    n_56l18 (B2, s, (i : Int), ()) = some (if i + fb (s.data.toList.drop i) < s.size then .inl (((i + fb (s.data.toList.drop i) : Nat) : Int), ()) else .inr ()) := by
  intro d
  induction d with
  | zero =>
    intro i hd hi
    obtain rfl : i = s.size := by omega
    rw [n_56l18, List.drop_eq_nil_of_le (by rw [ba_size]; omega)]
    simp [fb]
  | succ d ih =>
    intro i hd hi
    by_cases hi2 : i < s.size
    · have hne := drop_ne hi2
      have hw := decodeL_width (s.data.toList.drop i)
      have hle := decodeL_le _ hne
      have hlen : (s.data.toList.drop i).length = s.size - i := by rw [List.length_drop, ba_size]
      obtain ⟨k, hk, hk2⟩ := f71 (pt_decode (s.data.toList.drop i))
      rw [n_56l18]
      simp only
      rw [if_pos (Int.natCast_nonneg _), if_pos (Int.ofNat_lt.mpr hi2), dec_eq, wid_eq, hk]
      simp only [Option.bind_eq_bind, Option.bind_some, hk2]
      have hgo : (∀ b ∈ (s.data.toList.drop i).take (decodeL (s.data.toList.drop i)).2, brace b = false) → n_56l18 (B2, s, (i : Int) + ((decodeL (s.data.toList.drop i)).2 : Int), ()) =
          some (if i + fb (s.data.toList.drop i) < s.size then .inl (((i + fb (s.data.toList.drop i) : Nat) : Int), ()) else .inr ()) := by
        intro hb
        rw [show (i : Int) + ((decodeL (s.data.toList.drop i)).2 : Int) = ((i + (decodeL (s.data.toList.drop i)).2 : Nat) : Int) by omega, ih _ (by omega) (by omega)]
        rw [fb_skip _ _ (by omega) hb, List.drop_drop, ← Nat.add_assoc]
      rcases first_of hne with ⟨h0, hdec⟩ | ⟨h1, hb⟩
      · rw [hdec]
        have hb0 := brace_nat ((s.data.toList.drop i).getD 0 0)
        have hfirst : s.data.toList.drop i = (s.data.toList.drop i).getD 0 0 :: s.data.toList.drop (i + 1) := by
          conv => lhs; rw [drop_byt hi2]
          rw [← getD_drop']; rfl
        by_cases hbr : brace ((s.data.toList.drop i).getD 0 0) = true
        · rw [hbr] at hb0
          have h2 := of_decide_eq_true hb0.symm
          rw [decide_eq_true h2, if_pos rfl]
          have : fb (s.data.toList.drop i) = 0 := by rw [hfirst, fb, if_pos hbr]
          rw [this, Nat.add_zero, if_pos hi2]
        · have hbr' : brace ((s.data.toList.drop i).getD 0 0) = false := by simpa using hbr
          rw [hbr'] at hb0
          have h2 := of_decide_eq_false hb0.symm
          rw [decide_eq_false h2, if_neg (by decide)]
          have := hgo (by
            rw [hdec]
            intro b hb
            rw [takeA _ (by omega)] at hb
            simp only [List.mem_singleton] at hb
            rw [hb]; exact hbr')
          rw [hdec] at this
          exact this
      · rw [decide_eq_false (by omega), if_neg (by decide)]
        exact hgo hb
    · obtain rfl : i = s.size := by omega
      rw [n_56l18, List.drop_eq_nil_of_le (by rw [ba_size]; omega)]
      simp [fb]

theorem f56 {s : ByteArray} (hs : s.size ≤ 1000000) : n_56 (s, ByteArray.mk #[(123 : UInt8), (125 : UInt8)], ()) = some (if fb s.data.toList < s.size then (fb s.data.toList : Int) else -1, ()) := by
  unfold n_56
  simp only
  by_cases h : 8 < s.size
  · rw [if_pos ⟨by omega, h, trivial⟩]
    have := indexAny_fb s.data.toList
    rw [ba_size] at this
    rw [← this]
  · rw [if_neg (fun hh => h hh.2.1)]
    unfold n_56x
    simp only [ba_beq]
    have h72 : n_72 ((s.size : Int), ()) = some (false, ()) := by
      unfold n_72
      rw [decide_eq_false (by omega)]
    have := f56l (s := s) s.size 0 (by omega) (by omega)
    rw [List.drop_zero] at this
    simp only [Nat.zero_add] at this
    rw [if_neg (by decide), if_neg (by decide), h72]
    simp only [Option.bind_eq_bind, Option.bind_some, Bool.false_eq_true, if_false]
    rw [show (ByteArray.mk #[(123 : UInt8), (125 : UInt8)]) = B2 from rfl, show (0 : Int) = ((0 : Nat) : Int) from rfl, this]
    by_cases hf : fb s.data.toList < s.size
    · rw [if_pos hf, if_pos hf]; rfl
    · rw [if_neg hf, if_neg hf]; rfl

theorem flatP_app (a b : List Piece) : flatP (a ++ b) = flatP a ++ flatP b := by unfold flatP; rw [List.flatMap_append]

/-- what the parser says -/
def Says (acc : List Piece) (its : Option (List Item)) : (((List Piece) × Int × Unit) ⊕ ((List Piece) × Unit)) → Prop
  | .inl x => its = none ∧ x = ([], 2, ())
  | .inr x => ∃ ps its', its = some its' ∧ x.1 = acc ++ ps ∧ flatP ps = its' ∧ ps.length ≤ its'.length

theorem Says.push {acc : List Piece} {p : Piece} {pre its : List Item} {o : Option (List Item)} {R} (hp : flatP [p] = pre) (hl : 1 ≤ pre.length) (h : Says (acc ++ [p]) o R) : Says acc (o.map (pre ++ ·)) R := by
  cases R with
  | inl x => obtain ⟨h1, h2⟩ := h; subst h1; exact ⟨rfl, h2⟩
  | inr x =>
    obtain ⟨ps, its', h1, h2, h3, h4⟩ := h
    subst h1
    refine ⟨p :: ps, pre ++ its', rfl, by rw [h2]; simp, ?_, ?_⟩
    · rw [show p :: ps = [p] ++ ps from rfl, flatP_app, hp, h3]
    · simp only [List.length_cons, List.length_append]; omega

set_option maxHeartbeats 1000000 in
theorem f29l : ∀ (d : Nat) (s : ByteArray) (acc : List Piece), s.size ≤ d → s.size ≤ 1000000 → acc.length + s.size ≤ 1000000 →
    ∃ R, n_29l4 (s, acc, ()) = some R ∧ Says acc (items s.data.toList) R := by
  intro d
  induction d with
  | zero =>
    intro s acc hd hs ha
    have hnil : s.data.toList = [] := List.eq_nil_of_length_eq_zero (by rw [ba_size]; omega)
    have he : s = ByteArray.mk #[] := ba_ext hnil
    refine ⟨.inr (acc, ()), ?_, [], [], ?_, by simp, rfl, Nat.le_refl _⟩
    · rw [n_29l4]
      simp only [ba_beq]
      rw [decide_eq_true he]; rfl
    · rw [hnil, items_nil]
  | succ d ih =>
    intro s acc hd hs ha
    by_cases hz : s.size = 0
    · have hnil : s.data.toList = [] := List.eq_nil_of_length_eq_zero (by rw [ba_size]; omega)
      have he : s = ByteArray.mk #[] := ba_ext hnil
      refine ⟨.inr (acc, ()), ?_, [], [], ?_, by simp, rfl, Nat.le_refl _⟩
      · rw [n_29l4]
        simp only [ba_beq]
        rw [decide_eq_true he]; rfl
      · rw [hnil, items_nil]
    have hne : s ≠ ByteArray.mk #[] := fun h => by subst h; exact hz rfl
    have hlen := ba_size s
    have hfb := fb_le s.data.toList
    have hx1 : (if decide ((if fb s.data.toList < s.size then (fb s.data.toList : Int) else -1) < 0) = true then
          some ((s, (↑s.size : Int), acc, ()))
        else some ((s, (if fb s.data.toList < s.size then (fb s.data.toList : Int) else -1), acc, ()))) = some (s, (fb s.data.toList : Int), acc, ()) := by
      by_cases h : fb s.data.toList < s.size
      · rw [if_pos h, if_neg (by simp)]
      · rw [if_neg h, if_pos (by decide), show s.size = fb s.data.toList by omega]
    have start : n_29l4 (s, acc, ()) = n_29l4 (s, acc, ()) := rfl
    conv at start => rhs; rw [n_29l4]
    simp only [ba_beq] at start
    rw [decide_eq_false hne, f56 hs] at start
    simp only [Bool.not_false, if_true, Option.bind_eq_bind, Option.bind_some] at start
    rw [hx1] at start
    simp only [Option.bind_some] at start
    rw [start]
    have e0 : Int.toNat 0 = 0 := rfl
    have e1 : Int.toNat 1 = 1 := rfl
    have e2 : Int.toNat 2 = 2 := rfl
    have hsplit := items_fb s.data.toList
    by_cases hpos : 0 < fb s.data.toList
    · rw [if_pos (by simp; omega), if_pos ⟨by omega, by omega, by omega⟩, if_pos (by simp only [List.length_singleton]; omega), if_pos ⟨by omega, by omega, by omega⟩, e0, Int.toNat_natCast, Int.toNat_natCast]
      have hd1 : (s.extract (fb s.data.toList) s.size).data.toList = s.data.toList.drop (fb s.data.toList) := by rw [ba_extract, List.take_of_length_le (by omega)]
      have hs1 : (s.extract (fb s.data.toList) s.size).size = s.size - fb s.data.toList := by rw [← ba_size, hd1, List.length_drop, ba_size]
      obtain ⟨R, r1, r2⟩ := ih (s.extract (fb s.data.toList) s.size) (acc ++ [Piece.mk (s.extract 0 (fb s.data.toList)) 0 0 0]) (by omega) (by omega) (by rw [List.length_append, List.length_singleton]; omega)
      refine ⟨R, r1, ?_⟩
      rw [hsplit]
      rw [hd1] at r2
      refine r2.push (its := []) ?_ ?_
      · unfold flatP
        simp only [List.flatMap_cons, List.flatMap_nil, if_true, List.append_nil]
        rw [ba_extract, List.drop_zero]
      · rw [List.length_map, List.length_take]; omega
    · have hf0 : fb s.data.toList = 0 := by omega
      obtain ⟨x, hx, hx2⟩ := ba_byt (show 0 < s.size by omega)
      have hcons : s.data.toList = s.data.toList.getD 0 0 :: s.data.toList.drop 1 := by
        have := drop_byt (show 0 < s.size by omega)
        rwa [List.drop_zero] at this
      have hbr : brace (s.data.toList.getD 0 0) = true := by
        have := fb_at s.data.toList (by omega)
        rwa [hf0] at this
      have hbb := (brace_byt s.data.toList 0).mp hbr
      have hb123 := byt_eq s.data.toList 0 123
      have hb125 := byt_eq s.data.toList 0 125
      rw [show ((123 : UInt8).toNat : Int) = 123 from rfl] at hb123
      rw [show ((125 : UInt8).toNat : Int) = 125 from rfl] at hb125
      rw [if_neg (by rw [hf0]; simp)]
      have hpre : ∀ b : UInt8, [b, b].isPrefixOf s.data.toList = decide (s.data.toList.getD 0 0 = b ∧ (s.data.toList.drop 1).head? = some b) := by
        intro b
        conv => lhs; rw [hcons]
        simp only [List.isPrefixOf]
        cases hq : s.data.toList.drop 1 with
        | nil => simp
        | cons y r =>
          simp only [List.isPrefixOf, Bool.and_true, List.head?_cons, Option.some.injEq]
          rw [Bool.eq_iff_iff, Bool.and_eq_true, beq_iff_eq, beq_iff_eq, decide_eq_true_iff]
          constructor <;> rintro ⟨h1, h2⟩ <;> exact ⟨h1.symm, h2.symm⟩
      have hdbl : ((n_57 (s, ByteArray.mk #[(123 : UInt8), (123 : UInt8)], ())).bind fun x3 =>
          if x3.fst = true then
            some ((s, true, acc, ()))
          else (n_57 (s, ByteArray.mk #[(125 : UInt8), (125 : UInt8)], ())).bind fun x4 =>
          some ((s, x4.fst, acc, ()))) = some (s, decide ((s.data.toList.drop 1).head? = some (s.data.toList.getD 0 0)), acc, ()) := by
        rw [f57, f57]
        simp only [Option.bind_some]
        show (if [123, 123].isPrefixOf s.data.toList = true then _ else some (s, [125, 125].isPrefixOf s.data.toList, acc, ())) = _
        rw [hpre 123, hpre 125]
        rcases hbb with h | h
        · rw [hb123.mp h]
          have h3 : decide ((123 : UInt8) = 125 ∧ (s.data.toList.drop 1).head? = some 125) = false := decide_eq_false fun h => by have := h.1; revert this; decide
          by_cases hq : (s.data.toList.drop 1).head? = some 123
          · rw [if_pos (decide_eq_true ⟨rfl, hq⟩), decide_eq_true hq]
          · rw [if_neg (by rw [decide_eq_false (fun h => hq h.2)]; decide), decide_eq_false hq, h3]
        · rw [hb125.mp h]
          have h3 : decide ((125 : UInt8) = 123 ∧ (s.data.toList.drop 1).head? = some 123) = false := decide_eq_false fun h => by have := h.1; revert this; decide
          rw [h3, if_neg (by decide)]
          congr 3
          rw [Bool.eq_iff_iff, decide_eq_true_iff, decide_eq_true_iff]
          exact ⟨fun h => h.2, fun h => ⟨rfl, h⟩⟩
      rw [hdbl]
      simp only [Option.bind_some]
      have hI : items s.data.toList = if (s.data.toList.drop 1).head? = some (s.data.toList.getD 0 0) then (items (s.data.toList.drop 1).tail).map (Item.lit (s.data.toList.getD 0 0) :: ·)
          else if s.data.toList.getD 0 0 = 125 then none
          else match fieldS (s.data.toList.drop 1) with
            | none => none
            | some (c, sd, w, k) => (items ((s.data.toList.drop 1).drop k)).map (Item.fld c sd w :: ·) := by
        conv => lhs; rw [hcons]
        rw [items_cons, if_neg (by rw [hbr]; decide)]
        all_goals rfl
      rw [hI]
      by_cases hd2 : (s.data.toList.drop 1).head? = some (s.data.toList.getD 0 0)
      · have h1 := ((head_drop (s := s) (i := 1) _).mp hd2).1
        rw [if_pos (decide_eq_true hd2), if_pos hd2, if_pos ⟨by omega, by omega, by omega⟩, if_pos (by simp only [List.length_singleton]; omega), if_pos ⟨by omega, by omega, by omega⟩, e0, e1, e2, Int.toNat_natCast]
        have hdd : (s.extract 2 s.size).data.toList = s.data.toList.drop 2 := by rw [ba_extract, List.take_of_length_le (by omega)]
        have hss : (s.extract 2 s.size).size = s.size - 2 := by rw [← ba_size, hdd, List.length_drop, ba_size]
        obtain ⟨R, r1, r2⟩ := ih (s.extract 2 s.size) (acc ++ [Piece.mk (s.extract 0 1) 0 0 0]) (by omega) (by omega) (by rw [List.length_append, List.length_singleton]; omega)
        refine ⟨R, r1, ?_⟩
        rw [hdd] at r2
        rw [List.tail_drop]
        refine r2.push (its := []) (pre := [Item.lit (s.data.toList.getD 0 0)]) ?_ (Nat.le_refl _)
        unfold flatP
        simp only [List.flatMap_cons, List.flatMap_nil, if_true, List.append_nil]
        have := ext1 (show 0 < s.size by omega)
        rw [Nat.zero_add] at this
        rw [this]; rfl
      · rw [if_neg (by rw [decide_eq_false hd2]; decide), if_neg hd2, if_pos ⟨by omega, by omega, by omega⟩, e1, Int.toNat_natCast, f58 (by rw [tail_size]; omega)]
        have hdd : (s.extract 1 s.size).data.toList = s.data.toList.drop 1 := by rw [ba_extract, List.take_of_length_le (by omega)]
        rw [hdd]
        simp only [Option.bind_some]
        cases hf : fieldS (s.data.toList.drop 1) with
        | none =>
          refine ⟨.inl ([], 2, ()), rfl, ?_, rfl⟩
          simp only [ite_self]
        | some q =>
          obtain ⟨c, sd, w, k⟩ := q
          obtain ⟨k1, k2, k3, k4, k5, k6⟩ := fieldS_le hf
          rw [List.length_drop, ba_size] at k2
          simp only [r58]
          rw [e0, hx]
          simp only [Bool.not_true, Bool.false_eq_true, if_false, Option.bind_some, hx2]
          by_cases h125 : byt s.data.toList 0 = 125
          · rw [if_pos (by rw [h125]; rfl), if_pos (hb125.mp h125)]
            exact ⟨_, rfl, rfl, rfl⟩
          · rw [if_neg (by simpa using h125), if_neg (fun h => h125 (hb125.mpr h)), if_pos (by simp only [List.length_singleton]; omega), wrap64 (x := 1 + (k : Int)) (by omega) (by omega), show (1 : Int) + (k : Int) = ((1 + k : Nat) : Int) by omega, if_pos ⟨by omega, by omega, by omega⟩, Int.toNat_natCast]
            have hd3 : (s.extract (1 + k) s.size).data.toList = s.data.toList.drop (1 + k) := by rw [ba_extract, List.take_of_length_le (by omega)]
            have hs3 : (s.extract (1 + k) s.size).size = s.size - (1 + k) := by rw [← ba_size, hd3, List.length_drop, ba_size]
            obtain ⟨R, r1, r2⟩ := ih (s.extract (1 + k) s.size) (acc ++ [Piece.mk (ByteArray.mk #[]) c sd w]) (by omega) (by omega) (by rw [List.length_append, List.length_singleton]; omega)
            refine ⟨R, r1, ?_⟩
            rw [hd3] at r2
            rw [List.drop_drop]
            refine r2.push (its := []) (pre := [Item.fld c sd w]) ?_ (Nat.le_refl _)
            unfold flatP
            simp only [List.flatMap_cons, List.flatMap_nil, List.append_nil]
            rw [if_neg]
            intro h0
            try simp only at h0
            rw [h0] at k3
            revert k3
            decide

theorem f29 (s : ByteArray) : (s.size > 4096 → n_29 (s, ()) = some ([], 3, ())) ∧ (s.size ≤ 4096 → items s.data.toList = none → n_29 (s, ()) = some ([], 2, ())) ∧
    (s.size ≤ 4096 → ∀ its, items s.data.toList = some its → ∃ ps, n_29 (s, ()) = some (ps, 0, ()) ∧ flatP ps = its ∧ ps.length ≤ its.length) := by
  have key : s.size ≤ 4096 → ∃ R, n_29l4 (s, [], ()) = some R ∧ Says [] (items s.data.toList) R := fun h => f29l s.size s [] (Nat.le_refl _) (by omega) (by simp; omega)
  refine ⟨fun h => ?_, fun h hi => ?_, fun h its hi => ?_⟩
  · unfold n_29; simp only; rw [if_pos (by simp; omega)]
  · obtain ⟨R, r1, r2⟩ := key h
    unfold n_29
    simp only
    rw [if_neg (by simp; omega), r1]
    cases R with
    | inl x => obtain ⟨_, rfl⟩ := r2; rfl
    | inr x => obtain ⟨ps, its', h1, _⟩ := r2; rw [hi] at h1; cases h1
  · obtain ⟨R, r1, r2⟩ := key h
    unfold n_29
    simp only
    rw [if_neg (by simp; omega), r1]
    cases R with
    | inl x => obtain ⟨h1, _⟩ := r2; rw [hi] at h1; cases h1
    | inr x =>
      obtain ⟨ps, its', h1, h2, h3, h4⟩ := r2
      rw [hi] at h1; cases h1
      refine ⟨ps, ?_, h3, h4⟩
      show some (x.1, 0, ()) = _
      rw [h2]; rfl

/-- a field as the parser hands it out -/
def itOk : Item → Prop
  | .lit _ => True
  | .fld c sd w => c ∈ letters ∧ 0 ≤ w ∧ w ≤ 99 ∧ (sd = 0 ∨ side sd = true)

theorem itemsF_ok : ∀ (n : Nat) (l : List UInt8) (its : List Item), itemsF n l = some its → its.length ≤ l.length ∧ ∀ it ∈ its, itOk it
  | _, [], its, h => by
    rw [itemsF] at h; cases h
    exact ⟨Nat.le_refl _, fun it hit => by cases hit⟩
  | 0, _ :: _, its, h => by rw [itemsF] at h; cases h
  | n + 1, b :: r, its, h => by
    rw [itemsF] at h
    have one : ∀ (l' : List UInt8) (it : Item), l'.length ≤ r.length → itOk it → (itemsF n l').map (it :: ·) = some its → its.length ≤ (b :: r).length ∧ ∀ it ∈ its, itOk it := by
      intro l' it hl hit h
      cases hh : itemsF n l' with
      | none => rw [hh] at h; cases h
      | some js =>
        rw [hh] at h; cases h
        obtain ⟨h1, h2⟩ := itemsF_ok n l' js hh
        refine ⟨by simp only [List.length_cons]; omega, fun x hx => ?_⟩
        rcases List.mem_cons.mp hx with rfl | hx
        · exact hit
        · exact h2 x hx
    split at h
    · exact one _ (.lit b) (Nat.le_refl _) trivial h
    · split at h
      · exact one _ (.lit b) (by rw [List.length_tail]; omega) trivial h
      · split at h
        · cases h
        · split at h
          · cases h
          · rename_i c sd w k hf
            obtain ⟨k1, k2, k3, k4, k5, k6⟩ := fieldS_le hf
            exact one _ (.fld c sd w) (by rw [List.length_drop]; omega) (show itOk (.fld c sd w) from ⟨k3, k4, k5, k6⟩) h

theorem items_ok {l : List UInt8} {its : List Item} (h : items l = some its) : its.length ≤ l.length ∧ ∀ it ∈ its, itOk it := itemsF_ok _ _ _ h

/-- the letters of the fields -/
def lets : List Item → List Int
  | [] => []
  | .lit _ :: r => lets r
  | .fld c _ _ :: r => c :: lets r
theorem lets_app : ∀ a b : List Item, lets (a ++ b) = lets a ++ lets b
  | [], b => rfl
  | .lit _ :: r, b => lets_app r b
  | .fld c _ _ :: r, b => by show c :: lets (r ++ b) = c :: (lets r ++ lets b); rw [lets_app r b]
theorem lets_lits : ∀ l : List UInt8, lets (l.map Item.lit) = []
  | [] => rfl
  | _ :: r => lets_lits r

/-! ### args -/
noncomputable def okA (a : Tag) : Bool := match n_30 (a, ()) with
  | some (b, _) => b
  | none => false
theorem f30' (a : Tag) : n_30 (a, ()) = some (okA a, ()) ∧ n_44 (a, ()) = some (okA a, ()) ∧ (okA a = true → ArgOk a) := by
  obtain ⟨b, h1, h2, h3⟩ := f30 a
  have : okA a = b := by unfold okA; rw [h1]
  rw [this]; exact ⟨h1, h2, h3⟩

/-! ### a field's text -/
noncomputable def sideOf (sd : Int) (a : Tag) : Int := if sd = 0 then (if a.kind = 3 then 62 else 60) else sd
noncomputable def cellS (c sd w : Int) (a : Tag) : Option (List UInt8) := match n_32 (c, a, ()) with
  | some (t, true, _) => some (padS t (w - (pts t).length).toNat (sideOf sd a)).data.toList
  | _ => none

theorem padS_size (s : ByteArray) (b : Nat) (c : Int) : (padS s b c).size ≤ s.size + b := by
  unfold padS
  by_cases h : c = 60
  · rw [if_pos h, add_size, sp_size]; omega
  · rw [if_neg h]
    by_cases h2 : c = 94
    · rw [if_pos h2, add_size, add_size, sp_size, sp_size]; omega
    · rw [if_neg h2, add_size, sp_size]; omega

theorem padS_right (s : ByteArray) (b : Nat) {c d : Int} (h1 : c ≠ 60) (h2 : c ≠ 94) (h3 : d ≠ 60) (h4 : d ≠ 94) : padS s b c = padS s b d := by
  unfold padS
  rw [if_neg h1, if_neg h2, if_neg h3, if_neg h4]

inductive Run (c sd w : Int) (a : Tag) : Prop
  | bad (t : ByteArray) (h0 : cellS c sd w a = none) (h1 : n_45 (c, a, ()) = some (false, ())) (h2 : n_32 (c, a, ()) = some (t, false, ()))
  | good (t p : ByteArray) (sd' : Int) (h0 : cellS c sd w a = some p.data.toList) (h1 : n_45 (c, a, ()) = some (true, ())) (h2 : n_32 (c, a, ()) = some (t, true, ())) (h3 : n_46 (c, a, ()) = some (t, sd', ()))
      (h4 : n_33 (t, w, (if sd = 0 then (if a.kind = 3 then 0 else 60) else sd), ()) = some (p, ())) (h5 : n_41 (t, w, (if sd = 0 then sd' else sd), ()) = some (p, ())) (h6 : p.size ≤ 5000)

theorem run {c sd w : Int} {a : Tag} (hc : c ∈ letters) (ha : ArgOk a) (hw : 0 ≤ w ∧ w ≤ 99) (hsd : sd = 0 ∨ side sd = true) : Run c sd w a := by
  rcases cell c hc ha with ⟨t, h1, h2⟩ | ⟨t, sd', h1, h2, h3, h4, h5⟩
  · exact .bad t (by unfold cellS; rw [h2]) h1 h2
  · have hsz := (code0 h4).1
    have hp := padS_size t (w - (pts t).length).toNat (sideOf sd a)
    refine .good t (padS t (w - (pts t).length).toNat (sideOf sd a)) sd' (by unfold cellS; rw [h2]) h1 h2 h3 ?_ ?_ (by omega)
    · rw [f33 h4 hw]
      unfold sideOf
      by_cases h0 : sd = 0
      · rw [if_pos h0, if_pos h0]
        by_cases hk : a.kind = 3
        · rw [if_pos hk, if_pos hk, padS_right t _ (c := 0) (d := 62) (by decide) (by decide) (by decide) (by decide)]
        · rw [if_neg hk, if_neg hk]
      · rw [if_neg h0, if_neg h0]
    · have hs2 : side (if sd = 0 then sd' else sd) = true := by
        by_cases h0 : sd = 0
        · rw [if_pos h0]
          rcases h5 with ⟨h, _⟩ | ⟨h, _⟩ <;> rw [h] <;> decide
        · rw [if_neg h0]; exact hsd.resolve_left h0
      rw [f41 h4 hw hs2]
      unfold sideOf
      by_cases h0 : sd = 0
      · rw [if_pos h0, if_pos h0]
        rcases h5 with ⟨h, hk⟩ | ⟨h, hk⟩
        · rw [h, if_neg hk]
        · rw [h, if_pos hk]
      · rw [if_neg h0, if_neg h0]

/-! ### the text -/
noncomputable def out : List Item → List Tag → Option (List UInt8)
  | [], _ => some []
  | .lit b :: r, gs => (out r gs).map (b :: ·)
  | .fld c sd w :: r, a :: gs => match cellS c sd w a with
    | none => none
    | some t => (out r gs).map (t ++ ·)
  | .fld _ _ _ :: _, [] => none

theorem out_lits : ∀ (l : List UInt8) (r : List Item) (gs : List Tag), out (l.map Item.lit ++ r) gs = (out r gs).map (l ++ ·)
  | [], r, gs => by simp
  | b :: l, r, gs => by
    rw [List.map_cons, List.cons_append, out, out_lits l r gs, Option.map_map]
    rfl

theorem out_app : ∀ (a b : List Item) (gs bs : List Tag) (t u : List UInt8), (lets a).length = gs.length → out a gs = some t → out b bs = some u → out (a ++ b) (gs ++ bs) = some (t ++ u)
  | [], b, [], bs, t, u, _, h1, h2 => by
    rw [out] at h1; cases h1; exact h2
  | [], b, _ :: _, bs, t, u, hl, _, _ => by simp [lets] at hl
  | .lit x :: a, b, gs, bs, t, u, hl, h1, h2 => by
    rw [out] at h1
    cases h3 : out a gs with
    | none => rw [h3] at h1; cases h1
    | some t' =>
      rw [h3] at h1; cases h1
      rw [List.cons_append, out, out_app a b gs bs t' u hl h3 h2]
      rfl
  | .fld c sd w :: a, b, [], bs, t, u, hl, _, _ => by simp [lets] at hl
  | .fld c sd w :: a, b, y :: gs, bs, t, u, hl, h1, h2 => by
    rw [out] at h1
    cases hc : cellS c sd w y with
    | none => rw [hc] at h1; cases h1
    | some p =>
      rw [hc] at h1
      cases h3 : out a gs with
      | none => rw [h3] at h1; cases h1
      | some t' =>
        rw [h3] at h1; cases h1
        rw [List.cons_append, List.cons_append, out, hc, out_app a b gs bs t' u (by simpa [lets] using hl) h3 h2]
        simp

noncomputable def fmtR (s : ByteArray) (gs : List Tag) : ByteArray × Int × Unit :=
  if s.size > 4096 then (ByteArray.mk #[], 3, ())
  else match items s.data.toList with
    | none => (ByteArray.mk #[], 2, ())
    | some its =>
      if (lets its).length ≠ gs.length then (ByteArray.mk #[], 10, ())
      else if gs.all okA = false then (ByteArray.mk #[], 1, ())
      else match out its gs with
        | none => (ByteArray.mk #[], 6, ())
        | some t => if t.length > 16384 then (ByteArray.mk #[], 3, ()) else (⟨t.toArray⟩, 0, ())

theorem dropc {α : Type} {ns : List α} {i : Nat} {x : α} {r : List α} (h : ns.drop i = x :: r) : i < ns.length ∧ ns[i]? = some x ∧ ns.drop (i + 1) = r := by
  have h1 : i < ns.length := by
    rcases Nat.lt_or_ge i ns.length with h2 | h2
    · exact h2
    · rw [List.drop_eq_nil_of_le h2] at h; cases h
  rw [List.drop_eq_getElem_cons h1] at h
  injection h with h2 h3
  exact ⟨h1, by rw [List.getElem?_eq_getElem h1, h2], h3⟩
theorem dropn {α : Type} {ns : List α} {i : Nat} (h : ns.drop i = []) (hi : i ≤ ns.length) : i = ns.length := by
  have := congrArg List.length h
  rw [List.length_drop, List.length_nil] at this; omega
theorem next64 {i : Nat} (h : i ≤ 9223372036854775806) : IntKind.i64.wrap ((i : Int) + 1) = ((i + 1 : Nat) : Int) := by rw [wrap64 (by omega) (by omega)]; omega

theorem flatP_cons (p : Piece) (r : List Piece) : flatP (p :: r) = flatP [p] ++ flatP r := flatP_app [p] r
theorem letsP (p : Piece) : lets (flatP [p]) = if p.letter = 0 then [] else [p.letter] := by
  unfold flatP
  simp only [List.flatMap_cons, List.flatMap_nil, List.append_nil]
  by_cases h : p.letter = 0
  · rw [if_pos h, if_pos h, lets_lits]
  · rw [if_neg h, if_neg h]; rfl

theorem f10l6 {ps qs : List Piece} {gs : List Tag} (hp : ps.length ≤ 1000000) : ∀ (r : List Piece) (i k : Nat), ps.drop i = r → i ≤ ps.length → k ≤ i →
    n_10l6 (gs, qs, (k : Int), ps, (ps.length : Int), (i : Int), ()) = some (gs, qs, ((k + (lets (flatP r)).length : Nat) : Int), ())
  | [], i, k, hd, hi, hk => by
    obtain rfl := dropn hd hi
    rw [n_10l6]
    simp only
    rw [if_neg (by simp)]
    rfl
  | x :: r, i, k, hd, hi, hk => by
    obtain ⟨h1, h2, h3⟩ := dropc hd
    rw [n_10l6]
    simp only
    rw [if_pos (by simpa using h1), if_pos (Int.natCast_nonneg _), Int.toNat_natCast, h2, flatP_cons, lets_app, letsP]
    simp only [Option.bind_eq_bind, Option.bind_some]
    by_cases h : x.letter = 0
    · rw [if_neg (by simp [h]), if_pos h]
      simp only [Option.bind_some]
      rw [next64 (by omega), f10l6 hp r (i + 1) k h3 (by omega) (by omega)]
      rfl
    · rw [if_pos (by simpa using h), if_neg h, next64 (by omega)]
      simp only [Option.bind_some]
      rw [next64 (by omega), f10l6 hp r (i + 1) (k + 1) h3 (by omega) (by omega)]
      simp only [List.length_append, List.length_singleton]
      rw [Nat.add_assoc]

theorem f10l14 {gs gs' : List Tag} {ps : List Piece} (hg : gs.length ≤ 9223372036854775807) : ∀ (r : List Tag) (i : Nat), gs.drop i = r → i ≤ gs.length →
    n_10l14 (gs', ps, gs, (gs.length : Int), (i : Int), ()) = some (if r.all okA = false then .inl (ByteArray.mk #[], 1, ()) else .inr (gs', ps, ()))
  | [], i, hd, hi => by
    obtain rfl := dropn hd hi
    rw [n_10l14]
    simp only
    rw [if_neg (by simp)]
    rfl
  | x :: r, i, hd, hi => by
    obtain ⟨h1, h2, h3⟩ := dropc hd
    rw [n_10l14]
    simp only
    rw [if_pos (by simpa using h1), if_pos (Int.natCast_nonneg _), Int.toNat_natCast, h2]
    simp only [Option.bind_eq_bind, Option.bind_some]
    rw [(f30' x).1]
    simp only [Option.bind_some]
    by_cases h : okA x = true
    · have hall : (x :: r).all okA = r.all okA := by rw [List.all_cons, h, Bool.true_and]
      simp only [h, hall, Bool.not_true, Bool.false_eq_true, if_false]
      rw [next64 (by omega)]
      exact f10l14 hg r (i + 1) h3 (by omega)
    · have h' : okA x = false := by simpa using h
      have hall : (x :: r).all okA = false := by rw [List.all_cons, h', Bool.false_and]
      simp only [h', hall, Bool.not_false, if_true]

theorem f13l8 {gs : List Tag} {ps qs : List Part} (hg : gs.length ≤ 9223372036854775807) : ∀ (r : List Tag) (i : Nat), gs.drop i = r → i ≤ gs.length →
    n_13l8 (gs, ps, qs, (i : Int), ()) = some (if r.all okA = false then .inl (ByteArray.mk #[], 1, ()) else .inr (gs, ps, qs, ()))
  | [], i, hd, hi => by
    obtain rfl := dropn hd hi
    rw [n_13l8]
    simp only
    rw [if_neg (by simp)]
    rfl
  | x :: r, i, hd, hi => by
    obtain ⟨h1, h2, h3⟩ := dropc hd
    rw [n_13l8]
    simp only
    rw [if_pos (by simpa using h1), if_pos (Int.natCast_nonneg _), Int.toNat_natCast, h2]
    simp only [Option.bind_eq_bind, Option.bind_some]
    rw [(f30' x).2.1]
    simp only [Option.bind_some]
    by_cases h : okA x = true
    · have hall : (x :: r).all okA = r.all okA := by rw [List.all_cons, h, Bool.true_and]
      simp only [h, hall, Bool.not_true, Bool.false_eq_true, if_false]
      rw [next64 (by omega)]
      exact f13l8 hg r (i + 1) h3 (by omega)
    · have h' : okA x = false := by simpa using h
      have hall : (x :: r).all okA = false := by rw [List.all_cons, h', Bool.false_and]
      simp only [h', hall, Bool.not_false, if_true]

theorem f31 {t : ByteArray} {b : Bool} {xs : List Int} (h : xs.length + t.size ≤ 4294967296) : n_31s9b49 (t, b, xs, ()) = some ((t.size : Int), true, xs ++ Bs.ints t, ()) := by
  unfold n_31s9b49 n_59s4b14
  simp only [Option.bind_eq_bind, Option.bind_some]
  rw [if_pos h]

def nums (l : List UInt8) : List Int := l.map fun b => (b.toNat : Int)
theorem nums_app (a b : List UInt8) : nums (a ++ b) = nums a ++ nums b := List.map_append
theorem ints_nums (t : ByteArray) : Bs.ints t = nums t.data.toList := rfl

theorem f10l21 {ps : List Piece} (hp : ps.length ≤ 1000000) : ∀ (r : List Piece) (i : Nat) (gs : List Tag) (b : Bool) (acc : List Int), ps.drop i = r → i ≤ ps.length →
    (∀ a ∈ gs, okA a = true) → (∀ it ∈ flatP r, itOk it) → (lets (flatP r)).length = gs.length → acc.length + 5000 * (flatP r).length ≤ 4000000000 →
    ∃ b', n_10l21 (gs, ps, (ps.length : Int), (i : Int), b, acc, ()) = some (match out (flatP r) gs with | none => .inl (ByteArray.mk #[], 6, ()) | some t => .inr (b', acc ++ nums t, ()))
  | [], i, gs, b, acc, hd, hi, hg, hit, hl, ha => by
    obtain rfl := dropn hd hi
    refine ⟨b, ?_⟩
    rw [n_10l21]
    simp only
    rw [if_neg (by simp)]
    have e : flatP ([] : List Piece) = [] := rfl
    have e2 : out [] gs = some [] := by rw [out]
    rw [e, e2]
    simp [nums]
  | x :: r, i, gs, b, acc, hd, hi, hg, hit, hl, ha => by
    obtain ⟨h1, h2, h3⟩ := dropc hd
    rw [flatP_cons] at hit hl ha
    rw [List.length_append] at ha
    rw [lets_app, letsP, List.length_append] at hl
    rw [n_10l21, flatP_cons]
    simp only
    rw [if_pos (by simpa using h1), if_pos (Int.natCast_nonneg _), Int.toNat_natCast, h2]
    simp only [Option.bind_eq_bind, Option.bind_some]
    have hit' : ∀ it ∈ flatP r, itOk it := fun it h => hit it (List.mem_append_right _ h)
    by_cases h : x.letter = 0
    · have hf : flatP [x] = x.text.data.toList.map Item.lit := by
        unfold flatP
        simp only [List.flatMap_cons, List.flatMap_nil, List.append_nil]
        rw [if_pos h]
      rw [if_pos h] at hl
      rw [hf, List.length_map, ba_size] at ha
      rw [if_pos (by simpa using h), f31 (by omega), hf, out_lits]
      simp only [Option.bind_some]
      rw [next64 (by omega)]
      obtain ⟨b', hb⟩ := f10l21 hp r (i + 1) gs true (acc ++ Bs.ints x.text) h3 (by omega) hg hit' (by simpa using hl) (by rw [List.length_append]; unfold Bs.ints; rw [List.length_map, ba_size]; omega)
      refine ⟨b', ?_⟩
      rw [hb]
      cases out (flatP r) gs with
      | none => rfl
      | some t =>
        simp only [Option.map_some]
        rw [ints_nums, nums_app, List.append_assoc]
    · have hf : flatP [x] = [Item.fld x.letter x.side x.width] := by
        unfold flatP
        simp only [List.flatMap_cons, List.flatMap_nil, List.append_nil]
        rw [if_neg h]
      rw [if_neg h] at hl
      rw [hf] at ha hit
      obtain ⟨q1, q2, q3, q4⟩ : itOk (Item.fld x.letter x.side x.width) := hit _ (List.mem_append_left _ (List.mem_singleton.mpr rfl))
      cases gs with
      | nil => simp at hl
      | cons a gs =>
        have hao := hg a (List.mem_cons_self ..)
        have hlen : (lets (flatP r)).length = gs.length := by simp only [List.length_cons, List.length_nil] at hl; omega
        rw [if_neg (by simpa using h), hf, show Int.toNat 0 = 0 from rfl, show Int.toNat 1 = 1 from rfl]
        simp only [List.getElem?_cons_zero, Option.bind_some, List.cons_append, List.nil_append]
        rw [out]
        rcases run q1 ((f30' a).2.2 hao) ⟨q2, q3⟩ q4 with ⟨t, r0, r1, r2⟩ | ⟨t, p, sd', r0, r1, r2, r3, r4, r5, r6⟩
        · rw [r0, r2]
          exact ⟨b, rfl⟩
        · rw [r0, r2]
          simp only [Option.bind_some, Bool.not_true, Bool.false_eq_true, if_false]
          have hside : ((if (x.side == 0) = true then
                some ((a :: gs, t, x.side, ps, (↑ps.length : Int), (i : Int), a.kind != 3, b, x, acc, ()))
              else some ((a :: gs, t, x.side, ps, (↑ps.length : Int), (i : Int), false, b, x, acc, ()))).bind fun x4 =>
            if x4.snd.snd.snd.snd.snd.snd.fst = true then
              some ((x4.fst, x4.snd.fst, (60 : Int), x4.snd.snd.snd.fst, x4.snd.snd.snd.snd.fst, x4.snd.snd.snd.snd.snd.fst, x4.snd.snd.snd.snd.snd.snd.snd.fst, x4.snd.snd.snd.snd.snd.snd.snd.snd.fst, x4.snd.snd.snd.snd.snd.snd.snd.snd.snd.fst, ()))
            else some ((x4.fst, x4.snd.fst, x4.snd.snd.fst, x4.snd.snd.snd.fst, x4.snd.snd.snd.snd.fst, x4.snd.snd.snd.snd.snd.fst, x4.snd.snd.snd.snd.snd.snd.snd.fst, x4.snd.snd.snd.snd.snd.snd.snd.snd.fst, x4.snd.snd.snd.snd.snd.snd.snd.snd.snd.fst, ()))) =
              some (a :: gs, t, (if x.side = 0 then (if a.kind = 3 then 0 else 60) else x.side), ps, (↑ps.length : Int), (i : Int), b, x, acc, ()) := by
            by_cases h0 : x.side = 0
            · rw [if_pos (by simpa using h0), if_pos h0]
              by_cases hk : a.kind = 3
              · rw [if_pos hk, h0]; simp [hk]
              · rw [if_neg hk]; simp [hk]
            · rw [if_neg (by simpa using h0), if_neg h0]; rfl
          rw [hside]
          simp only [Option.bind_some]
          rw [if_pos (by simp only [List.length_cons]; omega), r4]
          simp only [Option.bind_some]
          simp only [List.length_singleton] at ha
          rw [f31 (by omega)]
          simp only [Option.bind_some]
          rw [next64 (by omega)]
          have hdr : List.drop 1 (List.take ((↑(a :: gs).length : Int)).toNat (a :: gs)) = gs := by simp
          rw [hdr]
          obtain ⟨b', hb⟩ := f10l21 hp r (i + 1) gs true (acc ++ Bs.ints p) h3 (by omega) (fun y hy => hg y (List.mem_cons_of_mem _ hy)) hit' hlen (by rw [List.length_append]; unfold Bs.ints; rw [List.length_map, ba_size]; omega)
          refine ⟨b', ?_⟩
          rw [hb]
          cases out (flatP r) gs with
          | none => rfl
          | some u =>
            simp only [Option.map_some]
            rw [ints_nums, nums_app, List.append_assoc]

theorem out_len : ∀ (its : List Item) (gs : List Tag) (t : List UInt8), (∀ a ∈ gs, okA a = true) → (∀ it ∈ its, itOk it) → out its gs = some t → t.length ≤ 5000 * its.length
  | [], _, t, _, _, h => by rw [out] at h; cases h; simp
  | .lit b :: r, gs, t, hg, hi, h => by
    rw [out] at h
    cases h2 : out r gs with
    | none => rw [h2] at h; cases h
    | some u =>
      rw [h2] at h; cases h
      have := out_len r gs u hg (fun it h => hi it (List.mem_cons_of_mem _ h)) h2
      simp only [List.length_cons]; omega
  | .fld c sd w :: r, [], t, _, _, h => by rw [out] at h; cases h
  | .fld c sd w :: r, a :: gs, t, hg, hi, h => by
    rw [out] at h
    obtain ⟨q1, q2, q3, q4⟩ : itOk (Item.fld c sd w) := hi _ (List.mem_cons_self ..)
    rcases run q1 ((f30' a).2.2 (hg a (List.mem_cons_self ..))) ⟨q2, q3⟩ q4 with ⟨t', r0, r1, r2⟩ | ⟨t', p, sd', r0, r1, r2, r3, r4, r5, r6⟩
    · rw [r0] at h; cases h
    · rw [r0] at h
      cases h2 : out r gs with
      | none => rw [h2] at h; cases h
      | some u =>
        rw [h2] at h; cases h
        have := out_len r gs u (fun y hy => hg y (List.mem_cons_of_mem _ hy)) (fun it h => hi it (List.mem_cons_of_mem _ h)) h2
        rw [List.length_append, ba_size]
        simp only [List.length_cons]; omega

theorem nums_len (l : List UInt8) : (nums l).length = l.length := List.length_map _
theorem bytes_nums (l : List UInt8) : Bs.bytes (nums l) = ⟨l.toArray⟩ := bytes_ints l

theorem f10 (s : ByteArray) {gs : List Tag} (hg : gs.length ≤ 9223372036854775807) : n_10 (s, gs, ()) = some (fmtR s gs) := by
  obtain ⟨g1, g2, g3⟩ := f29 s
  unfold n_10 fmtR
  simp only
  by_cases h : s.size > 4096
  · rw [if_pos h, g1 h]; rfl
  rw [if_neg h]
  cases hi : items s.data.toList with
  | none => rw [g2 (by omega) hi]; rfl
  | some its =>
    obtain ⟨ps, p1, p2, p3⟩ := g3 (by omega) its hi
    obtain ⟨i1, i2⟩ := items_ok hi
    rw [ba_size] at i1
    rw [p1]
    simp only [Option.bind_eq_bind, Option.bind_some, bne_self_eq_false, Bool.false_eq_true, if_false]
    have h6 := f10l6 (ps := ps) (qs := ps) (gs := gs) (by omega) ps 0 0 (by simp) (by omega) (by omega)
    rw [p2] at h6
    rw [show (0 : Int) = ((0 : Nat) : Int) from rfl, h6]
    simp only [Option.bind_some, Nat.zero_add]
    by_cases hl : (lets its).length = gs.length
    · rw [if_neg (by simp [hl]), if_neg (fun h => h hl), f10l14 hg gs 0 (by simp) (by omega)]
      by_cases ho : gs.all okA = false
      · rw [if_pos ho, if_pos ho]; rfl
      · rw [if_neg ho, if_neg ho]
        simp only [Option.bind_some]
        have hg2 : ∀ a ∈ gs, okA a = true := by
          have : gs.all okA = true := by simpa using ho
          exact List.all_eq_true.mp this
        obtain ⟨b', hb⟩ := f10l21 (ps := ps) (by omega) ps 0 gs false [] (by simp) (by omega) hg2 (by rw [p2]; exact i2) (by rw [p2]; exact hl) (by rw [p2]; simp; omega)
        rw [p2] at hb
        rw [hb]
        cases hout : out its gs with
        | none => rfl
        | some t =>
          have hlen := out_len its gs t hg2 i2 hout
          simp only [Option.bind_some, List.nil_append]
          unfold n_34s4b14
          simp only [Option.bind_some, nums_len]
          by_cases hz : t.length > 16384
          · rw [if_pos (by simp; omega), if_pos hz]
          · rw [if_neg (by simp; omega), if_neg hz, f35 (by rw [nums_len]; omega), bytes_nums]; rfl
    · rw [if_pos (by simp; omega), if_pos hl]

theorem letter_ne {c : Int} (h : c ∈ letters) : c ≠ 0 := by
  rintro rfl; revert h; decide

def fields (its : List Item) : List Part := (its.map partOf).filter fun p => p.letter != 0

theorem f43l {ps : List Part} (hp : ps.length ≤ 1000000) : ∀ (r : List Part) (i : Nat) (acc : List Part), ps.drop i = r → i ≤ ps.length → acc.length ≤ i →
    n_43l3 (ps, (i : Int), acc, ()) = some (acc ++ r.filter fun p => p.letter != 0, ())
  | [], i, acc, hd, hi, ha => by
    obtain rfl := dropn hd hi
    rw [n_43l3]
    simp only
    rw [if_neg (by simp)]
    simp
  | x :: r, i, acc, hd, hi, ha => by
    obtain ⟨h1, h2, h3⟩ := dropc hd
    rw [n_43l3]
    simp only
    rw [if_pos (by simpa using h1), if_pos (Int.natCast_nonneg _), Int.toNat_natCast, h2]
    simp only [Option.bind_eq_bind, Option.bind_some]
    by_cases h : (x.letter != 0) = true
    · rw [if_pos h]
      simp only [Int.natCast_nonneg, if_true, Option.bind_some]
      rw [if_pos (by simp only [List.length_singleton]; omega)]
      simp only [Option.bind_some]
      rw [next64 (by omega), f43l hp r (i + 1) _ h3 (by omega) (by rw [List.length_append, List.length_singleton]; omega), List.filter_cons_of_pos (by exact h)]
      simp
    · rw [if_neg h]
      simp only [Option.bind_some]
      rw [next64 (by omega), f43l hp r (i + 1) _ h3 (by omega) (by omega), List.filter_cons_of_neg (by exact h)]

theorem f43 {its : List Item} (hp : its.length ≤ 1000000) : n_43 (its.map partOf, ()) = some (fields its, ()) := by
  have := f43l (ps := its.map partOf) (by rw [List.length_map]; exact hp) _ 0 [] rfl (by omega) (by simp)
  unfold n_43
  simp only
  rw [show (0 : Int) = ((0 : Nat) : Int) from rfl, this]
  simp only [List.nil_append, List.drop_zero]
  rfl

theorem fields_lit (b : UInt8) (r : List Item) : fields (.lit b :: r) = fields r := by
  unfold fields
  rw [List.map_cons, List.filter_cons_of_neg (by simp [partOf])]
theorem fields_fld {c sd w : Int} (hc : c ∈ letters) (r : List Item) : fields (.fld c sd w :: r) = partOf (.fld c sd w) :: fields r := by
  unfold fields
  rw [List.map_cons, List.filter_cons_of_pos (by simpa [partOf] using letter_ne hc)]

theorem fields_lets : ∀ its : List Item, (∀ it ∈ its, itOk it) → (fields its).map (·.letter) = lets its
  | [], _ => rfl
  | .lit b :: r, h => by rw [fields_lit, fields_lets r fun it hi => h it (List.mem_cons_of_mem _ hi)]; rfl
  | .fld c sd w :: r, h => by
    obtain ⟨q1, _⟩ : itOk (.fld c sd w) := h _ (List.mem_cons_self ..)
    rw [fields_fld q1, List.map_cons, fields_lets r fun it hi => h it (List.mem_cons_of_mem _ hi)]; rfl

noncomputable def okL (c : Int) (a : Tag) : Bool := match n_45 (c, a, ()) with
  | some (b, _) => b
  | none => false
noncomputable def chkF : List Part → List Tag → Bool
  | f :: r, a :: gs => okL f.letter a && chkF r gs
  | _, _ => true

theorem okL_eq {c : Int} (hc : c ∈ letters) {a : Tag} (ha : ArgOk a) : n_45 (c, a, ()) = some (okL c a, ()) := by
  unfold okL
  rcases cell c hc ha with ⟨t, h1, h2⟩ | ⟨t, sd', h1, h2, h3, h4, h5⟩ <;> rw [h1]

theorem out_chk : ∀ (its : List Item) (gs : List Tag), (∀ it ∈ its, itOk it) → (∀ a ∈ gs, okA a = true) → (lets its).length = gs.length → (out its gs).isSome = chkF (fields its) gs
  | [], gs, _, _, _ => by rw [out]; rfl
  | .lit b :: r, gs, hi, hg, hl => by
    rw [out, fields_lit, ← out_chk r gs (fun it h => hi it (List.mem_cons_of_mem _ h)) hg hl]
    cases out r gs <;> rfl
  | .fld c sd w :: r, [], hi, hg, hl => by simp [lets] at hl
  | .fld c sd w :: r, a :: gs, hi, hg, hl => by
    obtain ⟨q1, q2, q3, q4⟩ : itOk (.fld c sd w) := hi _ (List.mem_cons_self ..)
    have ha := (f30' a).2.2 (hg a (List.mem_cons_self ..))
    have ih := out_chk r gs (fun it h => hi it (List.mem_cons_of_mem _ h)) (fun y hy => hg y (List.mem_cons_of_mem _ hy)) (by simpa [lets] using hl)
    rw [out, fields_fld q1]
    show _ = (okL c a && chkF (fields r) gs)
    have hk := okL_eq q1 ha
    rcases run q1 ha ⟨q2, q3⟩ q4 with ⟨t', r0, r1, r2⟩ | ⟨t', p, sd', r0, r1, r2, r3, r4, r5, r6⟩
    · rw [r1] at hk
      have : okL c a = false := by injection hk with hk; injection hk with hk _; exact hk.symm
      rw [r0, this]; rfl
    · rw [r1] at hk
      have : okL c a = true := by injection hk with hk; injection hk with hk _; exact hk.symm
      rw [r0, this, Bool.true_and, ← ih]
      cases out r gs <;> rfl

theorem f13l13 {gs : List Tag} {ps fs : List Part} (hg : gs.length ≤ 9223372036854775807) : ∀ (r : List Tag) (fr : List Part) (i : Nat), gs.drop i = r → fs.drop i = fr → i ≤ gs.length → fr.length = r.length →
    (∀ a ∈ r, okA a = true) → (∀ f ∈ fr, f.letter ∈ letters) → n_13l13 (gs, ps, fs, (i : Int), ()) = some (if chkF fr r = false then .inl (ByteArray.mk #[], 6, ()) else .inr (gs, ps, ()))
  | [], fr, i, hd, hf, hi, hl, ha, hc => by
    obtain rfl := dropn hd hi
    obtain rfl : fr = [] := List.eq_nil_of_length_eq_zero hl
    rw [n_13l13]
    simp only
    rw [if_neg (by simp)]
    rfl
  | x :: r, [], i, hd, hf, hi, hl, ha, hc => by simp at hl
  | x :: r, f :: fr, i, hd, hf, hi, hl, ha, hc => by
    obtain ⟨h1, h2, h3⟩ := dropc hd
    obtain ⟨h4, h5, h6⟩ := dropc hf
    rw [n_13l13]
    simp only
    rw [if_pos (by simpa using h1), if_pos (Int.natCast_nonneg _), Int.toNat_natCast, h5, h2]
    simp only [Option.bind_eq_bind, Option.bind_some, Int.natCast_nonneg, if_true]
    rw [okL_eq (hc f (List.mem_cons_self ..)) ((f30' x).2.2 (ha x (List.mem_cons_self ..)))]
    simp only [Option.bind_some]
    have ih := f13l13 (ps := ps) hg r fr (i + 1) h3 h6 (by omega) (by simpa using hl) (fun y hy => ha y (List.mem_cons_of_mem _ hy)) (fun y hy => hc y (List.mem_cons_of_mem _ hy))
    by_cases h : okL f.letter x = true
    · have hall : chkF (f :: fr) (x :: r) = chkF fr r := by show (okL f.letter x && chkF fr r) = _; rw [h, Bool.true_and]
      simp only [h, hall, Bool.not_true, Bool.false_eq_true, if_false]
      rw [next64 (by omega)]
      exact ih
    · have h' : okL f.letter x = false := by simpa using h
      have hall : chkF (f :: fr) (x :: r) = false := by show (okL f.letter x && chkF fr r) = _; rw [h', Bool.false_and]
      simp only [h', hall, Bool.not_false, if_true]

theorem f13l20 {gs : List Tag} {ps : List Part} (hp : ps.length ≤ 1000000) : ∀ (r : List Item) (i k : Nat) (as' : List Tag) (acc : List Int) (u : List UInt8), ps.drop i = r.map partOf → i ≤ ps.length → gs.drop k = as' → k ≤ i →
    (∀ a ∈ as', okA a = true) → (∀ it ∈ r, itOk it) → out r as' = some u → acc.length + 5000 * r.length ≤ 4000000000 →
    n_13l20 (gs, ps, (k : Int), (i : Int), acc, ()) = some (acc ++ nums u, ())
  | [], i, k, gr, acc, u, hd, hi, hk, hki, ha, hit, ho, hl => by
    obtain rfl := dropn hd hi
    rw [out] at ho; cases ho
    rw [n_13l20]
    simp only
    rw [if_neg (by simp)]
    simp [nums]
  | .lit b :: r, i, k, gr, acc, u, hd, hi, hk, hki, ha, hit, ho, hl => by
    rw [List.map_cons] at hd
    obtain ⟨h1, h2, h3⟩ := dropc hd
    rw [out] at ho
    simp only [List.length_cons] at hl
    cases h4 : out r gr with
    | none => rw [h4] at ho; cases ho
    | some u' =>
      rw [h4] at ho; cases ho
      rw [n_13l20]
      simp only
      rw [if_pos (by simpa using h1), if_pos (Int.natCast_nonneg _), Int.toNat_natCast, h2]
      simp only [Option.bind_eq_bind, Option.bind_some, Int.natCast_nonneg, if_true]
      rw [if_neg (by simp [partOf])]
      simp only [Option.bind_some]
      have hs : (partOf (.lit b)).text.size = 1 := rfl
      rw [hs, if_pos (by omega), next64 (by omega), f13l20 hp r (i + 1) k gr _ u' h3 (by omega) hk (by omega) ha (fun it h => hit it (List.mem_cons_of_mem _ h)) h4 (by
        have : (Bs.ints (partOf (.lit b)).text).length = 1 := rfl
        rw [List.length_append, this]; omega)]
      rw [List.append_assoc]
      rfl
  | .fld c sd w :: r, i, k, [], acc, u, hd, hi, hk, hki, ha, hit, ho, hl => by rw [out] at ho; cases ho
  | .fld c sd w :: r, i, k, a :: gr, acc, u, hd, hi, hk, hki, ha, hit, ho, hl => by
    rw [List.map_cons] at hd
    obtain ⟨h1, h2, h3⟩ := dropc hd
    obtain ⟨h5, h6, h7⟩ := dropc hk
    obtain ⟨q1, q2, q3, q4⟩ : itOk (.fld c sd w) := hit _ (List.mem_cons_self ..)
    rw [out] at ho
    simp only [List.length_cons] at hl
    rcases run q1 ((f30' a).2.2 (ha a (List.mem_cons_self ..))) ⟨q2, q3⟩ q4 with ⟨t', r0, r1, r2⟩ | ⟨t', p, sd', r0, r1, r2, r3, r4, r5, r6⟩
    · rw [r0] at ho; cases ho
    · rw [r0] at ho
      cases h4 : out r gr with
      | none => rw [h4] at ho; cases ho
      | some u' =>
        rw [h4] at ho; cases ho
        rw [n_13l20]
        simp only
        rw [if_pos (by simpa using h1), if_pos (Int.natCast_nonneg _), Int.toNat_natCast, h2]
        simp only [Option.bind_eq_bind, Option.bind_some, Int.natCast_nonneg, if_true]
        have hne : ((partOf (.fld c sd w)).letter != 0) = true := by simpa [partOf] using letter_ne q1
        rw [if_pos hne, Int.toNat_natCast, h6]
        simp only [Option.bind_some]
        rw [show (partOf (.fld c sd w)).letter = c from rfl, show (partOf (.fld c sd w)).side = sd from rfl, r3]
        simp only [Option.bind_some]
        have hside : (if (sd != 0) = true then some ((gs, ps, (k : Int), (i : Int), t', sd, acc, ())) else some ((gs, ps, (k : Int), (i : Int), t', sd', acc, ()))) = some (gs, ps, (k : Int), (i : Int), t', (if sd = 0 then sd' else sd), acc, ()) := by
          by_cases h0 : sd = 0
          · rw [if_neg (by simpa using h0), if_pos h0]
          · rw [if_pos (by simpa using h0), if_neg h0]
        rw [hside]
        simp only [Option.bind_some, Int.natCast_nonneg, if_true, Int.toNat_natCast, h2]
        rw [show (partOf (.fld c sd w)).width = w from rfl, r5]
        simp only [Option.bind_some]
        rw [if_pos (by omega), next64 (by omega), next64 (by omega), f13l20 hp r (i + 1) (k + 1) gr _ u' h3 (by omega) h7 (by omega) (fun y hy => ha y (List.mem_cons_of_mem _ hy)) (fun it h => hit it (List.mem_cons_of_mem _ h)) h4 (by rw [List.length_append]; unfold Bs.ints; rw [List.length_map, ba_size]; omega)]
        rw [ints_nums, nums_app, List.append_assoc]

theorem f13 {s : ByteArray} (hs : s.size ≤ 1000000) {gs : List Tag} (hg : gs.length ≤ 9223372036854775807) : n_13 (s, gs, ()) = some (fmtR s gs) := by
  unfold n_13 fmtR
  simp only
  rw [f42 hs]
  by_cases h : s.size > 4096
  · rw [if_pos h, if_pos h]; rfl
  rw [if_neg h, if_neg h]
  cases hi : items s.data.toList with
  | none => rfl
  | some its =>
    obtain ⟨i1, i2⟩ := items_ok hi
    rw [ba_size] at i1
    simp only [Option.bind_eq_bind, Option.bind_some, bne_self_eq_false, Bool.false_eq_true, if_false]
    rw [f43 (by omega)]
    simp only [Option.bind_some]
    have hfl : (fields its).length = (lets its).length := by rw [← fields_lets its i2, List.length_map]
    rw [hfl]
    by_cases hl : (lets its).length = gs.length
    · rw [if_neg (by simp [hl]), if_neg (fun h => h hl), show (0 : Int) = ((0 : Nat) : Int) from rfl, f13l8 hg gs 0 (by simp) (by omega)]
      by_cases ho : gs.all okA = false
      · rw [if_pos ho, if_pos ho]; rfl
      · rw [if_neg ho, if_neg ho]
        simp only [Option.bind_some]
        have hg2 : ∀ a ∈ gs, okA a = true := by
          have : gs.all okA = true := by simpa using ho
          exact List.all_eq_true.mp this
        have hfc : ∀ f ∈ fields its, f.letter ∈ letters := by
          intro f hf
          unfold fields at hf
          rw [List.mem_filter] at hf
          obtain ⟨it, hit, rfl⟩ := List.mem_map.mp hf.1
          have := i2 it hit
          cases it with
          | lit b => simp [partOf] at hf
          | fld c sd w => exact this.1
        rw [f13l13 hg gs (fields its) 0 (by simp) (by simp) (by omega) (by omega) hg2 hfc]
        have hco := out_chk its gs i2 hg2 hl
        cases hout : out its gs with
        | none =>
          rw [hout] at hco
          rw [if_pos (show chkF (fields its) gs = false from hco.symm)]; rfl
        | some t =>
          rw [hout] at hco
          have hc2 : ¬ chkF (fields its) gs = false := by rw [← hco]; simp
          rw [if_neg hc2]
          simp only [Option.bind_some]
          have hlen := out_len its gs t hg2 i2 hout
          rw [f13l20 (ps := its.map partOf) (by rw [List.length_map]; omega) its 0 0 gs [] t (by simp) (by omega) (by simp) (by omega) hg2 i2 hout (by simp; omega)]
          simp only [Option.bind_some, List.nil_append, nums_len]
          by_cases hz : t.length > 16384
          · rw [if_pos (by simp; omega), if_pos hz]
          · rw [if_neg (by simp; omega), if_neg hz, bytes_nums]
    · rw [if_pos (by simp; omega), if_pos hl]

/-! ### the letters -/
theorem f14l {ps : List Piece} (hp : ps.length ≤ 1000000) : ∀ (r : List Piece) (i : Nat) (acc : List Int), ps.drop i = r → i ≤ ps.length → acc.length ≤ i →
    n_14l6 (ps, (ps.length : Int), (i : Int), acc, ()) = some (acc ++ lets (flatP r), ())
  | [], i, acc, hd, hi, ha => by
    obtain rfl := dropn hd hi
    rw [n_14l6]
    simp only
    rw [if_neg (by simp)]
    have e : flatP ([] : List Piece) = [] := rfl
    rw [e]; simp [lets]
  | x :: r, i, acc, hd, hi, ha => by
    obtain ⟨h1, h2, h3⟩ := dropc hd
    rw [n_14l6]
    simp only
    rw [if_pos (by simpa using h1), if_pos (Int.natCast_nonneg _), Int.toNat_natCast, h2, flatP_cons, lets_app, letsP]
    simp only [Option.bind_eq_bind, Option.bind_some]
    by_cases h : x.letter = 0
    · rw [if_neg (by simp [h]), if_pos h]
      simp only [Option.bind_some]
      rw [next64 (by omega), f14l hp r (i + 1) acc h3 (by omega) (by omega)]
      simp
    · rw [if_pos (by simpa using h), if_neg h, if_pos (by simp only [List.length_singleton]; omega)]
      simp only [Option.bind_some]
      rw [next64 (by omega), f14l hp r (i + 1) _ h3 (by omega) (by rw [List.length_append, List.length_singleton]; omega), List.append_assoc]

theorem f15l {ps : List Part} (hp : ps.length ≤ 1000000) (e : Int) : ∀ (r : List Part) (i : Nat) (acc : List Int), ps.drop i = r → i ≤ ps.length → acc.length ≤ i →
    n_15l5 (ps, e, (i : Int), acc, ()) = some (e, acc ++ r.map (·.letter), ())
  | [], i, acc, hd, hi, ha => by
    obtain rfl := dropn hd hi
    rw [n_15l5]
    simp only
    rw [if_neg (by simp)]
    simp
  | x :: r, i, acc, hd, hi, ha => by
    obtain ⟨h1, h2, h3⟩ := dropc hd
    rw [n_15l5]
    simp only
    rw [if_pos (by simpa using h1), if_pos (Int.natCast_nonneg _), Int.toNat_natCast, h2]
    simp only [Option.bind_eq_bind, Option.bind_some]
    rw [if_pos (by simp only [List.length_singleton]; omega), next64 (by omega), f15l hp e r (i + 1) _ h3 (by omega) (by rw [List.length_append, List.length_singleton]; omega)]
    simp

def letR (s : ByteArray) : List Int × Int × Unit := if s.size > 4096 then ([], 3, ()) else match items s.data.toList with
  | none => ([], 2, ())
  | some its => (lets its, 0, ())

theorem f14 (s : ByteArray) : n_14 (s, ()) = some (letR s) := by
  obtain ⟨g1, g2, g3⟩ := f29 s
  unfold n_14 letR
  simp only
  by_cases h : s.size > 4096
  · rw [if_pos h, g1 h]; rfl
  rw [if_neg h]
  cases hi : items s.data.toList with
  | none => rw [g2 (by omega) hi]; rfl
  | some its =>
    obtain ⟨ps, p1, p2, p3⟩ := g3 (by omega) its hi
    obtain ⟨i1, i2⟩ := items_ok hi
    rw [ba_size] at i1
    rw [p1]
    simp only [Option.bind_eq_bind, Option.bind_some, bne_self_eq_false, Bool.false_eq_true, if_false]
    rw [show (0 : Int) = ((0 : Nat) : Int) from rfl, f14l (by omega) ps 0 [] (by simp) (by omega) (by simp), p2]
    rfl

theorem f15 {s : ByteArray} (hs : s.size ≤ 1000000) : n_15 (s, ()) = some (letR s) := by
  have hnil : ∀ e : Int, n_43 ([], ()) = some ([], ()) ∧ n_15l5 ([], e, 0, [], ()) = some (e, [], ()) := by
    intro e
    have h1 := f43 (its := []) (by simp)
    have h2 := f15l (ps := []) (by simp) e [] 0 [] (by simp) (by simp) (by simp)
    exact ⟨h1, by simpa using h2⟩
  unfold n_15 letR
  simp only
  rw [f42 hs]
  by_cases h : s.size > 4096
  · rw [if_pos h, if_pos h]
    simp only [Option.bind_eq_bind, Option.bind_some, (hnil 3).1, (hnil 3).2]
  rw [if_neg h, if_neg h]
  cases hi : items s.data.toList with
  | none => simp only [Option.bind_eq_bind, Option.bind_some, (hnil 2).1, (hnil 2).2]
  | some its =>
    obtain ⟨i1, i2⟩ := items_ok hi
    rw [ba_size] at i1
    simp only [Option.bind_eq_bind, Option.bind_some]
    rw [f43 (by omega)]
    simp only [Option.bind_some]
    have hfl : (fields its).length ≤ its.length := by
      unfold fields
      have := List.length_filter_le (fun p : Part => p.letter != 0) (its.map partOf)
      rw [List.length_map] at this; exact this
    rw [show (0 : Int) = ((0 : Nat) : Int) from rfl, f15l (by omega) _ (fields its) 0 [] (by simp) (by omega) (by simp)]
    simp only [Option.bind_some, List.nil_append]
    rw [fields_lets its i2]

/-! ### the laws -/
theorem f8l {gs : List Tag} (hg : gs.length ≤ 9223372036854775807) : ∀ (d i : Nat) (x : Int), i + d = gs.length → ∃ y, n_8l3 (gs, x, (i : Int), ()) = some (y, ())
  | 0, i, x, hi => by
    refine ⟨x, ?_⟩
    rw [n_8l3]
    simp only
    rw [if_neg (by simp; omega)]
  | d + 1, i, x, hi => by
    have e : gs[i]? = some gs[i] := List.getElem?_eq_getElem (by omega)
    obtain ⟨y, hy⟩ := f8l hg d (i + 1) (IntKind.i64.wrap (x + (gs[i].text.size : Int))) (by omega)
    refine ⟨y, ?_⟩
    rw [n_8l3]
    simp only
    rw [if_pos (by simp; omega), if_pos (Int.natCast_nonneg _), Int.toNat_natCast, e]
    simp only [Option.bind_eq_bind, Option.bind_some]
    rw [next64 (by omega)]
    exact hy
theorem f8 {gs : List Tag} (hg : gs.length ≤ 9223372036854775807) : ∃ y, n_8 (gs, ()) = some (y, ()) := by
  obtain ⟨y, hy⟩ := f8l hg gs.length 0 (gs.length : Int) (by omega)
  refine ⟨y, ?_⟩
  unfold n_8
  simp only
  rw [show (0 : Int) = ((0 : Nat) : Int) from rfl, hy]
  rfl

theorem law5 (s : ByteArray) {gs : List Tag} (hg : gs.length ≤ 9223372036854775807) : n_5 (s, gs, ()) = some (true, ()) := by
  obtain ⟨y, hy⟩ := f8 hg
  unfold n_5
  by_cases h : (s.size : Int) > 20000
  · simp only [h, f9, Option.bind_eq_bind, Option.bind_some, Option.bind_none, if_true, if_false, Bool.false_eq_true, Bool.true_eq_false, Int.toNat_natCast, Int.natCast_nonneg, beq_iff_eq, decide_eq_true_eq, Int.ofNat_lt, decide_true, decide_false, Bool.not_true, Bool.not_false]
  · by_cases h2 : y > 200000
    · simp only [h, hy, h2, f9, Option.bind_eq_bind, Option.bind_some, Option.bind_none, if_true, if_false, Bool.false_eq_true, Bool.true_eq_false, Int.toNat_natCast, Int.natCast_nonneg, beq_iff_eq, decide_eq_true_eq, Int.ofNat_lt, decide_true, decide_false, Bool.not_true, Bool.not_false]
    · simp only [h, hy, h2, f10 s hg, f13 (show s.size ≤ 1000000 by omega) hg, f14, f15 (show s.size ≤ 1000000 by omega), f9, Option.bind_eq_bind, Option.bind_some, Option.bind_none, if_true, if_false, Bool.false_eq_true, Bool.true_eq_false, Int.toNat_natCast, Int.natCast_nonneg, beq_iff_eq, decide_eq_true_eq, Int.ofNat_lt, decide_true, decide_false, Bool.not_true, Bool.not_false, ba_beq]

/-! ### two formats, one after the other -/
theorem byt_app {a b : List UInt8} {i : Nat} (h : i < a.length) : byt (a ++ b) i = byt a i := by
  unfold byt
  rw [List.getD_eq_getElem?_getD, List.getElem?_append_left h, ← List.getD_eq_getElem?_getD]

/-- a field reads no byte behind its end -/
theorem fieldS_app {a : List UInt8} {c sd w : Int} {k : Nat} (h : fieldS a = some (c, sd, w, k)) (b : List UInt8) : fieldS (a ++ b) = some (c, sd, w, k) := by
  unfold fieldS at h
  by_cases h1 : a.length < 2 ∨ letters.contains (byt a 0) = false
  · rw [if_pos h1] at h; cases h
  rw [if_neg h1] at h
  have hlen : ¬ a.length < 2 := fun hh => h1 (.inl hh)
  have hl : (a ++ b).length = a.length + b.length := List.length_append
  have e0 : byt (a ++ b) 0 = byt a 0 := byt_app (by omega)
  have e1 : byt (a ++ b) 1 = byt a 1 := byt_app (by omega)
  unfold fieldS
  rw [e0, e1, if_neg (show ¬ ((a ++ b).length < 2 ∨ letters.contains (byt a 0) = false) from fun hh => hh.elim (fun hh => by omega) (fun hh => h1 (.inr hh)))]
  by_cases h2 : byt a 1 = 58
  · rw [if_pos h2] at h ⊢
    have hn := n0_le a
    by_cases h3 : ¬ dig a (n0 a) ∨ byt a (n0 a) = 48
    · rw [if_pos h3] at h; cases h
    rw [if_neg h3] at h
    have hd : dig a (n0 a) := Decidable.of_not_not fun hh => h3 (.inl hh)
    have hd1 := hd.1
    have hdig : ∀ i, i < a.length → (dig (a ++ b) i ↔ dig a i) := by
      intro i hi
      unfold dig
      rw [byt_app hi, hl]
      constructor
      · rintro ⟨_, h⟩; exact ⟨hi, h⟩
      · rintro ⟨_, h⟩; exact ⟨by omega, h⟩
    have hn0 : n0 (a ++ b) = n0 a ∧ sd0 (a ++ b) = sd0 a := by
      have h2a : 2 < a.length := by omega
      unfold n0 sd0
      rw [byt_app h2a, hl]
      constructor
      · by_cases hs : side (byt a 2) = true
        · rw [if_pos ⟨by omega, hs⟩, if_pos ⟨h2a, hs⟩]
        · rw [if_neg (fun hh => hs hh.2), if_neg (fun hh => hs hh.2)]
      · by_cases hs : side (byt a 2) = true
        · rw [if_pos ⟨by omega, hs⟩, if_pos ⟨h2a, hs⟩]
        · rw [if_neg (fun hh => hs hh.2), if_neg (fun hh => hs hh.2)]
    rw [hn0.1, hn0.2, byt_app hd1]
    rw [if_neg (show ¬ (¬ dig (a ++ b) (n0 a) ∨ byt a (n0 a) = 48) from fun hh => h3 (hh.imp (fun hq hq2 => hq ((hdig _ hd1).mpr hq2)) id))]
    by_cases h4 : dig a (n0 a + 1)
    · have h41 := h4.1
      rw [if_pos h4] at h
      rw [if_pos ((hdig _ h41).mpr h4), byt_app h41]
      split at h
      · rename_i h5
        cases h
        rw [if_pos ⟨by omega, by rw [byt_app h5.1]; exact h5.2⟩]
      · cases h
    · rw [if_neg h4] at h
      split at h
      · rename_i h5
        cases h
        rw [if_neg (fun hh => h4 ((hdig _ h5.1).mp hh)), if_pos ⟨by omega, by rw [byt_app h5.1]; exact h5.2⟩]
      · cases h
  · rw [if_neg h2] at h ⊢
    exact h

theorem itemsF_app : ∀ (n : Nat) (a b : List UInt8) (x : List Item), a.length ≤ n → items a = some x → items (a ++ b) = (items b).map (x ++ ·)
  | _, [], b, x, _, h => by rw [items_nil] at h; cases h; simp
  | 0, _ :: _, b, x, h, _ => by simp at h
  | n + 1, c :: r, b, x, hn, h => by
    simp only [List.length_cons] at hn
    rw [List.cons_append, items_cons]
    rw [items_cons] at h
    by_cases h1 : brace c = false
    · rw [if_pos h1] at h ⊢
      cases h2 : items r with
      | none => rw [h2] at h; cases h
      | some y =>
        rw [h2] at h; cases h
        rw [itemsF_app n r b y (by omega) h2]
        cases items b <;> rfl
    · rw [if_neg h1] at h ⊢
      have hr : r ≠ [] := by
        rintro rfl
        rw [if_neg (show ¬ ([] : List UInt8).head? = some c by simp)] at h
        by_cases h2 : c = 125
        · rw [if_pos h2] at h; cases h
        · rw [if_neg h2] at h
          have : fieldS [] = none := by unfold fieldS; rw [if_pos (.inl (by simp))]
          rw [this] at h; cases h
      obtain ⟨d, q, rfl⟩ := List.exists_cons_of_ne_nil hr
      have ht : (d :: q).tail = q := rfl
      have ht2 : (d :: q ++ b).tail = q ++ b := rfl
      rw [ht] at h
      rw [ht2]
      by_cases h2 : (d :: q).head? = some c
      · rw [if_pos h2] at h
        rw [if_pos (show (d :: q ++ b).head? = some c from h2)]
        cases h3 : items q with
        | none => rw [h3] at h; cases h
        | some y =>
          rw [h3] at h; cases h
          rw [itemsF_app n q b y (by simp only [List.length_cons] at hn; omega) h3]
          cases items b <;> rfl
      · rw [if_neg h2] at h
        rw [if_neg (show ¬ (d :: q ++ b).head? = some c from h2)]
        by_cases h3 : c = 125
        · rw [if_pos h3] at h; cases h
        · rw [if_neg h3] at h ⊢
          cases hf : fieldS (d :: q) with
          | none => rw [hf] at h; cases h
          | some z =>
            obtain ⟨c', sd, w, k⟩ := z
            rw [hf] at h
            obtain ⟨k1, k2, _⟩ := fieldS_le hf
            have hf2 : fieldS (d :: q ++ b) = some (c', sd, w, k) := fieldS_app hf b
            rw [hf2]
            simp only at h ⊢
            cases h4 : items ((d :: q).drop k) with
            | none => rw [h4] at h; cases h
            | some y =>
              rw [h4] at h; cases h
              have hd : (d :: q ++ b).drop k = (d :: q).drop k ++ b := by
                rw [List.drop_append_of_le_length k2]
              rw [hd, itemsF_app n ((d :: q).drop k) b y (by rw [List.length_drop]; simp only [List.length_cons] at hn ⊢; omega) h4]
              cases items b <;> rfl

theorem lets_len : ∀ its : List Item, (lets its).length ≤ its.length
  | [] => Nat.le_refl _
  | .lit _ :: r => by have := lets_len r; simp only [lets, List.length_cons]; omega
  | .fld _ _ _ :: r => by have := lets_len r; simp only [lets, List.length_cons]; omega

/-- a format that is right -/
structure Fmt (s : ByteArray) (gs : List Tag) (t : List UInt8) : Prop where
  its : ∃ its, items s.data.toList = some its ∧ (lets its).length = gs.length ∧ out its gs = some t
  ok : gs.all okA = true

theorem fmt_of {s : ByteArray} {gs : List Tag} (h : (fmtR s gs).2.1 = 0) : ∃ t, Fmt s gs t ∧ t.length ≤ 16384 ∧ fmtR s gs = (⟨t.toArray⟩, 0, ()) := by
  unfold fmtR at h ⊢
  by_cases h1 : s.size > 4096
  · rw [if_pos h1] at h; cases h
  rw [if_neg h1] at h ⊢
  cases hi : items s.data.toList with
  | none => rw [hi] at h; cases h
  | some its =>
    rw [hi] at h
    simp only at h ⊢
    by_cases h2 : (lets its).length ≠ gs.length
    · rw [if_pos h2] at h; cases h
    rw [if_neg h2] at h ⊢
    by_cases h3 : gs.all okA = false
    · rw [if_pos h3] at h; cases h
    rw [if_neg h3] at h ⊢
    cases ho : out its gs with
    | none => rw [ho] at h; cases h
    | some t =>
      rw [ho] at h
      simp only at h ⊢
      by_cases h4 : t.length > 16384
      · rw [if_pos h4] at h; cases h
      rw [if_neg h4]
      exact ⟨t, ⟨⟨its, hi, Decidable.of_not_not h2, ho⟩, by simpa using h3⟩, by omega, rfl⟩

theorem fmt_app {s u : ByteArray} {gs hs : List Tag} {t v : List UInt8} (h1 : Fmt s gs t) (h2 : Fmt u hs v) (hz : s.size + u.size ≤ 4096) :
    fmtR (s ++ u) (gs ++ hs) = if (t ++ v).length > 16384 then (ByteArray.mk #[], 3, ()) else (⟨(t ++ v).toArray⟩, 0, ()) := by
  obtain ⟨⟨i, a1, a2, a3⟩, a4⟩ := h1
  obtain ⟨⟨j, b1, b2, b3⟩, b4⟩ := h2
  have hi : items (s ++ u).data.toList = some (i ++ j) := by
    rw [ba_append, itemsF_app _ _ _ i (Nat.le_refl _) a1, b1]; rfl
  unfold fmtR
  rw [if_neg (by rw [add_size]; omega), hi]
  simp only
  rw [if_neg (by rw [lets_app, List.length_append, List.length_append]; omega), if_neg (by rw [List.all_append, a4, b4]; decide), out_app i j gs hs t v a2 a3 b3]

theorem fmt_args {s : ByteArray} {gs : List Tag} {t : List UInt8} (h : Fmt s gs t) : gs.length ≤ s.size := by
  obtain ⟨⟨i, a1, a2, a3⟩, a4⟩ := h
  have := (items_ok a1).1
  rw [ba_size] at this
  have := lets_len i
  omega

theorem arr_size (t : List UInt8) : (⟨t.toArray⟩ : ByteArray).size = t.length := by rw [← ba_size]

theorem law3 (x y : Formatted) (hx : x.args.length ≤ 9223372036854775807) (hy : y.args.length ≤ 9223372036854775807) : n_3 (x, y, ()) = some (true, ()) := by
  obtain ⟨n1, e1⟩ := f8 (show x.args.length ≤ 9223372036854775807 by omega)
  obtain ⟨n2, e2⟩ := f8 (show y.args.length ≤ 9223372036854775807 by omega)
  unfold n_3
  simp only
  have hsel : ∃ b, (if decide ((↑x.format.size : Int) > 2000) = true then
      some ((x.format, x.args, y.format, y.args, true, ()))
    else if decide ((↑y.format.size : Int) > 2000) = true then
      some ((x.format, x.args, y.format, y.args, true, ()))
    else n_8 (x.args, ()) >>= fun x1 =>
    if decide (x1.fst > 10000) = true then
      some ((x.format, x.args, y.format, y.args, true, ()))
    else n_8 (y.args, ()) >>= fun x2 =>
    some ((x.format, x.args, y.format, y.args, decide (x2.fst > 10000), ()))) = some (x.format, x.args, y.format, y.args, b, ()) ∧ (b = false → x.format.size ≤ 2000 ∧ y.format.size ≤ 2000) := by
    rw [e1, e2]
    simp only [Option.bind_eq_bind, Option.bind_some]
    by_cases c1 : ((↑x.format.size : Int) > 2000)
    · exact ⟨true, by rw [if_pos (by simpa using c1)], fun h => by cases h⟩
    by_cases c2 : ((↑y.format.size : Int) > 2000)
    · exact ⟨true, by rw [if_neg (by simpa using c1), if_pos (by simpa using c2)], fun h => by cases h⟩
    by_cases c3 : n1 > 10000
    · exact ⟨true, by rw [if_neg (by simpa using c1), if_neg (by simpa using c2), if_pos (by simpa using c3)], fun h => by cases h⟩
    · exact ⟨decide (n2 > 10000), by rw [if_neg (by simpa using c1), if_neg (by simpa using c2), if_neg (by simpa using c3)], fun _ => ⟨by omega, by omega⟩⟩
  obtain ⟨b, hb, hb2⟩ := hsel
  rw [hb]
  simp only [Option.bind_eq_bind, Option.bind_some]
  cases b with
  | true => simp only [if_true, f9, Option.bind_some]
  | false =>
    obtain ⟨z1, z2⟩ := hb2 rfl
    simp only [Bool.false_eq_true, if_false]
    rw [f10 x.format (show x.args.length ≤ 9223372036854775807 by omega), f10 y.format (show y.args.length ≤ 9223372036854775807 by omega)]
    simp only [Option.bind_some]
    by_cases c1 : (fmtR x.format x.args).2.1 = 0
    · by_cases c2 : (fmtR y.format y.args).2.1 = 0
      · obtain ⟨t, t1, t2, t3⟩ := fmt_of c1
        obtain ⟨v, v1, v2, v3⟩ := fmt_of c2
        have g1 := fmt_args t1
        have g2 := fmt_args v1
        have happ := fmt_app t1 v1 (by omega)
        rw [t3, v3]
        simp only [bne_self_eq_false, Bool.false_eq_true, if_false, Option.bind_some, List.nil_append]
        rw [if_pos (by omega), if_pos (by omega), if_pos (by omega), f10 _ (by rw [List.length_append]; omega), happ]
        simp only [Option.bind_some]
        by_cases hz : (t ++ v).length > 16384
        · rw [if_pos hz]
          rw [List.length_append] at hz
          simp only [beq_self_eq_true, if_true, arr_size]
          rw [wrap64 (by omega) (by omega), if_pos (by simp; omega), f9]
          rfl
        · rw [if_neg hz]
          have e3 : ((0 : Int) == 3) = false := by decide
          rw [List.length_append] at hz
          have e4 : (⟨(t ++ v).toArray⟩ : ByteArray) = ⟨t.toArray⟩ ++ ⟨v.toArray⟩ := by apply ba_ext; rw [ba_append]
          simp only [e3, Bool.false_eq_true, if_false, beq_self_eq_true, if_true, arr_size, ba_beq, e4, decide_true, f9, Option.bind_some]
          rw [if_pos (by omega)]
          rfl
      · rw [if_neg (by simpa using c1)]
        have : ((fmtR y.format y.args).2.1 != 0) = true := by simpa using c2
        simp only [this, Option.bind_some, if_true, f9]
    · rw [if_pos (by simpa using c1)]
      simp only [Option.bind_some, if_true, f9]

theorem law4 (s : ByteArray) (w : Int) {c : Int} (hc : 0 ≤ c ∧ c < 256) : n_4 (s, w, c, ()) = some (true, ()) := by
  unfold n_4
  by_cases h : (s.size : Int) > 20000
  · simp only [h, f9, Option.bind_eq_bind, Option.bind_some, Option.bind_none, if_true, if_false, Bool.false_eq_true, Bool.true_eq_false, Int.toNat_natCast, Int.natCast_nonneg, beq_iff_eq, decide_eq_true_eq, Int.ofNat_lt, decide_true, decide_false, Bool.not_true, Bool.not_false]
  · simp only [h, f11 s w hc, f12, f9, Option.bind_eq_bind, Option.bind_some, Option.bind_none, if_true, if_false, Bool.false_eq_true, Bool.true_eq_false, Int.toNat_natCast, Int.natCast_nonneg, beq_iff_eq, decide_eq_true_eq, Int.ofNat_lt, decide_true, decide_false, Bool.not_true, Bool.not_false, ba_beq]

theorem law6 (s : ByteArray) (a b : Int) : n_6 (s, a, b, ()) = some (true, ()) := by
  unfold n_6
  by_cases h : (s.size : Int) > 20000
  · simp only [h, f9, Option.bind_eq_bind, Option.bind_some, Option.bind_none, if_true, if_false, Bool.false_eq_true, Bool.true_eq_false, Int.toNat_natCast, Int.natCast_nonneg, beq_iff_eq, decide_eq_true_eq, Int.ofNat_lt, decide_true, decide_false, Bool.not_true, Bool.not_false]
  · have hs : s.size ≤ 1000000 := by omega
    simp only [h, f16, f17 hs, f18, f19 hs, f9, Option.bind_eq_bind, Option.bind_some, Option.bind_none, if_true, if_false, Bool.false_eq_true, Bool.true_eq_false, Int.toNat_natCast, Int.natCast_nonneg, beq_iff_eq, decide_eq_true_eq, Int.ofNat_lt, decide_true, decide_false, Bool.not_true, Bool.not_false, ba_beq, bne_self_eq_false]
    by_cases h2 : code s = 0
    · have := rev_twice h2
      have h3 : (revR s).2.1 = 0 := h2
      simp only [this, h3, bne_self_eq_false, Option.bind_eq_bind, Option.bind_some, Option.bind_none, if_true, if_false, Bool.false_eq_true, Bool.true_eq_false, Int.toNat_natCast, Int.natCast_nonneg, beq_iff_eq, decide_eq_true_eq, Int.ofNat_lt, decide_true, decide_false, Bool.not_true, Bool.not_false]
    · have h3 : ((revR s).2.1 != 0) = true := by simpa [revR] using h2
      simp only [h3, Option.bind_eq_bind, Option.bind_some, Option.bind_none, if_true, if_false, Bool.false_eq_true, Bool.true_eq_false, Int.toNat_natCast, Int.natCast_nonneg, beq_iff_eq, decide_eq_true_eq, Int.ofNat_lt, decide_true, decide_false, Bool.not_true, Bool.not_false]

theorem txt_pts {s : ByteArray} (h : code s = 0) : txt (pts s) = (s, 0, ()) := by
  obtain ⟨h1, h2⟩ := code0 h
  have hg := good_pts (pts_pt s)
  have hfull : (pts s).flatMap encodeRune = s.data.toList := P_full (by rw [ba_size]; exact h2)
  have ho : off (pts s) = false := by
    unfold off
    rw [List.any_eq_false]
    intro x hx
    simpa using pts_pt s x hx
  have ht : tot (pts s) = s.size := by unfold tot; rw [hg, hfull, ba_size]
  unfold txt
  rw [if_neg (by omega), if_neg (by rw [ho]; decide), hg, hfull, ba_eta]

theorem pts_txt {ns : List Int} (h : (txt ns).2.1 = 0) : code (txt ns).1 = 0 ∧ pts (txt ns).1 = ns := by
  by_cases h1 : tot ns > 4096
  · unfold txt at h; rw [if_pos h1] at h; cases h
  by_cases h2 : off ns = true
  · unfold txt at h; rw [if_neg h1, if_pos h2] at h; cases h
  have hp : ∀ x ∈ ns, isPt x := by
    have := Bool.not_eq_true _ ▸ h2
    unfold off at this
    rw [List.any_eq_false] at this
    intro x hx
    simpa using this x hx
  have hg := good_pts hp
  have ht : (txt ns).1 = ⟨(ns.flatMap encodeRune).toArray⟩ := by
    unfold txt; rw [if_neg h1, if_neg h2, hg]
  have hP := P_enc hp
  unfold tot at h1
  rw [hg] at h1
  rw [ht]
  have hs : (⟨(ns.flatMap encodeRune).toArray⟩ : ByteArray).size = (ns.flatMap encodeRune).length := by rw [← ba_size]
  constructor
  · unfold code fit
    rw [hs, if_neg h1]
    simp only [hP, if_true]
  · unfold pts
    simp only [hP]

theorem law7 (s : ByteArray) (ns : List Int) : n_7 (s, ns, ()) = some (true, ()) := by
  unfold n_7
  by_cases h : (s.size : Int) > 20000
  · simp only [h, f9, Option.bind_eq_bind, Option.bind_some, Option.bind_none, if_true, if_false, Bool.false_eq_true, Bool.true_eq_false, Int.toNat_natCast, Int.natCast_nonneg, beq_iff_eq, decide_eq_true_eq, Int.ofNat_lt, decide_true, decide_false, Bool.not_true, Bool.not_false]
  by_cases hn : (ns.length : Int) > 20000
  · simp only [h, hn, f9, Option.bind_eq_bind, Option.bind_some, Option.bind_none, if_true, if_false, Bool.false_eq_true, Bool.true_eq_false, Int.toNat_natCast, Int.natCast_nonneg, beq_iff_eq, decide_eq_true_eq, Int.ofNat_lt, decide_true, decide_false, Bool.not_true, Bool.not_false]
  have hs : s.size ≤ 1000000 := by omega
  have hn2 : ns.length ≤ 1000000 := by omega
  have hp := pts_len s
  have hl : (if code s = 0 then pts s else []).length ≤ 1000000 := by
    split
    · omega
    · simp
  simp only [h, hn, f20, f21 hs, f22, f23 hs, f24, f25 hs, f27 hn2, f28 hn2, f9, Option.bind_eq_bind, Option.bind_some, Option.bind_none, if_true, if_false, Bool.false_eq_true, Bool.true_eq_false, Int.toNat_natCast, Int.natCast_nonneg, beq_iff_eq, decide_eq_true_eq, Int.ofNat_lt, decide_true, decide_false, Bool.not_true, Bool.not_false, ba_beq, bne_self_eq_false, f26 (show (if code s = 0 then pts s else []).length ≤ 1000000000 by omega), f27 hl]
  rw [if_neg (by simp)]
  simp only [f27 hl, f27 hn2, f28 hn2, Option.bind_eq_bind, Option.bind_some, Option.bind_none, if_true, if_false, Bool.false_eq_true, Bool.true_eq_false, Int.toNat_natCast, Int.natCast_nonneg, beq_iff_eq, decide_eq_true_eq, Int.ofNat_lt, decide_true, decide_false, Bool.not_true, Bool.not_false, bne_self_eq_false, f22]
  have key : ((txt ns).2.1 = 0) → n_26 (if code (txt ns).1 = 0 then pts (txt ns).1 else [], ns, ()) = some (true, ()) := by
    intro h0
    obtain ⟨k1, k2⟩ := pts_txt h0
    rw [if_pos k1, k2]
    exact f26 (by omega)
  by_cases h2 : code s = 0
  · simp only [h2, if_true, txt_pts h2, bne_self_eq_false, Option.bind_eq_bind, Option.bind_some, Option.bind_none, if_true, if_false, Bool.false_eq_true, Bool.true_eq_false, Int.toNat_natCast, Int.natCast_nonneg, beq_iff_eq, decide_eq_true_eq, Int.ofNat_lt, decide_true, decide_false, Bool.not_true, Bool.not_false]
    by_cases h3 : (txt ns).2.1 = 0
    · have k1 := (pts_txt h3).1
      have := key h3
      rw [if_pos k1] at this
      simp [h3, k1, this]
    · simp [h3]
  · have h2' : (code s != 0) = true := by simpa using h2
    simp only [h2', if_true]
    by_cases h3 : (txt ns).2.1 = 0
    · have k1 := (pts_txt h3).1
      have := key h3
      rw [if_pos k1] at this
      simp [h3, k1, this]
    · simp [h3]

theorem byte_ok {c : Int} (h : Ok vw (.int .u8) c) : 0 ≤ c ∧ c < 256 := by
  cases h with
  | int h =>
    have a : IntKind.u8.min = 0 := by decide
    have b : IntKind.u8.max = 255 := by decide
    simp [Lit.wf, a, b] at h
    omega

theorem padsOk (x0 : ByteArray) (x1 x2 : Int) (h0 : Ok vw .str x0) (h1 : Ok vw (.int .i64) x1) (h2 : Ok vw (.int .u8) x2) : n_4 (x0, x1, x2, ()) = some (true, ()) := law4 x0 x1 (byte_ok h2)
theorem cutsOk (x0 : ByteArray) (x1 x2 : Int) (h0 : Ok vw .str x0) (h1 : Ok vw (.int .i64) x1) (h2 : Ok vw (.int .i64) x2) : n_6 (x0, x1, x2, ()) = some (true, ()) := law6 x0 x1 x2
theorem pointsOk (x0 : ByteArray) (x1 : List Int) (h0 : Ok vw .str x0) (h1 : Ok vw (.sl (.int .i64)) x1) : n_7 (x0, x1, ()) = some (true, ()) := law7 x0 x1

theorem len_ok {e : Ty SN} {xs : List (den NN e)} (h : Ok vw (.sl e) xs) : xs.length ≤ 9223372036854775807 := by
  cases h with
  | sl h _ => exact Nat.le_trans h (by decide)
theorem formatsOk (x0 : ByteArray) (x1 : List Tag) (h0 : Ok vw .str x0) (h1 : Ok vw (.sl (.st .tagT)) x1) : n_5 (x0, x1, ()) = some (true, ()) := law5 x0 (by have := len_ok h1; omega)
theorem fmt_ok {x : Formatted} (h : Ok vw (.st .formattedT) x) : x.args.length ≤ 9223372036854775807 := by
  cases h with
  | st h => exact len_ok (e := .st .tagT) (h ⟨(.sl (.st .tagT)), x.args⟩ (List.mem_cons_of_mem _ (List.mem_cons_self ..)))
theorem appendsOk (x0 x1 : Formatted) (h0 : Ok vw (.st .formattedT) x0) (h1 : Ok vw (.st .formattedT) x1) : n_3 (x0, x1, ()) = some (true, ()) := law3 x0 x1 (fmt_ok h0) (fmt_ok h1)

end Go.Proofs.YtnbkpokcfcednaaDoor
