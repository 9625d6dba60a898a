/-
  TextPads, TextCuts: the program and its reference agree.
-/
import Derived.Test.YtnbkpokcfcednaaDoorLtG
namespace Go.Proofs.YtnbkpokcfcednaaDoor
open Go.Lib
set_option linter.unusedSimpArgs false
set_option linter.unusedVariables false
set_option maxRecDepth 20000

/-! ### pads -/
def side (c : Int) : Bool := decide (c = 60 ∨ c = 62 ∨ c = 94)
theorem side_all : ∀ c : Fin 256, decide (Lib.indexByte [60, 62, 94] c.val.toUInt8 < 0) = !side (c.val : Int) := by decide +kernel
theorem f37 {c : Int} (h : 0 ≤ c ∧ c < 256) : ∃ k, n_37 (ByteArray.mk #[(60 : UInt8), (62 : UInt8), (94 : UInt8)], c, ()) = some (k, ()) ∧ decide (k < 0) = !side c := by
  refine ⟨Lib.indexByte [60, 62, 94] c.toNat.toUInt8, rfl, ?_⟩
  have := side_all ⟨c.toNat, by omega⟩
  simp only at this
  rw [this, show ((c.toNat : Nat) : Int) = c by omega]
theorem f40 (c : Int) : n_40 (c, ()) = some (side c, ()) := by
  unfold n_40 side
  by_cases h : c = 60
  · subst h; rfl
  by_cases h2 : c = 62
  · subst h2; rfl
  by_cases h3 : c = 94
  · subst h3; rfl
  simp [h, h2, h3]

/-- so many blanks -/
def sp (n : Nat) : ByteArray := ⟨(List.replicate n (32 : UInt8)).toArray⟩
theorem sp_data (n : Nat) : (sp n).data.toList = List.replicate n 32 := rfl
theorem sp_size (n : Nat) : (sp n).size = n := by rw [← ba_size, sp_data, List.length_replicate]

theorem f61 {k : Nat} (h : k ≤ 100) : n_61 (ByteArray.mk #[(32 : UInt8)], (k : Int), ()) = some (sp k, ()) := by
  unfold n_61
  have hs : (ByteArray.mk #[(32 : UInt8)]).size = 1 := rfl
  simp only [hs]
  rw [if_pos ⟨by omega, by omega, by omega⟩]
  have := repeatL_replicate (32 : UInt8) 1 k
  rw [Nat.mul_one] at this
  rw [Int.toNat_natCast]
  unfold sp
  rw [← this]; rfl

theorem f63l {n : Nat} (hn : n ≤ 100) : ∀ (d i : Nat), i + d = n → n_63l3 ((n : Int), (i : Int), List.replicate i 32, ()) = some (List.replicate n 32, ())
  | 0, i, hi => by
    obtain rfl : i = n := by omega
    rw [n_63l3]
    simp only
    rw [if_neg (by simp)]
  | d + 1, i, hi => by
    rw [n_63l3]
    simp only [List.length_replicate, List.length_singleton]
    rw [if_pos (by simp; omega), if_pos (by omega), wrap64 (by omega) (by omega), show (i : Int) + 1 = ((i + 1 : Nat) : Int) by omega]
    rw [show List.replicate i (32 : Int) ++ [32] = List.replicate (i + 1) 32 from List.replicate_succ'.symm]
    exact f63l hn d (i + 1) (by omega)

theorem f63 {n : Nat} (hn : n ≤ 100) : n_63 ((n : Int), ()) = some (sp n, ()) := by
  unfold n_63
  simp only
  have := f63l hn n 0 (by omega)
  rw [show ((0 : Int)) = ((0 : Nat) : Int) from rfl]
  rw [show ([] : List Int) = List.replicate 0 32 from rfl, this]
  simp only [Option.bind_eq_bind, Option.bind_some, Option.bind_none, if_true, if_false, Bool.false_eq_true, Bool.true_eq_false, Int.toNat_natCast, Int.natCast_nonneg, beq_iff_eq, decide_eq_true_eq, Int.ofNat_lt, decide_true, decide_false, Bool.not_true, Bool.not_false]
  congr 2
  unfold Bs.bytes sp
  rw [List.map_replicate]; rfl

theorem add_size (a b : ByteArray) : (a ++ b).size = a.size + b.size := by rw [← ba_size, ba_append, List.length_append, ba_size, ba_size]
theorem sp_left (s : ByteArray) : sp 0 ++ s = s := by apply ba_ext; rw [ba_append, sp_data]; rfl
theorem sp_right (s : ByteArray) : s ++ sp 0 = s := by apply ba_ext; rw [ba_append, sp_data]; simp

def padS (s : ByteArray) (b : Nat) (c : Int) : ByteArray :=
  if c = 60 then s ++ sp b else if c = 94 then sp (b / 2) ++ s ++ sp (b - b / 2) else sp b ++ s

theorem f33 {s : ByteArray} (h : code s = 0) {w : Int} (hw : 0 ≤ w ∧ w ≤ 99) (c : Int) : n_33 (s, w, c, ()) = some (padS s (w - (pts s).length).toNat c, ()) := by
  obtain ⟨h1, h2⟩ := code0 h
  have hp : (pts s).length ≤ s.size := by
    have := P_len s.data.toList
    rw [ba_size] at this
    unfold pts; omega
  obtain ⟨b, hb⟩ : ∃ b : Nat, b = (w - (pts s).length).toNat := ⟨_, rfl⟩
  have hm : max 0 (IntKind.i64.wrap (w - (pts s).length)) = (b : Int) := by rw [wrap64 (by omega) (by omega)]; omega
  have ht : ((b : Int)).tdiv 2 = ((b / 2 : Nat) : Int) := by rw [Int.tdiv_eq_ediv_of_nonneg (by omega)]; omega
  unfold n_33 padS
  simp only [f51 h, Option.bind_eq_bind, Option.bind_some, Option.bind_none, if_true, if_false, Bool.false_eq_true, Bool.true_eq_false, Int.toNat_natCast, Int.natCast_nonneg, beq_iff_eq, decide_eq_true_eq, Int.ofNat_lt, decide_true, decide_false, Bool.not_true, Bool.not_false, hm]
  rw [← hb]
  by_cases c1 : c = 60
  · simp only [if_pos c1, Option.bind_eq_bind, Option.bind_some, Option.bind_none, if_true, if_false, Bool.false_eq_true, Bool.true_eq_false, Int.toNat_natCast, Int.natCast_nonneg, beq_iff_eq, decide_eq_true_eq, Int.ofNat_lt, decide_true, decide_false, Bool.not_true, Bool.not_false]
    rw [show ((0 : Int)) = ((0 : Nat) : Int) from rfl, f61 (by omega)]
    simp only [Option.bind_eq_bind, Option.bind_some, Option.bind_none, if_true, if_false, Bool.false_eq_true, Bool.true_eq_false, Int.toNat_natCast, Int.natCast_nonneg, beq_iff_eq, decide_eq_true_eq, Int.ofNat_lt, decide_true, decide_false, Bool.not_true, Bool.not_false, sp_left, sp_size]
    rw [if_pos (by omega), wrap64 (by omega) (by omega), show (b : Int) - ((0 : Nat) : Int) = (b : Int) by omega, f61 (by omega)]
    simp only [Option.bind_eq_bind, Option.bind_some, Option.bind_none, if_true, if_false, Bool.false_eq_true, Bool.true_eq_false, Int.toNat_natCast, Int.natCast_nonneg, beq_iff_eq, decide_eq_true_eq, Int.ofNat_lt, decide_true, decide_false, Bool.not_true, Bool.not_false, sp_size]
    rw [if_pos (by omega)]
  · simp only [if_neg c1]
    by_cases c2 : c = 94
    · simp only [if_pos c2, Option.bind_eq_bind, Option.bind_some, Option.bind_none, if_true, if_false, Bool.false_eq_true, Bool.true_eq_false, Int.toNat_natCast, Int.natCast_nonneg, beq_iff_eq, decide_eq_true_eq, Int.ofNat_lt, decide_true, decide_false, Bool.not_true, Bool.not_false]
      rw [ht, wrap64 (by omega) (by omega), f61 (by omega)]
      simp only [Option.bind_eq_bind, Option.bind_some, Option.bind_none, if_true, if_false, Bool.false_eq_true, Bool.true_eq_false, Int.toNat_natCast, Int.natCast_nonneg, beq_iff_eq, decide_eq_true_eq, Int.ofNat_lt, decide_true, decide_false, Bool.not_true, Bool.not_false, sp_size]
      rw [if_pos (by omega), wrap64 (by omega) (by omega), show (b : Int) - ((b / 2 : Nat) : Int) = ((b - b / 2 : Nat) : Int) by omega, f61 (by omega)]
      simp only [Option.bind_eq_bind, Option.bind_some, Option.bind_none, if_true, if_false, Bool.false_eq_true, Bool.true_eq_false, Int.toNat_natCast, Int.natCast_nonneg, beq_iff_eq, decide_eq_true_eq, Int.ofNat_lt, decide_true, decide_false, Bool.not_true, Bool.not_false, sp_size, add_size]
      rw [if_pos (by omega)]
    · simp only [if_neg c2, Option.bind_eq_bind, Option.bind_some, Option.bind_none, if_true, if_false, Bool.false_eq_true, Bool.true_eq_false, Int.toNat_natCast, Int.natCast_nonneg, beq_iff_eq, decide_eq_true_eq, Int.ofNat_lt, decide_true, decide_false, Bool.not_true, Bool.not_false]
      rw [f61 (by omega)]
      simp only [Option.bind_eq_bind, Option.bind_some, Option.bind_none, if_true, if_false, Bool.false_eq_true, Bool.true_eq_false, Int.toNat_natCast, Int.natCast_nonneg, beq_iff_eq, decide_eq_true_eq, Int.ofNat_lt, decide_true, decide_false, Bool.not_true, Bool.not_false, sp_size]
      rw [if_pos (by omega), wrap64 (by omega) (by omega), show (b : Int) - (b : Int) = ((0 : Nat) : Int) by omega, f61 (by omega)]
      simp only [Option.bind_eq_bind, Option.bind_some, Option.bind_none, if_true, if_false, Bool.false_eq_true, Bool.true_eq_false, Int.toNat_natCast, Int.natCast_nonneg, beq_iff_eq, decide_eq_true_eq, Int.ofNat_lt, decide_true, decide_false, Bool.not_true, Bool.not_false, sp_size, add_size, sp_right]
      rw [if_pos (by omega)]

theorem f41 {s : ByteArray} (h : code s = 0) {w : Int} (hw : 0 ≤ w ∧ w ≤ 99) {c : Int} (hc : side c = true) : n_41 (s, w, c, ()) = some (padS s (w - (pts s).length).toNat c, ()) := by
  obtain ⟨h1, h2⟩ := code0 h
  have hp : (pts s).length ≤ s.size := by
    have := P_len s.data.toList
    rw [ba_size] at this
    unfold pts; omega
  have hc' : c = 60 ∨ c = 62 ∨ c = 94 := of_decide_eq_true hc
  obtain ⟨b, hb⟩ : ∃ b : Nat, b = (w - (pts s).length).toNat := ⟨_, rfl⟩
  unfold n_41 padS
  simp only [f50 (show s.size ≤ 1000000 by omega), Option.bind_eq_bind, Option.bind_some, Option.bind_none, if_true, if_false, Bool.false_eq_true, Bool.true_eq_false, Int.toNat_natCast, Int.natCast_nonneg, beq_iff_eq, decide_eq_true_eq, Int.ofNat_lt, decide_true, decide_false, Bool.not_true, Bool.not_false]
  rw [← hb, wrap64 (x := w - _) (by omega) (by omega)]
  by_cases hz : w - ((pts s).length : Int) ≤ 0
  · obtain rfl : b = 0 := by omega
    simp only [if_pos hz, Option.bind_eq_bind, Option.bind_some, Option.bind_none, if_true, if_false, Bool.false_eq_true, Bool.true_eq_false, Int.toNat_natCast, Int.natCast_nonneg, beq_iff_eq, decide_eq_true_eq, Int.ofNat_lt, decide_true, decide_false, Bool.not_true, Bool.not_false, sp_left, sp_right, Nat.zero_div, Nat.sub_zero]
    (repeat' split) <;> rfl
  · rw [if_neg hz, show w - ((pts s).length : Int) = (b : Int) by omega]
    by_cases c1 : c = 60
    · rw [if_pos c1, if_pos c1, f63 (by omega)]
      simp only [Option.bind_eq_bind, Option.bind_some, Option.bind_none, if_true, if_false, Bool.false_eq_true, Bool.true_eq_false, Int.toNat_natCast, Int.natCast_nonneg, beq_iff_eq, decide_eq_true_eq, Int.ofNat_lt, decide_true, decide_false, Bool.not_true, Bool.not_false, sp_size]
      rw [if_pos (by omega)]
    · rw [if_neg c1, if_neg c1]
      by_cases c2 : c = 62
      · rw [if_pos c2, if_neg (by omega), f63 (by omega)]
        simp only [Option.bind_eq_bind, Option.bind_some, Option.bind_none, if_true, if_false, Bool.false_eq_true, Bool.true_eq_false, Int.toNat_natCast, Int.natCast_nonneg, beq_iff_eq, decide_eq_true_eq, Int.ofNat_lt, decide_true, decide_false, Bool.not_true, Bool.not_false, sp_size]
        rw [if_pos (by omega)]
      · have ht : ((b : Int)).tdiv 2 = ((b / 2 : Nat) : Int) := by rw [Int.tdiv_eq_ediv_of_nonneg (by omega)]; omega
        rw [if_neg c2, if_pos (by omega), ht, wrap64 (x := ((b / 2 : Nat) : Int)) (by omega) (by omega), f63 (by omega)]
        simp only [Option.bind_eq_bind, Option.bind_some, Option.bind_none, if_true, if_false, Bool.false_eq_true, Bool.true_eq_false, Int.toNat_natCast, Int.natCast_nonneg, beq_iff_eq, decide_eq_true_eq, Int.ofNat_lt, decide_true, decide_false, Bool.not_true, Bool.not_false, sp_size]
        rw [if_pos (by omega), wrap64 (by omega) (by omega), show (b : Int) - ((b / 2 : Nat) : Int) = ((b - b / 2 : Nat) : Int) by omega, f63 (by omega)]
        simp only [Option.bind_eq_bind, Option.bind_some, Option.bind_none, if_true, if_false, Bool.false_eq_true, Bool.true_eq_false, Int.toNat_natCast, Int.natCast_nonneg, beq_iff_eq, decide_eq_true_eq, Int.ofNat_lt, decide_true, decide_false, Bool.not_true, Bool.not_false, sp_size, add_size]
        rw [if_pos (by omega)]

def padR (s : ByteArray) (w c : Int) : ByteArray × Int × Unit :=
  if code s = 0 then (if 0 ≤ w ∧ w ≤ 99 ∧ side c = true then (padS s (w - (pts s).length).toNat c, 0, ()) else (ByteArray.mk #[], 1, ())) else (ByteArray.mk #[], code s, ())

theorem f11 (s : ByteArray) (w : Int) {c : Int} (hc : 0 ≤ c ∧ c < 256) : n_11 (s, w, c, ()) = some (padR s w c) := by
  unfold n_11 padR
  simp only [f36, Option.bind_eq_bind, Option.bind_some, Option.bind_none, if_true, if_false, Bool.false_eq_true, Bool.true_eq_false, Int.toNat_natCast, Int.natCast_nonneg, beq_iff_eq, decide_eq_true_eq, Int.ofNat_lt, decide_true, decide_false, Bool.not_true, Bool.not_false]
  by_cases h : code s = 0
  · rw [if_neg (by simp [h]), if_pos h]
    by_cases h1 : w < 0
    · rw [if_pos h1, if_neg (by omega)]; rfl
    rw [if_neg h1]
    by_cases h2 : w > 99
    · rw [if_pos h2, if_neg (by omega)]; rfl
    rw [if_neg h2]
    obtain ⟨k, hk, hk2⟩ := f37 hc
    rw [hk]
    simp only [Option.bind_eq_bind, Option.bind_some, Option.bind_none, if_true, if_false, Bool.false_eq_true, Bool.true_eq_false, Int.toNat_natCast, Int.natCast_nonneg, beq_iff_eq, decide_eq_true_eq, Int.ofNat_lt, decide_true, decide_false, Bool.not_true, Bool.not_false, hk2]
    by_cases h3 : side c = true
    · rw [if_neg (by simp [h3]), if_pos ⟨by omega, by omega, h3⟩, f33 h ⟨by omega, by omega⟩]; rfl
    · rw [if_pos (by simpa using h3), if_neg (fun hh => h3 hh.2.2)]
  · rw [if_pos (by simpa using h), if_neg h]

theorem f12 (s : ByteArray) (w : Int) (c : Int) : n_12 (s, w, c, ()) = some (padR s w c) := by
  unfold n_12 padR
  simp only [f38, f39, Option.bind_eq_bind, Option.bind_some, Option.bind_none, if_true, if_false, Bool.false_eq_true, Bool.true_eq_false, Int.toNat_natCast, Int.natCast_nonneg, beq_iff_eq, decide_eq_true_eq, Int.ofNat_lt, decide_true, decide_false, Bool.not_true, Bool.not_false]
  by_cases h : code s = 0
  · rw [if_neg (by simp [h]), if_pos h]
    by_cases h1 : 0 ≤ w ∧ w ≤ 99
    · simp only [h1, f40, Option.bind_eq_bind, Option.bind_some, Option.bind_none, if_true, if_false, Bool.false_eq_true, Bool.true_eq_false, Int.toNat_natCast, Int.natCast_nonneg, beq_iff_eq, decide_eq_true_eq, Int.ofNat_lt, decide_true, decide_false, Bool.not_true, Bool.not_false, and_self, true_and]
      by_cases h3 : side c = true
      · simp only [h3, Option.bind_eq_bind, Option.bind_some, Option.bind_none, if_true, if_false, Bool.false_eq_true, Bool.true_eq_false, Int.toNat_natCast, Int.natCast_nonneg, beq_iff_eq, decide_eq_true_eq, Int.ofNat_lt, decide_true, decide_false, Bool.not_true, Bool.not_false]
        rw [f41 h h1 h3]; rfl
      · simp [h3]
    · simp only [h1, Option.bind_eq_bind, Option.bind_some, Option.bind_none, if_true, if_false, Bool.false_eq_true, Bool.true_eq_false, Int.toNat_natCast, Int.natCast_nonneg, beq_iff_eq, decide_eq_true_eq, Int.ofNat_lt, decide_true, decide_false, Bool.not_true, Bool.not_false]
      rw [if_neg (fun hh => h1 ⟨hh.1, hh.2.1⟩)]
  · rw [if_pos (by simpa using h), if_neg h]

/-! ### cuts -/
theorem good_pts {ns : List Int} (h : ∀ x ∈ ns, isPt x) : good ns = ns := by
  unfold good
  exact List.filter_eq_self.mpr fun x hx => by simpa using h x hx
theorem pts_pt (s : ByteArray) : ∀ x ∈ pts s, isPt x := P_pts _
theorem pts_len (s : ByteArray) : (pts s).length ≤ s.size := by
  have := P_len s.data.toList
  rw [ba_size] at this
  unfold pts; omega

def cutR (s : ByteArray) (a b : Int) : ByteArray × Int × Unit :=
  if code s = 0 then (if 0 ≤ a ∧ a ≤ b ∧ b ≤ (pts s).length then (⟨((((pts s).take b.toNat).drop a.toNat).flatMap encodeRune).toArray⟩, 0, ()) else (ByteArray.mk #[], 1, ())) else (ByteArray.mk #[], code s, ())

theorem f16 (s : ByteArray) (a b : Int) : n_16 (s, a, b, ()) = some (cutR s a b) := by
  unfold n_16 cutR
  simp only [f36, Option.bind_eq_bind, Option.bind_some, Option.bind_none, if_true, if_false, Bool.false_eq_true, Bool.true_eq_false, Int.toNat_natCast, Int.natCast_nonneg, beq_iff_eq, decide_eq_true_eq, Int.ofNat_lt, decide_true, decide_false, Bool.not_true, Bool.not_false]
  by_cases h : code s = 0
  · obtain ⟨h1, h2⟩ := code0 h
    have hr : Bs.runes s = pts s := runes_eq h2
    rw [if_neg (by simp [h]), if_pos h, if_pos (by omega), hr]
    by_cases c1 : a < 0
    · rw [if_pos c1, if_neg (by omega)]; rfl
    rw [if_neg c1]
    by_cases c2 : a > b
    · rw [if_pos c2, if_neg (by omega)]; rfl
    rw [if_neg c2]
    simp only [Option.bind_eq_bind, Option.bind_some, Option.bind_none, if_true, if_false, Bool.false_eq_true, Bool.true_eq_false, Int.toNat_natCast, Int.natCast_nonneg, beq_iff_eq, decide_eq_true_eq, Int.ofNat_lt, decide_true, decide_false, Bool.not_true, Bool.not_false]
    by_cases c3 : b > ((pts s).length : Int)
    · rw [if_pos c3, if_neg (by omega)]
    rw [if_neg c3, if_pos (by omega), if_pos (by omega), text_eq]
    exact fun x hx => pts_pt s x (List.mem_of_mem_take (List.mem_of_mem_drop hx))
  · rw [if_pos (by simpa using h), if_neg h]

theorem f17 {s : ByteArray} (hs : s.size ≤ 1000000) (a b : Int) : n_17 (s, a, b, ()) = some (cutR s a b) := by
  unfold n_17 cutR
  simp only [f23 hs, Option.bind_eq_bind, Option.bind_some, Option.bind_none, if_true, if_false, Bool.false_eq_true, Bool.true_eq_false, Int.toNat_natCast, Int.natCast_nonneg, beq_iff_eq, decide_eq_true_eq, Int.ofNat_lt, decide_true, decide_false, Bool.not_true, Bool.not_false]
  by_cases h : code s = 0
  · obtain ⟨h1, h2⟩ := code0 h
    simp only [if_pos h]
    rw [if_neg (by simp [h])]
    have hp := pts_len s
    by_cases c1 : a < 0
    · rw [if_pos c1, if_neg (by omega)]; rfl
    rw [if_neg c1]
    by_cases c2 : a > b
    · rw [if_pos c2, if_neg (by omega)]; rfl
    rw [if_neg c2]
    simp only [Option.bind_eq_bind, Option.bind_some, Option.bind_none, if_true, if_false, Bool.false_eq_true, Bool.true_eq_false, Int.toNat_natCast, Int.natCast_nonneg, beq_iff_eq, decide_eq_true_eq, Int.ofNat_lt, decide_true, decide_false, Bool.not_true, Bool.not_false]
    by_cases c3 : b > ((pts s).length : Int)
    · rw [if_pos c3, if_neg (by omega)]
    rw [if_neg c3, if_pos (by omega), if_pos (by omega), f47 (by rw [List.length_drop, List.length_take]; omega), good_pts]
    · rfl
    exact fun x hx => pts_pt s x (List.mem_of_mem_take (List.mem_of_mem_drop hx))
  · rw [if_pos (by simpa using h), if_neg h]

theorem f48l {orig : List Int} (hn : orig.length ≤ 1000000) : ∀ (d i j : Nat) (xs : List Int), j ≤ d + i → i + j + 1 = orig.length → xs.length = orig.length →
    (∀ k, k < orig.length → xs[k]? = if i ≤ k ∧ k ≤ j then orig[k]? else orig[orig.length - 1 - k]?) →
    n_48s6d60l1 ((i : Int), (j : Int), xs, ()) = some (orig.reverse, ()) := by
  have fin : ∀ (i j : Nat) (xs : List Int), ¬ i < j → i + j + 1 = orig.length → xs.length = orig.length →
    (∀ k, k < orig.length → xs[k]? = if i ≤ k ∧ k ≤ j then orig[k]? else orig[orig.length - 1 - k]?) → n_48s6d60l1 ((i : Int), (j : Int), xs, ()) = some (orig.reverse, ()) := by
    intro i j xs hij h1 h2 h3
    rw [n_48s6d60l1]
    simp only
    rw [if_neg (by simp; omega)]
    congr 2
    apply List.ext_getElem?
    intro k
    by_cases hk : k < orig.length
    · rw [h3 k hk, List.getElem?_reverse hk]
      split
      · rw [show orig.length - 1 - k = k by omega]
      · rfl
    · rw [List.getElem?_eq_none (by omega), List.getElem?_eq_none (by rw [List.length_reverse]; omega)]
  intro d
  induction d with
  | zero =>
    intro i j xs hd h1 h2 h3
    exact fin i j xs (by omega) h1 h2 h3
  | succ d ih =>
    intro i j xs hd h1 h2 h3
    by_cases hij : i < j
    · have hi : i < xs.length := by omega
      have hj : j < xs.length := by omega
      have ei : xs[i]? = some xs[i] := List.getElem?_eq_getElem hi
      have ej : xs[j]? = some xs[j] := List.getElem?_eq_getElem hj
      rw [n_48s6d60l1]
      simp only [List.length_set]
      rw [if_pos (by simp; omega), if_pos ⟨by omega, by omega⟩, Int.toNat_natCast, Int.toNat_natCast, ej]
      simp only [Option.bind_eq_bind, Option.bind_some]
      rw [if_pos ⟨by omega, by omega⟩, ei]
      simp only [Option.bind_some]
      rw [if_pos ⟨by omega, by omega⟩, if_pos ⟨by omega, by omega⟩]
      rw [List.getElem?_set_ne (by omega), ej]
      simp only [Option.bind_some]
      rw [wrap64 (by omega) (by omega), wrap64 (by omega) (by omega), show (i : Int) + 1 = ((i + 1 : Nat) : Int) by omega, show (j : Int) - 1 = ((j - 1 : Nat) : Int) by omega]
      apply ih (i + 1) (j - 1) _ (by omega) (by omega) (by simp; omega)
      intro k hk
      have gi := h3 i (by omega)
      have gj := h3 j (by omega)
      rw [if_pos ⟨by omega, by omega⟩] at gi gj
      by_cases k1 : k = j
      · subst k1
        rw [List.getElem?_set_self (by simp; omega), if_neg (by omega), show orig.length - 1 - k = i by omega, ← gi, ei]
      · rw [List.getElem?_set_ne (by omega)]
        by_cases k2 : k = i
        · subst k2
          rw [List.getElem?_set_self (by omega), if_neg (by omega), show orig.length - 1 - k = j by omega, ← gj, ej]
        · rw [List.getElem?_set_ne (by omega), h3 k hk]
          by_cases k3 : i ≤ k ∧ k ≤ j
          · rw [if_pos k3, if_pos (by omega)]
          · rw [if_neg k3, if_neg (by omega)]
    · exact fin i j xs hij h1 h2 h3

theorem f48 {ns : List Int} (hn : ns.length ≤ 1000000) : n_48s6d60 (ns, ()) = some (ns.reverse, ()) := by
  unfold n_48s6d60
  simp only
  by_cases h : ns = []
  · subst h
    rw [n_48s6d60l1]; rfl
  · have := List.length_pos_iff.2 h
    rw [wrap64 (by omega) (by omega), show (ns.length : Int) - 1 = ((ns.length - 1 : Nat) : Int) by omega, show ((0 : Int)) = ((0 : Nat) : Int) from rfl,
      f48l hn (ns.length - 1) 0 (ns.length - 1) ns (by omega) (by omega) rfl (fun k hk => by rw [if_pos ⟨by omega, by omega⟩])]
    rfl

def revR (s : ByteArray) : ByteArray × Int × Unit :=
  (if code s = 0 then ⟨((pts s).reverse.flatMap encodeRune).toArray⟩ else ByteArray.mk #[], code s, ())

theorem f18 (s : ByteArray) : n_18 (s, ()) = some (revR s) := by
  unfold n_18 revR
  simp only [f36, Option.bind_eq_bind, Option.bind_some, Option.bind_none, if_true, if_false, Bool.false_eq_true, Bool.true_eq_false, Int.toNat_natCast, Int.natCast_nonneg, beq_iff_eq, decide_eq_true_eq, Int.ofNat_lt, decide_true, decide_false, Bool.not_true, Bool.not_false]
  by_cases h : code s = 0
  · obtain ⟨h1, h2⟩ := code0 h
    have hr : Bs.runes s = pts s := runes_eq h2
    have hp := pts_len s
    rw [if_neg (by simp [h]), if_pos h, if_pos (by omega), hr, f48 (by omega)]
    simp only [Option.bind_eq_bind, Option.bind_some, Option.bind_none, if_true, if_false, Bool.false_eq_true, Bool.true_eq_false, Int.toNat_natCast, Int.natCast_nonneg, beq_iff_eq, decide_eq_true_eq, Int.ofNat_lt, decide_true, decide_false, Bool.not_true, Bool.not_false]
    rw [if_pos (by rw [List.length_reverse]), text_eq, h]
    exact fun x hx => pts_pt s x (List.mem_reverse.mp hx)
  · rw [if_pos (by simpa using h), if_neg h]

theorem f19l {ns : List Int} (hn : ns.length ≤ 1000000) (e : Int) : ∀ (i : Nat) (acc : List Int), i ≤ ns.length → acc.length ≤ ns.length - i →
    n_19l4 (ns, e, (i : Int) - 1, acc, ()) = some (e, acc ++ (ns.take i).reverse, ())
  | 0, acc, hi, ha => by
    rw [n_19l4]
    simp only
    rw [if_neg (by simp)]
    simp
  | i + 1, acc, hi, ha => by
    rw [n_19l4]
    simp only
    have e1 : (((i + 1 : Nat) : Int) - 1) = (i : Int) := by omega
    have ei : ns[i]? = some ns[i] := List.getElem?_eq_getElem (by omega)
    rw [e1, if_pos (by simp), if_pos (by omega), Int.toNat_natCast, ei]
    simp only [Option.bind_eq_bind, Option.bind_some]
    rw [if_pos (by simp only [List.length_singleton]; omega), wrap64 (by omega) (by omega), f19l hn e i _ (by omega) (by rw [List.length_append, List.length_singleton]; omega)]
    rw [List.take_add_one, ei]
    simp only [Option.toList_some, List.reverse_append, List.reverse_singleton, List.singleton_append, List.append_assoc]

theorem f19 {s : ByteArray} (hs : s.size ≤ 1000000) : n_19 (s, ()) = some (revR s) := by
  unfold n_19 revR
  simp only [f23 hs, Option.bind_eq_bind, Option.bind_some, Option.bind_none, if_true, if_false, Bool.false_eq_true, Bool.true_eq_false, Int.toNat_natCast, Int.natCast_nonneg, beq_iff_eq, decide_eq_true_eq, Int.ofNat_lt, decide_true, decide_false, Bool.not_true, Bool.not_false]
  have hp := pts_len s
  have hl : (if code s = 0 then pts s else []).length ≤ 1000000 := by
    split
    · omega
    · simp
  rw [wrap64 (by omega) (by omega), f19l hl _ _ [] (Nat.le_refl _) (by simp)]
  simp only [Option.bind_eq_bind, Option.bind_some, Option.bind_none, if_true, if_false, Bool.false_eq_true, Bool.true_eq_false, Int.toNat_natCast, Int.natCast_nonneg, beq_iff_eq, decide_eq_true_eq, Int.ofNat_lt, decide_true, decide_false, Bool.not_true, Bool.not_false, List.nil_append, List.take_length]
  rw [f47 (by rw [List.length_reverse]; exact hl)]
  simp only [Option.bind_eq_bind, Option.bind_some, Option.bind_none, if_true, if_false, Bool.false_eq_true, Bool.true_eq_false, Int.toNat_natCast, Int.natCast_nonneg, beq_iff_eq, decide_eq_true_eq, Int.ofNat_lt, decide_true, decide_false, Bool.not_true, Bool.not_false]
  by_cases h : code s = 0
  · simp only [if_pos h]
    rw [good_pts]
    exact fun x hx => pts_pt s x (List.mem_reverse.mp hx)
  · simp only [if_neg h]
    rfl

/-- A text's opposite: its code points are the text's, in the opposite order. -/
theorem rev_twice {s : ByteArray} (h : code s = 0) : revR (revR s).1 = (s, 0, ()) := by
  obtain ⟨h1, h2⟩ := code0 h
  have hp : ∀ x ∈ (pts s).reverse, isPt x := fun x hx => pts_pt s x (List.mem_reverse.mp hx)
  obtain ⟨t, ht⟩ : ∃ t, t = (revR s).1 := ⟨_, rfl⟩
  have hd : t.data.toList = (pts s).reverse.flatMap encodeRune := by rw [ht]; unfold revR; rw [if_pos h]
  have hP := P_enc hp
  have hfull : (pts s).flatMap encodeRune = s.data.toList := P_full (by rw [ba_size]; exact h2)
  have hsz : t.size = s.size := by rw [← ba_size, hd, enc_rev_len, hfull, ba_size]
  have hpt : pts t = (pts s).reverse := by unfold pts at *; rw [hd, hP]
  have hft : fit t = t.size := by rw [← ba_size]; unfold fit; rw [hd, hP]
  have hc : code t = 0 := by unfold code; rw [if_neg (by omega), if_pos hft]
  rw [← ht]
  unfold revR
  rw [if_pos hc, hc, hpt, List.reverse_reverse, hfull, ba_eta]

end Go.Proofs.YtnbkpokcfcednaaDoor
