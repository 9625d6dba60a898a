/-
  Texts of this claim, joined by a program of mine: what the theorem uses.
-/
import Derived.Test.YtdmggfegkaiaiaaGreatDoorPkF
import Derived.Lib.TrimUEq
import Derived.Test.YtdmggfegkaiaiaaGreatDoorPkE
import Derived.Test.YtdmggfegkaiaiaaGreatDoorCards
import Derived.Test.YtdmggfegkaiaiaaGreatDoorTie
import Derived.Test.YtdmggfegkaiaiaaGreatDoorPkC
import Derived.ProofKit
import Derived.OpenShut
import Derived.LaidMore
import Derived.Lay
import Derived.SevenTiedAt
import Derived.Stop.Joined
set_option linter.unusedSimpArgs false
set_option linter.unusedVariables false
section
namespace Go.Proofs.YtdmggfegkaiaiaaGreatDoor
open Go.Awp Go.Tx
open IntKind (i64)
set_option maxRecDepth 20000
def At (s : ByteArray) (k : Nat) (l : List UInt8) : Prop := k + l.length ≤ s.size ∧ ∃ r, s.data.toList.drop k = l ++ r
theorem At.cons {s : ByteArray} {k : Nat} {c : UInt8} {l : List UInt8} (h : At s k (c :: l)) : s[k]? = some c ∧ At s (k + 1) l := by
 obtain ⟨hl, r, hr⟩ := h
 rw [List.length_cons] at hl
 have hk : k < s.data.toList.length := by rw [ba_size]; omega
 rw [List.drop_eq_getElem_cons hk, List.cons_append, List.cons.injEq] at hr
 exact ⟨by rw [ba_get, List.getElem?_eq_getElem hk, hr.1], by omega, r, hr.2⟩
theorem At.app {s : ByteArray} : ∀ {l m : List UInt8} {k : Nat}, At s k (l ++ m) → At s k l ∧ At s (k + l.length) m := by
 intro l m k h
 obtain ⟨hl, r, hr⟩ := h
 rw [List.length_append] at hl
 refine ⟨⟨by omega, m ++ r, by rw [hr, List.append_assoc]⟩, by omega, r, ?_⟩
 rw [← List.drop_drop, hr, List.append_assoc, List.drop_left]
theorem At.in_ {s : ByteArray} {k : Nat} {l : List UInt8} (h : At s k l) (hs : s.size ≤ 65536) : In s k ∧ In s (k + l.length) := ⟨⟨by have := h.1; omega, hs⟩, ⟨h.1, hs⟩⟩
theorem At.hv {s : ByteArray} {k : Nat} {c : UInt8} {l : List UInt8} (h : At s k (c :: l)) : hv s k = (c.toNat : Int) := hv_some h.cons.1
theorem At.ext {s : ByteArray} {k : Nat} {l : List UInt8} (h : At s k l) : s.extract k (k + l.length) = ofL l := by
 obtain ⟨hl, r, hr⟩ := h
 apply ba_ext
 rw [ba_extract, List.drop_take, hr]
 have : k + l.length - k = l.length := by omega
 rw [this, List.take_left]
theorem At.get {s : ByteArray} {k : Nat} {l : List UInt8} (h : At s k l) {i : Nat} {c : UInt8} (hi : l[i]? = some c) : s[k + i]? = some c := by
 obtain ⟨hl, r, hr⟩ := h
 have hlt := (List.getElem?_eq_some_iff.1 hi).1
 rw [ba_get, ← List.getElem?_drop, hr, List.getElem?_append_left hlt, hi]
theorem rwordl (w s : ByteArray) (hw : w.size ≤ 65536) {k : Nat} (hs : s.size ≤ 65536) (h : At s k w.data.toList) : ∀ (m i : Nat), w.size - i = m → i ≤ w.size →
  n_92s5bd0l2 (w, (w.size : Int), (i : Int), Rd s (k + i), ()) = some (.inr (Rd s (k + w.size), ())) := by
 intro m
 induction m with
 | zero =>
  intro i hi hle
  have hlt : ¬ i < w.size := by omega
  have : i = w.size := by omega
  rw [n_92s5bd0l2]
  simp only [sW, hlt]
  rw [this]
 | succ m ih =>
  intro i hi hle
  have hlt : i < w.size := by omega
  obtain ⟨c, hc⟩ : ∃ c, w[i]? = some c := ⟨w[i], getElem?_pos w i hlt⟩
  have hc2 := h.get (i := i) (c := c) (by rw [← ba_get]; exact hc)
  have hk : In s (k + i) := ⟨by have := get_lt hc2; omega, hs⟩
  have e2 : ((i : Int) ≤ ((i + 1 : Nat) : Int) ∧ ((i + 1 : Nat) : Int) ≤ (w.size : Int)) = True := eq_true ⟨by omega, by omega⟩
  have hin : inr (c.toNat : Int) (c.toNat : Int) s (k + i) = true := by unfold inr; rw [hc2]; simp
  rw [n_92s5bd0l2]
  simp only [sW, hlt, wrap_succ hlt (by omega), e2, true_and, t97 _ s hk, hit_one hc, hin, Bool.not_true]
  exact ih (i + 1) (by omega) (by omega)
theorem rword (w s : ByteArray) (hw : w.size ≤ 65536) {k : Nat} (hs : s.size ≤ 65536) (h : At s k w.data.toList) : n_92s5bd0 (w, Rd s k, ()) = some (true, Rd s (k + w.size), ()) := by
 have := rwordl w s hw hs h _ 0 rfl (Nat.zero_le _)
 simp only [Int.natCast_zero, Int.ofNat_eq_natCast, List.drop_zero, Nat.add_zero] at this
 unfold n_92s5bd0
 simp only [this, sW]
theorem rdigit (s : ByteArray) (b : Bool) (z : Tag) {k : Nat} (hk : In s k) (n : Int) (h : inr 48 57 s k = true) :
  n_93s0e1dl6 (b, n, Rd s k, z, ()) = n_93s0e1dl6 (b, min (i64.wrap (i64.wrap (10 * n) + (hv s k - 48))) 576460752303423488, Rd s (k + 1), z, ()) := by
 obtain ⟨h1, h2⟩ := (inr_hv (by decide) s k).1 h
 have hw : IntKind.u8.wrap (hv s k - 48) = hv s k - 48 := u8w (by omega) (by omega)
 have hw2 : i64.wrap (hv s k - 48) = hv s k - 48 := wrap64 (by omega) (by omega)
 have e1 : hv s k ≥ 48 := h1
 rw [n_93s0e1dl6]
 simp only [t91 s hk, sW, e1, h2, wk hk, hw, hw2]
theorem rdigits (s : ByteArray) (hs : s.size ≤ 65536) (b : Bool) (z : Tag) : ∀ (u : Nat), u ≤ 9007199254740992 → ∀ k : Nat, At s k (Lib.decDigits u) →
  n_93s0e1dl6 (b, 0, Rd s k, z, ()) = n_93s0e1dl6 (b, (u : Int), Rd s (k + (Lib.decDigits u).length), z, ()) := by
 intro u
 induction u using Nat.strongRecOn with
 | _ u ih =>
  intro hu k h
  have dig : ∀ (k d : Nat), d < 10 → At s k [UInt8.ofNat (48 + d)] → inr 48 57 s k = true ∧ hv s k - 48 = (d : Int) := by
   intro k d hd h
   have e := h.hv
   have e2 := byI (show 48 + d < 256 by omega)
   rw [e2] at e
   exact ⟨(inr_hv (by decide) s k).2 ⟨by omega, by omega⟩, by omega⟩
  by_cases h10 : u < 10
  ·have e : Lib.decDigits u = [UInt8.ofNat (48 + u)] := by rw [Lib.decDigits, dif_pos h10]
   rw [e] at h ⊢
   obtain ⟨g1, g2⟩ := dig k u h10 h
   rw [rdigit s b z (h.in_ hs).1 0 g1, g2]
   have : min (i64.wrap (i64.wrap (10 * 0) + (u : Int))) 576460752303423488 = (u : Int) := by
    rw [wrap64 (x := 10 * 0) (by omega) (by omega), wrap64 (by omega) (by omega)]; omega
   rw [this]; rfl
  ·have e : Lib.decDigits u = Lib.decDigits (u / 10) ++ [UInt8.ofNat (48 + u % 10)] := by rw [Lib.decDigits, dif_neg h10]
   rw [e] at h ⊢
   obtain ⟨h1, h2⟩ := h.app
   obtain ⟨g1, g2⟩ := dig _ (u % 10) (Nat.mod_lt _ (by decide)) h2
   rw [ih (u / 10) (by omega) (by omega) k h1, rdigit s b z (h2.in_ hs).1 _ g1, g2, List.length_append, List.length_singleton, ← Nat.add_assoc]
   have : min (i64.wrap (i64.wrap (10 * ((u / 10 : Nat) : Int)) + ((u % 10 : Nat) : Int))) 576460752303423488 = (u : Int) := by
    rw [wrap64 (x := 10 * ((u / 10 : Nat) : Int)) (by omega) (by omega), wrap64 (by omega) (by omega)]; omega
   rw [this]
theorem dec_head : ∀ u : Nat, 0 < u → ∃ c r, Lib.decDigits u = c :: r ∧ 49 ≤ c.toNat ∧ c.toNat ≤ 57 := by
 intro u
 induction u using Nat.strongRecOn with
 | _ u ih =>
  intro hu
  by_cases h10 : u < 10
  ·refine ⟨UInt8.ofNat (48 + u), [], by rw [Lib.decDigits, dif_pos h10], ?_⟩
   have := byI (show 48 + u < 256 by omega)
   omega
  ·obtain ⟨c, r, hc, h1, h2⟩ := ih (u / 10) (by omega) (by omega)
   exact ⟨c, r ++ [UInt8.ofNat (48 + u % 10)], by rw [Lib.decDigits, dif_neg h10, hc]; rfl, h1, h2⟩
def ndg (s : ByteArray) (k : Nat) : Prop := ¬ (48 ≤ hv s k ∧ hv s k ≤ 57)
theorem rend (s : ByteArray) (b : Bool) (z : Tag) {k : Nat} (hk : In s k) (n : Int) (h : ndg s k) : n_93s0e1dl6 (b, n, Rd s k, z, ()) = some (b, n, Rd s k, z, ()) := by
 rw [n_93s0e1dl6]
 simp only [t91 s hk, sW]
 by_cases h1 : hv s k ≥ 48
 ·have h2 : ¬ hv s k ≤ 57 := fun q => h ⟨h1, q⟩
  simp only [h1, h2, sW]
 ·simp only [h1, sW]
theorem rnumber {n : Int} (h1 : -9007199254740992 ≤ n) (h2 : n ≤ 9007199254740992) {s : ByteArray} (hs : s.size ≤ 65536) {k : Nat} (h : At s k (Lib.itoa n)) (he : ndg s (k + (Lib.itoa n).length)) :
  n_93s0e1d (Rd s k, ()) = some (true, Rd s (k + (Lib.itoa n).length), Tag.mk 3 n mt [] [], ()) := by
 have main : ∀ (u k : Nat) (b : Bool), u ≤ 9007199254740992 → At s k (Lib.decDigits u) → ndg s (k + (Lib.decDigits u).length) → (b = true → 0 < u) →
   ((n_97s5bd0 (ByteArray.mk #[48], Rd s k, ()) >>= fun x2 =>
  if x2.1 = true then
   some (Sum.inl (b, (0 : Int), x2.2.1, Tag.mk 0 0 (ByteArray.mk #[]) [] [], ()))
  else (n_91s0e1d (x2.2.1, ()) >>= fun x3 =>
   if decide (x3.1 ≥ 49) = true then
    n_91s0e1d (x3.2.1, ()) >>= fun x4 =>
    some ((b, (0 : Int), decide (x4.1 ≤ 57), x4.2.1, Tag.mk 0 0 (ByteArray.mk #[]) [] [], ()))
   else some ((b, 0, false, x3.2.1, Tag.mk 0 0 (ByteArray.mk #[]) [] [], ()))) >>= fun x3 =>
  if x3.2.2.1 = true then
   n_93s0e1dl6 (x3.1, x3.2.1, x3.2.2.2.1, x3.2.2.2.2.1, ()) >>= fun x4 =>
   some (Sum.inl (x4.1, x4.2.1, x4.2.2.1, x4.2.2.2.1, ()))
  else some (Sum.inr (false, x3.2.2.2.1, Tag.mk 0 0 (ByteArray.mk #[]) [] [], ()))) >>= fun x2 => match x2 with
  | .inl y2 => (if y2.1 = true then
     some ((i64.wrap (0 - y2.2.1), y2.2.2.1, y2.2.2.2.1, ()))
    else some ((y2.2.1, y2.2.2.1, y2.2.2.2.1, ()))) >>= fun x3 =>
   some ((true, x3.2.1, Tag.mk 3 x3.1 (ByteArray.mk #[]) [] [], ()))
  | .inr y2 => some y2) = some (true, Rd s (k + (Lib.decDigits u).length), Tag.mk 3 (if b = true then -(u : Int) else (u : Int)) mt [] [], ()) := by
  intro u k b hu h he hb
  have hk := (h.in_ hs).1
  have hke := (h.in_ hs).2
  by_cases h0 : u = 0
  ·subst h0
   have e : Lib.decDigits 0 = [48] := by rw [Lib.decDigits, dif_pos (by decide)]; rfl
   rw [e] at h ⊢
   have hh : hit (ByteArray.mk #[48]) s k = true := by
    rw [hit_byte, inr_eq (by decide), h.hv]; rfl
   cases b with
   | true => have := hb rfl; omega
   | false =>
    simp only [t97 _ s hk, hh, sW]
    rfl
  ·obtain ⟨c, r, hc, c1, c2⟩ := dec_head u (by omega)
   have hv1 : hv s k = (c.toNat : Int) := by rw [hc] at h; exact h.hv
   have hh : hit (ByteArray.mk #[48]) s k = false := by
    rw [hit_byte, inr_eq (by decide), hv1]
    have : ¬ (c.toNat : Int) = ((48 : UInt8).toNat : Int) := by
     have : ((48 : UInt8).toNat : Int) = 48 := rfl
     omega
    simpa using this
   have g1 : hv s k ≥ 49 := by omega
   have g2 : hv s k ≤ 57 := by omega
   have hr := rdigits s hs b (Tag.mk 0 0 mt [] []) u hu k h
   rw [rend s b _ hke _ he] at hr
   simp only [t97 _ s hk, hh, sW, t91 s hk, g1, g2, hr]
   cases b with
   | true =>
    have : i64.wrap (0 - (u : Int)) = -(u : Int) := by rw [wrap64 (by omega) (by omega)]; omega
    simp only [sW, this]
   | false => simp only [sW]
 unfold n_93s0e1d
 unfold Lib.itoa at h he ⊢
 by_cases hn : n < 0
 ·rw [if_pos hn] at h he ⊢
  obtain ⟨e1, h3⟩ := h.cons
  have hk := (h.in_ hs).1
  have hh : hit (ByteArray.mk #[45]) s k = true := by
   rw [hit_byte, inr_eq (by decide), h.hv]; rfl
  have m := main n.natAbs (k + 1) true (by omega) h3 (by rw [List.length_cons] at he; rw [Nat.add_assoc, Nat.add_comm 1]; exact he) (fun _ => by omega)
  have e4 : -((n.natAbs : Nat) : Int) = n := by omega
  simp only [if_true, e4] at m
  have e5 : k + 1 + (Lib.decDigits n.natAbs).length = k + (45 :: Lib.decDigits n.natAbs).length := by rw [List.length_cons]; omega
  rw [e5] at m
  simp only [t97 (ByteArray.mk #[45]) s hk, hh, if_true, Option.bind_eq_bind, Option.bind_some] at m ⊢
  exact m
 ·rw [if_neg hn] at h he ⊢
  have hk := (h.in_ hs).1
  have hne : hv s k ≠ 45 := by
   by_cases h0 : n.toNat = 0
   ·rw [h0] at h
    have e : Lib.decDigits 0 = [48] := by rw [Lib.decDigits, dif_pos (by decide)]; rfl
    rw [e] at h
    rw [h.hv]; decide
   ·obtain ⟨c, r, hc, c1, c2⟩ := dec_head n.toNat (by omega)
    rw [hc] at h
    rw [h.hv]; omega
  have hh : hit (ByteArray.mk #[45]) s k = false := by
   rw [hit_byte, inr_eq (by decide)]
   simpa using hne
  have m := main n.toNat k false (by omega) h he (fun h => by cases h)
  have e4 : ((n.toNat : Nat) : Int) = n := by omega
  simp only [Bool.false_eq_true, if_false, e4] at m
  simp only [t97 (ByteArray.mk #[45]) s hk, hh, Bool.false_eq_true, if_false, Option.bind_eq_bind, Option.bind_some] at m ⊢
  exact m
end Go.Proofs.YtdmggfegkaiaiaaGreatDoor
end
section
namespace Go.Proofs.YtdmggfegkaiaiaaGreatDoor
open Go.Awp Go.Tx
set_option maxRecDepth 20000
theorem dec_shape (l : List UInt8) (hne : l ≠ []) (hg : ¬ ((Lib.decodeL l).1 = 65533 ∧ (Lib.decodeL l).2 = 1)) :
  (1 ≤ l.length ∧ (l.getD 0 0).toNat < 128 ∧ (Lib.decodeL l).2 = 1) ∨
  (2 ≤ l.length ∧ 194 ≤ (l.getD 0 0).toNat ∧ (l.getD 0 0).toNat ≤ 223 ∧ 128 ≤ (l.getD 1 0).toNat ∧ (l.getD 1 0).toNat ≤ 191 ∧ (Lib.decodeL l).2 = 2) ∨
  (3 ≤ l.length ∧ 224 ≤ (l.getD 0 0).toNat ∧ (l.getD 0 0).toNat ≤ 239 ∧ (if (l.getD 0 0).toNat = 224 then 160 else 128) ≤ (l.getD 1 0).toNat ∧ (l.getD 1 0).toNat ≤ (if (l.getD 0 0).toNat = 237 then 159 else 191) ∧
    128 ≤ (l.getD 2 0).toNat ∧ (l.getD 2 0).toNat ≤ 191 ∧ (Lib.decodeL l).2 = 3) ∨
  (4 ≤ l.length ∧ 240 ≤ (l.getD 0 0).toNat ∧ (l.getD 0 0).toNat ≤ 244 ∧ (if (l.getD 0 0).toNat = 240 then 144 else 128) ≤ (l.getD 1 0).toNat ∧ (l.getD 1 0).toNat ≤ (if (l.getD 0 0).toNat = 244 then 143 else 191) ∧
    128 ≤ (l.getD 2 0).toNat ∧ (l.getD 2 0).toNat ≤ 191 ∧ 128 ≤ (l.getD 3 0).toNat ∧ (l.getD 3 0).toNat ≤ 191 ∧ (Lib.decodeL l).2 = 4) := by
 have hl : 1 ≤ l.length := by cases l with | nil => exact (hne rfl).elim | cons a t => simp
 have b0 := (l.getD 0 0).toNat_lt
 have b1 := (l.getD 1 0).toNat_lt
 have b2 := (l.getD 2 0).toNat_lt
 have b3 := (l.getD 3 0).toNat_lt
 rw [Lib.decodeL_N] at hg ⊢
 generalize (l.getD 0 0).toNat = x0 at *
 generalize (l.getD 1 0).toNat = x1 at *
 generalize (l.getD 2 0).toNat = x2 at *
 generalize (l.getD 3 0).toNat = x3 at *
 unfold Lib.decodeN at hg ⊢
 by_cases c0 : x0 < 128
 ·exact .inl ⟨hl, c0, by rw [if_pos c0]⟩
 ·rw [if_neg c0] at hg ⊢
  by_cases c1 : x0 / 32 = 6 ∧ (1 < l.length ∧ x1 / 64 = 2)
  ·rw [if_pos c1] at hg ⊢
   by_cases d : x0 % 32 * 64 + x1 % 64 ≥ 128
   ·rw [if_pos d]
    refine .inr (.inl ⟨by omega, by omega, by omega, by omega, by omega, rfl⟩)
   ·rw [if_neg d] at hg; exact (hg ⟨rfl, rfl⟩).elim
  ·rw [if_neg c1] at hg ⊢
   by_cases c2 : x0 / 16 = 14 ∧ (1 < l.length ∧ x1 / 64 = 2) ∧ (2 < l.length ∧ x2 / 64 = 2)
   ·rw [if_pos c2] at hg ⊢
    split at hg
    ·rename_i d
     rw [if_pos d]
     refine .inr (.inr (.inl ⟨by omega, by omega, by omega, ?_, ?_, by omega, by omega, rfl⟩))
     ·split <;> omega
     ·split <;> omega
    ·exact (hg ⟨rfl, rfl⟩).elim
   ·rw [if_neg c2] at hg ⊢
    by_cases c3 : x0 / 8 = 30 ∧ (1 < l.length ∧ x1 / 64 = 2) ∧ (2 < l.length ∧ x2 / 64 = 2) ∧ (3 < l.length ∧ x3 / 64 = 2)
    ·rw [if_pos c3] at hg ⊢
     split at hg
     ·rename_i d
      rw [if_pos d]
      refine .inr (.inr (.inr ⟨by omega, by omega, by omega, ?_, ?_, by omega, by omega, by omega, by omega, rfl⟩))
      ·split <;> omega
      ·split <;> omega
     ·exact (hg ⟨rfl, rfl⟩).elim
    ·rw [if_neg c3] at hg; exact (hg ⟨rfl, rfl⟩).elim
theorem r22 {s : ByteArray} {k : Nat} (hk : In s k) {lo hi : Int} (h : inr lo hi s k = true) {n i : Nat} (hi' : i < n) (hn : n ≤ 3) :
  n_121s0e1dl22 (lo, hi, (n : Int), (i : Int), Rd s k, ()) = n_121s0e1dl22 (128, 191, (n : Int), ((i + 1 : Nat) : Int), Rd s (k + 1), ()) := by
 rw [n_121s0e1dl22]
 have e : (i : Int) < (n : Int) := by omega
 simp only [sW, hi', t152 lo hi s hk, h, Bool.not_true, wrap_succ hi' (show n ≤ 9223372036854775807 by omega)]
theorem r22e (s : ByteArray) (k : Nat) (lo hi : Int) (n : Nat) : n_121s0e1dl22 (lo, hi, (n : Int), (n : Int), Rd s k, ()) = some (.inr (Rd s k, ())) := by
 rw [n_121s0e1dl22]
 simp only [sW, Nat.lt_irrefl, decide_false]
theorem p1 {s : ByteArray} {k : Nat} (hk : In s k) (c : UInt8) (hc : s[k]? = some c) (h : c.toNat < 128) : n_121s0e1d (Rd s k, ()) = some (true, Rd s (k + 1), ()) := by
 have hcv := hv_some hc
 have l := fun lo hi => r22e s (k + 1) lo hi 0
 simp only [Int.natCast_zero, Int.ofNat_eq_natCast, List.drop_zero] at l
 have c1 : (c.toNat : Int) < 128 := by omega
 have f1 : ¬ ((c.toNat : Int) = 224) := by omega
 have f2 : ¬ ((c.toNat : Int) = 237) := by omega
 have f3 : ¬ ((c.toNat : Int) = 240) := by omega
 have f4 : ¬ ((c.toNat : Int) = 244) := by omega
 unfold n_121s0e1d
 simp only [hc, c1, f1, f2, f3, f4, sW, wk hk, l]
theorem p2 {s : ByteArray} {k : Nat} (hk : In s k) (c : UInt8) (hc : s[k]? = some c) (h1 : 194 ≤ c.toNat) (h2 : c.toNat ≤ 223) (g1 : inr 128 191 s (k + 1) = true) : n_121s0e1d (Rd s k, ()) = some (true, Rd s (k + 2), ()) := by
 have hk1 := hk.next hc
 have l := r22 hk1 g1 (n := 1) (i := 0) (by omega) (by omega)
 have l2 := r22e s (k + 2) 128 191 1
 have e1 : ((1 : Nat) : Int) = 1 := rfl
 simp only [Int.natCast_zero, Int.ofNat_eq_natCast, List.drop_zero, Nat.zero_add, e1] at l l2
 rw [l2] at l
 have c1 : ¬ (c.toNat : Int) < 128 := by omega
 have c2 : ¬ (c.toNat : Int) < 194 := by omega
 have c3 : ¬ (c.toNat : Int) > 244 := by omega
 have c4 : (c.toNat : Int) < 224 := by omega
 have f1 : ¬ ((c.toNat : Int) = 224) := by omega
 have f2 : ¬ ((c.toNat : Int) = 237) := by omega
 have f3 : ¬ ((c.toNat : Int) = 240) := by omega
 have f4 : ¬ ((c.toNat : Int) = 244) := by omega
 unfold n_121s0e1d
 simp only [hc, c1, c2, c3, c4, f1, f2, f3, f4, sW, wk hk, l]
theorem p3 {s : ByteArray} {k : Nat} (hk : In s k) (c : UInt8) (hc : s[k]? = some c) (h1 : 224 ≤ c.toNat) (h2 : c.toNat ≤ 239)
  (g1 : inr (if c.toNat = 224 then 160 else 128) (if c.toNat = 237 then 159 else 191) s (k + 1) = true) (g2 : inr 128 191 s (k + 2) = true) : n_121s0e1d (Rd s k, ()) = some (true, Rd s (k + 3), ()) := by
 have hk1 := hk.next hc
 have hk2 := inr_in hk1 g1
 have l := r22 hk1 g1 (n := 2) (i := 0) (by omega) (by omega)
 have l1 := r22 hk2 g2 (n := 2) (i := 1) (by omega) (by omega)
 have l2 := r22e s (k + 3) 128 191 2
 have e1 : ((1 : Nat) : Int) = 1 := rfl
 have e2 : ((2 : Nat) : Int) = 2 := rfl
 have e3 : ((1 + 1 : Nat) : Int) = 2 := rfl
 simp only [Int.natCast_zero, Int.ofNat_eq_natCast, List.drop_zero, Nat.zero_add, e1, e2, e3] at l l1 l2
 rw [l1, l2] at l
 have c1 : ¬ (c.toNat : Int) < 128 := by omega
 have c2 : ¬ (c.toNat : Int) < 194 := by omega
 have c3 : ¬ (c.toNat : Int) > 244 := by omega
 have c4 : ¬ (c.toNat : Int) < 224 := by omega
 have c5 : (c.toNat : Int) < 240 := by omega
 have f3 : ¬ ((c.toNat : Int) = 240) := by omega
 have f4 : ¬ ((c.toNat : Int) = 244) := by omega
 unfold n_121s0e1d
 by_cases f1 : c.toNat = 224
 ·have f1' : ((c.toNat : Int) = 224) := by omega
  have f2 : ¬ (c.toNat = 237) := by omega
  rw [if_pos f1, if_neg f2] at l
  have n1 : ¬ ((224 : Int) < 128) := by decide
  have n2 : ¬ ((224 : Int) < 194) := by decide
  have n3 : ¬ ((224 : Int) > 244) := by decide
  have n4 : ¬ ((224 : Int) < 224) := by decide
  have n5 : ((224 : Int) < 240) := by decide
  simp only [hc, f1', n1, n2, n3, n4, n5, sW, wk hk, l]
 ·have f1' : ¬ ((c.toNat : Int) = 224) := by omega
  by_cases f2 : c.toNat = 237
  ·have f2' : ((c.toNat : Int) = 237) := by omega
   rw [if_neg f1, if_pos f2] at l
   have n1 : ¬ ((237 : Int) < 128) := by decide
   have n2 : ¬ ((237 : Int) < 194) := by decide
   have n3 : ¬ ((237 : Int) > 244) := by decide
   have n4 : ¬ ((237 : Int) < 224) := by decide
   have n5 : ((237 : Int) < 240) := by decide
   have n6 : ¬ ((237 : Int) = 224) := by decide
   simp only [hc, f2', n1, n2, n3, n4, n5, n6, sW, wk hk, l]
  ·have f2' : ¬ ((c.toNat : Int) = 237) := by omega
   rw [if_neg f1, if_neg f2] at l
   simp only [hc, c1, c2, c3, c4, c5, f1', f2', f3, f4, sW, wk hk, l]
theorem p4 {s : ByteArray} {k : Nat} (hk : In s k) (c : UInt8) (hc : s[k]? = some c) (h1 : 240 ≤ c.toNat) (h2 : c.toNat ≤ 244)
  (g1 : inr (if c.toNat = 240 then 144 else 128) (if c.toNat = 244 then 143 else 191) s (k + 1) = true) (g2 : inr 128 191 s (k + 2) = true) (g3 : inr 128 191 s (k + 3) = true) : n_121s0e1d (Rd s k, ()) = some (true, Rd s (k + 4), ()) := by
 have hk1 := hk.next hc
 have hk2 := inr_in hk1 g1
 have hk3 := inr_in hk2 g2
 have l := r22 hk1 g1 (n := 3) (i := 0) (by omega) (by omega)
 have l1 := r22 hk2 g2 (n := 3) (i := 1) (by omega) (by omega)
 have l2 := r22 hk3 g3 (n := 3) (i := 2) (by omega) (by omega)
 have l3 := r22e s (k + 4) 128 191 3
 have e1 : ((1 : Nat) : Int) = 1 := rfl
 have e2 : ((2 : Nat) : Int) = 2 := rfl
 have e3 : ((3 : Nat) : Int) = 3 := rfl
 have e4 : ((1 + 1 : Nat) : Int) = 2 := rfl
 have e5 : ((2 + 1 : Nat) : Int) = 3 := rfl
 simp only [Int.natCast_zero, Int.ofNat_eq_natCast, List.drop_zero, Nat.zero_add, e1, e2, e3, e4, e5] at l l1 l2 l3
 rw [l1, l2, l3] at l
 have c1 : ¬ (c.toNat : Int) < 128 := by omega
 have c2 : ¬ (c.toNat : Int) < 194 := by omega
 have c3 : ¬ (c.toNat : Int) > 244 := by omega
 have c4 : ¬ (c.toNat : Int) < 224 := by omega
 have c5 : ¬ (c.toNat : Int) < 240 := by omega
 have f1 : ¬ ((c.toNat : Int) = 224) := by omega
 have f2 : ¬ ((c.toNat : Int) = 237) := by omega
 unfold n_121s0e1d
 by_cases f3 : c.toNat = 240
 ·have f3' : ((c.toNat : Int) = 240) := by omega
  have f4 : ¬ (c.toNat = 244) := by omega
  rw [if_pos f3, if_neg f4] at l
  have n1 : ¬ ((240 : Int) < 128) := by decide
  have n2 : ¬ ((240 : Int) < 194) := by decide
  have n3 : ¬ ((240 : Int) > 244) := by decide
  have n4 : ¬ ((240 : Int) < 224) := by decide
  have n5 : ¬ ((240 : Int) < 240) := by decide
  have n6 : ¬ ((240 : Int) = 224) := by decide
  have n7 : ¬ ((240 : Int) = 237) := by decide
  simp only [hc, f3', n1, n2, n3, n4, n5, n6, n7, sW, wk hk, l]
 ·have f3' : ¬ ((c.toNat : Int) = 240) := by omega
  by_cases f4 : c.toNat = 244
  ·have f4' : ((c.toNat : Int) = 244) := by omega
   rw [if_neg f3, if_pos f4] at l
   have n1 : ¬ ((244 : Int) < 128) := by decide
   have n2 : ¬ ((244 : Int) < 194) := by decide
   have n3 : ¬ ((244 : Int) > 244) := by decide
   have n4 : ¬ ((244 : Int) < 224) := by decide
   have n5 : ¬ ((244 : Int) < 240) := by decide
   have n6 : ¬ ((244 : Int) = 224) := by decide
   have n7 : ¬ ((244 : Int) = 237) := by decide
   have n8 : ¬ ((244 : Int) = 240) := by decide
   simp only [hc, f4', n1, n2, n3, n4, n5, n6, n7, n8, sW, wk hk, l]
  ·have f4' : ¬ ((c.toNat : Int) = 244) := by omega
   rw [if_neg f3, if_neg f4] at l
   simp only [hc, c1, c2, c3, c4, c5, f1, f2, f3', f4', sW, wk hk, l]
theorem dec_w (l : List UInt8) (hne : l ≠ []) (hg : ¬ ((Lib.decodeL l).1 = 65533 ∧ (Lib.decodeL l).2 = 1)) :
  1 ≤ (Lib.decodeL l).2 ∧ (Lib.decodeL l).2 ≤ l.length ∧ (128 ≤ (l.getD 0 0).toNat → ∀ c ∈ l.take (Lib.decodeL l).2, 128 ≤ c.toNat) := by
 have all : ∀ w, w ≤ l.length → (∀ i, i < w → 128 ≤ (l.getD i 0).toNat) → ∀ c ∈ l.take w, 128 ≤ c.toNat := by
  intro w hw h c hc
  obtain ⟨i, hi, e⟩ := List.mem_iff_getElem.1 hc
  rw [List.length_take] at hi
  have := h i (by omega)
  rw [List.getD_eq_getElem?_getD, List.getElem?_eq_getElem (by omega : i < l.length)] at this
  rw [List.getElem_take] at e
  rw [← e]; exact this
 rcases dec_shape l hne hg with ⟨a1, a2, e⟩ | ⟨a1, a2, a3, a4, a5, e⟩ | ⟨a1, a2, a3, a4, a5, a6, a7, e⟩ | ⟨a1, a2, a3, a4, a5, a6, a7, a8, a9, e⟩
 ·rw [e]
  exact ⟨Nat.le_refl _, a1, fun h => by omega⟩
 ·rw [e]
  refine ⟨by omega, a1, fun _ => all 2 a1 fun i hi => ?_⟩
  rcases (by omega : i = 0 ∨ i = 1) with rfl | rfl <;> omega
 ·rw [e]
  refine ⟨by omega, a1, fun _ => all 3 a1 fun i hi => ?_⟩
  have : 128 ≤ (l.getD 1 0).toNat := by split at a4 <;> omega
  rcases (by omega : i = 0 ∨ i = 1 ∨ i = 2) with rfl | rfl | rfl <;> omega
 ·rw [e]
  refine ⟨by omega, a1, fun _ => all 4 a1 fun i hi => ?_⟩
  have : 128 ≤ (l.getD 1 0).toNat := by split at a4 <;> omega
  rcases (by omega : i = 0 ∨ i = 1 ∨ i = 2 ∨ i = 3) with rfl | rfl | rfl | rfl <;> omega
theorem rpoint {s : ByteArray} {k : Nat} (hs : s.size ≤ 65536) (l : List UInt8) (hne : l ≠ []) (hg : ¬ ((Lib.decodeL l).1 = 65533 ∧ (Lib.decodeL l).2 = 1)) (h : At s k (l.take (Lib.decodeL l).2)) :
  n_121s0e1d (Rd s k, ()) = some (true, Rd s (k + (Lib.decodeL l).2), ()) := by
 have hk := (h.in_ hs).1
 have get : ∀ i, i < (Lib.decodeL l).2 → i < l.length → s[k + i]? = some (l.getD i 0) := by
  intro i h1 h2
  refine h.get ?_
  rw [List.getElem?_take_of_lt h1, List.getD_eq_getElem?_getD, List.getElem?_eq_getElem h2]; rfl
 have rng : ∀ (i lo hi : Nat), i < (Lib.decodeL l).2 → i < l.length → lo ≤ (l.getD i 0).toNat → (l.getD i 0).toNat ≤ hi → inr (lo : Int) (hi : Int) s (k + i) = true := by
  intro i lo hi h1 h2 h3 h4
  unfold inr
  rw [get i h1 h2]
  simp only [Bool.and_eq_true, decide_eq_true_eq]
  omega
 rcases dec_shape l hne hg with ⟨a1, a2, e⟩ | ⟨a1, a2, a3, a4, a5, e⟩ | ⟨a1, a2, a3, a4, a5, a6, a7, e⟩ | ⟨a1, a2, a3, a4, a5, a6, a7, a8, a9, e⟩
 ·rw [e] at get rng ⊢
  exact p1 hk _ (get 0 (by omega) (by omega)) a2
 ·rw [e] at get rng ⊢
  exact p2 hk _ (get 0 (by omega) (by omega)) a2 a3 (rng 1 128 191 (by omega) (by omega) a4 a5)
 ·rw [e] at get rng ⊢
  have r1 := rng 1 _ _ (by omega) (by omega) a4 a5
  rw [show (((if (l.getD 0 0).toNat = 224 then 160 else 128 : Nat)) : Int) = (if (l.getD 0 0).toNat = 224 then 160 else 128) by split <;> rfl, show (((if (l.getD 0 0).toNat = 237 then 159 else 191 : Nat)) : Int) = (if (l.getD 0 0).toNat = 237 then 159 else 191) by split <;> rfl] at r1
  exact p3 hk _ (get 0 (by omega) (by omega)) a2 a3 r1 (rng 2 128 191 (by omega) (by omega) a6 a7)
 ·rw [e] at get rng ⊢
  have r1 := rng 1 _ _ (by omega) (by omega) a4 a5
  rw [show (((if (l.getD 0 0).toNat = 240 then 144 else 128 : Nat)) : Int) = (if (l.getD 0 0).toNat = 240 then 144 else 128) by split <;> rfl, show (((if (l.getD 0 0).toNat = 244 then 143 else 191 : Nat)) : Int) = (if (l.getD 0 0).toNat = 244 then 143 else 191) by split <;> rfl] at r1
  exact p4 hk _ (get 0 (by omega) (by omega)) a2 a3 r1 (rng 2 128 191 (by omega) (by omega) a6 a7) (rng 3 128 191 (by omega) (by omega) a8 a9)
theorem resc_letter {s : ByteArray} {k : Nat} (hk : In s k) {x d : UInt8} (hc : s[k]? = some x) (hlet : letter x = some d) : n_119s0e1d (Rd s k, ()) = some ((d.toNat : Int), true, Rd s (k + 1), ()) := by
 have hlt' := get_lt hc
 have hlt : ((k : Int) < (s.size : Int)) := by omega
 obtain ⟨hJ1, hJ2⟩ := letter_J x
 have hcc : (x.toNat : Int).toNat.toUInt8 = x := by rw [Int.toNat_natCast]; simp
 have hd := letter_small hlet
 rw [hlet] at hJ1 hJ2
 have h0 : 0 ≤ Lib.indexByte letJ.data.toList x := by simpa using hJ1
 rw [if_pos h0] at hJ2
 have hw : IntKind.i32.wrap (d.toNat : Int) = (d.toNat : Int) := w32 (by omega) (by omega)
 unfold n_119s0e1d
 have h0' : Lib.indexByte letJ.data.toList x ≥ 0 := h0
 simp only [t91 s hk, t147, hv_some hc, hcc, hlt, Option.bind_eq_bind, Option.bind_some, decide_true, if_true, h0', h0, ba_get bytJ, ← hJ2, hw, wk hk]
theorem resc_hex {s : ByteArray} {k : Nat} (hk : In s k) {a b : UInt8} (h0 : s[k]? = some 117) (h1 : s[k + 1]? = some 48) (h2 : s[k + 2]? = some 48) (h3 : s[k + 3]? = some a) (h4 : s[k + 4]? = some b)
  (ha : allH.data.toList.contains a = true) (hb : allH.data.toList.contains b = true) : n_119s0e1d (Rd s k, ()) = some (16 * hexv a + hexv b, true, Rd s (k + 5), ()) := by
 have hFst : ∀ c, fstH.data.toList.contains c = true → allH.data.toList.contains c = true := fun c => (sub_all c).1
 have hBeh : ∀ c, behH.data.toList.contains c = true → allH.data.toList.contains c = true := fun c => (sub_all c).2.1
 have hlt' := get_lt h0
 have hlt : ((k : Int) < (s.size : Int)) := by omega
 have hk1 := hk.next h0
 have j150 := t150 fstH behH hFst hBeh hk1
 have g1 : hit fstH s (k + 1) = true := by unfold hit; rw [h1]; rfl
 have g2 : hit allH s (k + 1 + 1) = true := by unfold hit; rw [h2]; rfl
 have g3 : hit allH s (k + 1 + 2) = true := by unfold hit; rw [h3]; exact ha
 have g4 : hit allH s (k + 1 + 3) = true := by unfold hit; rw [h4]; exact hb
 have x1 : hx s (k + 1) = 0 := by unfold hx; rw [h1]; rfl
 have x2 : hx s (k + 1 + 1) = 0 := by unfold hx; rw [h2]; rfl
 have x3 : hx s (k + 1 + 2) = hexv a := by unfold hx; rw [h3]
 have x4 : hx s (k + 1 + 3) = hexv b := by unfold hx; rw [h4]
 have hf : four fstH behH s (k + 1) = (16 * hexv a + hexv b, true, k + 5) := by
  unfold four fourT
  simp only [g1, g2, g3, g4, x1, x2, x3, x4, Bool.true_or, if_true]
  rw [show (4096 * (0 : Int) + 256 * 0 + 16 * hexv a + hexv b) = 16 * hexv a + hexv b by omega]
 rw [hf] at j150
 obtain ⟨p2, q2, _⟩ := hex_facts a ha
 obtain ⟨p3, q3, _⟩ := hex_facts b hb
 have b1 : 16 * hexv a + hexv b < 55296 := by omega
 have h117 : inr 117 117 s k = true := by unfold inr; rw [h0]; rfl
 have hcc : ((117 : UInt8).toNat : Int).toNat.toUInt8 = 117 := rfl
 have hl : ¬ Lib.indexByte letJ.data.toList 117 ≥ 0 := by decide
 unfold n_119s0e1d
 simp only [t91 s hk, t147, hv_some h0, hcc, hlt, Option.bind_eq_bind, Option.bind_some, decide_true, if_true, hl, decide_false, Bool.false_eq_true, if_false, t97 _ s hk, hit_117, h117, Bool.not_true, j150, b1]
def escOk (c : UInt8) : Bool := match escB c with
 | [x] => decide (x = c) && decide (32 ≤ c.toNat) && decide (c ≠ 34) && decide (c ≠ 92)
 | [y, x] => decide (y = 92) && decide (letter x = some c) && decide (c.toNat < 128)
 | [y, u, z, w, a, b] => decide (y = 92) && decide (u = 117) && decide (z = 48) && decide (w = 48) && allH.data.toList.contains a && allH.data.toList.contains b && decide (16 * hexv a + hexv b = (c.toNat : Int)) && decide (c.toNat < 128)
 | _ => false
theorem esc_ok (c : UInt8) : escOk c = true := all_bytes (P := fun c => escOk c = true) (by kernel_rfl) c
theorem esc_cases (c : UInt8) : (escB c = [c] ∧ 32 ≤ c.toNat ∧ c ≠ 34 ∧ c ≠ 92) ∨ (∃ x, escB c = [92, x] ∧ letter x = some c ∧ c.toNat < 128) ∨
  (∃ a b, escB c = [92, 117, 48, 48, a, b] ∧ allH.data.toList.contains a = true ∧ allH.data.toList.contains b = true ∧ 16 * hexv a + hexv b = (c.toNat : Int) ∧ c.toNat < 128) := by
 have h := esc_ok c
 unfold escOk at h
 split at h
 ·rename_i x e
  simp only [Bool.and_eq_true, decide_eq_true_eq] at h
  obtain ⟨⟨⟨h1, h2⟩, h3⟩, h4⟩ := h
  rw [h1] at e
  exact .inl ⟨e, h2, h3, h4⟩
 ·rename_i y x e
  simp only [Bool.and_eq_true, decide_eq_true_eq] at h
  obtain ⟨⟨h1, h2⟩, h3⟩ := h
  rw [h1] at e
  exact .inr (.inl ⟨x, e, h2, h3⟩)
 ·rename_i y u z w a b e
  simp only [Bool.and_eq_true, decide_eq_true_eq] at h
  obtain ⟨⟨⟨⟨⟨⟨⟨h1, h2⟩, h3⟩, h4⟩, h5⟩, h6⟩, h7⟩, h8⟩ := h
  rw [h1, h2, h3, h4] at e
  exact .inr (.inr ⟨a, b, e, h5, h6, h7, h8⟩)
 ·cases h
theorem esc_high {l : List UInt8} (h : ∀ c ∈ l, 128 ≤ c.toNat) : l.flatMap escB = l := by
 induction l with
 | nil => rfl
 | cons c t ih =>
  rw [List.flatMap_cons, ih fun x hx => h x (List.mem_cons_of_mem _ hx)]
  have hc := h c List.mem_cons_self
  rcases esc_cases c with ⟨e, _⟩ | ⟨x, _, _, g⟩ | ⟨a, b, _, _, _, _, g⟩
  ·rw [e]; rfl
  ·omega
  ·omega
theorem dec_one {c : UInt8} {t : List UInt8} (h : c.toNat < 128) : (Lib.decodeL (c :: t)).2 = 1 := by
 rw [Lib.decodeL_N]
 unfold Lib.decodeN
 rw [if_pos (by simpa using h)]
theorem rtextl (s : ByteArray) (hs : s.size ≤ 65536) : ∀ (m : Nat) (l : List UInt8), l.length ≤ m → Lib.validGoD m l = true → ∀ (k : Nat) (b : Bool) (xs : List Int), At s k (l.flatMap escB ++ [34]) → xs.length + l.length ≤ 1000000 →
  n_94s0e1dl3 (Rd s k, b, xs, ()) = some (Bs.bytes (xs ++ toI l), true, Rd s (k + (l.flatMap escB).length + 1), ()) := by
 intro m
 induction m with
 | zero =>
  intro l hl hval k b xs h hx
  have e : l = [] := List.eq_nil_of_length_eq_zero (by omega)
  subst e
  have hk := (h.in_ hs).1
  have e34 : hv s k = 34 := h.hv
  have e83 : n_83s143f (b, xs, ()) = some (Bs.bytes xs, ()) := by
   unfold n_83s143f
   rw [if_pos ⟨rfl, show xs.length ≤ 4294967296 by omega⟩]
  rw [n_94s0e1dl3]
  simp only [sW, t91 s hk, e34, e83, wk hk, List.flatMap_nil, List.length_nil, Nat.add_zero, toI, List.map_nil, List.append_nil]
 | succ m ih =>
  intro l hl hval k b xs h hx
  have hk := (h.in_ hs).1
  cases l with
  | nil =>
   have e34 : hv s k = 34 := h.hv
   have e83 : n_83s143f (b, xs, ()) = some (Bs.bytes xs, ()) := by
    unfold n_83s143f
    rw [if_pos ⟨rfl, show xs.length ≤ 4294967296 by omega⟩]
   rw [n_94s0e1dl3]
   simp only [sW, t91 s hk, e34, e83, wk hk, List.flatMap_nil, List.length_nil, Nat.add_zero, toI, List.map_nil, List.append_nil]
  | cons c t =>
   unfold Lib.validGoD at hval
   rw [if_neg (List.cons_ne_nil _ _)] at hval
   split at hval
   ·cases hval
   ·rename_i hg
    have f1 : ¬ ((92 : Int) = 34) := by decide
    have f2 : ¬ ((92 : Int) < 32) := by decide
    simp only [List.length_cons] at hl hx
    have esc : ∀ (r : List UInt8) (hlt : c.toNat < 128), escB c = 92 :: r → n_119s0e1d (Rd s (k + 1), ()) = some ((c.toNat : Int), true, Rd s (k + (escB c).length), ()) →
      n_94s0e1dl3 (Rd s k, b, xs, ()) = some (Bs.bytes (xs ++ toI (c :: t)), true, Rd s (k + ((c :: t).flatMap escB).length + 1), ()) := by
     intro r hlt he hq
     rw [dec_one hlt] at hval
     rw [List.flatMap_cons, List.append_assoc] at h
     obtain ⟨g1, g2⟩ := h.app
     obtain ⟨mm, h120⟩ := t120 (n := (c.toNat : Int)) (by omega) (by omega) b xs (by omega)
     have e1 : encI (c.toNat : Int) = [(c.toNat : Int)] := by unfold encI; rw [if_pos (by omega)]
     rw [e1] at h120
     have i := ih t (by omega) hval (k + (escB c).length) true (xs ++ [(c.toNat : Int)]) g2 (by rw [List.length_append, List.length_singleton]; omega)
     have h92 : hv s k = 92 := by rw [he] at g1; exact g1.hv
     rw [n_94s0e1dl3]
     simp only [sW, t91 s hk, h92, f1, f2, wk hk, hq, Bool.not_true, h120, i]
     rw [List.flatMap_cons, List.length_append, Nat.add_assoc k]
     simp only [toI, List.map_cons, List.append_assoc, List.singleton_append]
    rcases esc_cases c with ⟨e, c1, c2, c3⟩ | ⟨x, e, e1, e2⟩ | ⟨y, z, e, e1, e2, e3, e4⟩
    ·-- as it is
     obtain ⟨w1, w2, w3⟩ := dec_w (c :: t) (List.cons_ne_nil _ _) hg
     have hfl : ((c :: t).take (Lib.decodeL (c :: t)).2).flatMap escB = (c :: t).take (Lib.decodeL (c :: t)).2 := by
      by_cases hlt : c.toNat < 128
      ·rw [dec_one hlt]
       simp only [List.take_succ_cons, List.take_zero, List.flatMap_cons, List.flatMap_nil, e, List.append_nil]
      ·exact esc_high (w3 (by simpa using hlt))
     have hpt := rpoint (k := k) hs (c :: t) (List.cons_ne_nil _ _) hg
     generalize hw : (Lib.decodeL (c :: t)).2 = w at *
     have hd : (c :: t).take w ++ (c :: t).drop w = c :: t := List.take_append_drop _ _
     have hfm : (c :: t).flatMap escB = (c :: t).take w ++ ((c :: t).drop w).flatMap escB := by
      conv => lhs; rw [← hd]
      rw [List.flatMap_append, hfl]
     have hlen : ((c :: t).take w).length = w := by rw [List.length_take]; exact Nat.min_eq_left w2
     rw [hfm, List.append_assoc] at h
     obtain ⟨g1, g2⟩ := h.app
     rw [hlen] at g2
     have h121 := hpt g1
     have hhd : hv s k = (c.toNat : Int) := by
      have : (c :: t).take w = c :: t.take (w - 1) := by
       obtain ⟨v, rfl⟩ : ∃ v, w = v + 1 := ⟨w - 1, by omega⟩
       rfl
      rw [this] at g1
      exact g1.hv
     have n34 : ¬ (c.toNat : Int) = 34 := fun hc => c2 (UInt8.toNat_inj.1 (by show c.toNat = 34; omega))
     have n92 : ¬ (c.toNat : Int) = 92 := fun hc => c3 (UInt8.toNat_inj.1 (by show c.toNat = 92; omega))
     have n32 : ¬ (c.toNat : Int) < 32 := by omega
     have gin := (g1.in_ hs).2
     rw [hlen] at gin
     have q : ((k : Int) ≤ ((k + w : Nat) : Int) ∧ ((k + w : Nat) : Int) ≤ (s.size : Int)) = True := eq_true ⟨by omega, by have := gin.le; omega⟩
     have ext := g1.ext
     rw [hlen] at ext
     have ha := a113 (ofL ((c :: t).take w)) b xs (by rw [ofL_size, hlen]; simp only [List.length_cons] at w2; omega)
     rw [ints_ofL] at ha
     simp only [List.length_cons] at w2
     have i := ih ((c :: t).drop w) (by rw [List.length_drop, List.length_cons]; omega) hval (k + w) true (xs ++ toI ((c :: t).take w)) g2 (by rw [List.length_append, List.length_map, hlen, List.length_drop, List.length_cons]; omega)
     rw [n_94s0e1dl3]
     simp only [sW, t91 s hk, hhd, n34, n32, n92, h121, Bool.not_true, q, true_and, ext, ha, i]
     rw [hfm, List.length_append, hlen, Nat.add_assoc k, List.append_assoc, ← toI_append, hd]
    ·have hq : n_119s0e1d (Rd s (k + 1), ()) = some ((c.toNat : Int), true, Rd s (k + (escB c).length), ()) := by
      rw [List.flatMap_cons, List.append_assoc, e] at h
      have g := h.cons.2
      rw [e]
      exact resc_letter (g.in_ hs).1 g.cons.1 e1
     exact esc _ e2 e hq
    ·have hq : n_119s0e1d (Rd s (k + 1), ()) = some ((c.toNat : Int), true, Rd s (k + (escB c).length), ()) := by
      rw [List.flatMap_cons, List.append_assoc, e] at h
      have g := h.cons.2
      rw [e, ← e3]
      exact resc_hex (g.in_ hs).1 g.cons.1 g.cons.2.cons.1 g.cons.2.cons.2.cons.1 g.cons.2.cons.2.cons.2.cons.1 g.cons.2.cons.2.cons.2.cons.2.cons.1 e1 e2
     exact esc _ e4 e hq
end Go.Proofs.YtdmggfegkaiaiaaGreatDoor
end
section
namespace Go.Proofs.YtdmggfegkaiaiaaGreatDoor
open Go.Awp Go.Tx
set_option maxRecDepth 20000
theorem hit_at {b s : ByteArray} {k : Nat} {c : UInt8} {l : List UInt8} (h : At s k (c :: l)) : hit b s k = b.data.toList.contains c := by
 unfold hit; rw [h.cons.1]
def Blk (l : List UInt8) : Prop := ∀ c ∈ l, bl.data.toList.contains c = true
theorem rblanks {s : ByteArray} (hs : s.size ≤ 65536) : ∀ (l : List UInt8) (k : Nat), Blk l → At s k l → hit bl s (k + l.length) = false → n_66s0e1d (Rd s k, ()) = some (Rd s (k + l.length), ())
 | [], k, hl, h, he => (blanks_id (h.in_ hs).1 he).1
 | c :: r, k, hl, h, he => by
  have i := rblanks hs r (k + 1) (fun x hx => hl x (List.mem_cons_of_mem _ hx)) h.cons.2 (by rw [List.length_cons] at he; rw [Nat.add_assoc, Nat.add_comm 1]; exact he)
  have e : hit bl s k = true := by rw [hit_at h]; exact hl c List.mem_cons_self
  rw [List.length_cons, show k + (r.length + 1) = k + 1 + r.length by omega, ← i]
  unfold n_66s0e1d
  rw [n_66s0e1dl0]
  simp only [sW, t97 _ s (h.in_ hs).1, e]
theorem rep_mem {c : UInt8} : ∀ d : Nat, c ∈ Lib.repeatL [32, 32] d → c = 32
 | 0, h => by simp [Lib.repeatL] at h
 | d + 1, h => by
  rw [Lib.repeatL] at h
  rcases List.mem_append.1 h with h | h
  ·simpa using h
  ·exact rep_mem d h
theorem line_blk (ln : Bool) (d : Nat) : Blk (lineB ln d) := by
 intro c hc
 unfold lineB at hc
 cases ln with
 | false => simp at hc
 | true =>
  simp only [if_true, List.mem_cons] at hc
  rcases hc with rfl | hc
  ·rfl
  ·have : c = 32 := rep_mem d hc
   subst this; rfl
theorem colon_blk (ln : Bool) : Blk (if ln = true then ([32] : List UInt8) else []) := by
 intro c hc
 cases ln with
 | false => simp at hc
 | true => simp at hc; subst hc; rfl
theorem itoa_head (n : Int) : ∃ c r, Lib.itoa n = c :: r ∧ (c.toNat = 45 ∨ 48 ≤ c.toNat ∧ c.toNat ≤ 57) := by
 have main : ∀ u : Nat, ∃ c r, Lib.decDigits u = c :: r ∧ 48 ≤ c.toNat ∧ c.toNat ≤ 57 := by
  intro u
  by_cases h : u = 0
  ·subst h
   exact ⟨48, [], by rw [Lib.decDigits, dif_pos (by decide)]; rfl, by decide, by decide⟩
  ·obtain ⟨c, r, e, h1, h2⟩ := dec_head u (by omega)
   exact ⟨c, r, e, by omega, h2⟩
 unfold Lib.itoa
 by_cases h : n < 0
 ·rw [if_pos h]
  exact ⟨45, _, rfl, .inl rfl⟩
 ·rw [if_neg h]
  obtain ⟨c, r, e, h1, h2⟩ := main n.toNat
  exact ⟨c, r, e, .inr ⟨h1, h2⟩⟩
theorem wr_head (ln : Bool) (t : Tag) (hg : Good t) (d : Nat) : ∃ c r, wr ln t d = c :: r ∧ bl.data.toList.contains c = false ∧ c ≠ 93 ∧ c ≠ 125 := by
 obtain ⟨kk, n, tx, ns, ps⟩ := t
 have l := hg.loc
 have k0 : 0 ≤ kk := l.k0
 have k6 : kk ≤ 6 := l.k6
 unfold wr
 rcases (by omega : kk = 0 ∨ kk = 1 ∨ kk = 2 ∨ kk = 3 ∨ kk = 4 ∨ kk = 5 ∨ kk = 6) with rfl | rfl | rfl | rfl | rfl | rfl | rfl
 ·exact ⟨110, _, rfl, rfl, by decide, by decide⟩
 ·exact ⟨102, _, rfl, rfl, by decide, by decide⟩
 ·exact ⟨116, _, rfl, rfl, by decide, by decide⟩
 ·obtain ⟨c, r, e, h⟩ := itoa_head n
  refine ⟨c, r, e, ?_, ?_, ?_⟩
  ·rw [Bool.eq_false_iff]
   intro hc
   have : c ∈ bl.data.toList := by simpa using hc
   simp only [bl, List.mem_cons, List.not_mem_nil, or_false] at this
   rcases this with rfl | rfl | rfl | rfl <;> revert h <;> decide
  ·rintro rfl; revert h; decide
  ·rintro rfl; revert h; decide
 ·exact ⟨34, _, rfl, rfl, by decide, by decide⟩
 ·exact ⟨91, _, rfl, rfl, by decide, by decide⟩
 ·exact ⟨123, _, rfl, rfl, by decide, by decide⟩
theorem rtext {s x : ByteArray} (hs : s.size ≤ 65536) {k : Nat} (hv : Lib.validD x.data.toList = true) (h : At s k (quo x)) : n_94s0e1d (Rd s k, ()) = some (x, true, Rd s (k + (quo x).length), ()) := by
 have hk := (h.in_ hs).1
 have h1 : At s (k + 1) (x.data.toList.flatMap escB ++ [34]) := h.cons.2
 have hle := h.1
 have hq := quo_len x
 have hf := (flat_ge x.data.toList).1
 have r := rtextl s hs _ x.data.toList (Nat.le_refl _) hv (k + 1) false [] h1 (by simp only [List.length_nil]; omega)
 unfold n_94s0e1d
 simp only [sW, wk hk, r, List.nil_append, bytes_toI, ofL_eta]
 rw [show k + 1 + (x.data.toList.flatMap escB).length + 1 = k + (quo x).length by omega]
def RV (s : ByteArray) (ln : Bool) (t : Tag) : Prop := ∀ (k d : Nat), At s k (wr ln t d) → ndg s (k + (wr ln t d).length) → n_65s0e1d (Rd s k, ()) = some (true, Rd s (k + (wr ln t d).length), t, ())
theorem RV.blk {s : ByteArray} {ln : Bool} {t : Tag} (hr : RV s ln t) (hs : s.size ≤ 65536) (hg : Good t) {w : List UInt8} (hw : Blk w) {k d : Nat} (h : At s k (w ++ wr ln t d)) (he : ndg s (k + w.length + (wr ln t d).length)) :
  n_65s0e1d (Rd s k, ()) = some (true, Rd s (k + w.length + (wr ln t d).length), t, ()) := by
 obtain ⟨g1, g2⟩ := h.app
 obtain ⟨c, r, e, hb, _⟩ := wr_head ln t hg d
 have hh : hit bl s (k + w.length) = false := by rw [e] at g2; rw [hit_at g2]; exact hb
 rw [skip65 (g1.in_ hs).2 (rblanks hs w k hw g1 hh) hh]
 exact hr _ d g2 he
theorem ndg_at {s : ByteArray} {k : Nat} {c : UInt8} {l : List UInt8} (h : At s k (c :: l)) (hc : c.toNat < 48 ∨ 57 < c.toNat) : ndg s k := by
 unfold ndg
 rw [h.hv]; omega
theorem ndg_line {s : ByteArray} {k : Nat} {c : UInt8} {ln : Bool} {d : Nat} (h : At s k (lineB ln d ++ [c])) (hc : c.toNat < 48 ∨ 57 < c.toNat) : ndg s k := by
 cases ln with
 | false => exact ndg_at (l := []) h hc
 | true =>
  unfold lineB at h
  rw [if_pos rfl, List.cons_append] at h
  exact ndg_at h (.inl (by decide))
theorem wrL_cons (ln nm : Bool) (ns : List ByteArray) (p : Tag) (ps : List Tag) (f : Bool) (d : Nat) : wrL ln nm ns (p :: ps) f d = commaB f ++ (lineB ln d ++ (nameB ln nm ns ++ (wr ln p d ++ wrL ln nm ns.tail ps false d))) := by rw [wrL]
theorem rlist (s : ByteArray) (hs : s.size ≤ 65536) (ln : Bool) (d : Nat) : ∀ (ps : List Tag) (p : Tag), (∀ q ∈ p :: ps, Good q ∧ RV s ln q) → ∀ (w : List UInt8), Blk w → ∀ (k e : Nat) (z : Tag) (xs : List Tag),
  At s k (w ++ (wr ln p (d + 1) ++ (wrL ln false [] ps false (d + 1) ++ (lineB ln d ++ [93])))) → e = k + (w ++ (wr ln p (d + 1) ++ (wrL ln false [] ps false (d + 1) ++ (lineB ln d ++ [93])))).length → xs.length + ps.length ≤ 1000000 →
  n_95s0e1dg1 (Rd s k, z, 5, 0, mt, [], xs, ()) = some (true, Rd s e, Tag.mk 5 0 mt [] (xs ++ p :: ps), ()) := by
 intro ps
 induction ps with
 | nil =>
  intro p hp w hw k e z xs h he hx
  obtain ⟨hgp, hrp⟩ := hp p List.mem_cons_self
  rw [wrL, List.nil_append] at h he
  have h' := h
  rw [← List.append_assoc] at h'
  obtain ⟨a1, a2⟩ := h'.app
  rw [List.length_append, ← Nat.add_assoc] at a2
  have v := hrp.blk hs hgp hw a1 (ndg_line a2 (.inr (by decide)))
  obtain ⟨b1, b2⟩ := a2.app
  have hb : hit bl s (k + w.length + (wr ln p (d + 1)).length + (lineB ln d).length) = false := by rw [hit_at b2]; rfl
  have bb := rblanks hs _ _ (line_blk ln d) b1 hb
  have h44 : hit (ByteArray.mk #[44]) s (k + w.length + (wr ln p (d + 1)).length + (lineB ln d).length) = false := by rw [hit_at b2]; rfl
  have h93 : hit (ByteArray.mk #[93]) s (k + w.length + (wr ln p (d + 1)).length + (lineB ln d).length) = true := by rw [hit_at b2]; rfl
  have i3 := (b1.in_ hs).2
  have hl : xs.length + (0 + 1) ≤ 4294967296 := by omega
  simp only [List.length_append, List.length_singleton] at he
  rw [n_95s0e1dg1]
  simp only [v, sW, Bool.not_true, List.length_cons, List.length_nil, hl, bb, t97 _ s i3, h44, h93]
  rw [show k + w.length + (wr ln p (d + 1)).length + (lineB ln d).length + 1 = e by omega]
 | cons q qs ih =>
  intro p hp w hw k e z xs h he hx
  obtain ⟨hgp, hrp⟩ := hp p List.mem_cons_self
  simp only [List.length_cons] at hx
  rw [wrL_cons] at h he
  have h' := h
  rw [← List.append_assoc] at h'
  obtain ⟨a1, a2⟩ := h'.app
  rw [List.length_append, ← Nat.add_assoc] at a2
  have a3 : At s (k + w.length + (wr ln p (d + 1)).length) (44 :: (lineB ln (d + 1) ++ (wr ln q (d + 1) ++ (wrL ln false [] qs false (d + 1) ++ (lineB ln d ++ [93]))))) := by
   simpa only [commaB, nameB, Bool.false_eq_true, if_false, List.nil_append, List.singleton_append, List.append_assoc, List.cons_append, List.tail_nil] using a2
  have v := hrp.blk hs hgp hw a1 (ndg_at a3 (.inl (by decide)))
  have hb : hit bl s (k + w.length + (wr ln p (d + 1)).length) = false := by rw [hit_at a3]; rfl
  have i3 := (a1.in_ hs).2
  rw [List.length_append, ← Nat.add_assoc] at i3
  have bb := (blanks_id i3 hb).1
  have h44 : hit (ByteArray.mk #[44]) s (k + w.length + (wr ln p (d + 1)).length) = true := by rw [hit_at a3]; rfl
  have hl : xs.length + (0 + 1) ≤ 4294967296 := by omega
  have i := ih q (fun x hx => hp x (List.mem_cons_of_mem _ hx)) (lineB ln (d + 1)) (line_blk _ _) (k + w.length + (wr ln p (d + 1)).length + 1) e z (xs ++ [p]) a3.cons.2
   (by
     simp only [commaB, nameB, Bool.false_eq_true, if_false, List.nil_append, List.length_append, List.length_cons, List.length_nil, List.tail_nil] at he ⊢
     omega) (by rw [List.length_append, List.length_singleton]; omega)
  rw [n_95s0e1dg1]
  simp only [v, sW, Bool.not_true, List.length_cons, List.length_nil, hl, bb, t97 _ s i3, h44]
  rw [i, List.append_assoc]; rfl
theorem rnames (s : ByteArray) (hs : s.size ≤ 65536) (ln : Bool) (d : Nat) : ∀ (ps : List Tag) (p : Tag) (ns : List ByteArray) (x : ByteArray), (∀ q ∈ p :: ps, Good q ∧ RV s ln q) → (∀ y ∈ x :: ns, Lib.validD y.data.toList = true) → ns.length = ps.length → ∀ (w : List UInt8), Blk w → ∀ (k e : Nat) (z : Tag) (ys : List ByteArray) (xs : List Tag),
  At s k (w ++ (quo x ++ (58 :: ((if ln = true then ([32] : List UInt8) else []) ++ (wr ln p (d + 1) ++ (wrL ln true ns ps false (d + 1) ++ (lineB ln d ++ [125]))))))) →
  e = k + (w ++ (quo x ++ (58 :: ((if ln = true then ([32] : List UInt8) else []) ++ (wr ln p (d + 1) ++ (wrL ln true ns ps false (d + 1) ++ (lineB ln d ++ [125]))))))).length → xs.length + ps.length ≤ 1000000 → ys.length + ps.length ≤ 1000000 →
  n_96s0e1dg1 (Rd s k, z, 6, 0, mt, ys, xs, ()) = some (true, Rd s e, Tag.mk 6 0 mt (ys ++ x :: ns) (xs ++ p :: ps), ()) := by
 intro ps
 have pre : ∀ (p : Tag) (x : ByteArray), Good p ∧ RV s ln p → Lib.validD x.data.toList = true → ∀ (w : List UInt8), Blk w → ∀ (k : Nat) (z : Tag) (ys : List ByteArray) (xs : List Tag) (r : List UInt8),
   At s k (w ++ (quo x ++ (58 :: ((if ln = true then ([32] : List UInt8) else []) ++ (wr ln p (d + 1) ++ r))))) → xs.length ≤ 1000000 → ys.length ≤ 1000000 →
   (∀ k', At s k' r → ndg s k') →
   ∃ k', k' = k + w.length + (quo x).length + 1 + (if ln = true then ([32] : List UInt8) else []).length + (wr ln p (d + 1)).length ∧ At s k' r ∧ In s k' ∧
   n_96s0e1dg1 (Rd s k, z, 6, 0, mt, ys, xs, ()) = (n_66s0e1d (Rd s k', ()) >>= fun x7 =>
    n_97s5bd0 (ByteArray.mk #[44], x7.1, ()) >>= fun x8 =>
    if x8.1 = true then
     n_96s0e1dg1 (x8.2.1, z, 6, 0, mt, ys ++ [x], xs ++ [p], ())
    else n_97s5bd0 (ByteArray.mk #[125], x8.2.1, ()) >>= fun x9 =>
    some ((x9.1, x9.2.1, Tag.mk 6 0 mt (ys ++ [x]) (xs ++ [p]), ()))) := by
  intro p x hp hx w hw k z ys xs r h hxs hys hr
  obtain ⟨a1, a2⟩ := h.app
  obtain ⟨b1, b2⟩ := a2.app
  have hq : ∃ q, quo x = 34 :: q := ⟨_, rfl⟩
  obtain ⟨q, hq⟩ := hq
  have b1' := b1
  rw [hq] at b1'
  have hb1 : hit bl s (k + w.length) = false := by rw [hit_at b1']; rfl
  have e1 := rblanks hs w k hw a1 hb1
  have h34 : hv s (k + w.length) = 34 := b1'.hv
  have e2 := rtext hs hx b1
  have hb2 : hit bl s (k + w.length + (quo x).length) = false := by rw [hit_at b2]; rfl
  have i2 := (b1.in_ hs).2
  have e3 := (blanks_id i2 hb2).1
  have h58 : hit (ByteArray.mk #[58]) s (k + w.length + (quo x).length) = true := by rw [hit_at b2]; rfl
  have b3 := b2.cons.2
  have b4 := b3
  rw [← List.append_assoc] at b4
  obtain ⟨c1, c2⟩ := b4.app
  rw [List.length_append, ← Nat.add_assoc] at c2
  have e4 := hp.2.blk hs hp.1 (colon_blk ln) c1 (hr _ c2)
  have i4 := (c2.in_ hs).1
  refine ⟨_, rfl, c2, i4, ?_⟩
  have hl1 : ys.length + (0 + 1) ≤ 4294967296 := by omega
  have hl2 : xs.length + (0 + 1) ≤ 4294967296 := by omega
  rw [n_96s0e1dg1]
  simp only [e1, t91 s (a1.in_ hs).2, h34, bne_self_eq_false, e2, sW, Bool.not_true, e3, t97 _ s i2, h58, e4, List.length_cons, List.length_nil, hl1, hl2]
 induction ps with
 | nil =>
  intro p ns x hp hx hn w hw k e z ys xs h he hxs hys
  have hns : ns = [] := List.eq_nil_of_length_eq_zero hn
  subst hns
  rw [wrL, List.nil_append] at h he
  obtain ⟨k', hk', a2, i3, hE⟩ := pre p x (hp p List.mem_cons_self) (hx x List.mem_cons_self) w hw k z ys xs _ h (by omega) (by omega) fun k' h' => ndg_line h' (.inr (by decide))
  obtain ⟨b1, b2⟩ := a2.app
  have hb : hit bl s (k' + (lineB ln d).length) = false := by rw [hit_at b2]; rfl
  have bb := rblanks hs _ _ (line_blk ln d) b1 hb
  have h44 : hit (ByteArray.mk #[44]) s (k' + (lineB ln d).length) = false := by rw [hit_at b2]; rfl
  have h125 : hit (ByteArray.mk #[125]) s (k' + (lineB ln d).length) = true := by rw [hit_at b2]; rfl
  have i5 := (b1.in_ hs).2
  simp only [List.length_append, List.length_cons, List.length_nil] at he
  rw [hE]
  simp only [sW, bb, t97 _ s i5, h44, h125]
  rw [show k' + (lineB ln d).length + 1 = e by omega]
 | cons q qs ih =>
  intro p ns x hp hx hn w hw k e z ys xs h he hxs hys
  obtain ⟨y, ms, rfl⟩ : ∃ y ms, ns = y :: ms := by cases ns with | nil => simp at hn | cons y ms => exact ⟨y, ms, rfl⟩
  simp only [List.length_cons] at hxs hys hn
  have eqn : wrL ln true (y :: ms) (q :: qs) false (d + 1) ++ (lineB ln d ++ [125]) = 44 :: (lineB ln (d + 1) ++ (quo y ++ (58 :: ((if ln = true then ([32] : List UInt8) else []) ++ (wr ln q (d + 1) ++ (wrL ln true ms qs false (d + 1) ++ (lineB ln d ++ [125]))))))) := by
   rw [wrL_cons]
   simp only [commaB, nameB, Bool.false_eq_true, if_false, if_true, List.nil_append, List.singleton_append, List.append_assoc, List.cons_append, List.headD_cons, List.tail_cons]
  rw [eqn] at h he
  obtain ⟨k', hk', a2, i3, hE⟩ := pre p x (hp p List.mem_cons_self) (hx x List.mem_cons_self) w hw k z ys xs _ h (by omega) (by omega) fun k' h' => ndg_at h' (.inl (by decide))
  have hb : hit bl s k' = false := by rw [hit_at a2]; rfl
  have bb := (blanks_id i3 hb).1
  have h44 : hit (ByteArray.mk #[44]) s k' = true := by rw [hit_at a2]; rfl
  have i := ih q ms y (fun x hx => hp x (List.mem_cons_of_mem _ hx)) (fun x' hx' => hx x' (List.mem_cons_of_mem _ hx')) (by omega) (lineB ln (d + 1)) (line_blk _ _) (k' + 1) e z (ys ++ [x]) (xs ++ [p]) a2.cons.2
   (by simp only [List.length_append, List.length_cons, List.length_nil] at he ⊢; omega) (by rw [List.length_append, List.length_singleton]; omega) (by rw [List.length_append, List.length_singleton]; omega)
  rw [hE]
  simp only [sW, bb, t97 _ s i3, h44]
  rw [i, List.append_assoc, List.append_assoc]; rfl
theorem rvalue (s : ByteArray) (hs : s.size ≤ 65536) (ln : Bool) : ∀ t : Tag, Good t → RV s ln t := by
 intro t
 induction t using Tag.ind with
 | h t ih =>
  intro hg
  have ih' : ∀ q ∈ t.parts, Good q ∧ RV s ln q := fun q hq => ⟨hg.part hq, ih q hq (hg.part hq)⟩
  clear ih
  obtain ⟨kk, n, tx, ns, ps⟩ := t
  have l := hg.loc
  have k0 : 0 ≤ kk := l.k0
  have k6 : kk ≤ 6 := l.k6
  have n0 : kk ≠ 3 → n = 0 := l.n0
  have tx0 : kk ≠ 4 → tx = mt := l.tx
  have pt : kk < 5 → ps = [] := l.pt
  have nm : kk ≠ 6 → ns = [] := l.nm
  have lnn : kk = 6 → ns.length = ps.length := l.ln
  have lo : -9007199254740992 ≤ n := l.lo
  have hi : n ≤ 9007199254740992 := l.hi
  have vt : Lib.validD tx.data.toList = true := l.vt
  have vn : ∀ s ∈ ns, Lib.validD s.data.toList = true := l.vn
  change ∀ q ∈ ps, Good q ∧ RV s ln q at ih'
  intro k d h he
  obtain ⟨c, r, hc, hb, _⟩ := wr_head ln _ hg d
  have hk := (h.in_ hs).1
  have hbl : hit bl s k = false := by rw [hc] at h; rw [hit_at h]; exact hb
  have hv0 : hv s k = (c.toNat : Int) := by rw [hc] at h; exact h.hv
  have eb := (blanks_id hk hbl).1
  clear hb hbl
  unfold wr at h he hc ⊢
  rcases (by omega : kk = 0 ∨ kk = 1 ∨ kk = 2 ∨ kk = 3 ∨ kk = 4 ∨ kk = 5 ∨ kk = 6) with rfl | rfl | rfl | rfl | rfl | rfl | rfl
  ·obtain rfl := n0 (by decide); obtain rfl := tx0 (by decide); obtain rfl := pt (by decide); obtain rfl := nm (by decide)
   simp only [Int.reduceEq, Int.reduceLT, Int.reduceLE, Int.reduceGE, Int.reduceGT, decide_true, decide_false, if_true, if_false] at h he hc ⊢
   have hc' : c = 110 := by simpa using (List.cons.inj hc).1.symm
   subst hc'
   have w := rword (ByteArray.mk #[110, 117, 108, 108]) s (by decide) hs h
   rw [n_65s0e1d]
   have h1 : hv s k = 110 := hv0
   simp only [eb, t91 s hk, h1, sW, Int.reduceEq, Int.reduceLT, Int.reduceLE, Int.reduceGE, Int.reduceGT, decide_true, decide_false, w]
   rfl
  ·obtain rfl := n0 (by decide); obtain rfl := tx0 (by decide); obtain rfl := pt (by decide); obtain rfl := nm (by decide)
   simp only [Int.reduceEq, Int.reduceLT, Int.reduceLE, Int.reduceGE, Int.reduceGT, decide_true, decide_false, if_true, if_false] at h he hc ⊢
   have hc' : c = 102 := by simpa using (List.cons.inj hc).1.symm
   subst hc'
   have w := rword (ByteArray.mk #[102, 97, 108, 115, 101]) s (by decide) hs h
   rw [n_65s0e1d]
   have h1 : hv s k = 102 := hv0
   simp only [eb, t91 s hk, h1, sW, Int.reduceEq, Int.reduceLT, Int.reduceLE, Int.reduceGE, Int.reduceGT, decide_true, decide_false, w]
   rfl
  ·obtain rfl := n0 (by decide); obtain rfl := tx0 (by decide); obtain rfl := pt (by decide); obtain rfl := nm (by decide)
   simp only [Int.reduceEq, Int.reduceLT, Int.reduceLE, Int.reduceGE, Int.reduceGT, decide_true, decide_false, if_true, if_false] at h he hc ⊢
   have hc' : c = 116 := by simpa using (List.cons.inj hc).1.symm
   subst hc'
   have w := rword (ByteArray.mk #[116, 114, 117, 101]) s (by decide) hs h
   rw [n_65s0e1d]
   have h1 : hv s k = 116 := hv0
   simp only [eb, t91 s hk, h1, sW, Int.reduceEq, Int.reduceLT, Int.reduceLE, Int.reduceGE, Int.reduceGT, decide_true, decide_false, w]
   rfl
  ·obtain rfl := tx0 (by decide); obtain rfl := pt (by decide); obtain rfl := nm (by decide)
   simp only [Int.reduceEq, Int.reduceLT, Int.reduceLE, Int.reduceGE, Int.reduceGT, decide_true, decide_false, if_true, if_false] at h he hc ⊢
   have w := rnumber lo hi hs h he
   obtain ⟨c', r', e', hc'⟩ := itoa_head n
   obtain rfl : c = c' := by rw [e'] at hc; exact ((List.cons.inj hc).1).symm
   rw [n_65s0e1d]
   have g1 : ¬ hv s k = 110 := by omega
   have g2 : ¬ hv s k = 102 := by omega
   have g3 : ¬ hv s k = 116 := by omega
   by_cases g4 : hv s k = 45
   ·simp only [eb, t91 s hk, g1, g2, g3, g4, sW, Int.reduceEq, Int.reduceLT, Int.reduceLE, Int.reduceGE, Int.reduceGT, decide_true, decide_false, w]
   ·have g5 : hv s k ≥ 48 := by omega
    have g6 : hv s k ≤ 57 := by omega
    simp only [eb, t91 s hk, g1, g2, g3, g4, g5, g6, sW, Int.reduceEq, Int.reduceLT, Int.reduceLE, Int.reduceGE, Int.reduceGT, decide_true, decide_false, w]
  ·obtain rfl := n0 (by decide); obtain rfl := pt (by decide); obtain rfl := nm (by decide)
   simp only [Int.reduceEq, Int.reduceLT, Int.reduceLE, Int.reduceGE, Int.reduceGT, decide_true, decide_false, if_true, if_false] at h he hc ⊢
   have hc' : c = 34 := ((List.cons.inj hc).1).symm
   subst hc'
   have w := rtext hs vt h
   rw [n_65s0e1d]
   have h1 : hv s k = 34 := hv0
   simp only [eb, t91 s hk, h1, sW, Int.reduceEq, Int.reduceLT, Int.reduceLE, Int.reduceGE, Int.reduceGT, decide_true, decide_false, w]
  ·obtain rfl := n0 (by decide); obtain rfl := tx0 (by decide); obtain rfl := nm (by decide)
   simp only [Int.reduceEq, Int.reduceLT, Int.reduceLE, Int.reduceGE, Int.reduceGT, decide_true, decide_false, if_true, if_false] at h he hc ⊢
   have hc' : c = 91 := ((List.cons.inj hc).1).symm
   subst hc'
   have h1 : hv s k = 91 := hv0
   have w : n_95s0e1d (Rd s k, ()) = some (true, Rd s (k + ([91] ++ wrL ln false [] ps true (d + 1) ++ ((if ps.isEmpty = true then [] else lineB ln d) ++ [93])).length), Tag.mk 5 0 mt [] ps, ()) := by
    cases ps with
    | nil =>
     rw [wrL] at h ⊢
     simp only [List.isEmpty_nil, if_true, List.append_nil, List.nil_append, List.singleton_append] at h ⊢
     have h2 := h.cons.2
     have i2 := (h2.in_ hs).1
     have hb : hit bl s (k + 1) = false := by rw [hit_at h2]; rfl
     have h93 : hit (ByteArray.mk #[93]) s (k + 1) = true := by rw [hit_at h2]; rfl
     have e2 := (blanks_id i2 hb).1
     rw [n_95s0e1d]
     simp only [sW, wk hk, e2, t97 _ s i2, h93]
     rfl
    | cons p ps =>
     have eqn : [91] ++ wrL ln false [] (p :: ps) true (d + 1) ++ ((if (p :: ps).isEmpty = true then [] else lineB ln d) ++ [93]) = 91 :: (lineB ln (d + 1) ++ (wr ln p (d + 1) ++ (wrL ln false [] ps false (d + 1) ++ (lineB ln d ++ [93])))) := by
      rw [wrL_cons]
      simp only [commaB, nameB, List.isEmpty_cons, Bool.false_eq_true, if_false, if_true, List.nil_append, List.singleton_append, List.append_assoc, List.cons_append, List.tail_nil]
     rw [eqn] at h ⊢
     have h2 := h.cons.2
     obtain ⟨b1, b2⟩ := h2.app
     obtain ⟨c', r', e', hb', hn', _⟩ := wr_head ln p (ih' p List.mem_cons_self).1 (d + 1)
     have b3 := b2
     rw [e', List.cons_append] at b3
     have hb : hit bl s (k + 1 + (lineB ln (d + 1)).length) = false := by rw [hit_at b3]; exact hb'
     have e2 := rblanks hs _ _ (line_blk ln (d + 1)) b1 hb
     have i2 := (b1.in_ hs).2
     have h93 : hit (ByteArray.mk #[93]) s (k + 1 + (lineB ln (d + 1)).length) = false := by
      rw [hit_at b3]
      simpa using hn'
     have hle := h.1
     have hlen : ps.length ≤ 1000000 := by
      have wl : ∀ (ps : List Tag), ps.length ≤ (wrL ln false [] ps false (d + 1)).length := by
       intro ps
       induction ps with
       | nil => exact Nat.zero_le _
       | cons a t ih => rw [wrL_cons]; simp only [commaB, Bool.false_eq_true, if_false, List.length_append, List.length_cons, List.length_nil, List.tail_nil]; omega
      have := wl ps
      simp only [List.length_cons, List.length_append] at hle
      omega
     have i := rlist s hs ln d ps p ih' [] (fun c hc => by cases hc) (k + 1 + (lineB ln (d + 1)).length) _ zt [] b2 rfl (by simpa using hlen)
     rw [n_95s0e1dg1] at i
     rw [n_95s0e1d]
     simp only [sW, wk hk, e2, t97 _ s i2, h93, bnd] at i ⊢
     rw [i]
     simp only [List.nil_append, List.length_cons, List.length_append]
     rw [show k + 1 + (lineB ln (d + 1)).length + ((wr ln p (d + 1)).length + ((wrL ln false [] ps false (d + 1)).length + ((lineB ln d).length + (([] : List UInt8).length + 1)))) = k + ((lineB ln (d + 1)).length + ((wr ln p (d + 1)).length + ((wrL ln false [] ps false (d + 1)).length + ((lineB ln d).length + (([] : List UInt8).length + 1)))) + 1) by omega]
   rw [n_65s0e1d]
   simp only [eb, t91 s hk, h1, sW, Int.reduceEq, Int.reduceLT, Int.reduceLE, Int.reduceGE, Int.reduceGT, decide_true, decide_false]
   rw [w]
   simp only [sW]
  ·obtain rfl := n0 (by decide); obtain rfl := tx0 (by decide)
   have hnl := lnn rfl
   simp only [Int.reduceEq, Int.reduceLT, Int.reduceLE, Int.reduceGE, Int.reduceGT, decide_true, decide_false, if_true, if_false] at h he hc ⊢
   have hc' : c = 123 := ((List.cons.inj hc).1).symm
   subst hc'
   have h1 : hv s k = 123 := hv0
   have w : n_96s0e1d (Rd s k, ()) = some (true, Rd s (k + ([123] ++ wrL ln true ns ps true (d + 1) ++ ((if ps.isEmpty = true then [] else lineB ln d) ++ [125])).length), Tag.mk 6 0 mt ns ps, ()) := by
    cases ps with
    | nil =>
     obtain rfl : ns = [] := List.eq_nil_of_length_eq_zero hnl
     rw [wrL] at h ⊢
     simp only [List.isEmpty_nil, if_true, List.append_nil, List.nil_append, List.singleton_append] at h ⊢
     have h2 := h.cons.2
     have i2 := (h2.in_ hs).1
     have hb : hit bl s (k + 1) = false := by rw [hit_at h2]; rfl
     have h93 : hit (ByteArray.mk #[125]) s (k + 1) = true := by rw [hit_at h2]; rfl
     have e2 := (blanks_id i2 hb).1
     rw [n_96s0e1d]
     simp only [sW, wk hk, e2, t97 _ s i2, h93]
     rfl
    | cons p ps =>
     obtain ⟨y, ms, rfl⟩ : ∃ y ms, ns = y :: ms := by cases ns with | nil => simp at hnl | cons y ms => exact ⟨y, ms, rfl⟩
     have eqn : [123] ++ wrL ln true (y :: ms) (p :: ps) true (d + 1) ++ ((if (p :: ps).isEmpty = true then [] else lineB ln d) ++ [125]) = 123 :: (lineB ln (d + 1) ++ (quo y ++ (58 :: ((if ln = true then ([32] : List UInt8) else []) ++ (wr ln p (d + 1) ++ (wrL ln true ms ps false (d + 1) ++ (lineB ln d ++ [125]))))))) := by
      rw [wrL_cons]
      simp only [commaB, nameB, List.isEmpty_cons, Bool.false_eq_true, if_false, if_true, List.nil_append, List.singleton_append, List.append_assoc, List.cons_append, List.headD_cons, List.tail_cons]
     rw [eqn] at h ⊢
     have h2 := h.cons.2
     obtain ⟨b1, b2⟩ := h2.app
     have b3 : At s (k + 1 + (lineB ln (d + 1)).length) (34 :: ((y.data.toList.flatMap escB ++ [34]) ++ (58 :: ((if ln = true then ([32] : List UInt8) else []) ++ (wr ln p (d + 1) ++ (wrL ln true ms ps false (d + 1) ++ (lineB ln d ++ [125]))))))) := b2
     have hb : hit bl s (k + 1 + (lineB ln (d + 1)).length) = false := by rw [hit_at b3]; rfl
     have e2 := rblanks hs _ _ (line_blk ln (d + 1)) b1 hb
     have i2 := (b1.in_ hs).2
     have h93 : hit (ByteArray.mk #[125]) s (k + 1 + (lineB ln (d + 1)).length) = false := by rw [hit_at b3]; rfl
     have hle := h.1
     have hlen : ps.length ≤ 1000000 := by
      have wl : ∀ (ps : List Tag) (ms : List ByteArray), ps.length ≤ (wrL ln true ms ps false (d + 1)).length := by
       intro ps
       induction ps with
       | nil => intro ms; exact Nat.zero_le _
       | cons a t ih => intro ms; rw [wrL_cons]; have := ih ms.tail; simp only [commaB, Bool.false_eq_true, if_false, List.length_append, List.length_cons, List.length_nil]; omega
      have := wl ps ms
      simp only [List.length_cons, List.length_append] at hle
      omega
     simp only [List.length_cons] at hnl
     have i := rnames s hs ln d ps p ms y ih' vn (by omega) [] (fun c hc => by cases hc) (k + 1 + (lineB ln (d + 1)).length) _ zt [] [] b2 rfl (by simpa using hlen) (by simpa using hlen)
     rw [n_96s0e1dg1] at i
     rw [n_96s0e1d]
     simp only [sW, wk hk, e2, t97 _ s i2, h93, bnd] at i ⊢
     rw [i]
     simp only [List.nil_append, List.length_cons, List.length_append]
     have : k + 1 + (lineB ln (d + 1)).length + ((quo y).length + ((if ln = true then ([32] : List UInt8) else []).length + ((wr ln p (d + 1)).length + ((wrL ln true ms ps false (d + 1)).length + ((lineB ln d).length + (([] : List UInt8).length + 1)))) + 1)) = k + ((lineB ln (d + 1)).length + ((quo y).length + ((if ln = true then ([32] : List UInt8) else []).length + ((wr ln p (d + 1)).length + ((wrL ln true ms ps false (d + 1)).length + ((lineB ln d).length + (([] : List UInt8).length + 1)))) + 1)) + 1) := by omega
     rw [this]
   rw [n_65s0e1d]
   simp only [eb, t91 s hk, h1, sW, Int.reduceEq, Int.reduceLT, Int.reduceLE, Int.reduceGE, Int.reduceGT, decide_true, decide_false]
   rw [w]
   simp only [sW]
theorem parse_back (ln : Bool) (t : Tag) (hg : Good t) (hl : (wr ln t 0).length ≤ 65536) (h29 : n_29 (t, ()) = some (0, ())) : n_31 (ofL (wr ln t 0), ()) = some (((wr ln t 0).length : Int), 0, t, ()) := by
 have hsz := ofL_size (wr ln t 0)
 have hs : (ofL (wr ln t 0)).size ≤ 65536 := by omega
 have h : At (ofL (wr ln t 0)) 0 (wr ln t 0) := ⟨by rw [hsz]; omega, [], by simp⟩
 have hend : ndg (ofL (wr ln t 0)) (0 + (wr ln t 0).length) := by
  unfold ndg
  rw [hv_none]
  ·decide
  ·rw [ba_get, List.getElem?_eq_none]
   rw [ba_size, hsz]; omega
 have v := rvalue _ hs ln t hg 0 0 h hend
 rw [Nat.zero_add] at v hend
 have i := (h.in_ hs).2
 rw [Nat.zero_add] at i
 have hb : hit bl (ofL (wr ln t 0)) (wr ln t 0).length = false := by
  rcases Bool.eq_false_or_eq_true (hit bl (ofL (wr ln t 0)) (wr ln t 0).length) with h | h
  ·have := hit_lt h; omega
  ·exact h
 have e2 := (blanks_id i hb).1
 have z0 : ((0 : Nat) : Int) = 0 := rfl
 have n0 : ((0 : Int) != 0) = false := rfl
 unfold Rd at v e2
 rw [z0] at v
 generalize hsg : ofL (wr ln t 0) = s at *
 have c1 : ¬ (s.size : Int) > 65536 := by omega
 rw [hsz] at c1
 unfold n_31
 simp only [c1, sW, Int.reduceEq, Int.reduceLT, Int.reduceLE, Int.reduceGE, Int.reduceGT, decide_true, decide_false, v, e2, Bool.not_true, h29, n0, hsz, Nat.lt_irrefl]
end Go.Proofs.YtdmggfegkaiaiaaGreatDoor
end
section
namespace Go.Proofs.YtdmggfegkaiaiaaGreatDoor
set_option maxRecDepth 100000
theorem known_true : n_15 () = some (true, ()) := m_15_le 60 () _ (by kernel_rfl)
end Go.Proofs.YtdmggfegkaiaiaaGreatDoor
end
section
namespace Go.Proofs.YtdmggfegkaiaiaaGreatDoor
open Go.Awp Go.Tx
set_option maxRecDepth 20000
abbrev hexL : ByteArray := ByteArray.mk #[48, 49, 50, 51, 52, 53, 54, 55, 56, 57, 97, 98, 99, 100, 101, 102]
def hexOk (c : UInt8) : Bool := !decide (c.toNat < 32) ||
 (hexL[(IntKind.u8.wrap ((c.toNat : Int).tdiv 16)).toNat]? == some (Tryz.hexD.data.getD (c.toNat / 16) 0) && hexL[((c.toNat : Int).tmod 16).toNat]? == some (Tryz.hexD.data.getD (c.toNat % 16) 0) &&
   (Bs.enc1 ((Tryz.hexD.data.getD (c.toNat / 16) 0).toNat : Int)).data.toList == [Tryz.hexD.data.getD (c.toNat / 16) 0] && (Bs.enc1 ((Tryz.hexD.data.getD (c.toNat % 16) 0).toNat : Int)).data.toList == [Tryz.hexD.data.getD (c.toNat % 16) 0])
theorem hex_ok (c : UInt8) : hexOk c = true := all_bytes (P := fun c => hexOk c = true) (by kernel_rfl) c
theorem hex_ok' {c : UInt8} (h : c.toNat < 32) : hexL[(IntKind.u8.wrap ((c.toNat : Int).tdiv 16)).toNat]? = some (Tryz.hexD.data.getD (c.toNat / 16) 0) ∧ hexL[((c.toNat : Int).tmod 16).toNat]? = some (Tryz.hexD.data.getD (c.toNat % 16) 0) ∧
  Bs.enc1 ((Tryz.hexD.data.getD (c.toNat / 16) 0).toNat : Int) = ofL [Tryz.hexD.data.getD (c.toNat / 16) 0] ∧ Bs.enc1 ((Tryz.hexD.data.getD (c.toNat % 16) 0).toNat : Int) = ofL [Tryz.hexD.data.getD (c.toNat % 16) 0] := by
 have := hex_ok c
 simp only [hexOk, h, decide_true, Bool.not_true, Bool.false_or, Bool.and_eq_true, beq_iff_eq] at this
 obtain ⟨⟨⟨h1, h2⟩, h3⟩, h4⟩ := this
 exact ⟨h1, h2, ba_ext h3, ba_ext h4⟩
theorem t85l (s : ByteArray) (hs : s.size ≤ 4294967296) : ∀ (m k : Nat) (out : List UInt8), s.size - k = m → out.length + ((s.data.toList.drop k).flatMap escB).length ≤ 4294967296 →
  n_85l3 (s, ofL out, (k : Int), ()) = some (ofL (out ++ (s.data.toList.drop k).flatMap escB), ()) := by
 intro m
 induction m with
 | zero =>
  intro k out hk ho
  have hlt : ¬ k < s.size := by omega
  rw [List.drop_eq_nil_of_le (by rw [ba_size]; omega), List.flatMap_nil, List.append_nil, n_85l3]
  simp only [sW, hlt]
 | succ m ih =>
  intro k out hk ho
  have hlt : k < s.size := by omega
  have hl : k < s.data.toList.length := by rw [ba_size]; exact hlt
  have hd := List.drop_eq_getElem_cons hl
  have hg : s[k]? = some s.data.toList[k] := by rw [ba_get, List.getElem?_eq_getElem hl]
  generalize s.data.toList[k] = c at hd hg
  rw [hd, List.flatMap_cons] at ho ⊢
  rw [List.length_append] at ho
  have i := ih (k + 1) (out ++ escB c) (by omega) (by rw [List.length_append]; omega)
  rw [List.append_assoc] at i
  have w1 := wrap_succ hlt (show s.size ≤ 9223372036854775807 by omega)
  have ne : ∀ {x : UInt8}, c ≠ x → ¬ (c.toNat : Int) = (x.toNat : Int) := fun hx h => hx (UInt8.toNat_inj.1 (by omega))
  have app : ∀ a b : List UInt8, ofL a ++ ofL b = ofL (a ++ b) := ofL_append
  have two : ∀ (x : UInt8), escB c = [92, x] → out.length + 2 ≤ 4294967296 := fun x e => by rw [e] at ho; simp only [List.length_cons, List.length_nil] at ho; omega
  rw [n_85l3]
  simp only [sW, hlt, hg, decide_true]
  by_cases h34 : c = 34
  ·subst h34
   have e : escB 34 = [92, 34] := rfl
   rw [e] at i
   have hl := two 34 e
   have hq : (ofL out).size + (ByteArray.mk #[92, 34]).size ≤ 4294967296 := by rw [ofL_size]; exact hl
   have hq2 : ofL out ++ ByteArray.mk #[92, 34] = ofL (out ++ [92, 34]) := app out [92, 34]
   have z : (((34 : UInt8).toNat : Nat) : Int) = 34 := rfl
   simp only [z, sW, hq, hq2, w1]
   rw [e]; exact i
  ·have g34 := ne h34
   by_cases h92 : c = 92
   ·subst h92
    have e : escB 92 = [92, 92] := rfl
    rw [e] at i
    have hl := two 92 e
    have hq : (ofL out).size + (ByteArray.mk #[92, 92]).size ≤ 4294967296 := by rw [ofL_size]; exact hl
    have hq2 : ofL out ++ ByteArray.mk #[92, 92] = ofL (out ++ [92, 92]) := app out [92, 92]
    have z : (((92 : UInt8).toNat : Nat) : Int) = 92 := rfl
    simp only [z, sW, Int.reduceEq, Int.reduceLT, Int.reduceLE, Int.reduceGE, Int.reduceGT, decide_true, decide_false, hq, hq2, w1]
    rw [e]; exact i
   ·have g92 := ne h92
    by_cases h10 : c = 10
    ·subst h10
     have e : escB 10 = [92, 110] := rfl
     rw [e] at i
     have hl := two 110 e
     have hq : (ofL out).size + (ByteArray.mk #[92, 110]).size ≤ 4294967296 := by rw [ofL_size]; exact hl
     have hq2 : ofL out ++ ByteArray.mk #[92, 110] = ofL (out ++ [92, 110]) := app out [92, 110]
     have z : (((10 : UInt8).toNat : Nat) : Int) = 10 := rfl
     simp only [z, sW, Int.reduceEq, Int.reduceLT, Int.reduceLE, Int.reduceGE, Int.reduceGT, decide_true, decide_false, hq, hq2, w1]
     rw [e]; exact i
    ·have g10 := ne h10
     by_cases h13 : c = 13
     ·subst h13
      have e : escB 13 = [92, 114] := rfl
      rw [e] at i
      have hl := two 114 e
      have hq : (ofL out).size + (ByteArray.mk #[92, 114]).size ≤ 4294967296 := by rw [ofL_size]; exact hl
      have hq2 : ofL out ++ ByteArray.mk #[92, 114] = ofL (out ++ [92, 114]) := app out [92, 114]
      have z : (((13 : UInt8).toNat : Nat) : Int) = 13 := rfl
      simp only [z, sW, Int.reduceEq, Int.reduceLT, Int.reduceLE, Int.reduceGE, Int.reduceGT, decide_true, decide_false, hq, hq2, w1]
      rw [e]; exact i
     ·have g13 := ne h13
      by_cases h9 : c = 9
      ·subst h9
       have e : escB 9 = [92, 116] := rfl
       rw [e] at i
       have hl := two 116 e
       have hq : (ofL out).size + (ByteArray.mk #[92, 116]).size ≤ 4294967296 := by rw [ofL_size]; exact hl
       have hq2 : ofL out ++ ByteArray.mk #[92, 116] = ofL (out ++ [92, 116]) := app out [92, 116]
       have z : (((9 : UInt8).toNat : Nat) : Int) = 9 := rfl
       simp only [z, sW, Int.reduceEq, Int.reduceLT, Int.reduceLE, Int.reduceGE, Int.reduceGT, decide_true, decide_false, hq, hq2, w1]
       rw [e]; exact i
      ·have g9 := ne h9
       by_cases h8 : c = 8
       ·subst h8
        have e : escB 8 = [92, 98] := rfl
        rw [e] at i
        have hl := two 98 e
        have hq : (ofL out).size + (ByteArray.mk #[92, 98]).size ≤ 4294967296 := by rw [ofL_size]; exact hl
        have hq2 : ofL out ++ ByteArray.mk #[92, 98] = ofL (out ++ [92, 98]) := app out [92, 98]
        have z : (((8 : UInt8).toNat : Nat) : Int) = 8 := rfl
        simp only [z, sW, Int.reduceEq, Int.reduceLT, Int.reduceLE, Int.reduceGE, Int.reduceGT, decide_true, decide_false, hq, hq2, w1]
        rw [e]; exact i
       ·have g8 := ne h8
        by_cases h12 : c = 12
        ·subst h12
         have e : escB 12 = [92, 102] := rfl
         rw [e] at i
         have hl := two 102 e
         have hq : (ofL out).size + (ByteArray.mk #[92, 102]).size ≤ 4294967296 := by rw [ofL_size]; exact hl
         have hq2 : ofL out ++ ByteArray.mk #[92, 102] = ofL (out ++ [92, 102]) := app out [92, 102]
         have z : (((12 : UInt8).toNat : Nat) : Int) = 12 := rfl
         simp only [z, sW, Int.reduceEq, Int.reduceLT, Int.reduceLE, Int.reduceGE, Int.reduceGT, decide_true, decide_false, hq, hq2, w1]
         rw [e]; exact i
        ·have g12 := ne h12
         have x34 : (((34 : UInt8).toNat : Nat) : Int) = 34 := rfl
         have x92 : (((92 : UInt8).toNat : Nat) : Int) = 92 := rfl
         have x10 : (((10 : UInt8).toNat : Nat) : Int) = 10 := rfl
         have x13 : (((13 : UInt8).toNat : Nat) : Int) = 13 := rfl
         have x9 : (((9 : UInt8).toNat : Nat) : Int) = 9 := rfl
         have x8 : (((8 : UInt8).toNat : Nat) : Int) = 8 := rfl
         have x12 : (((12 : UInt8).toNat : Nat) : Int) = 12 := rfl
         rw [x34] at g34; rw [x92] at g92; rw [x10] at g10; rw [x13] at g13; rw [x9] at g9; rw [x8] at g8; rw [x12] at g12
         have e0 : escB c = if c.toNat < 32 then [92, 117, 48, 48, Tryz.hexD.data.getD (c.toNat / 16) 0, Tryz.hexD.data.getD (c.toNat % 16) 0] else [c] := by
          unfold escB
          rw [if_neg h34, if_neg h92, if_neg h10, if_neg h13, if_neg h9, if_neg h8, if_neg h12]
         by_cases h32 : c.toNat < 32
         ·obtain ⟨f1, f2, f3, f4⟩ := hex_ok' h32
          rw [if_pos h32] at e0
          rw [e0] at i ho
          have h32' : (c.toNat : Int) < 32 := by omega
          generalize Tryz.hexD.data.getD (c.toNat / 16) 0 = y at f1 f3 e0 i ho
          generalize Tryz.hexD.data.getD (c.toNat % 16) 0 = z at f2 f4 e0 i ho
          simp only [List.length_cons, List.length_nil] at ho
          have s4 : (ByteArray.mk #[92, 117, 48, 48]).size = 4 := rfl
          have s1 : ∀ x : UInt8, (ofL [x]).size = 1 := fun x => by rw [ofL_size]; rfl
          have e3 : ByteArray.mk #[92, 117, 48, 48] ++ ofL [y] = ofL [92, 117, 48, 48, y] := ofL_append [92, 117, 48, 48] _
          have e4 : ofL [92, 117, 48, 48, y] ++ ofL [z] = ofL [92, 117, 48, 48, y, z] := ofL_append [92, 117, 48, 48, y] _
          have s5 : (ofL [92, 117, 48, 48, y]).size = 5 := by rw [ofL_size]; rfl
          have s6 : (ofL [92, 117, 48, 48, y, z]).size = 6 := by rw [ofL_size]; rfl
          have l1 : (4 + 1 ≤ 4294967296) = True := eq_true (by decide)
          have l2 : (5 + 1 ≤ 4294967296) = True := eq_true (by decide)
          have l3 : (out.length + 6 ≤ 4294967296) = True := eq_true (by omega)
          have so := ofL_size out
          have ea : ofL out ++ ofL [92, 117, 48, 48, y, z] = ofL (out ++ [92, 117, 48, 48, y, z]) := app _ _
          simp only [g34, g92, g10, g13, g9, g8, g12, h32', sW, f1, f2, f3, f4, s4, s1, l1, e3, s5, l2, e4, s6, so, l3, ea, w1]
          rw [e0]; exact i
         ·rw [if_neg h32] at e0
          rw [e0] at i ho
          have h32' : ¬ (c.toNat : Int) < 32 := by omega
          have ex : s.extract k (k + 1) = ofL [c] := ba_ext (by rw [ba_one hg])
          have q : ((k : Int) ≤ ((k + 1 : Nat) : Int) ∧ ((k + 1 : Nat) : Int) ≤ (s.size : Int)) = True := eq_true ⟨by omega, by omega⟩
          have l3 : (out.length + [c].length ≤ 4294967296) = True := eq_true (by omega)
          simp only [g34, g92, g10, g13, g9, g8, g12, h32', sW, w1, q, true_and, ex, ofL_size, l3, app]
          rw [e0]; exact i
theorem t85 (s : ByteArray) (h : (quo s).length ≤ 4294967296) : n_85 (s, ()) = some (ofL (quo s), ()) := by
 have hq := quo_len s
 have hf := (flat_ge s.data.toList).1
 rw [ba_size] at hf
 have z0 : ((0 : Nat) : Int) = 0 := rfl
 have r := t85l s (by omega) _ 0 [34] rfl (by rw [List.drop_zero, List.length_singleton]; omega)
 rw [z0, List.drop_zero] at r
 have e34 : ofL [34] = ByteArray.mk #[34] := rfl
 rw [e34] at r
 have hl : (ofL ([34] ++ s.data.toList.flatMap escB)).size + (ByteArray.mk #[34]).size ≤ 4294967296 := by
  rw [ofL_size, List.length_append, List.length_singleton]
  show 1 + _ + 1 ≤ _
  omega
 unfold n_85
 simp only [r, sW, hl]
 rw [← e34, ofL_append]
 rfl
theorem law10 (s : ByteArray) : n_10 (s, ()) = some (true, ()) := by
 have hh : 1048576 ≤ small := by decide
 have hh2 : 1048576 ≤ big := by decide
 obtain ⟨a, e, t, p1, p2, hfit, p3⟩ := parse_both s
 have r := f18r t hfit
 have ne : (e != e) = false := by simp
 have na : (a != a) = false := by simp
 unfold n_10
 by_cases hs : (s.size : Int) > 20000
 ·simp only [hs, known_true, sW]
 ·by_cases he : e = 0
  ·obtain ⟨q1, q2, q3, q4, q5⟩ := p3 he
   subst he
   obtain ⟨e', e1, e2, e3⟩ := write_j false t (Tag.Fit.mono hh t q3) (by have : half = 4611686018427387904 := rfl; omega)
   obtain rfl : e' = 0 := by rw [q5] at e1; simpa using e1.symm
   obtain ⟨b1, b2, b3, b4⟩ := e3 rfl
   have b4 := b4 rfl
   have p := parse_back false t b2 (by omega) q5
   have n0 : ((0 : Int) != 0) = false := rfl
   unfold n_27
   simp only [hs, p1, p2, r, ne, na, n0, b1, p, beq_self_eq_true, Bool.not_true, known_true, sW]
  ·have e0 : (e != 0) = true := by simpa using he
   simp only [hs, p1, p2, r, ne, na, e0, Bool.not_true, known_true, sW]
theorem jsonParses_true (s : ByteArray) (h0 : Ok vw .str s) : n_10 (s, ()) = some (true, ()) := law10 s
end Go.Proofs.YtdmggfegkaiaiaaGreatDoor
end
section
namespace Go.Proofs.YtdmggfegkaiaiaaGreatDoor.jsonParses
open Go.ChangeShapes Go.WideShapes Go.ChangeAt Go.RowKit Go.Awp Go.Tx
open Go.Proofs.Tryz (prog)
theorem laidOut : laidOutB prog = true := by kernel_rfl
theorem own : ownKnob prog.godebug = none := by kernel_rfl
theorem contract (x0 : ByteArray) (h0 : Ok vw .str x0) : FnOk prog 10 [.d (encD szN encN .str x0)] [] (.d (.v (.bool true))) [] :=
 kcast (by kernel_rfl) (n_10_ok (x0, ()) (true, ()) (.lf .bool true) (jsonParses_true x0 h0) rfl)
set_option maxRecDepth 100000 in
theorem lifted (os : Os) (started : os.Started) (H : Type) (enc : TypeId × Value → H) :
  ReturnsInHanded {} Tryz.checked os 10 .any (fun w args => (Rows.jsonParsesSpec.pre enc prog Tryz.f10 Rows.jsonParsesRow.domain false w args ∧ laidMetH prog Rows.jsonParsesRow.laid w) ∧ sizedMet enc prog Tryz.f10 (OpenSpec.ofChange Rows.jsonParsesSpec) false w args)
   (Rows.jsonParsesSpec.post enc prog Tryz.f10 false true false false) := by
 refine returnsInHanded_of_change_and (C := Tryz.checked) (X := fun w _ => laidMetH prog Rows.jsonParsesRow.laid w) (fun _ _ _ hh h => h.of_heap hh) own started (by kernel_rfl) Tryz.func10
  (ChangeSpec.witness_shaped (enc := enc) (C := Tryz.checked) (os := os) (X := fun w _ => laidMetH prog Rows.jsonParsesRow.laid w) false (World.laidAll prog os Rows.jsonParsesRow.laid) #[.string ByteArray.empty] 8 (World.laidAll_os _ _ _)
    (World.shaped_of_ZipB (by kernel_rfl) (by kernel_rfl)) (by kernel_rfl) (by kernel_rfl) (by kernel_rfl)
    (by rw [MakeChecks.laidMetH_plain _ _ _ (by kernel_rfl)]; exact laidMet_laidAll _ (by kernel_rfl) (by kernel_rfl))) ?_
 intro W base args ds gs before hval0 hW hcnd _ hL _
 have hval : ∀ (j : Nat) t v, Tryz.f10.params[j]? = some t → args[j]? = some v → Value.okWide prog W .any base t v := hval0
 have hW' := hW
 obtain ⟨p, q, hA0, hV, rfl, hfz, hnd⟩ := hW'
 have hA : DataW.TrodAll enc prog W 0 (fun _ => true) true Tryz.f10.params.toList args.toList ds p := hA0
 rw [Tryz.params10] at hA hval
 obtain ⟨v0, vs0, d0, ds0, p0, q0, ha0, rfl, rfl, h0, r0⟩ := trodAll_cons hA
 obtain ⟨rfl, rfl, rfl⟩ := trodAll_nil r0
 obtain rfl : args = #[v0] := by cases args; simp_all
 obtain ⟨rfl, rfl⟩ := trodVars_none hV
 have hlt0 : ∀ x ∈ p0, x.block < W.heap.size := fun x hx => by simpa using hW.lt x (by simp [hx])
 obtain ⟨x0, ok0, hr0⟩ := open_val facts (τ := .str) rfl (hval 0 9 v0 rfl rfl) h0
 refine ((contract x0 ok0).closed (W := W) (vs := #[v0]) (gmem_laid hL) ⟨rfl, fun i c x hc hx => ?_⟩).mono fun e W' ⟨he, hb⟩ => ?_
 ·match i with
  | 0 => simp at hc hx; subst hc; subst hx; exact .d hr0
  | i + 1 => simp at hc
 subst he
 exact ⟨_, rfl, _, _, _, [], _, [], hW, trodAll_cons_mk (shut_bool Tryz.underlying4 _) trodAll_mk0,
  (trodAll_cons_mk (Below.trod laidOut (by kernel_rfl) (of_decide_eq_true (by kernel_rfl)) h0 hb hlt0) trodAll_mk0), rfl, hb.frame _, (fun h => by cases h)⟩
theorem row : Rows.JsonParsesSaid :=
 OpenClaim.holds_of_wide 10 Tryz.f10 rfl rfl rfl rfl rfl rfl rfl ⟨rfl, rfl, rfl, rfl, rfl⟩ rfl rfl rfl rfl rfl (by kernel_rfl) Tryz.func10 (by kernel_rfl)
  (of_decide_eq_true (by kernel_rfl)) (by unfold Func.isWrapper; first | (rw [if_pos (by decide +kernel)]; kernel_rfl) | (rw [if_neg (by decide +kernel)]; exact ⟨rfl, rfl⟩))
  (fun os started H enc _ => lifted os started H enc)
theorem proved : Rows.JsonParsesCardSaid :=
 Claim7.holds_tied_plain_at .later [] [.data, .data, .data, .data, .sentinel, .sentinel, .pinned, .pinned] true (true, "22100c2414b51b234e734a373bf0d765205aeba86125058e9a4f2bdf69e80eec") true row (fun _ h => by cases h) (by kernel_rfl) (fun _ h => by cases h) jsonParses_row_tie rfl ⟨rfl, rfl⟩ (by kernel_rfl) rfl
  (fun f fn hf hfn => by
    obtain rfl : f = 10 := Option.some.inj ((show prog.funcNamed "mandrel/mandrellaw20.JsonParses" = some 10 by kernel_rfl).symm.trans hf) |>.symm
    obtain rfl : fn = Tryz.f10 := (Option.some.inj (Tryz.func10.symm.trans hfn)).symm
    exact ⟨by kernel_rfl, fun j t ht => by
     rw [Tryz.params10] at ht
     have hm : t ∈ ([9] : List TypeId) := by simpa using Array.mem_of_getElem? ht
     have hall : (([9] : List TypeId).all fun u => !prog.wantsStandIn u) = true := by kernel_rfl
     exact (show prog.wantsStandIn t = false by simpa using List.all_eq_true.1 hall t hm)⟩)
  (by kernel_rfl)
end Go.Proofs.YtdmggfegkaiaiaaGreatDoor.jsonParses
end
