/-
  The law JsonGets in plain Lean.
-/
import Derived.Test.YtdmggfegkaiaiaaGreatDoorLjW
import Derived.Test.YtdmggfegkaiaiaaGreatDoorLjK
namespace Go.Proofs.YtdmggfegkaiaiaaGreatDoor
open Go.Awp Go.Tx
set_option linter.unusedSimpArgs false
set_option linter.unusedVariables false
set_option maxRecDepth 20000

abbrev small : Nat := 4294967296
abbrev Tag.nil : Tag := Tag.mk 0 0 (ByteArray.mk #[]) [] []

theorem nil_fit (B : Nat) : Tag.nil.Fit B := .mk (Nat.zero_le _) (Nat.zero_le _) (fun s hs => by cases hs) (Nat.zero_le _) fun p hp => by cases hp

theorem small_big {t : Tag} (h : t.Fit small) : t.Fit big := Tag.Fit.mono (by decide) t h

/-- Copies are what is copied. -/
theorem f45l (t : Tag) (ht : t.Fit small) (hp : ∀ p ∈ t.parts, n_45 (p, ()) = some (p, ())) (x y : Tag) : ∀ (m k : Nat), t.parts.length - k = m →
    n_45l4 (t.parts, (t.parts.length : Int), (k : Int), x, y, t.parts.take k, ()) = some (x, y, t.parts, ()) := by
  intro m
  induction m with
  | zero =>
    intro k hk
    have hlt : ¬ k < t.parts.length := by omega
    rw [n_45l4, List.take_of_length_le (by omega)]
    simp only [Option.bind_eq_bind, Option.bind_some, Option.bind_none, if_true, if_false, Bool.false_eq_true, Bool.true_eq_false, Int.toNat_natCast, Int.natCast_nonneg, beq_iff_eq, decide_eq_true_eq, Int.ofNat_lt, hlt]
  | succ m ih =>
    intro k hk
    have hlt : k < t.parts.length := by omega
    obtain ⟨p, hp1, hm, hd, g1, g2⟩ := at_lt hlt
    have h1 := ht.parts
    have e : (t.parts.take k).length + [p].length ≤ 4294967296 := by
      simp only [List.length_take, List.length_cons, List.length_nil]
      have : small = 4294967296 := rfl
      omega
    have e2 : t.parts.take k ++ [p] = t.parts.take (k + 1) := by rw [List.take_add_one, hp1]; rfl
    rw [n_45l4]
    simp only [Option.bind_eq_bind, Option.bind_some, Option.bind_none, if_true, if_false, Bool.false_eq_true, Bool.true_eq_false, Int.toNat_natCast, Int.natCast_nonneg, beq_iff_eq, decide_eq_true_eq, Int.ofNat_lt, g1, g2, hlt, hp1, hp p hm, e, e2, wrap_succ hlt (small_big ht).parts]
    exact ih (k + 1) (by omega)

theorem f45 : ∀ t : Tag, t.Fit small → n_45 (t, ()) = some (t, ()) := by
  refine Tag.ind fun t ih ht => ?_
  have h := f45l t ht (fun p hp => ih p hp (ht.part hp)) t Tag.nil _ 0 rfl
  simp only [Int.natCast_zero, Int.ofNat_eq_natCast, List.drop_zero, List.take_zero] at h
  rw [n_45]
  have e : n_75 (t.names, ()) = some (t.names, ()) := by
    unfold n_75
    rw [if_pos ht.names]
  simp only [e, Option.bind_eq_bind, Option.bind_some, Option.bind_none, if_true, if_false, Bool.false_eq_true, Bool.true_eq_false, Int.toNat_natCast, Int.natCast_nonneg, beq_iff_eq, decide_eq_true_eq, Int.ofNat_lt]
  have e3 : (Tag.mk t.kind t.n t.text t.names t.parts) = t := by cases t; rfl
  rw [e3, h]
  show some (Tag.mk t.kind t.n t.text t.names t.parts, ()) = _
  rw [e3]

/-- A name among names. -/
theorem f77l (t : Tag) (ht : t.Fit big) (s : ByteArray) : ∀ (m k : Nat), t.names.length - k = m → ∃ o : Option Nat,
    n_77l2 (t.names, s, (t.names.length : Int), (k : Int), ()) = some (match o with | some i => .inl ((i : Int), ()) | none => .inr ()) ∧ n_46l7 (s, (k : Int), t, ()) = some (match o with | some i => .inl ((i : Int), ()) | none => .inr ()) ∧ (∀ i, o = some i → i < t.names.length) := by
  intro m
  induction m with
  | zero =>
    intro k hk
    have hlt : ¬ k < t.names.length := by omega
    rw [n_77l2, n_46l7]
    simp only [Option.bind_eq_bind, Option.bind_some, Option.bind_none, if_true, if_false, Bool.false_eq_true, Bool.true_eq_false, Int.toNat_natCast, Int.natCast_nonneg, beq_iff_eq, decide_eq_true_eq, Int.ofNat_lt, hlt]
    exact ⟨.none, rfl, rfl, fun i h => by cases h⟩
  | succ m ih =>
    intro k hk
    have hlt : k < t.names.length := by omega
    obtain ⟨p, hp1, hm, hd, g1, g2⟩ := at_lt hlt
    rw [n_77l2, n_46l7]
    simp only [Option.bind_eq_bind, Option.bind_some, Option.bind_none, if_true, if_false, Bool.false_eq_true, Bool.true_eq_false, Int.toNat_natCast, Int.natCast_nonneg, beq_iff_eq, decide_eq_true_eq, Int.ofNat_lt, g1, g2, hlt, hp1, wrap_succ hlt ht.names]
    by_cases e : s = p
    · subst e
      simp only [Option.bind_eq_bind, Option.bind_some, Option.bind_none, if_true, if_false, Bool.false_eq_true, Bool.true_eq_false, Int.toNat_natCast, Int.natCast_nonneg, beq_iff_eq, decide_eq_true_eq, Int.ofNat_lt]
      exact ⟨some k, rfl, rfl, fun i h => by cases h; exact hlt⟩
    · have e1 : ¬ (s.toList = p.toList) := fun h => e (tl_eq.1 h)
      have e2 : ¬ (p.toList = s.toList) := fun h => e (tl_eq.1 h).symm
      simp only [e1, e2, Option.bind_eq_bind, Option.bind_some, Option.bind_none, if_true, if_false, Bool.false_eq_true, Bool.true_eq_false, Int.toNat_natCast, Int.natCast_nonneg, beq_iff_eq, decide_eq_true_eq, Int.ofNat_lt]
      exact ih (k + 1) (by omega)

theorem atoi_bnd {l : List UInt8} {n : Int} (h : Lib.atoiAll l = .ok n) : -9223372036854775808 ≤ n ∧ n ≤ 9223372036854775807 := by
  unfold Lib.atoiAll at h
  split at h
  · cases h
  · simp only [] at h
    split at h
    · cases h
    · cases h
    · rename_i u hu
      split at h
      · cases h
      · split at h
        · cases h
        · cases h
          split <;> omega

theorem sat_cases (l : List UInt8) : Lib.atoiSat l = -9223372036854775808 ∨ Lib.atoiSat l = 9223372036854775807 := by
  unfold Lib.atoiSat
  split
  · exact .inl rfl
  · exact .inr rfl

theorem itoa_zero : Lib.itoa 0 = [48] := by
  unfold Lib.itoa
  rw [if_neg (by decide)]
  unfold Lib.decDigits
  rfl

theorem zero_ok : Lib.atoiAll [48] = .ok 0 := by kernel_rfl

/-- One step of a path, both ways. -/
theorem f55 (t : Tag) (ht : t.Fit big) (hr : t.Right) (s : ByteArray) (hs : s.size ≤ 5000) : ∃ c d : Int, n_55 (t, s, ()) = some (c, ()) ∧ n_46 (t, s, ()) = some (d, ()) ∧
    ((d < 0 ∧ (c < 0 ∨ (t.parts.length : Int) ≤ c)) ∨ (0 ≤ d ∧ c = d ∧ d < (t.parts.length : Int))) := by
  obtain ⟨o, o1, o2, o3⟩ := f77l t ht s _ 0 rfl
  simp only [Int.natCast_zero, Int.ofNat_eq_natCast, List.drop_zero] at o1 o2
  have hsz : s.size ≤ 1000000000000 := by omega
  have hpl := ht.parts
  have hbig : big = 9223372036854775807 := rfl
  unfold n_55 n_46
  by_cases k6 : t.kind = 6
  · have hl := hr.len k6
    unfold n_77
    cases o with
    | none => exact ⟨-1, -1, by simp [k6, o1], by simp [k6, o2], .inl ⟨by omega, .inl (by omega)⟩⟩
    | some i => exact ⟨i, i, by simp [k6, o1], by simp [k6, o2], .inr ⟨by omega, rfl, by have := o3 i rfl; omega⟩⟩
  by_cases k5 : t.kind = 5
  · unfold n_76 n_78
    simp only [if_pos hsz]
    cases hq : Lib.atoiAll s.data.toList with
    | ok n =>
      obtain ⟨b1, b2⟩ := atoi_bnd hq
      by_cases h0 : n < 0
      · exact ⟨-1, -1, by simp [k5, h0], by simp [k5, h0], .inl ⟨by omega, .inl (by omega)⟩⟩
      have e79 : n_79 (n, ()) = some (⟨(Lib.itoa n).toArray⟩, ()) := by
        unfold n_79
        rw [if_pos ⟨b1, b2⟩]
      by_cases hl : n > (t.parts.length : Int)
      · refine ⟨-1, -1, by simp [k5, h0, hl], ?_, .inl ⟨by omega, .inl (by omega)⟩⟩
        have h3 : ¬ n < (t.parts.length : Int) := by omega
        by_cases e : Lib.itoa n = s.toList <;> simp [k5, h0, e79, e, h3]
      · by_cases e : Lib.itoa n = s.toList
        · by_cases h3 : n < (t.parts.length : Int)
          · exact ⟨n, n, by simp [k5, h0, hl, e79, e], by simp [k5, h0, e79, e, h3], .inr ⟨by omega, rfl, h3⟩⟩
          · exact ⟨n, -1, by simp [k5, h0, hl, e79, e], by simp [k5, h0, e79, e, h3], .inl ⟨by omega, .inr (by omega)⟩⟩
        · exact ⟨-1, -1, by simp [k5, h0, hl, e79, e], by simp [k5, h0, e79, e], .inl ⟨by omega, .inl (by omega)⟩⟩
    | range =>
      refine ⟨-1, -1, by simp [k5], ?_, .inl ⟨by omega, .inl (by omega)⟩⟩
      rcases sat_cases s.data.toList with h | h
      · simp [k5, h]
      · have e79 : n_79 (9223372036854775807, ()) = some (⟨(Lib.itoa 9223372036854775807).toArray⟩, ()) := by
          unfold n_79
          rw [if_pos ⟨by decide, by decide⟩]
        have h3 : ¬ (9223372036854775807 : Int) < (t.parts.length : Int) := by omega
        by_cases e : Lib.itoa 9223372036854775807 = s.toList <;> simp [k5, h, e79, e, h3]
    | _ =>
      refine ⟨-1, -1, by simp [k5], ?_, .inl ⟨by omega, .inl (by omega)⟩⟩
      have e79 : n_79 (0, ()) = some (⟨(Lib.itoa 0).toArray⟩, ()) := by
        unfold n_79
        rw [if_pos ⟨by decide, by decide⟩]
      have e : ¬ Lib.itoa 0 = s.toList := by
        intro h
        rw [itoa_zero, ByteArray.toList_eq] at h
        rw [← h, zero_ok] at hq
        cases hq
      simp [k5, e79, e]
  · have hn := hr.none k6
    have e78 : ∃ x, n_78 (s, ()) = some x := by
      unfold n_78
      simp only [if_pos hsz]
      split <;> exact ⟨_, rfl⟩
    obtain ⟨x, hx⟩ := e78
    have o2' : n_46l7 (s, 0, t, ()) = some (.inr ()) := by
      cases o with
      | none => exact o2
      | some i => have := o3 i rfl; rw [hn] at this; simp at this
    exact ⟨-1, -1, by simp [k5, k6, hx], by simp [k5, k6, o2'], .inl ⟨by omega, .inl (by omega)⟩⟩

/-- Paths. -/
theorem f14l (path : List ByteArray) (hp : path.length ≤ big) : ∀ (m k : Nat), path.length - k = m → ∃ o : Bool,
    n_14l2 (path, (k : Int), ()) = some (if o = true then .inl (true, ()) else .inr (path, ())) ∧ (o = false → ∀ s ∈ path.drop k, s.size ≤ 5000) := by
  intro m
  induction m with
  | zero =>
    intro k hk
    have hlt : ¬ k < path.length := by omega
    rw [n_14l2]
    simp only [Option.bind_eq_bind, Option.bind_some, Option.bind_none, if_true, if_false, Bool.false_eq_true, Bool.true_eq_false, Int.toNat_natCast, Int.natCast_nonneg, beq_iff_eq, decide_eq_true_eq, Int.ofNat_lt, hlt]
    exact ⟨false, by simp, fun _ s hs => by rw [(at_end hlt).1] at hs; cases hs⟩
  | succ m ih =>
    intro k hk
    have hlt : k < path.length := by omega
    obtain ⟨p, hp1, hm, hd, g1, g2⟩ := at_lt hlt
    rw [n_14l2]
    simp only [Option.bind_eq_bind, Option.bind_some, Option.bind_none, if_true, if_false, Bool.false_eq_true, Bool.true_eq_false, Int.toNat_natCast, Int.natCast_nonneg, beq_iff_eq, decide_eq_true_eq, Int.ofNat_lt, g1, g2, hlt, hp1, wrap_succ hlt hp]
    by_cases e : (p.size : Int) > 5000
    · exact ⟨true, by simp [e], fun h => by cases h⟩
    · obtain ⟨o, o1, o2⟩ := ih (k + 1) (by omega)
      simp only [e, Option.bind_eq_bind, Option.bind_some, Option.bind_none, if_true, if_false, Bool.false_eq_true, Bool.true_eq_false, Int.toNat_natCast, Int.natCast_nonneg, beq_iff_eq, decide_eq_true_eq, Int.ofNat_lt]
      refine ⟨o, o1, fun ho s hs => ?_⟩
      rw [hd] at hs
      rcases List.mem_cons.1 hs with rfl | hs
      · omega
      · exact o2 ho s hs

theorem f14 (path : List ByteArray) (hp : path.length ≤ big) : ∃ b, n_14 (path, ()) = some (b, ()) ∧ (b = false → ∀ s ∈ path, s.size ≤ 5000) := by
  obtain ⟨o, o1, o2⟩ := f14l path hp _ 0 rfl
  simp only [Int.natCast_zero, Int.ofNat_eq_natCast, List.drop_zero] at o1 o2
  unfold n_14
  cases o with
  | true => simp only [o1, Option.bind_eq_bind, Option.bind_some, Option.bind_none, if_true, if_false, Bool.false_eq_true, Bool.true_eq_false, Int.toNat_natCast, Int.natCast_nonneg, beq_iff_eq, decide_eq_true_eq, Int.ofNat_lt]; exact ⟨_, rfl, fun h => by cases h⟩
  | false => simp only [o1, Option.bind_eq_bind, Option.bind_some, Option.bind_none, if_true, if_false, Bool.false_eq_true, Bool.true_eq_false, Int.toNat_natCast, Int.natCast_nonneg, beq_iff_eq, decide_eq_true_eq, Int.ofNat_lt]; exact ⟨_, rfl, fun _ => o2 rfl⟩

theorem f44l (path : List ByteArray) (hp : path.length ≤ big) (hs : ∀ s ∈ path, s.size ≤ 5000) (z : Tag) : ∀ (m k : Nat) (x : Tag), path.length - k = m → x.Fit small → x.Right → ∃ o : Option Tag,
    n_44l2 (path, (path.length : Int), (k : Int), x, z, ()) = some (match o with | some y => .inr (y, z, ()) | none => .inl (false, Tag.nil, ())) ∧
    n_17l5 (path, (k : Int), x, z, ()) = some (match o with | some y => .inr (y, z, ()) | none => .inl (false, 0, Tag.nil, ())) ∧ (∀ y, o = some y → y.Fit small) := by
  intro m
  induction m with
  | zero =>
    intro k x hk hx hr
    have hlt : ¬ k < path.length := by omega
    rw [n_44l2, n_17l5]
    simp only [Option.bind_eq_bind, Option.bind_some, Option.bind_none, if_true, if_false, Bool.false_eq_true, Bool.true_eq_false, Int.toNat_natCast, Int.natCast_nonneg, beq_iff_eq, decide_eq_true_eq, Int.ofNat_lt, hlt]
    exact ⟨some x, rfl, rfl, fun y h => by cases h; exact hx⟩
  | succ m ih =>
    intro k x hk hx hr
    have hlt : k < path.length := by omega
    obtain ⟨p, hp1, hm, hd, g1, g2⟩ := at_lt hlt
    obtain ⟨c, d, c1, d1, h⟩ := f55 x (small_big hx) hr p (hs p hm)
    rw [n_44l2, n_17l5]
    simp only [Option.bind_eq_bind, Option.bind_some, Option.bind_none, if_true, if_false, Bool.false_eq_true, Bool.true_eq_false, Int.toNat_natCast, Int.natCast_nonneg, beq_iff_eq, decide_eq_true_eq, Int.ofNat_lt, g1, g2, hlt, hp1, c1, d1, wrap_succ hlt hp]
    rcases h with ⟨hd0, hc⟩ | ⟨hd0, rfl, hd1⟩
    · refine ⟨none, ?_, by simp [hd0], fun y h => by cases h⟩
      by_cases h0 : c < 0
      · simp [h0]
      · have : (x.parts.length : Int) ≤ c := by omega
        simp [h0, this]
    · have h0 : ¬ c < 0 := by omega
      have h1 : ¬ c ≥ (x.parts.length : Int) := by omega
      obtain ⟨n, rfl⟩ : ∃ n : Nat, c = n := ⟨c.toNat, (Int.toNat_of_nonneg hd0).symm⟩
      obtain ⟨q, hq, hqm, _⟩ := at_lt (xs := x.parts) (k := n) (by omega)
      obtain ⟨o, o1, o2, o3⟩ := ih (k + 1) q (by omega) (hx.part hqm) (hr.part hqm)
      refine ⟨o, ?_, ?_, o3⟩
      · simp only [h0, h1, hq, hd0, Option.bind_eq_bind, Option.bind_some, Option.bind_none, if_true, if_false, Bool.false_eq_true, Bool.true_eq_false, Int.toNat_natCast, Int.natCast_nonneg, beq_iff_eq, decide_eq_true_eq, Int.ofNat_lt, decide_false, wrap_succ hlt hp]
        exact o1
      · simp only [h0, hq, hd0, Option.bind_eq_bind, Option.bind_some, Option.bind_none, if_true, if_false, Bool.false_eq_true, Bool.true_eq_false, Int.toNat_natCast, Int.natCast_nonneg, beq_iff_eq, decide_eq_true_eq, Int.ofNat_lt, decide_false, wrap_succ hlt hp]
        exact o2

theorem f18s (a : Tag) (ha : a.Fit small) : n_18 (a, a, ()) = some (true, ()) := by
  obtain ⟨r, _, r2, r3⟩ := f19 a ((small_big ha).wf) a
  rw [r2, r3 rfl]

theorem law3 (t : Tag) (path : List ByteArray) (ht : t.Fit small) (hp : path.length ≤ big) : n_3 (t, path, ()) = some (true, ()) := by
  obtain ⟨x, hx⟩ := f13 t (small_big ht).wf
  obtain ⟨y, hy, hs⟩ := f14 path hp
  have hnil := f18s Tag.nil (nil_fit _)
  unfold n_3
  simp only [hx, hy, known_true, Option.bind_eq_bind, Option.bind_some, Option.bind_none, if_true, if_false, Bool.false_eq_true, Bool.true_eq_false, Int.toNat_natCast, Int.natCast_nonneg, beq_iff_eq, decide_eq_true_eq, Int.ofNat_lt]
  cases x with
  | true => simp only [known_true, Option.bind_eq_bind, Option.bind_some, Option.bind_none, if_true, if_false, Bool.false_eq_true, Bool.true_eq_false, Int.toNat_natCast, Int.natCast_nonneg, beq_iff_eq, decide_eq_true_eq, Int.ofNat_lt]
  | false =>
    cases y with
    | true => simp only [known_true, Option.bind_eq_bind, Option.bind_some, Option.bind_none, if_true, if_false, Bool.false_eq_true, Bool.true_eq_false, Int.toNat_natCast, Int.natCast_nonneg, beq_iff_eq, decide_eq_true_eq, Int.ofNat_lt]
    | false =>
      have hs := hs rfl
      simp only [Option.bind_eq_bind, Option.bind_some, Option.bind_none, if_true, if_false, Bool.false_eq_true, Bool.true_eq_false, Int.toNat_natCast, Int.natCast_nonneg, beq_iff_eq, decide_eq_true_eq, Int.ofNat_lt]
      obtain ⟨e, e1, e2, e3⟩ := f29 t (small_big ht)
      unfold n_16 n_17
      by_cases he : e = 0
      · have hr := e3 he
        obtain ⟨o, o1, o2, o3⟩ := f44l path hp hs Tag.nil _ 0 t rfl ht hr
        simp only [Int.natCast_zero, Int.ofNat_eq_natCast, List.drop_zero] at o1 o2
        have e0 : (e != 0) = false := by simp [he]
        unfold n_44
        cases o with
        | none => simp only [e1, e2, e0, o1, o2, f45 Tag.nil (nil_fit _), hnil, known_true, Option.bind_eq_bind, Option.bind_some, Option.bind_none, if_true, if_false, Bool.false_eq_true, Bool.true_eq_false, Int.toNat_natCast, Int.natCast_nonneg, beq_iff_eq, decide_eq_true_eq, Int.ofNat_lt, BEq.rfl]
        | some q => simp only [e1, e2, e0, o1, o2, f45 q (o3 q rfl), f18s q (o3 q rfl), known_true, Option.bind_eq_bind, Option.bind_some, Option.bind_none, if_true, if_false, Bool.false_eq_true, Bool.true_eq_false, Int.toNat_natCast, Int.natCast_nonneg, beq_iff_eq, decide_eq_true_eq, Int.ofNat_lt, BEq.rfl]
      · have e0 : (e != 0) = true := by simpa using he
        simp only [e1, e2, e0, hnil, known_true, Option.bind_eq_bind, Option.bind_some, Option.bind_none, if_true, if_false, Bool.false_eq_true, Bool.true_eq_false, Int.toNat_natCast, Int.natCast_nonneg, beq_iff_eq, decide_eq_true_eq, Int.ofNat_lt, BEq.rfl]

theorem jsonGets_true (t : Tag) (path : List ByteArray) (h0 : Ok vw (.st .tagT) t) (h1 : Ok vw (.sl .str) path) (m0 : Nat) (b0 : Bk vw (.st .tagT) t m0) (m1 : Nat) (b1 : Bk vw (.sl .str) path m1) (hm : m0 + m1 ≤ 1048576) :
    n_3 (t, path, ()) = some (true, ()) := law3 t path (fit_of_bk t m0 (Nat.le_trans (by omega) (show 1048576 ≤ small by decide)) b0) (ok_sl h1).1

end Go.Proofs.YtdmggfegkaiaiaaGreatDoor
