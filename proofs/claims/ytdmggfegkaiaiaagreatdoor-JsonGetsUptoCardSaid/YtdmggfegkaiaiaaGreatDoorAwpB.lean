/-
  The logic of abstract states: how a state that fits a world still fits when slots, blocks and cells change.
-/
import Derived.Test.YtdmggfegkaiaiaaGreatDoorAwpA
namespace Go.Awp
set_option linter.unusedSectionVars false
variable [Inhabited GMem]

theorem gt_cons {α : Type} (k : Nat) (x : α) (r : List (Nat × α)) (n : Nat) : gt ((k, x) :: r) n = if k = n then some x else gt r n := rfl

theorem gt_mem {α : Type} : ∀ {l : List (Nat × α)} {n : Nat} {x : α}, gt l n = some x → (n, x) ∈ l
  | (k, y) :: r, n, x, h => by
    rw [gt_cons] at h
    by_cases hk : k = n
    · rw [if_pos hk] at h
      cases h; subst hk; exact List.mem_cons_self
    · rw [if_neg hk] at h
      exact List.mem_cons_of_mem _ (gt_mem h)

/-- Nothing is owned under n and nothing names it. -/
def AState.fresh (S : AState) (n : Nat) : Bool :=
  (S.own? n).isNone && S.tmps.all (fun x => !H.has n x.2) && S.own.all (fun x => match x.2 with | some o => !Own.has n o | none => true)

theorem AState.fresh_own {S : AState} {n : Nat} (h : S.fresh n = true) : S.own? n = none := by
  simp [AState.fresh] at h; exact h.1.1

theorem AState.fresh_tmp {S : AState} {n : Nat} (h : S.fresh n = true) {t : Nat} {x : H} (hx : gt S.tmps t = some x) : H.has n x = false := by
  simp [AState.fresh] at h; exact h.1.2 _ _ (gt_mem hx)

theorem AState.fresh_cell {S : AState} {n : Nat} (h : S.fresh n = true) {m : Nat} {o : Own} (ho : S.own? m = some o) : Own.has n o = false := by
  simp only [AState.fresh, Bool.and_eq_true] at h
  have h2 := h.2
  rw [List.all_eq_true] at h2
  unfold AState.own? at ho
  cases hg : gt S.own m with
  | none => rw [hg] at ho; cases ho
  | some oo =>
    rw [hg] at ho
    simp at ho
    subst ho
    have := h2 _ (gt_mem hg)
    simpa using this

theorem OwnOk.keep {E E' : Env} {M M' : Mem} {w w' : World} {n : Nat} {o : Own} (h : OwnOk E M w n o) (hE : E' n = E n)
    (hw : ∀ b, blockOf (E n) = some b → w'.heap[b]? = w.heap[b]?) (hh : ∀ k, Own.has k o = true → E' k = E k) (hM : M.le M')
    (hM' : ∀ b, blockOf (E n) = some b → ∀ o, M' b o = none) : OwnOk E' M' w' n o := by
  cases o with
  | box o cells =>
    obtain ⟨b, cs, ty, h1, h2, h3, h4, h5, h6⟩ := h
    have hb : blockOf (E n) = some b := by rw [h1]; rfl
    refine ⟨b, cs, ty, by rw [hE]; exact h1, by rw [hw b hb]; exact h2, h3, fun i c x hc hx => ?_, hM' b hb, h6⟩
    refine (h4 i c x hc hx).mono hM fun k hk => hh k ?_
    simp only [Own.has]
    cases hl : H.hasL k cells with
    | true => rfl
    | false => have := H.hasL_get hl hx; rw [this] at hk; cases hk
  | vec e sz rows =>
    obtain ⟨xs, h1, h2, h3, h4⟩ := h
    refine ⟨xs, ?_, h2, fun i j r c x hr hx hc => (h3 i j r c x hr hx hc).mono hM, by rw [hE]; exact hM'⟩
    rw [hE]
    refine ⟨h1.1, ?_⟩
    rcases h1.2 with hn | ⟨g, cap, cur, hv, hb, hg, rest⟩
    · exact .inl hn
    · exact .inr ⟨g, cap, cur, hv, hb, by rw [hw g (by rw [hv]; rfl)]; exact hg, rest⟩
  | map es =>
    obtain ⟨b, es', clock, h1, h2, h3, h4, h5⟩ := h
    have hb : blockOf (E n) = some b := by rw [h1]; rfl
    exact ⟨b, es', clock, by rw [hE]; exact h1, by rw [hw b hb]; exact h2, h3, fun i e p he hp => ⟨(h4 i e p he hp).1, (h4 i e p he hp).2.mono hM⟩, hM' b hb⟩
  | iter s pos =>
    obtain ⟨b, h1, h2, h3⟩ := h
    have hb : blockOf (E n) = some b := by rw [h1]; rfl
    exact ⟨b, by rw [hE]; exact h1, by rw [hw b hb]; exact h2, hM' b hb⟩

section
variable {C : Ctx} {E : Env} {M : Mem} {S : AState} {a : Act} {w : World}

/-- A slot is written. -/
def putT (dst : Option Tmp) (x : H) (l : List (Nat × H)) : List (Nat × H) := match dst with | some d => (d, x) :: l | none => l

theorem Sim.put (h : Sim C E M S a w) (dst : Option Tmp) {v : Value} {x : H} (hd : ∀ d, dst = some d → d < C.N) (hx : HRep E M v x) :
    Sim C E M { S with tmps := putT dst x S.tmps } (a.put dst v) w := by
  cases dst with
  | none => exact h
  | some d =>
    refine { h with size := by simp [Act.put, h.size], defers := h.defers, tmps := ?_ }
    intro t y hy
    simp only [putT, gt_cons] at hy
    by_cases hdt : d = t
    · subst hdt
      simp at hy; subst hy
      exact ⟨v, by simp [Act.put, h.size, hd d rfl], hx⟩
    · rw [if_neg hdt] at hy
      obtain ⟨u, hu, hr⟩ := h.tmps t y hy
      exact ⟨u, by simp [Act.put, Array.getElem?_setIfInBounds_ne hdt, hu], hr⟩

/-- Only what is looked up counts. -/
theorem Sim.weaken (h : Sim C E M S a w) {S' : AState} (ht : ∀ t x, gt S'.tmps t = some x → gt S.tmps t = some x ∨ x = .junk ∧ ∃ y, gt S.tmps t = some y)
    (ho : ∀ n o, S'.own? n = some o → S.own? n = some o) : Sim C E M S' a w :=
  { h with
    tmps := fun t x hx => by
      rcases ht t x hx with h1 | ⟨rfl, y, hy⟩
      · exact h.tmps t x h1
      · obtain ⟨v, hv, _⟩ := h.tmps t y hy
        exact ⟨v, hv, .junk v⟩
    own := fun n o hn => h.own n o (ho n o hn)
    apart := fun n m o o' b hne hn hm => h.apart n m o o' b hne (ho n o hn) (ho m o' hm)
    home := fun n o b hn => h.home n o b (ho n o hn) }

/-- The world draws. -/
theorem Sim.drew (h : Sim C E M S a w) : Sim C E M S a w.drew :=
  { h with
    mem := fun b o v hv => h.mem b o v hv
    own := fun n o hn => (h.own n o hn).keep rfl (fun _ _ => rfl) (fun _ _ => rfl) (Mem.le_refl M) fun _ hb => ((h.own n o hn).block hb).2
    frame := h.frame, grows := h.grows, os := h.os, tape := h.tape, output := h.output }

/-- The block of what is owned is old, and the world knows it. -/
theorem Sim.block_lt (h : Sim C E M S a w) {n b : Nat} {o : Own} (hn : S.own? n = some o) (hb : blockOf (E n) = some b) : b < w.heap.size :=
  ((h.own n o hn).block hb).1

theorem Sim.cell_lt (h : Sim C E M S a w) {b o : Nat} {v : Value} (hm : M b o = some v) : b < w.heap.size :=
  World.block_lt_of_cell? w (a := ⟨b, o, none⟩) (h.mem b o v hm)

/-- What is owned under a name turns: a new name d (or an old one whose place stays), the old name n goes. -/
theorem Sim.own_step (h : Sim C E M S a w) {E' : Env} {n d : Nat} {on o' : Own} {w' : World} (hn : S.own? n = some on) (hg : w.grownBy w' (blockOf (E n)))
    (hE : ∀ m, m ≠ d → E' m = E m) (hd : (E' d = E d ∧ (d = n)) ∨ S.fresh d = true ∧ d < given)
    (hb : ∀ b, blockOf (E' d) = some b → blockOf (E n) = some b ∨ w.heap.size ≤ b) (hz : ∀ b, blockOf (E' d) = some b → b < w'.heap.size)
    (ok : OwnOk E' M w' d o') : Sim C E' M { S with own := (d, some o') :: (n, none) :: S.own } a w' := by
  have hEt : ∀ t x, gt S.tmps t = some x → ∀ k, H.has k x = true → E' k = E k := by
    intro t x hx k hk
    by_cases hkd : k = d
    · subst hkd
      rcases hd with ⟨he, _⟩ | ⟨hf, _⟩
      · exact he
      · rw [AState.fresh_tmp hf hx] at hk; cases hk
    · exact hE k hkd
  have hEo : ∀ m o, S.own? m = some o → ∀ k, Own.has k o = true → E' k = E k := by
    intro m o ho k hk
    by_cases hkd : k = d
    · subst hkd
      rcases hd with ⟨he, _⟩ | ⟨hf, _⟩
      · exact he
      · rw [AState.fresh_cell hf ho] at hk; cases hk
    · exact hE k hkd
  have hold : ∀ m o, ({ S with own := (d, some o') :: (n, none) :: S.own } : AState).own? m = some o → m = d ∧ o = o' ∨ m ≠ d ∧ m ≠ n ∧ S.own? m = some o := by
    intro m o ho
    simp only [AState.own?, gt_cons] at ho
    by_cases h1 : d = m
    · rw [if_pos h1] at ho; simp at ho; exact .inl ⟨h1.symm, ho.symm⟩
    · rw [if_neg h1] at ho
      by_cases h2 : n = m
      · rw [if_pos h2] at ho; simp at ho
      · rw [if_neg h2] at ho; exact .inr ⟨fun e => h1 e.symm, fun e => h2 e.symm, ho⟩
  have hrow : ∀ m o b, m ≠ n → S.own? m = some o → blockOf (E m) = some b → some b ≠ blockOf (E n) := fun m o b hne hm hbm he =>
    h.apart m n o on b hne hm hn hbm (he ▸ rfl)
  have hMnone : ∀ b, blockOf (E' d) = some b → ∀ o, M b o = none := by
    intro b hbb o
    rcases hb b hbb with h1 | h1
    · exact ((h.own n on hn).block h1).2 o
    · cases hm : M b o with
      | none => rfl
      | some v => have := h.cell_lt hm; omega
  refine { size := h.size, defers := h.defers, tmps := ?_, mem := ?_, own := ?_, apart := ?_, home := ?_, m0 := h.m0, mnew := h.mnew, frame := ?_, grows := ?_, os := ?_, tape := ?_, output := ?_, env := ?_ }
  · intro t x hx
    obtain ⟨v, hv, hr⟩ := h.tmps t x hx
    exact ⟨v, hv, hr.mono (Mem.le_refl M) (hEt t x hx)⟩
  · intro b o v hv
    refine hg.cell (h.mem b o v hv) fun he => ?_
    rw [((h.own n on hn).block he.symm).2 o] at hv
    cases hv
  · intro m o ho
    rcases hold m o ho with ⟨rfl, rfl⟩ | ⟨h1, h2, h3⟩
    · exact ok
    · refine (h.own m o h3).keep (hE m h1) (fun b hbm => hg.block b (h.block_lt h3 hbm) (hrow m o b h2 h3 hbm)) (hEo m o h3) (Mem.le_refl M) fun b hbm => ((h.own m o h3).block hbm).2
  · intro m m' o o2 b hne hm hm' hbm hbm'
    rcases hold m o hm with ⟨rfl, rfl⟩ | ⟨h1, h2, h3⟩
    · rcases hold m' o2 hm' with ⟨rfl, rfl⟩ | ⟨k1, k2, k3⟩
      · exact hne rfl
      · rw [hE m' k1] at hbm'
        rcases hb b hbm with q | q
        · exact h.apart n m' on o2 b (fun e => k2 e.symm) hn k3 q hbm'
        · have := h.block_lt k3 hbm'; omega
    · rw [hE m h1] at hbm
      rcases hold m' o2 hm' with ⟨rfl, rfl⟩ | ⟨k1, k2, k3⟩
      · rcases hb b hbm' with q | q
        · exact h.apart n m on o b (fun e => h2 e.symm) hn h3 q hbm
        · have := h.block_lt h3 hbm; omega
      · rw [hE m' k1] at hbm'
        exact h.apart m m' o o2 b hne h3 k3 hbm hbm'
  · intro m o b hm hbm
    rcases hold m o hm with ⟨rfl, rfl⟩ | ⟨h1, h2, h3⟩
    · rcases hb b hbm with q | q
      · exact h.home n on b hn q
      · exact .inr (Nat.le_trans h.grows q)
    · rw [hE m h1] at hbm
      exact h.home m o b h3 hbm
  · intro k hk hke
    rw [hg.block k (Nat.lt_of_lt_of_le hk h.grows) fun he => ?_]
    · exact h.frame k hk hke
    · rcases h.home n on k hn he.symm with q | q
      · exact hke q
      · omega
  · exact Nat.le_trans h.grows hg.size
  · exact hg.os.trans h.os
  · exact hg.tape.trans h.tape
  · exact hg.output.trans h.output
  · intro m hm
    by_cases hmd : m = d
    · subst hmd
      rcases hd with ⟨he, _⟩ | ⟨_, hf⟩
      · rw [he]; exact h.env m hm
      · omega
    · rw [hE m hmd]; exact h.env m hm

/-- What is owned under a name goes; its block may turn. -/
theorem Sim.own_drop (h : Sim C E M S a w) {n : Nat} {on : Own} {w' : World} (hn : S.own? n = some on) (hg : w.grownBy w' (blockOf (E n))) :
    Sim C E M { S with own := (n, none) :: S.own } a w' := by
  have hold : ∀ m o, ({ S with own := (n, none) :: S.own } : AState).own? m = some o → m ≠ n ∧ S.own? m = some o := by
    intro m o ho
    simp only [AState.own?, gt_cons] at ho
    by_cases h2 : n = m
    · rw [if_pos h2] at ho; simp at ho
    · rw [if_neg h2] at ho; exact ⟨fun e => h2 e.symm, ho⟩
  have hrow : ∀ m o b, m ≠ n → S.own? m = some o → blockOf (E m) = some b → some b ≠ blockOf (E n) := fun m o b hne hm hbm he =>
    h.apart m n o on b hne hm hn hbm (he ▸ rfl)
  refine { h with mem := ?_, own := ?_, apart := ?_, home := ?_, frame := ?_, grows := ?_, os := ?_, tape := ?_, output := ?_ }
  · intro b o v hv
    refine hg.cell (h.mem b o v hv) fun he => ?_
    rw [((h.own n on hn).block he.symm).2 o] at hv
    cases hv
  · intro m o ho
    obtain ⟨h2, h3⟩ := hold m o ho
    exact (h.own m o h3).keep rfl (fun b hbm => hg.block b (h.block_lt h3 hbm) (hrow m o b h2 h3 hbm)) (fun _ _ => rfl) (Mem.le_refl M) fun b hbm => ((h.own m o h3).block hbm).2
  · intro m m' o o2 b hne hm hm' hbm hbm'
    exact h.apart m m' o o2 b hne (hold m o hm).2 (hold m' o2 hm').2 hbm hbm'
  · intro m o b hm hbm
    exact h.home m o b (hold m o hm).2 hbm
  · intro k hk hke
    rw [hg.block k (Nat.lt_of_lt_of_le hk h.grows) fun he => ?_]
    · exact h.frame k hk hke
    · rcases h.home n on k hn he.symm with q | q
      · exact hke q
      · omega
  · exact Nat.le_trans h.grows hg.size
  · exact hg.os.trans h.os
  · exact hg.tape.trans h.tape
  · exact hg.output.trans h.output

/-- Something new is owned under a fresh name. -/
theorem Sim.own_new (h : Sim C E M S a w) {E' : Env} {d : Nat} {o' : Own} {w' : World} (hg : w.grownBy w' none)
    (hE : ∀ m, m ≠ d → E' m = E m) (hd : S.fresh d = true) (hdg : d < given)
    (hb : ∀ b, blockOf (E' d) = some b → w.heap.size ≤ b) (ok : OwnOk E' M w' d o') : Sim C E' M { S with own := (d, some o') :: S.own } a w' := by
  have hEt : ∀ t x, gt S.tmps t = some x → ∀ k, H.has k x = true → E' k = E k := by
    intro t x hx k hk
    by_cases hkd : k = d
    · subst hkd
      rw [AState.fresh_tmp hd hx] at hk; cases hk
    · exact hE k hkd
  have hEo : ∀ m o, S.own? m = some o → ∀ k, Own.has k o = true → E' k = E k := by
    intro m o ho k hk
    by_cases hkd : k = d
    · subst hkd
      rw [AState.fresh_cell hd ho] at hk; cases hk
    · exact hE k hkd
  have hold : ∀ m o, ({ S with own := (d, some o') :: S.own } : AState).own? m = some o → m = d ∧ o = o' ∨ m ≠ d ∧ S.own? m = some o := by
    intro m o ho
    simp only [AState.own?, gt_cons] at ho
    by_cases h1 : d = m
    · rw [if_pos h1] at ho; simp at ho; exact .inl ⟨h1.symm, ho.symm⟩
    · rw [if_neg h1] at ho
      exact .inr ⟨fun e => h1 e.symm, ho⟩
  refine { size := h.size, defers := h.defers, tmps := ?_, mem := ?_, own := ?_, apart := ?_, home := ?_, m0 := h.m0, mnew := h.mnew, frame := ?_, grows := ?_, os := ?_, tape := ?_, output := ?_, env := ?_ }
  · intro t x hx
    obtain ⟨v, hv, hr⟩ := h.tmps t x hx
    exact ⟨v, hv, hr.mono (Mem.le_refl M) (hEt t x hx)⟩
  · intro b o v hv
    exact hg.cell (h.mem b o v hv) (by simp)
  · intro m o ho
    rcases hold m o ho with ⟨rfl, rfl⟩ | ⟨h1, h3⟩
    · exact ok
    · exact (h.own m o h3).keep (hE m h1) (fun b hbm => hg.block b (h.block_lt h3 hbm) (by simp)) (hEo m o h3) (Mem.le_refl M) fun b hbm => ((h.own m o h3).block hbm).2
  · intro m m' o o2 b hne hm hm' hbm hbm'
    rcases hold m o hm with ⟨rfl, rfl⟩ | ⟨h1, h3⟩
    · rcases hold m' o2 hm' with ⟨rfl, rfl⟩ | ⟨k1, k3⟩
      · exact hne rfl
      · rw [hE m' k1] at hbm'
        have := hb b hbm
        have := h.block_lt k3 hbm'; omega
    · rw [hE m h1] at hbm
      rcases hold m' o2 hm' with ⟨rfl, rfl⟩ | ⟨k1, k3⟩
      · have := hb b hbm'
        have := h.block_lt h3 hbm; omega
      · rw [hE m' k1] at hbm'
        exact h.apart m m' o o2 b hne h3 k3 hbm hbm'
  · intro m o b hm hbm
    rcases hold m o hm with ⟨rfl, rfl⟩ | ⟨h1, h3⟩
    · exact .inr (Nat.le_trans h.grows (hb b hbm))
    · rw [hE m h1] at hbm
      exact h.home m o b h3 hbm
  · intro k hk hke
    rw [hg.block k (Nat.lt_of_lt_of_le hk h.grows) (by simp)]
    exact h.frame k hk hke
  · exact Nat.le_trans h.grows hg.size
  · exact hg.os.trans h.os
  · exact hg.tape.trans h.tape
  · exact hg.output.trans h.output
  · intro m hm
    rw [hE m (by omega)]; exact h.env m hm

/-- Blocks come, some of them readonly; nothing old turns. -/
theorem Sim.ro_new (h : Sim C E M S a w) {M' : Mem} {w' : World} (hg : w.grownBy w' none) (hM : M.le M')
    (hnew : ∀ b o v, M' b o = some v → M b o = some v ∨ w.heap.size ≤ b) (hmem : ∀ b o v, M' b o = some v → w.heap.size ≤ b → w'.cell? ⟨b, o, none⟩ = some v) : Sim C E M' S a w' := by
  have hM' : ∀ n o, S.own? n = some o → ∀ b, blockOf (E n) = some b → ∀ k, M' b k = none := by
    intro n o hn b hb k
    cases hm : M' b k with
    | none => rfl
    | some v =>
      rcases hnew b k v hm with q | q
      · rw [((h.own n o hn).block hb).2 k] at q; cases q
      · have := h.block_lt hn hb; omega
  refine { size := h.size, defers := h.defers, tmps := ?_, mem := ?_, own := ?_, apart := h.apart, home := h.home, m0 := Mem.le_trans h.m0 hM, mnew := ?_, frame := ?_, grows := ?_, os := ?_, tape := ?_, output := ?_, env := h.env }
  · intro t x hx
    obtain ⟨v, hv, hr⟩ := h.tmps t x hx
    exact ⟨v, hv, hr.le hM⟩
  · intro b o v hv
    rcases hnew b o v hv with q | q
    · exact hg.cell (h.mem b o v q) (by simp)
    · exact hmem b o v hv q
  · intro m o h3
    exact (h.own m o h3).keep rfl (fun b hbm => hg.block b (h.block_lt h3 hbm) (by simp)) (fun _ _ => rfl) hM (hM' m o h3)
  · intro b o v hv
    rcases hnew b o v hv with q | q
    · exact h.mnew b o v q
    · exact .inr (.inr (Nat.le_trans h.grows q))
  · intro k hk hke
    rw [hg.block k (Nat.lt_of_lt_of_le hk h.grows) (by simp)]
    exact h.frame k hk hke
  · exact Nat.le_trans h.grows hg.size
  · exact hg.os.trans h.os
  · exact hg.tape.trans h.tape
  · exact hg.output.trans h.output

end
end Go.Awp
