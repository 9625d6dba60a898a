/-
  The logic of abstract states: regions that draw their order: the proof.
-/
import Derived.Test.YtdmggfegkaiaiaaGreatDoorAwpN
namespace Go.Awp
set_option linter.unusedSectionVars false
variable [Inhabited GMem]

theorem gt_none {α : Type} : ∀ {l : List (Nat × α)} {n : Nat}, n ∉ l.map (·.1) → gt l n = none
  | [], _, _ => rfl
  | (k, x) :: r, n, h => by
    simp only [List.map_cons, List.mem_cons, not_or] at h
    rw [gt_cons, if_neg (fun e => h.1 e.symm)]
    exact gt_none h.2

theorem gt_some {α : Type} : ∀ {l : List (Nat × α)} {n : Nat}, n ∈ l.map (·.1) → ∃ x, gt l n = some x
  | [], _, h => by simp at h
  | (k, x) :: r, n, h => by
    rw [gt_cons]
    by_cases hk : k = n
    · exact ⟨x, by rw [if_pos hk]⟩
    · rw [if_neg hk]
      simp only [List.map_cons, List.mem_cons] at h
      exact gt_some (h.resolve_left fun e => hk e.symm)

/-- A slot that no chosen operation writes differently. -/
theorem stE_tmp {t : Nat} {E E' : Nat → Bool} : ∀ (l : List (Oper × Tr1)) (i : Nat) (S S' : AState), gt S.tmps t = gt S'.tmps t → (∀ k x, l[k]? = some x → x.1.dst = some t → E (i + k) = E' (i + k)) →
    gt (stE E i l S).tmps t = gt (stE E' i l S').tmps t
  | [], _, _, _, h, _ => h
  | (o, tr) :: r, i, S, S', h, hE => by
    simp only [stE]
    refine stE_tmp r (i + 1) _ _ ?_ fun k x hx hd => by
      have := hE (k + 1) x (by simpa using hx) hd
      rwa [show i + 1 + k = i + (k + 1) by omega]
    by_cases hd : o.dst = some t
    · have := hE 0 (o, tr) rfl hd
      simp only [Nat.add_zero] at this
      rw [this]
      cases E' i with
      | true => simp [AState.app, putT, hd, gt_cons]
      | false => simpa using h
    · have key : ∀ S : AState, gt (S.app o.dst tr.e).tmps t = gt S.tmps t := by
        intro S
        simp only [AState.app, putT]
        cases hdd : o.dst with
        | none => rfl
        | some d => simp only [gt_cons]; rw [if_neg (fun e => hd (by rw [hdd, e]))]
      cases E i <;> cases E' i <;> simp [key, h]

theorem stE_own {n : Nat} {E E' : Nat → Bool} : ∀ (l : List (Oper × Tr1)) (i : Nat) (S S' : AState), gt S.own n = gt S'.own n → (∀ k x, l[k]? = some x → n ∈ x.2.e.upd.map (·.1) → E (i + k) = E' (i + k)) →
    gt (stE E i l S).own n = gt (stE E' i l S').own n
  | [], _, _, _, h, _ => h
  | (o, tr) :: r, i, S, S', h, hE => by
    simp only [stE]
    refine stE_own r (i + 1) _ _ ?_ fun k x hx hd => by
      have := hE (k + 1) x (by simpa using hx) hd
      rwa [show i + 1 + k = i + (k + 1) by omega]
    by_cases hd : n ∈ tr.e.upd.map (·.1)
    · have := hE 0 (o, tr) rfl hd
      simp only [Nat.add_zero] at this
      rw [this]
      cases E' i with
      | true =>
        obtain ⟨x, hx⟩ := gt_some hd
        simp [AState.app, gt_app, hx]
      | false => simpa using h
    · have key : ∀ S : AState, gt (S.app o.dst tr.e).own n = gt S.own n := by
        intro S
        simp only [AState.app, gt_app, gt_none hd]
      cases E i <;> cases E' i <;> simp [key, h]

/-- What stands in a state that chosen operations made: it stood there before, or one of them put it there. -/
theorem stE_mem_tmp {E : Nat → Bool} : ∀ (l : List (Oper × Tr1)) (i : Nat) (S : AState) (p : Nat × H), p ∈ (stE E i l S).tmps → p ∈ S.tmps ∨ ∃ k x, l[k]? = some x ∧ E (i + k) = true ∧ x.1.dst = some p.1 ∧ p.2 = x.2.e.val
  | [], _, _, _, h => .inl h
  | (o, tr) :: r, i, S, p, h => by
    simp only [stE] at h
    rcases stE_mem_tmp r (i + 1) _ p h with h1 | ⟨k, x, h1, h2, h3⟩
    · cases hE : E i with
      | false => rw [hE] at h1; exact .inl h1
      | true =>
        rw [hE] at h1
        simp only [if_true, AState.app, putT] at h1
        cases hd : o.dst with
        | none => rw [hd] at h1; exact .inl h1
        | some d =>
          rw [hd] at h1
          rcases List.mem_cons.1 h1 with h2 | h2
          · exact .inr ⟨0, (o, tr), rfl, by simpa using hE, by rw [h2]; exact hd, by rw [h2]⟩
          · exact .inl h2
    · exact .inr ⟨k + 1, x, by simpa using h1, by rwa [show i + (k + 1) = i + 1 + k by omega], h3⟩

theorem stE_mem_own {E : Nat → Bool} : ∀ (l : List (Oper × Tr1)) (i : Nat) (S : AState) (p : Nat × Option Own), p ∈ (stE E i l S).own → p ∈ S.own ∨ ∃ k x, l[k]? = some x ∧ E (i + k) = true ∧ p ∈ x.2.e.upd
  | [], _, _, _, h => .inl h
  | (o, tr) :: r, i, S, p, h => by
    simp only [stE] at h
    rcases stE_mem_own r (i + 1) _ p h with h1 | ⟨k, x, h1, h2, h3⟩
    · cases hE : E i with
      | false => rw [hE] at h1; exact .inl h1
      | true =>
        rw [hE] at h1
        simp only [if_true, AState.app] at h1
        rcases List.mem_append.1 h1 with h2 | h2
        · exact .inr ⟨0, (o, tr), rfl, by simpa using hE, h2⟩
        · exact .inl h2
    · exact .inr ⟨k + 1, x, by simpa using h1, by rwa [show i + (k + 1) = i + 1 + k by omega], h3⟩

/-- What stood there stays in the lists. -/
theorem stE_sub {E : Nat → Bool} : ∀ (l : List (Oper × Tr1)) (i : Nat) (S : AState), (∀ p ∈ S.tmps, p ∈ (stE E i l S).tmps) ∧ (∀ p ∈ S.own, p ∈ (stE E i l S).own)
  | [], _, _ => ⟨fun _ h => h, fun _ h => h⟩
  | (o, tr) :: r, i, S => by
    simp only [stE]
    obtain ⟨h1, h2⟩ := stE_sub r (i + 1) (if E i then S.app o.dst tr.e else S) (E := E)
    refine ⟨fun p hp => h1 p ?_, fun p hp => h2 p ?_⟩
    · cases E i with
      | false => simpa using hp
      | true =>
        simp only [if_true, AState.app, putT]
        cases o.dst with
        | none => exact hp
        | some d => exact List.mem_cons_of_mem _ hp
    · cases E i with
      | false => simpa using hp
      | true => simp only [if_true, AState.app]; exact List.mem_append_right _ hp

/-- What a chosen operation put there is in the lists. -/
theorem stE_put {E : Nat → Bool} : ∀ (l : List (Oper × Tr1)) (i : Nat) (S : AState) (k : Nat) (x : Oper × Tr1), l[k]? = some x → E (i + k) = true →
    (∀ d, x.1.dst = some d → (d, x.2.e.val) ∈ (stE E i l S).tmps) ∧ (∀ p ∈ x.2.e.upd, p ∈ (stE E i l S).own)
  | [], _, _, k, x, h, _ => by simp at h
  | (o, tr) :: r, i, S, 0, x, h, hE => by
    simp at h; subst h
    simp only [stE]
    simp only [Nat.add_zero] at hE
    obtain ⟨h1, h2⟩ := stE_sub r (i + 1) (S.app o.dst tr.e) (E := E)
    rw [hE]
    refine ⟨fun d hd => h1 _ ?_, fun p hp => h2 _ ?_⟩
    · try simp only at hd
      simp [AState.app, putT, hd]
    · simp only [AState.app]; exact List.mem_append_left _ hp
  | (o, tr) :: r, i, S, k + 1, x, h, hE => by
    simp only [stE]
    exact stE_put r (i + 1) _ k x (by simpa using h) (by rwa [show i + 1 + k = i + (k + 1) by omega])

/-- The last write of a slot is what stands there. -/
theorem stE_last_tmp {t : Nat} {E : Nat → Bool} : ∀ (l : List (Oper × Tr1)) (i : Nat) (S : AState) (k : Nat) (x : Oper × Tr1), l[k]? = some x → x.1.dst = some t → E (i + k) = true →
    (∀ j y, l[j]? = some y → k < j → y.1.dst = some t → E (i + j) = false) → gt (stE E i l S).tmps t = some x.2.e.val
  | [], _, _, k, x, h, _, _, _ => by simp at h
  | (o, tr) :: r, i, S, 0, x, h, hd, hE, hl => by
    simp at h; subst h
    simp only [stE]
    simp only [Nat.add_zero] at hE
    rw [hE]
    have := stE_tmp (t := t) (E := E) (E' := fun _ => false) r (i + 1) (if true = true then S.app o.dst tr.e else S) (if true = true then S.app o.dst tr.e else S) rfl fun j y hy hdy => by
      have := hl (j + 1) y (by simpa using hy) (by omega) hdy
      rwa [show i + 1 + j = i + (j + 1) by omega]
    rw [this]
    have none : ∀ (l : List (Oper × Tr1)) (i : Nat) (S : AState), stE (fun _ => false) i l S = S := by
      intro l
      induction l with
      | nil => intro i S; rfl
      | cons y r ih => intro i S; obtain ⟨o, t⟩ := y; simp only [stE]; exact ih _ _
    rw [none]
    try simp only at hd
    simp [AState.app, putT, hd, gt_cons]
  | (o, tr) :: r, i, S, k + 1, x, h, hd, hE, hl => by
    simp only [stE]
    exact stE_last_tmp r (i + 1) _ k x (by simpa using h) hd (by rwa [show i + 1 + k = i + (k + 1) by omega]) fun j y hy hkj hdy => by
      have := hl (j + 1) y (by simpa using hy) (by omega) hdy
      rwa [show i + 1 + j = i + (j + 1) by omega]

theorem stE_last_own {n : Nat} {E : Nat → Bool} : ∀ (l : List (Oper × Tr1)) (i : Nat) (S : AState) (k : Nat) (x : Oper × Tr1), l[k]? = some x → n ∈ x.2.e.upd.map (·.1) → E (i + k) = true →
    (∀ j y, l[j]? = some y → k < j → n ∈ y.2.e.upd.map (·.1) → E (i + j) = false) → gt (stE E i l S).own n = gt x.2.e.upd n
  | [], _, _, k, x, h, _, _, _ => by simp at h
  | (o, tr) :: r, i, S, 0, x, h, hd, hE, hl => by
    simp at h; subst h
    simp only [stE]
    simp only [Nat.add_zero] at hE
    rw [hE]
    have := stE_own (n := n) (E := E) (E' := fun _ => false) r (i + 1) (if true = true then S.app o.dst tr.e else S) (if true = true then S.app o.dst tr.e else S) rfl fun j y hy hdy => by
      have := hl (j + 1) y (by simpa using hy) (by omega) hdy
      rwa [show i + 1 + j = i + (j + 1) by omega]
    rw [this]
    have none : ∀ (l : List (Oper × Tr1)) (i : Nat) (S : AState), stE (fun _ => false) i l S = S := by
      intro l
      induction l with
      | nil => intro i S; rfl
      | cons y r ih => intro i S; obtain ⟨o, t⟩ := y; simp only [stE]; exact ih _ _
    rw [none]
    obtain ⟨u, hu⟩ := gt_some hd
    simp [AState.app, gt_app, hu]
  | (o, tr) :: r, i, S, k + 1, x, h, hd, hE, hl => by
    simp only [stE]
    exact stE_last_own r (i + 1) _ k x (by simpa using h) hd (by rwa [show i + 1 + k = i + (k + 1) by omega]) fun j y hy hkj hdy => by
      have := hl (j + 1) y (by simpa using hy) (by omega) hdy
      rwa [show i + 1 + j = i + (j + 1) by omega]

/-- The operations of the order of the text, each at the state that those ahead of it left. -/
theorem DidAll.at {P : Program} {N : Nat} {nm : Nat → Nat} {all : List Oper} : ∀ (l : List (Oper × Tr1)) (i : Nat) (S : AState), DidAll P N nm all l S → ∀ k x, l[k]? = some x →
    Did P N nm all x.1 (stE (fun j => decide (j < i + k)) i l S) x.2
  | [], _, _, _, k, x, h => by simp at h
  | (o, t) :: r, i, S, h, 0, x, hx => by
    simp at hx; subst hx
    have none : ∀ (l : List (Oper × Tr1)) (j : Nat) (S : AState), i ≤ j → stE (fun k => decide (k < i + 0)) j l S = S := by
      intro l
      induction l with
      | nil => intro j S _; rfl
      | cons y r ih => intro j S hj; obtain ⟨o, t⟩ := y; simp only [stE]; rw [if_neg (by simp; omega)]; exact ih _ _ (by omega)
    rw [none _ _ _ (Nat.le_refl _)]
    exact h.1
  | (o, t) :: r, i, S, h, k + 1, x, hx => by
    have := DidAll.at r (i + 1) _ h.2 k x (by simpa using hx)
    simp only [stE]
    rw [if_pos (by simp)]
    rwa [show i + 1 + k = i + (k + 1) by omega] at this

end Go.Awp
