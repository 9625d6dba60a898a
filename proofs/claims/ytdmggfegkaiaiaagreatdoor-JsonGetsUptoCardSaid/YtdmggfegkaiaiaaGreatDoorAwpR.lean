/-
  The logic of abstract states: other names for what is owned; calls that hand over what is owned.
-/
import Derived.Test.YtdmggfegkaiaiaaGreatDoorAwpQ
namespace Go.Awp
set_option linter.unusedSectionVars false
variable [Inhabited GMem]

mutual
def H.ren (f : Nat → Nat) : H → H
  | .d x => .d x
  | .junk => .junk
  | .bp n o => .bp (f n) o
  | .vh n l => .vh (f n) l
  | .ep n s i o => .ep (f n) s i o
  | .mp n => .mp (f n)
  | .np n b => .np (f n) b
  | .sd n => .sd (f n)
  | .agg cs => .agg (H.renL f cs)
  | .tup vs => .tup (H.renL f vs)
  | .fn g a b => .fn g (H.renL f a) (H.renL f b)
def H.renL (f : Nat → Nat) : List H → List H
  | [] => []
  | x :: r => H.ren f x :: H.renL f r
end

theorem H.renL_len (f : Nat → Nat) : ∀ l : List H, (H.renL f l).length = l.length
  | [] => rfl
  | x :: r => by simp [H.renL, H.renL_len f r]

theorem H.renL_get (f : Nat → Nat) : ∀ (l : List H) (i : Nat), (H.renL f l)[i]? = (l[i]?).map (H.ren f)
  | [], i => by simp [H.renL]
  | x :: r, 0 => by simp [H.renL]
  | x :: r, i + 1 => by simpa [H.renL] using H.renL_get f r i

theorem H.has_get {n : Nat} : ∀ {l : List H} {i : Nat} {x : H}, l[i]? = some x → H.has n x = true → H.hasL n l = true := by
  intro l i x hx hn
  cases hh : H.hasL n l with
  | true => rfl
  | false => rw [H.hasL_get hh hx] at hn; cases hn

theorem HRep.ren {E E' : Env} {M : Mem} {f : Nat → Nat} {v : Value} {x : H} (h : HRep E M v x) (hE : ∀ n, H.has n x = true → E' (f n) = E n) : HRep E' M v (x.ren f) := by
  induction h with
  | d h => exact .d h
  | junk v => exact .junk v
  | bp n off b h => exact .bp _ off b (by rw [hE n (by simp [H.has])]; exact h)
  | vh n len l c a h hl => exact .vh _ len l c a (by rw [hE n (by simp [H.has])]; exact h) hl
  | ep n sz i off b l c h hi => exact .ep _ sz i off b l c (by rw [hE n (by simp [H.has])]; exact h) hi
  | mp n r h => exact .mp _ r (by rw [hE n (by simp [H.has])]; exact h)
  | np0 n => exact .np0 _
  | np1 n b h => exact .np1 _ b (by rw [hE n (by simp [H.has])]; exact h)
  | sd n p h => exact .sd _ p (by rw [hE n (by simp [H.has])]; exact h)
  | agg cs l hl h ih =>
    refine .agg cs _ (by rw [H.renL_len]; exact hl) fun i c y hc hy => ?_
    rw [H.renL_get] at hy
    cases hz : l[i]? with
    | none => rw [hz] at hy; cases hy
    | some z => rw [hz] at hy; simp at hy; subst hy; exact ih i c z hc hz fun n hn => hE n (H.has_get hz hn)
  | tup cs l hl h ih =>
    refine .tup cs _ (by rw [H.renL_len]; exact hl) fun i c y hc hy => ?_
    rw [H.renL_get] at hy
    cases hz : l[i]? with
    | none => rw [hz] at hy; cases hy
    | some z => rw [hz] at hy; simp at hy; subst hy; exact ih i c z hc hz fun n hn => hE n (H.has_get hz hn)
  | fn g first captured l l' hl hl' h h' ih ih' =>
    refine .fn g first captured _ _ (by rw [H.renL_len]; exact hl) (by rw [H.renL_len]; exact hl') (fun i c y hc hy => ?_) (fun i c y hc hy => ?_)
    · rw [H.renL_get] at hy
      cases hz : l[i]? with
      | none => rw [hz] at hy; cases hy
      | some z => rw [hz] at hy; simp at hy; subst hy; exact ih i c z hc hz fun n hn => hE n (by simp [H.has, H.has_get hz hn])
    · rw [H.renL_get] at hy
      cases hz : l'[i]? with
      | none => rw [hz] at hy; cases hy
      | some z => rw [hz] at hy; simp at hy; subst hy; exact ih' i c z hc hz fun n hn => hE n (by simp [H.has, H.has_get hz hn])

theorem HRep.unren {E : Env} {M : Mem} {f : Nat → Nat} {v : Value} {x : H} (h : HRep E M v x) : ∀ {y : H}, x = y.ren f → HRep (fun n => E (f n)) M v y := by
  induction h with
  | d h => intro y hy; cases y <;> simp only [H.ren, reduceCtorEq] at hy; cases hy; exact .d h
  | junk v => intro y hy; cases y <;> simp only [H.ren, reduceCtorEq] at hy; exact .junk v
  | bp n off b h => intro y hy; cases y <;> simp only [H.ren, reduceCtorEq] at hy; cases hy; exact .bp _ _ b h
  | vh n len l c a h hl => intro y hy; cases y <;> simp only [H.ren, reduceCtorEq] at hy; cases hy; exact .vh _ _ l c a h hl
  | ep n sz i off b l c h hi => intro y hy; cases y <;> simp only [H.ren, reduceCtorEq] at hy; cases hy; exact .ep _ _ _ _ b l c h hi
  | mp n r h => intro y hy; cases y <;> simp only [H.ren, reduceCtorEq] at hy; cases hy; exact .mp _ r h
  | np0 n => intro y hy; cases y <;> simp only [H.ren, reduceCtorEq] at hy; cases hy; exact .np0 _
  | np1 n b h => intro y hy; cases y <;> simp only [H.ren, reduceCtorEq] at hy; cases hy; exact .np1 _ b h
  | sd n p h => intro y hy; cases y <;> simp only [H.ren, reduceCtorEq] at hy; cases hy; exact .sd _ p h
  | agg cs l hl h ih =>
    intro y hy
    cases y <;> simp only [H.ren, reduceCtorEq] at hy
    cases hy
    exact .agg cs _ (by rw [H.renL_len] at hl; exact hl) fun i c z hc hz => ih i c _ hc (by rw [H.renL_get, hz]; rfl) rfl
  | tup cs l hl h ih =>
    intro y hy
    cases y <;> simp only [H.ren, reduceCtorEq] at hy
    cases hy
    exact .tup cs _ (by rw [H.renL_len] at hl; exact hl) fun i c z hc hz => ih i c _ hc (by rw [H.renL_get, hz]; rfl) rfl
  | fn g first captured l l' hl hl' h h' ih ih' =>
    intro y hy
    cases y <;> simp only [H.ren, reduceCtorEq] at hy
    cases hy
    exact .fn _ first captured _ _ (by rw [H.renL_len] at hl; exact hl) (by rw [H.renL_len] at hl'; exact hl') (fun i c z hc hz => ih i c _ hc (by rw [H.renL_get, hz]; rfl) rfl)
      (fun i c z hc hz => ih' i c _ hc (by rw [H.renL_get, hz]; rfl) rfl)

def Own.ren (f : Nat → Nat) : Own → Own
  | .box o cells => .box o (H.renL f cells)
  | .vec e sz rows => .vec e sz rows
  | .map es => .map es
  | .iter s pos => .iter s pos

theorem OwnOk.ren {E E' : Env} {M : Mem} {w : World} {f : Nat → Nat} {n : Nat} {o : Own} (h : OwnOk E M w n o) (hn : E' (f n) = E n) (hE : ∀ m, Own.has m o = true → E' (f m) = E m) : OwnOk E' M w (f n) (o.ren f) := by
  cases o with
  | box oty cells =>
    obtain ⟨b, cs, ty, h1, h2, h3, h4, h5⟩ := h
    refine ⟨b, cs, ty, by rw [hn]; exact h1, h2, by rw [H.renL_len]; exact h3, fun i c y hc hy => ?_, h5⟩
    rw [H.renL_get] at hy
    cases hz : cells[i]? with
    | none => rw [hz] at hy; cases hy
    | some z => rw [hz] at hy; simp at hy; subst hy; exact (h4 i c z hc hz).ren fun m hm => hE m (H.has_get hz hm)
  | vec e sz rows =>
    obtain ⟨xs, h1, h2, h3, h4⟩ := h
    exact ⟨xs, by rw [hn]; exact h1, h2, h3, by rw [hn]; exact h4⟩
  | map es =>
    obtain ⟨b, es', clock, h1, h2⟩ := h
    exact ⟨b, es', clock, by rw [hn]; exact h1, h2⟩
  | iter s pos =>
    obtain ⟨b, h1, h2⟩ := h
    exact ⟨b, by rw [hn]; exact h1, h2⟩

theorem OwnOk.unren {E : Env} {M : Mem} {w : World} {f : Nat → Nat} {n : Nat} {o : Own} (h : OwnOk E M w (f n) (o.ren f)) : OwnOk (fun n => E (f n)) M w n o := by
  cases o with
  | box oty cells =>
    obtain ⟨b, cs, ty, h1, h2, h3, h4, h5⟩ := h
    exact ⟨b, cs, ty, h1, h2, by rw [H.renL_len] at h3; exact h3, fun i c z hc hz => (h4 i c _ hc (by rw [H.renL_get, hz]; rfl)).unren rfl, h5⟩
  | vec e sz rows => exact h
  | map es => exact h
  | iter s pos => exact h

def renO (f : Nat → Nat) (own : List (Nat × Own)) : List (Nat × Own) := own.map fun p => (f p.1, p.2.ren f)

theorem gt_renO {f : Nat → Nat} (hf : ∀ a b, f a = f b → a = b) : ∀ (own : List (Nat × Own)) (n : Nat), gt (renO f own) (f n) = (gt own n).map (Own.ren f)
  | [], n => rfl
  | (k, o) :: r, n => by
    have ih := gt_renO hf r n
    simp only [renO, List.map_cons, gt_cons] at ih ⊢
    by_cases h : k = n
    · subst h; simp
    · rw [if_neg h, if_neg fun e => h (hf _ _ e)]; exact ih

theorem gt_renO_some {f : Nat → Nat} (hf : ∀ a b, f a = f b → a = b) {own : List (Nat × Own)} {m : Nat} {o : Own} (h : gt (renO f own) m = some o) : ∃ n o', m = f n ∧ gt own n = some o' ∧ o = o'.ren f := by
  have hm := gt_mem h
  simp only [renO, List.mem_map] at hm
  obtain ⟨⟨k, o1⟩, _, he⟩ := hm
  simp only [Prod.mk.injEq] at he
  obtain ⟨rfl, _⟩ := he
  rw [gt_renO hf] at h
  cases hg : gt own k with
  | none => rw [hg] at h; cases h
  | some o' => rw [hg] at h; simp at h; exact ⟨k, o', rfl, hg, h.symm⟩

mutual
/-- All names of a value are such. -/
def H.allN (p : Nat → Bool) : H → Bool
  | .d _ => true
  | .junk => true
  | .bp n _ => p n
  | .vh n _ => p n
  | .ep n _ _ _ => p n
  | .mp n => p n
  | .np n _ => p n
  | .sd n => p n
  | .agg cs => H.allNL p cs
  | .tup vs => H.allNL p vs
  | .fn _ a b => H.allNL p a && H.allNL p b
def H.allNL (p : Nat → Bool) : List H → Bool
  | [] => true
  | x :: r => H.allN p x && H.allNL p r
end

mutual
theorem H.allN_has {p : Nat → Bool} {n : Nat} : ∀ {x : H}, H.allN p x = true → H.has n x = true → p n = true
  | .d _, _, h => by simp [H.has] at h
  | .junk, _, h => by simp [H.has] at h
  | .bp m _, h, hn => by simp [H.has, H.allN] at h hn; exact hn ▸ h
  | .vh m _, h, hn => by simp [H.has, H.allN] at h hn; exact hn ▸ h
  | .ep m _ _ _, h, hn => by simp [H.has, H.allN] at h hn; exact hn ▸ h
  | .mp m, h, hn => by simp [H.has, H.allN] at h hn; exact hn ▸ h
  | .np m _, h, hn => by simp [H.has, H.allN] at h hn; exact hn ▸ h
  | .sd m, h, hn => by simp [H.has, H.allN] at h hn; exact hn ▸ h
  | .agg cs, h, hn => by rw [H.allN] at h; rw [H.has] at hn; exact H.allNL_has h hn
  | .tup cs, h, hn => by rw [H.allN] at h; rw [H.has] at hn; exact H.allNL_has h hn
  | .fn _ a b, h, hn => by
    rw [H.allN, Bool.and_eq_true] at h
    rw [H.has, Bool.or_eq_true] at hn
    rcases hn with hn | hn
    · exact H.allNL_has h.1 hn
    · exact H.allNL_has h.2 hn
theorem H.allNL_has {p : Nat → Bool} {n : Nat} : ∀ {l : List H}, H.allNL p l = true → H.hasL n l = true → p n = true
  | [], _, h => by simp [H.hasL] at h
  | x :: r, h, hn => by
    rw [H.allNL, Bool.and_eq_true] at h
    rw [H.hasL, Bool.or_eq_true] at hn
    rcases hn with hn | hn
    · exact H.allN_has h.1 hn
    · exact H.allNL_has h.2 hn
end

def Own.allN (p : Nat → Bool) : Own → Bool
  | .box _ cells => H.allNL p cells
  | .vec .. => true
  | .map _ => true
  | .iter _ _ => true

/-- A map of names out of a list of pairs. -/
def σf (σ : List (Nat × Nat)) (m : Nat) : Nat := match gt σ m with
  | some k => k
  | none => m + 1000000

def σok : List (Nat × Nat) → Bool
  | [] => true
  | (_, b) :: r => Nat.blt b 1000000 && (r.all fun p => !Nat.beq p.2 b) && σok r

theorem σok_lt : ∀ {σ : List (Nat × Nat)}, σok σ = true → ∀ {m k : Nat}, gt σ m = some k → k < 1000000
  | (a, b) :: r, h, m, k, hg => by
    simp only [σok, Bool.and_eq_true] at h
    rw [gt_cons] at hg
    split at hg
    · simp at hg; subst hg; exact by simpa [Nat.blt_eq] using h.1.1
    · exact σok_lt h.2 hg

theorem σok_inj : ∀ {σ : List (Nat × Nat)}, σok σ = true → ∀ {m m' k : Nat}, gt σ m = some k → gt σ m' = some k → m = m'
  | (a, b) :: r, h, m, m', k, hg, hg' => by
    simp only [σok, Bool.and_eq_true, List.all_eq_true] at h
    have hne : ∀ x, gt r x ≠ some b := fun x hx => by
      have := h.1.2 _ (gt_mem hx)
      simp at this
    rw [gt_cons] at hg hg'
    split at hg <;> split at hg'
    · rename_i h1 h2; exact h1.symm.trans h2
    · simp at hg; subst hg; exact (hne _ hg').elim
    · simp at hg'; subst hg'; exact (hne _ hg).elim
    · exact σok_inj h.2 hg hg'

theorem σf_inj {σ : List (Nat × Nat)} (h : σok σ = true) (a b : Nat) (he : σf σ a = σf σ b) : a = b := by
  unfold σf at he
  cases ha : gt σ a with
  | none =>
    cases hb : gt σ b with
    | none => rw [ha, hb] at he; simp only [] at he; omega
    | some k => rw [ha, hb] at he; have := σok_lt h hb; simp only [] at he; omega
  | some k =>
    cases hb : gt σ b with
    | none => rw [ha, hb] at he; have := σok_lt h ha; simp only [] at he; omega
    | some k' => rw [ha, hb] at he; simp only [] at he; subst he; exact σok_inj h ha hb

/-- What is to be looked at before a contract is used under other names. -/
def renOk (σ : List (Nat × Nat)) (own : List (Nat × Own)) (r : H) (own' : List (Nat × Own)) : Bool :=
  σok σ && own.all (fun p => Nat.ble given p.1) && own'.all (fun p => Nat.ble given p.1 || Nat.blt (σf σ p.1) given) &&
    H.allN (fun n => Nat.ble given n || (gt own' n).isSome) r && own'.all (fun p => Own.allN (fun n => Nat.ble given n || (gt own' n).isSome) p.2)

open Classical in
/-- A CONTRACT UNDER OTHER NAMES. -/
theorem FnOk.ren {P : Program} {f : FuncId} {args : List H} {own own' : List (Nat × Own)} {r : H} (h : FnOk P f args own r own') (σ : List (Nat × Nat)) (hc : renOk σ own r own' = true) :
    FnAt P f (H.renL (σf σ) args) (renO (σf σ) own) (r.ren (σf σ)) (renO (σf σ) own') := by
  simp only [renOk, Bool.and_eq_true, List.all_eq_true] at hc
  obtain ⟨⟨⟨⟨c1, c2⟩, c3⟩, c4⟩, c5⟩ := hc
  have hf := σf_inj c1
  refine ⟨h.1, fun E M w vs hgm hm how hvs => ?_⟩
  refine (h.2 (fun n => E (σf σ n)) M w vs hgm hm ⟨fun n o hn => ?_, fun n m o o' b hne hn hm' hb => ?_⟩ ⟨?_, fun i c x hc hx => ?_⟩).mono ?_
  · exact (how.ok _ _ (by rw [gt_renO hf, hn]; rfl)).unren
  · exact how.apart (σf σ n) (σf σ m) _ _ b (fun e => hne (hf _ _ e)) (by rw [gt_renO hf, hn]; rfl) (by rw [gt_renO hf, hm']; rfl) hb
  · rw [hvs.1, H.renL_len]
  · exact (hvs.2 i c _ hc (by rw [H.renL_get, hx]; rfl)).unren rfl
  rintro e w' ⟨v, E2, M2, rfl, hp⟩
  let E' : Env := fun n => if h : ∃ m, σf σ m = n ∧ m < given ∧ gt own' m ≠ none then E2 (Classical.choose h) else E n
  have hE1 : ∀ m, given ≤ m ∨ gt own' m ≠ none → E' (σf σ m) = E2 m := by
    intro m hm'
    by_cases hlt : m < given
    · have hm2 : gt own' m ≠ none := by rcases hm' with h1 | h1; (omega); exact h1
      have hex : ∃ m', σf σ m' = σf σ m ∧ m' < given ∧ gt own' m' ≠ none := ⟨m, rfl, hlt, hm2⟩
      simp only [E']
      rw [dif_pos hex]
      exact congrArg E2 (hf _ _ (Classical.choose_spec hex).1)
    · have hex : ¬ ∃ m', σf σ m' = σf σ m ∧ m' < given ∧ gt own' m' ≠ none := by
        rintro ⟨m', he, hl, _⟩
        have := hf _ _ he
        omega
      simp only [E']
      rw [dif_neg hex]
      exact (hp.env m (by omega)).symm
  have hE2 : ∀ n, (¬ ∃ m, σf σ m = n ∧ m < given ∧ gt own' m ≠ none) → E' n = E n := fun n hn => by simp only [E']; rw [dif_neg hn]
  have hpn : ∀ n, (Nat.ble given n || (gt own' n).isSome) = true → given ≤ n ∨ gt own' n ≠ none := by
    intro n hn
    rw [Bool.or_eq_true] at hn
    rcases hn with hn | hn
    · exact .inl (Nat.le_of_ble_eq_true hn)
    · exact .inr fun e => by rw [e] at hn; cases hn
  have hext : ∀ b, inExt (fun n => E (σf σ n)) own b → inExt E (renO (σf σ) own) b := by
    rintro b ⟨n, o, hn, hb⟩
    exact ⟨σf σ n, _, by rw [gt_renO hf, hn]; rfl, hb⟩
  have hblk : ∀ n o, gt own' n = some o → E' (σf σ n) = E2 n := fun n o hn => hE1 n (.inr (by rw [hn]; simp))
  refine ⟨v, E', M2, rfl, { rep := hp.rep.ren fun n hn => hE1 n (hpn n (H.allN_has c4 hn)), owns := ⟨fun n o hn => ?_, fun n m o o' b hne hn hm' hb => ?_⟩, mle := hp.mle, mem := hp.mem, mnew := fun b o v hv => ?_, home := fun n o b hn hb => ?_, frame := fun k hk hx => hp.frame k hk fun h1 => hx (hext k h1), grows := hp.grows, os := hp.os, tape := hp.tape, output := hp.output, env := fun n hn => hE2 n ?_ }, fun n hn => hE2 n ?_⟩
  · obtain ⟨m, o1, rfl, hg, rfl⟩ := gt_renO_some hf hn
    refine (hp.owns.ok m o1 hg).ren (hblk m o1 hg) fun k hk => hE1 k (hpn k ?_)
    have := c5 _ (gt_mem hg)
    cases o1 with
    | box oty cells => exact H.allNL_has this hk
    | vec e sz rows => simp [Own.has] at hk
    | map es => simp [Own.has] at hk
    | iter s pos => simp [Own.has] at hk
  · obtain ⟨n1, o1, rfl, hg1, rfl⟩ := gt_renO_some hf hn
    obtain ⟨m1, o2, rfl, hg2, rfl⟩ := gt_renO_some hf hm'
    rw [hblk n1 o1 hg1] at hb
    rw [hblk m1 o2 hg2]
    exact hp.owns.apart n1 m1 _ _ b (fun e => hne (by rw [e])) hg1 hg2 hb
  · rcases hp.mnew b o v hv with h1 | h1 | h1
    · exact .inl h1
    · exact .inr (.inl (hext b h1))
    · exact .inr (.inr h1)
  · obtain ⟨m, o1, rfl, hg, rfl⟩ := gt_renO_some hf hn
    rw [hblk m o1 hg] at hb
    rcases hp.home m o1 b hg hb with h1 | h1
    · exact .inl (hext b h1)
    · exact .inr h1
  · rintro ⟨m, rfl, hl, hne⟩
    cases hg : gt own' m with
    | none => exact hne hg
    | some o =>
      have := c3 _ (gt_mem hg)
      simp only [Bool.or_eq_true] at this
      rcases this with h1 | h1
      · have := Nat.le_of_ble_eq_true h1; omega
      · have : σf σ m < given := by simpa [Nat.blt_eq] using h1
        omega
  · rintro ⟨m, rfl, hl, hne⟩
    rcases hn with hn | ⟨o, ho⟩
    · rw [gt_renO hf] at hn
      cases hg : gt own' m with
      | none => exact hne hg
      | some o => rw [hg] at hn; cases hn
    · obtain ⟨n1, o1, he, hg, _⟩ := gt_renO_some hf ho
      have := hf _ _ he
      subst this
      have := Nat.le_of_ble_eq_true (c2 _ (gt_mem hg))
      simp only [] at this
      omega

/-- A call that hands over what is owned, by a contract under other names. -/
theorem callR {P : Program} {f : FuncId} {args args0 : List H} {ω : Nat → Option Own} {hω : Dummy ω} {k : Eff → Prop} {hk : Dummy k} {own own' : List (Nat × Own)} {r : H} (h : FnOk P f args0 own r own') (σ : List (Nat × Nat))
    (hc : renOk σ own r own' = true) (ha : args = H.renL (σf σ) args0) (ho : ∀ p ∈ renO (σf σ) own, ω p.1 = some p.2) (hh : k (callEff (r.ren (σf σ)) (renO (σf σ) own) (renO (σf σ) own'))) : ACallX P f args ω hω k hk := by
  subst ha
  exact ⟨_, _, _, h.ren σ hc, ho, hh⟩

/-- Two names change places. -/
def swp (a b n : Nat) : Nat := if n = a then b else if n = b then a else n

theorem swp_swp (a b n : Nat) : swp a b (swp a b n) = n := by
  unfold swp
  by_cases h1 : n = a
  · subst h1
    rw [if_pos rfl]
    by_cases h2 : b = n
    · rw [if_pos h2]; exact h2
    · rw [if_neg h2, if_pos rfl]
  · rw [if_neg h1]
    by_cases h2 : n = b
    · subst h2; rw [if_pos rfl, if_pos rfl]
    · rw [if_neg h2, if_neg h1, if_neg h2]

def AState.swap (S : AState) (a b : Nat) : AState :=
  { tmps := S.tmps.map fun p => (p.1, p.2.ren (swp a b)), own := S.own.map fun p => (swp a b p.1, p.2.map (Own.ren (swp a b))) }

theorem gt_swap {α : Type} {f : Nat → Nat} {g : α → α} (hf : ∀ n, f (f n) = n) : ∀ (l : List (Nat × α)) (n : Nat), gt (l.map fun p => (f p.1, g p.2)) n = (gt l (f n)).map g
  | [], n => rfl
  | (k, x) :: r, n => by
    simp only [List.map_cons, gt_cons]
    by_cases h : f k = n
    · have : k = f n := by rw [← h, hf]
      rw [if_pos h, if_pos this]; rfl
    · have : ¬ k = f n := fun e => h (by rw [e, hf])
      rw [if_neg h, if_neg this]; exact gt_swap hf r n

/-- WHAT IS OWNED MAY BE NAMED ANEW. -/
theorem Ent.swap {S : AState} (a b : Nat) (ha : Nat.blt a given = true) (hb : Nat.blt b given = true) : Ent S (S.swap a b) := fun C E M ac w hs => by
  have ha' : a < given := by simpa [Nat.blt_eq] using ha
  have hb' : b < given := by simpa [Nat.blt_eq] using hb
  have hE : ∀ n, (fun m => E (swp a b m)) (swp a b n) = E n := fun n => by simp only [swp_swp]
  have hown : ∀ n o, (S.swap a b).own? n = some o → ∃ o0, S.own? (swp a b n) = some o0 ∧ o = o0.ren (swp a b) := by
    intro n o ho
    simp only [AState.swap, AState.own?] at ho
    rw [gt_swap (g := fun x : Option Own => x.map (Own.ren (swp a b))) (swp_swp a b)] at ho
    cases hg : gt S.own (swp a b n) with
    | none => rw [hg] at ho; cases ho
    | some oo =>
      rw [hg] at ho
      cases oo with
      | none => simp at ho
      | some o0 => simp at ho; exact ⟨o0, by simp [AState.own?, hg], ho.symm⟩
  refine ⟨fun m => E (swp a b m), M, { hs with tmps := fun t x hx => ?_, own := fun n o ho => ?_, apart := fun n m o o' bl hne hn hm hbl => ?_, home := fun n o bl hn hbl => ?_, env := fun n hn => ?_ }⟩
  · simp only [AState.swap] at hx
    rw [gt_map] at hx
    cases hg : gt S.tmps t with
    | none => rw [hg] at hx; cases hx
    | some y =>
      rw [hg] at hx; simp at hx; subst hx
      obtain ⟨v, hv, hr⟩ := hs.tmps t y hg
      exact ⟨v, hv, hr.ren fun n _ => hE n⟩
  · obtain ⟨o0, h0, rfl⟩ := hown n o ho
    have := (hs.own _ _ h0).ren (E' := fun m => E (swp a b m)) (f := swp a b) (hE _) fun m _ => hE m
    rw [swp_swp] at this
    exact this
  · obtain ⟨o1, h1, rfl⟩ := hown n o hn
    obtain ⟨o2, h2, rfl⟩ := hown m o' hm
    exact hs.apart _ _ _ _ bl (fun e => hne (by rw [← swp_swp a b n, e, swp_swp])) h1 h2 hbl
  · obtain ⟨o1, h1, rfl⟩ := hown n o hn
    exact hs.home _ _ bl h1 hbl
  · have : swp a b n = n := by unfold swp; rw [if_neg (by omega), if_neg (by omega)]
    simp only [this]
    exact hs.env n hn

/-- The first pieces of a row of code, and the others. -/
def cutC : Nat → Code → Option (Code × Code)
  | 1, .seq x y => some (x, y)
  | n + 1, .seq x y => match cutC n y with
    | some (a, b) => some (.seq x a, b)
    | none => none
  | _, _ => none

theorem AWp.cutK {P : Program} {N : Nat} {C : Ctx} {nm : Nat → Nat} (hP : C.P = P) (hN : C.N = N) (hm : P.follows .mixedOrders = true) {Q K : Exit → AState → Prop} {y : Code} (hK : ∀ e S, K e S → eThen (fun S' => AWp C y S' Q) Q e S) :
    ∀ (n : Nat) (c x : Code) (S : AState), cutC n c = some (x, y) → awp P N C nm x S K → AWp C c S Q := by
  intro n
  induction n with
  | zero => intro c x S hc; cases c <;> (unfold cutC at hc; cases hc)
  | succ n ih =>
    intro c x S hc h
    cases n with
    | zero =>
      cases c <;> try (simp [cutC] at hc; done)
      rename_i a y0
      have hc2 : (some (a, y0) : Option (Code × Code)) = some (x, y) := hc
      cases hc2
      exact .seq ((awp_sound hP hN hm h).mono hK)
    | succ n =>
      cases c <;> try (simp [cutC] at hc; done)
      rename_i a y0
      simp only [cutC] at hc
      cases hy : cutC (n + 1) y0 with
      | none => rw [hy] at hc; cases hc
      | some p =>
        obtain ⟨b, y'⟩ := p
        rw [hy] at hc
        simp only [Option.some.injEq, Prod.mk.injEq] at hc
        obtain ⟨rfl, rfl⟩ := hc
        rw [awp_seq] at h
        refine .seq ((awp_sound hP hN hm h).mono fun e S' he => ?_)
        cases e with
        | normal => exact ih y0 b S' hy he
        | _ => exact hK _ _ he

/-- A CUT IN A ROW OF CODE: what lies before it, by evaluation, up to a relation; and what lies behind it. -/
theorem AWp.cut {P : Program} {N : Nat} {C : Ctx} (hP : C.P = P) (hN : C.N = N) (hm : P.follows .mixedOrders = true) (nm : Nat → Nat) (n : Nat) {c x y : Code} (hc : cutC n c = some (x, y)) {S : AState} {Q : Exit → AState → Prop} (I : Nat → AState → Prop)
    (h1 : awp P N C nm x S (eThen (Again I 1) Q)) (h2 : ∀ S, I 0 S → AWp C y S Q) : AWp C c S Q :=
  AWp.cutK hP hN hm (fun e S he => by
    cases e with
    | normal =>
      obtain ⟨m, S'', hlt, hent, hI⟩ := he
      have : m = 0 := by omega
      subst this
      exact .ent hent (h2 S'' hI)
    | _ => exact he) n c x S hc h1

theorem fn_of_AWp {P : Program} {f : FuncId} {fn : Func} {c : Code} {N : Nat} {rs : List ResultVar} {args : List H} {own own' : List (Nat × Own)} {r : H} (hf : P.funcs[f]? = some fn)
    (hb : fn.body = some c) (hN : fn.ntmps = N) (hrs : fn.results.toList = rs) (hname : (fn.name != "runtime.NumGoroutine") = true) (hn : Nat.ble args.length N = true)
    (h : ∀ C : Ctx, C.P = P → C.N = N → AWp C c ⟨startT 0 args, startO own⟩ (FnEnd P rs r own')) : FnOk P f args own r own' := by
  subst hN; subst hrs
  exact fn_of_awp hf hb hname (Nat.le_of_ble_eq_true hn) fun C hP hN => h C hP hN

theorem nat_beq {a b : Nat} : Nat.beq a b = (a == b) := by rw [Bool.eq_iff_iff]; simp
theorem oc_int {k : IntKind} {n : Int} : Value.oneCell' (.int k n) = true := rfl
theorem oc_bool {b : Bool} : Value.oneCell' (.bool b) = true := rfl
theorem oc_string {s : ByteArray} : Value.oneCell' (.string s) = true := rfl
theorem oc_slice {a : Option Addr} {n m : Nat} : Value.oneCell' (.slice a n m) = true := rfl
theorem oc_pointer {a : Option Addr} : Value.oneCell' (.pointer a) = true := rfl

end Go.Awp
