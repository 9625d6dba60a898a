/-
  Typed states: cuts are steps between what states stand for.
-/
import Derived.Test.YtdmggfegkaiaiaaGreatDoorTxF
namespace Go.Tx
open Go.Awp
set_option linter.unusedSectionVars false
variable [Inhabited GMem]
set_option linter.unusedSimpArgs false

def Sub (σ σ' : Names) : Prop := ∀ c n, gt σ c = some n → gt σ' c = some n
theorem Sub.refl (σ : Names) : Sub σ σ := fun _ _ h => h
theorem Sub.trans {a b c : Names} (h : Sub a b) (k : Sub b c) : Sub a c := fun x n hx => k x n (h x n hx)

/-- Each name of the state has one name of the cut. -/
def Inj (σ : Names) : Prop := ∀ c c' n, gt σ c = some n → gt σ c' = some n → c = c'

theorem bindN_sound {σ σ' : Names} {c n : Nat} (h : bindN σ c n = some σ') : Sub σ σ' ∧ gt σ' c = some n ∧ (Inj σ → Inj σ') := by
  unfold bindN at h
  split at h
  · rename_i m hm
    split at h
    · rename_i e; cases h; subst e; exact ⟨Sub.refl _, hm, id⟩
    · cases h
  · rename_i hc
    split at h
    · cases h
    · rename_i hn
      cases h
      have hn' : ∀ x, gt σ x ≠ some n := fun x hx => by
        apply hn
        rw [List.any_eq_true]
        exact ⟨(x, n), gt_mem hx, by simp⟩
      refine ⟨fun x m hx => ?_, by simp [gt_cons], fun hi x y m hx hy => ?_⟩
      · rw [gt_cons]
        by_cases e : c = x
        · subst e; rw [hc] at hx; cases hx
        · rw [if_neg e]; exact hx
      · rw [gt_cons] at hx hy
        by_cases e : c = x <;> by_cases e' : c = y
        · rw [← e, ← e']
        · rw [if_pos e] at hx; rw [if_neg e'] at hy; cases hx; exact (hn' _ hy).elim
        · rw [if_pos e'] at hy; rw [if_neg e] at hx; cases hy; exact (hn' _ hx).elim
        · rw [if_neg e] at hx; rw [if_neg e'] at hy; exact hi x y m hx hy

section
variable {V : View}

theorem H.le.nil (sz : Nat) : H.le (.d (.v (.slice none 0 0))) (.d (.sl sz [])) := H.le.d (D.le.nil sz)

/-- What a name of the state means, the name of the cut means. -/
structure Tr (σ : Names) (objs : List (Nat × OPt V.ι)) (E E' : Env) (ω ω' : Nat → Nat) : Prop where
  env : ∀ c n, gt σ c = some n → E' c = E n
  len : ∀ c n, (objs.any fun p => Nat.beq p.1 c) = true → gt σ c = some n → ω' c = ω n

theorem bindL_sound : ∀ {l : List Nat} {vs : List (TV V.N)} {σ σ' : Names}, bindL σ l vs = some σ' → Sub σ σ' ∧ (Inj σ → Inj σ') ∧ l.length = vs.length ∧
    ∀ (i : Nat) (c : Nat) (v : TV V.N), l[i]? = some c → vs[i]? = some v → ∃ n, v = .bp n 0 ∧ gt σ' c = some n
  | [], [], σ, σ', h => by simp [bindL] at h; subst h; exact ⟨Sub.refl _, id, rfl, fun i c v hc => by simp at hc⟩
  | [], _ :: _, σ, σ', h => by simp [bindL] at h
  | _ :: _, [], σ, σ', h => by simp [bindL] at h
  | c :: r, v :: s, σ, σ', h => by
    unfold bindL at h
    split at h
    · rename_i heq1 heq2; cases heq1
    · rename_i c' r' n s' heq1 heq2
      simp only [List.cons.injEq] at heq1 heq2
      obtain ⟨rfl, rfl⟩ := heq1
      obtain ⟨rfl, rfl⟩ := heq2
      split at h
      · rename_i σ1 h1
        obtain ⟨a1, a2, a3⟩ := bindN_sound h1
        obtain ⟨b1, b2, b3, b4⟩ := bindL_sound h
        refine ⟨a1.trans b1, fun hi => b2 (a3 hi), by simp [b3], fun i x w hx hw => ?_⟩
        cases i with
        | zero => simp at hx hw; subst hx; subst hw; exact ⟨n, rfl, b1 _ _ a2⟩
        | succ i => exact b4 i x w (by simpa using hx) (by simpa using hw)
      · cases h
    · cases h

theorem bp_list {E E' : Env} {M : Mem} {σ : Names} {ω ω' : Nat → Nat} (hE : ∀ c n, gt σ c = some n → E' c = E n) {l : List Nat} {vs : List (TV V.N)} (hl : l.length = vs.length)
    (h : ∀ (i : Nat) (c : Nat) (v : TV V.N), l[i]? = some c → vs[i]? = some v → ∃ n, v = .bp n 0 ∧ gt σ c = some n) {as : Array Value}
    (hs : as.size = (encL V ω vs).length) (hr : ∀ (i : Nat) (c : Value) (x : H), as[i]? = some c → (encL V ω vs)[i]? = some x → HRep E M c x) :
    as.size = (encL V ω' (l.map fun c => (.bp c 0 : TV V.N))).length ∧ ∀ (i : Nat) (c : Value) (x : H), as[i]? = some c → (encL V ω' (l.map fun c => (.bp c 0 : TV V.N)))[i]? = some x → HRep E' M c x := by
  rw [encL_len] at hs
  refine ⟨by rw [encL_len, List.length_map]; omega, fun i c x hc hx => ?_⟩
  simp only [encL_map, List.getElem?_map, Option.map_map] at hx
  cases hli : l[i]? with
  | none => rw [hli] at hx; cases hx
  | some k =>
    rw [hli] at hx
    simp [encV] at hx; subst hx
    have hi : i < vs.length := by rw [← hl]; exact (List.getElem?_eq_some_iff.1 hli).1
    obtain ⟨n, hv, hn⟩ := h i k _ hli (List.getElem?_eq_getElem hi)
    have := hr i c (.bp n 0) hc (by rw [encL_map, List.getElem?_map, List.getElem?_eq_getElem hi, hv]; simp [encV])
    cases this with
    | bp _ off b hb => exact .bp k 0 b (by rw [hE k n hn]; exact hb)

theorem mtC_sound : ∀ {cs : List (Ty V.ι ⊕ Nat)} {vs : List (TV V.N)} {σ σ1 : Names} {l : List (Leaf V.N)}, mtC V σ cs vs = some (σ1, l) → Sub σ σ1 ∧ (Inj σ → Inj σ1) ∧
    ∃ vs' : List (TV V.N), vs'.length = vs.length ∧ (∀ rest, bdC V cs (l ++ rest) = some (vs', rest)) ∧ ∀ (i : Nat) (v v' : TV V.N), vs[i]? = some v → vs'[i]? = some v' →
      ∀ (τ : Names) (objs : List (Nat × OPt V.ι)) (E E' : Env) (M : Mem) (ω ω' : Nat → Nat) (a : Value), Sub σ1 τ → vhIn V objs (.ag cs) = true → Tr τ objs E E' ω ω' → HRep E M a (encV V ω v) → HRep E' M a (encV V ω' v')
  | [], [], σ, σ1, l, h => by
    simp [mtC] at h; obtain ⟨rfl, rfl⟩ := h
    exact ⟨Sub.refl _, id, [], rfl, fun rest => rfl, fun i v v' hv => by simp at hv⟩
  | [], _ :: _, σ, σ1, l, h => by simp [mtC] at h
  | _ :: _, [], σ, σ1, l, h => by unfold mtC at h; split at h <;> first | (cases h; done) | contradiction
  | .inl t :: r, x :: s, σ, σ1, l, h => by
    simp only [mtC] at h
    split at h
    · rename_i l0 hl
      split at h
      · rename_i σ' ls h2
        simp at h; obtain ⟨rfl, rfl⟩ := h
        obtain ⟨b1, b2, vs', b4, b5, b6⟩ := mtC_sound h2
        refine ⟨b1, b2, .lf l0.t l0.x :: vs', by simp [b4], fun rest => ?_, fun i w w' hw hw' τ objs E E' M ω ω' a hs hv ht hr => ?_⟩
        · simp only [List.cons_append, bdC, b5]
        · cases i with
          | zero =>
            simp at hw hw'; subst hw; subst hw'
            have hls : leavesOf V false [t] [x] = some [l0] := by simp [leavesOf, hl]
            obtain ⟨ds, e1, e2, _⟩ := leavesOf_sound (ω := ω) hls
            simp only [encL] at e1
            obtain ⟨d, hd⟩ : ∃ d, ds = [d] := by
              match ds, e1 with
              | [d], _ => exact ⟨d, rfl⟩
              | [], e1 => simp at e1
              | _ :: _ :: _, e1 => simp at e1
            subst hd
            simp only [List.map_cons, List.map_nil, List.cons.injEq, and_true] at e1
            rw [e1] at hr
            simp only [encV]
            obtain ⟨d0, g1, g2⟩ := e2.get 0 (encD V.sz V.enc l0.t l0.x) rfl
            simp at g1; subst g1
            cases hr with
            | d q => exact .d (g2 M a q)
          | succ i =>
            refine b6 i w w' (by simpa using hw) (by simpa using hw') τ objs E E' M ω ω' a hs ?_ ht hr
            simp only [vhIn, List.all_cons, Bool.and_eq_true] at hv ⊢; exact hv.2
      · cases h
    · cases h
  | .inr c :: r, x :: s, σ, σ1, l, h => by
    unfold mtC at h
    split at h
    · rename_i heq _; cases heq
    · rename_i heq _; simp at heq
    · rename_i c' r' n s' heq1 heq2
      simp only [List.cons.injEq, Sum.inr.injEq] at heq1 heq2
      obtain ⟨rfl, rfl⟩ := heq1
      obtain ⟨rfl, rfl⟩ := heq2
      split at h
      · rename_i σ' hb
        obtain ⟨a1, a2, a3⟩ := bindN_sound hb
        obtain ⟨b1, b2, vs', b4, b5, b6⟩ := mtC_sound h
        refine ⟨a1.trans b1, fun hi => b2 (a3 hi), .vh c :: vs', by simp [b4], fun rest => ?_, fun i w w' hw hw' τ objs E E' M ω ω' a hs hv ht hr => ?_⟩
        · simp only [bdC, b5]
        · simp only [vhIn, List.all_cons, Bool.and_eq_true] at hv
          cases i with
          | zero =>
            simp at hw hw'; subst hw; subst hw'
            simp only [encV] at hr ⊢
            rw [ht.len c n hv.1 (hs _ _ (b1 _ _ a2))]
            cases hr with
            | vh _ len l cc ad hE hl => exact .vh c _ l cc ad (by rw [ht.env c n (hs _ _ (b1 _ _ a2))]; exact hE) hl
          | succ i =>
            refine b6 i w w' (by simpa using hw) (by simpa using hw') τ objs E E' M ω ω' a hs ?_ ht hr
            simp only [vhIn]; exact hv.2
      · cases h
    · cases h

theorem mt1_sound {σ σ1 : Names} {p : Pt V.ι} {v : TV V.N} {l : List (Leaf V.N)} (h : mt1 V σ p v = some (σ1, l)) : Sub σ σ1 ∧ (Inj σ → Inj σ1) ∧ v ≠ .junk ∧
    ∃ v', (∀ rest, bd1 V p (l ++ rest) = some (v', rest)) ∧ ∀ (τ : Names) (objs : List (Nat × OPt V.ι)) (E E' : Env) (M : Mem) (ω ω' : Nat → Nat) (a : Value), Sub σ1 τ → vhIn V objs p = true → Tr τ objs E E' ω ω' →
      HRep E M a (encV V ω v) → HRep E' M a (encV V ω' v') := by
  unfold mt1 at h
  split at h
  · rename_i t t' x
    obtain ⟨rfl, h⟩ := if_some h
    simp at h; obtain ⟨rfl, rfl⟩ := h
    refine ⟨Sub.refl _, id, by simp, .lf t' x, fun rest => rfl, fun τ objs E E' M ω ω' a _ _ _ hr => ?_⟩
    simp only [encV] at hr ⊢
    exact hr.mono (Mem.le_refl _) fun n hn => by simp [H.has] at hn
  · rename_i e
    simp at h; obtain ⟨rfl, rfl⟩ := h
    refine ⟨Sub.refl _, id, by simp, .lf (.sl e) [], fun rest => rfl, fun τ objs E E' M ω ω' a _ _ _ hr => ?_⟩
    simp only [encV, encRaw, encD, List.map_nil] at hr ⊢
    exact H.le.nil _ E' M a (hr.mono (Mem.le_refl _) fun n hn => by simp [H.has] at hn)
  · rename_i i cs
    split at h
    · rename_i t x hx
      simp at h; obtain ⟨rfl, rfl⟩ := h
      refine ⟨Sub.refl _, id, by simp, .lf t x, fun rest => rfl, fun τ objs E E' M ω ω' a _ _ _ hr => ?_⟩
      have hm := (mkV_sound (V := V) (ω := ω) (ex := false) (ot := some (.st i)) (cs := cs)).1
      rw [hx] at hm
      simp only [encV] at hr hm ⊢
      exact (hm E M a hr).mono (Mem.le_refl _) fun n hn => by simp [H.has] at hn
    · cases h
  · rename_i c off n off'
    have h' := if_some h; clear h
    obtain ⟨e, h⟩ := h'
    subst e
    rw [Option.map_eq_some_iff] at h
    obtain ⟨σ', hb, h⟩ := h
    simp at h; obtain ⟨rfl, rfl⟩ := h
    obtain ⟨h1, h2, h3⟩ := bindN_sound hb
    refine ⟨h1, h3, by simp, .bp c off, fun rest => rfl, fun τ objs E E' M ω ω' a hs _ ht hr => ?_⟩
    simp only [encV] at hr ⊢
    cases hr with
    | bp _ _ b hb => exact .bp c off b (by rw [ht.env c n (hs _ _ h2)]; exact hb)
  · rename_i c n
    rw [Option.map_eq_some_iff] at h
    obtain ⟨σ', hb, h⟩ := h
    simp at h; obtain ⟨rfl, rfl⟩ := h
    obtain ⟨h1, h2, h3⟩ := bindN_sound hb
    refine ⟨h1, h3, by simp, .vh c, fun rest => rfl, fun τ objs E E' M ω ω' a hs hv ht hr => ?_⟩
    simp only [encV] at hr ⊢
    rw [ht.len c n (by simpa [vhIn] using hv) (hs _ _ h2)]
    cases hr with
    | vh _ len l cc ad hE hl => exact .vh c _ l cc ad (by rw [ht.env c n (hs _ _ h2)]; exact hE) hl
  · rename_i c n
    rw [Option.map_eq_some_iff] at h
    obtain ⟨σ', hb, h⟩ := h
    simp at h; obtain ⟨rfl, rfl⟩ := h
    obtain ⟨h1, h2, h3⟩ := bindN_sound hb
    refine ⟨h1, h3, by simp, .mp c, fun rest => rfl, fun τ objs E E' M ω ω' a hs _ ht hr => ?_⟩
    simp only [encV] at hr ⊢
    cases hr with
    | mp _ b hE => exact .mp c b (by rw [ht.env c n (hs _ _ h2)]; exact hE)
  · rename_i c n b
    rw [Option.map_eq_some_iff] at h
    obtain ⟨σ', hb, h⟩ := h
    simp at h; obtain ⟨rfl, rfl⟩ := h
    obtain ⟨h1, h2, h3⟩ := bindN_sound hb
    refine ⟨h1, h3, by simp, .np c b, fun rest => rfl, fun τ objs E E' M ω ω' a hs _ ht hr => ?_⟩
    simp only [encV] at hr ⊢
    cases hr with
    | np0 => exact .np0 c
    | np1 _ b hE => exact .np1 c b (by rw [ht.env c n (hs _ _ h2)]; exact hE)
  · rename_i c n
    rw [Option.map_eq_some_iff] at h
    obtain ⟨σ', hb, h⟩ := h
    simp at h; obtain ⟨rfl, rfl⟩ := h
    obtain ⟨h1, h2, h3⟩ := bindN_sound hb
    refine ⟨h1, h3, by simp, .np c true, fun rest => rfl, fun τ objs E E' M ω ω' a hs _ ht hr => ?_⟩
    simp only [encV] at hr ⊢
    cases hr with
    | bp _ _ b hE => exact .np1 c b (by rw [ht.env c n (hs _ _ h2)]; exact hE)
  · rename_i c
    simp at h; obtain ⟨rfl, rfl⟩ := h
    refine ⟨Sub.refl _, id, by simp, .np c false, fun rest => rfl, fun τ objs E E' M ω ω' a _ _ _ hr => ?_⟩
    simp only [encV, encRaw] at hr ⊢
    rw [hr.dv]
    exact .np0 c
  · simp at h; obtain ⟨rfl, rfl⟩ := h
    refine ⟨Sub.refl _, id, by simp, .raw .nilIface, fun rest => rfl, fun τ objs E E' M ω ω' a _ _ _ hr => ?_⟩
    simp only [encV, encRaw] at hr ⊢
    exact hr.mono (Mem.le_refl _) fun n hn => by simp [H.has] at hn
  · rename_i f a b f' a' b'
    have h' := if_some h; clear h
    obtain ⟨e, h⟩ := h'
    subst e
    split at h
    · rename_i σ' ha
      rw [Option.map_eq_some_iff] at h
      obtain ⟨σ'', hb, h⟩ := h
      simp at h; obtain ⟨rfl, rfl⟩ := h
      obtain ⟨a1, a2, a3, a4⟩ := bindL_sound ha
      obtain ⟨b1, b2, b3, b4⟩ := bindL_sound hb
      refine ⟨a1.trans b1, fun hi => b2 (a2 hi), by simp, .fn f (a.map fun c => .bp c 0) (b.map fun c => .bp c 0), fun rest => rfl, fun τ objs E E' M ω ω' v hs _ ht hr => ?_⟩
      simp only [encV] at hr ⊢
      cases hr with
      | fn _ first captured l l' h1 h2 h3 h4 =>
        obtain ⟨x1, x2⟩ := bp_list (V := V) (ω' := ω') (fun c n hc => ht.env c n hc) a3 (fun i c v hc hv => by
          obtain ⟨n, q1, q2⟩ := a4 i c v hc hv
          exact ⟨n, q1, hs _ _ (b1 _ _ q2)⟩) h1 h3
        obtain ⟨y1, y2⟩ := bp_list (V := V) (ω' := ω') (fun c n hc => ht.env c n hc) b3 (fun i c v hc hv => by
          obtain ⟨n, q1, q2⟩ := b4 i c v hc hv
          exact ⟨n, q1, hs _ _ q2⟩) h2 h4
        exact .fn f first captured _ _ x1 y1 x2 y2
    · cases h
  · rename_i cs vs
    obtain ⟨b1, b2, vs', b4, b5, b6⟩ := mtC_sound h
    refine ⟨b1, b2, by simp, .agg vs', fun rest => by simp only [bd1, b5], fun τ objs E E' M ω ω' a hs hv ht hr => ?_⟩
    simp only [encV] at hr ⊢
    have h1 := mkAgg_to _ E M a hr
    obtain ⟨xs, rfl, h2, h3⟩ := h1.hagg
    refine mkAgg_of _ E' M _ (.agg xs _ (by rw [encL_len] at h2 ⊢; omega) fun i c x hc hx => ?_)
    rw [encL_map, List.getElem?_map, Option.map_eq_some_iff] at hx
    obtain ⟨v', hv', rfl⟩ := hx
    have hi : i < vs.length := by rw [← b4]; exact (List.getElem?_eq_some_iff.1 hv').1
    exact b6 i _ v' (List.getElem?_eq_getElem hi) hv' τ objs E E' M ω ω' c hs hv ht (h3 i c _ hc (by rw [encL_map, List.getElem?_map, List.getElem?_eq_getElem hi]; rfl))
  · cases h

theorem mtL_sound : ∀ {ps : List (Pt V.ι)} {vs : List (TV V.N)} {σ σ1 : Names} {l : List (Leaf V.N)}, mtL V σ ps vs = some (σ1, l) → Sub σ σ1 ∧ (Inj σ → Inj σ1) ∧ ps.length = vs.length ∧
    ∃ vs' : List (TV V.N), vs'.length = vs.length ∧ (∀ rest, bdL V ps (l ++ rest) = some (vs', rest)) ∧ ∀ (i : Nat) (v v' : TV V.N), vs[i]? = some v → vs'[i]? = some v' → v ≠ .junk ∧
      ∀ (τ : Names) (objs : List (Nat × OPt V.ι)) (E E' : Env) (M : Mem) (ω ω' : Nat → Nat) (a : Value), Sub σ1 τ → ps.all (vhIn V objs) = true → Tr τ objs E E' ω ω' → HRep E M a (encV V ω v) → HRep E' M a (encV V ω' v')
  | [], [], σ, σ1, l, h => by
    simp [mtL] at h; obtain ⟨rfl, rfl⟩ := h
    exact ⟨Sub.refl _, id, rfl, [], rfl, fun rest => rfl, fun i v v' hv => by simp at hv⟩
  | [], _ :: _, σ, σ1, l, h => by simp [mtL] at h
  | _ :: _, [], σ, σ1, l, h => by simp [mtL] at h
  | p :: r, v :: s, σ, σ1, l, h => by
    simp only [mtL] at h
    split at h
    · rename_i σ' l1 h1
      split at h
      · rename_i σ'' l2 h2
        simp at h; obtain ⟨rfl, rfl⟩ := h
        obtain ⟨a1, a2, a3, v', a4, a5⟩ := mt1_sound h1
        obtain ⟨b1, b2, b3, vs', b4, b5, b6⟩ := mtL_sound h2
        refine ⟨a1.trans b1, fun hi => b2 (a2 hi), by simp [b3], v' :: vs', by simp [b4], fun rest => ?_, fun i w w' hw hw' => ?_⟩
        · simp only [bdL, List.append_assoc, a4, b5]
        · cases i with
          | zero =>
            simp at hw hw'; subst hw; subst hw'
            refine ⟨a3, fun τ objs E E' M ω ω' a hs hv ht hr => a5 τ objs E E' M ω ω' a (b1.trans hs) ?_ ht hr⟩
            simp only [List.all_cons, Bool.and_eq_true] at hv; exact hv.1
          | succ i =>
            obtain ⟨c1, c2⟩ := b6 i w w' (by simpa using hw) (by simpa using hw')
            refine ⟨c1, fun τ objs E E' M ω ω' a hs hv ht hr => c2 τ objs E E' M ω ω' a hs ?_ ht hr⟩
            simp only [List.all_cons, Bool.and_eq_true] at hv; exact hv.2
      · cases h
    · cases h

/-- What the objects of a cut are in the state. -/
theorem mtO_sound {S : TS V.N} : ∀ {objs : List (Nat × OPt V.ι)} {σ σ1 : Names} {l : List (Leaf V.N)}, mtO V S σ objs = some (σ1, l) → Sub σ σ1 ∧ (Inj σ → Inj σ1) ∧
    ∃ os : List (Nat × TO V.N), os.length = objs.length ∧ bdO V objs l = some os ∧ (∀ c o', (c, o') ∈ os → ∃ n o, gt σ1 c = some n ∧ S.own? n = some o ∧ TO.len (some o') = TO.len (some o) ∧
      ∃ x : (Nat → Nat) → Own, (∀ ω, encO V ω o = some (x ω)) ∧ ∃ x' : (Nat → Nat) → Own, (∀ ω, encO V ω o' = some (x' ω)) ∧
      ∀ (τ : Names) (all : List (Nat × OPt V.ι)) (E E' : Env) (M : Mem) (w : World) (ω ω' : Nat → Nat), Sub σ1 τ → (∀ p ∈ objs, match p.2 with | .box _ ps => ps.all (vhIn V all) = true | _ => True) → Tr τ all E E' ω ω' →
        OwnOk E M w n (x ω) → OwnOk E' M w c (x' ω')) ∧ os.map (·.1) = objs.map (·.1)
  | [], σ, σ1, l, h => by
    simp [mtO] at h; obtain ⟨rfl, rfl⟩ := h
    exact ⟨Sub.refl _, id, [], rfl, rfl, fun c o' h => by simp at h, rfl⟩
  | (c, p) :: r, σ, σ1, l, h => by
    simp only [mtO] at h
    split at h
    · rename_i n hn
      split at h
      · rename_i oo ps oo' cells hown
        have h' := if_some h; clear h
        obtain ⟨hoo, h⟩ := h'
        split at h
        · rename_i σ' l1 h1
          split at h
          · rename_i σ'' l2 h2
            simp at h; obtain ⟨rfl, rfl⟩ := h
            obtain ⟨a1, a2, a3, vs', a4, a5, a6⟩ := mtL_sound h1
            obtain ⟨b1, b2, os, b3, b4, b5, b6⟩ := mtO_sound h2
            refine ⟨a1.trans b1, fun hi => b2 (a2 hi), (c, .box oo vs') :: os, by simp [b3], by simp only [bdO, a5, b4], fun c' o' hm => ?_, by simp [b6]⟩
            rcases List.mem_cons.1 hm with he | hm
            · simp only [Prod.mk.injEq] at he
              obtain ⟨rfl, rfl⟩ := he
              refine ⟨n, .box oo' cells, b1 _ _ (a1 _ _ hn), hown, rfl, fun ω => .box oo' (encL V ω cells), fun ω => rfl, fun ω => .box oo (encL V ω vs'), fun ω => rfl, fun τ all E E' M w ω ω' hs hv ht ho => ?_⟩
              have hv0 : ps.all (vhIn V all) = true := hv (c', .box oo ps) List.mem_cons_self
              obtain ⟨b, cs, ty, k1, k2, k3, k4, k5, k6⟩ := ho
              rw [encL_len] at k3
              refine ⟨b, cs, ty, by rw [ht.env c' n (hs _ _ (b1 _ _ (a1 _ _ hn)))]; exact k1, k2, by rw [encL_len]; omega, fun i x y hx hy => ?_, k5, fun t htt => by
                rcases hoo with hoo | hoo
                · rw [hoo] at htt; cases htt
                · rw [hoo] at htt; exact k6 t htt⟩
              simp only [encL_map, List.getElem?_map] at hy
              cases hvi : vs'[i]? with
              | none => rw [hvi] at hy; cases hy
              | some v' =>
                rw [hvi] at hy; simp at hy; subst hy
                have hi : i < cells.length := by rw [← a4]; exact (List.getElem?_eq_some_iff.1 hvi).1
                obtain ⟨_, q⟩ := a6 i _ v' (List.getElem?_eq_getElem hi) hvi
                exact q τ all E E' M ω ω' x (b1.trans hs) hv0 ht (k4 i x _ hx (by rw [encL_map, List.getElem?_map, List.getElem?_eq_getElem hi]; rfl))
            · obtain ⟨n', o, q1, q2, q3, x, q4, x', q5, q6⟩ := b5 c' o' hm
              exact ⟨n', o, q1, q2, q3, x, q4, x', q5, fun τ all E E' M w ω ω' hs hv ht ho => q6 τ all E E' M w ω ω' hs (fun p hp => hv p (List.mem_cons_of_mem _ hp)) ht ho⟩
          · cases h
        · cases h
      · rename_i i oty cells hown
        split at h
        · rename_i j x hx
          split at h
          · rename_i σ'' l2 h2
            simp at h; obtain ⟨rfl, rfl⟩ := h
            obtain ⟨b1, b2, os, b3, b4, b5, b6⟩ := mtO_sound h2
            have hmk : i = j ∧ ∃ ls, leavesOf V false (V.tys i) cells = some ls ∧ ∃ y : V.N i, V.ofCells i ls = some y ∧ (TV.lf (.st i) y : TV V.N) = .lf (.st j) x := by
              unfold mkV at hx
              simp only at hx
              split at hx
              · rename_i ls hls
                split at hx
                · rename_i y hy
                  have : i = j := by cases hx; rfl
                  exact ⟨this, ls, hls, y, hy, hx⟩
                · cases hx
              · cases hx
            obtain ⟨rfl, ls, hls, y, hy, he⟩ := hmk
            have he : y = x := by cases he; rfl
            subst he
            refine ⟨b1, b2, (c, .bst i y) :: os, by simp [b3], by simp [bdO, b4], fun c' o' hm => ?_, by simp [b6]⟩
            rcases List.mem_cons.1 hm with he | hm
            · simp only [Prod.mk.injEq] at he
              obtain ⟨rfl, rfl⟩ := he
              refine ⟨n, .box oty cells, b1 _ _ hn, hown, rfl, fun ω => .box oty (encL V ω cells), fun ω => rfl, fun _ => .box none ((V.enc i y).map .d), fun ω => rfl, fun τ all E E' M w ω ω' hs _ ht ho => ?_⟩
              obtain ⟨ds, e1, e2, _⟩ := leavesOf_sound (ω := ω) hls
              obtain ⟨b, cs, ty, k1, k2, k3, k4, k5, _⟩ := ho
              have hc := V.of_cells i ls y hy
              have hnew : (V.enc i y).map H.d = (ls.map fun l => encD V.sz V.enc l.t l.x).map H.d := by
                rw [V.enc_cells, hc]
              refine ⟨b, cs, ty, by rw [ht.env c' n (hs _ _ (b1 _ _ hn))]; exact k1, k2, ?_, fun i' a z ha hz => ?_, k5, fun t htt => by cases htt⟩
              · rw [k3, hnew, e1, List.length_map, List.length_map]; exact e2.len
              · rw [hnew, List.getElem?_map] at hz
                cases hd : (ls.map fun l => encD V.sz V.enc l.t l.x)[i']? with
                | none => rw [hd] at hz; cases hz
                | some d =>
                  rw [hd] at hz; simp at hz; subst hz
                  obtain ⟨d0, g1, g2⟩ := e2.get i' d hd
                  have := k4 i' a (.d d0) ha (by rw [e1, List.getElem?_map, g1]; rfl)
                  cases this with
                  | d q => exact .d (g2 M a q)
            · obtain ⟨n', o, q1, q2, q3, x, q4, x', q5, q6⟩ := b5 c' o' hm
              exact ⟨n', o, q1, q2, q3, x, q4, x', q5, fun τ all E E' M w ω ω' hs hv ht ho => q6 τ all E E' M w ω ω' hs (fun p hp => hv p (List.mem_cons_of_mem _ hp)) ht ho⟩
          · cases h
        · cases h
      · rename_i i j x hown
        have h' := if_some h; clear h
        obtain ⟨e1, h⟩ := h'
        subst e1
        split at h
        · rename_i σ'' l2 h2
          simp at h; obtain ⟨rfl, rfl⟩ := h
          obtain ⟨b1, b2, os, b3, b4, b5, b6⟩ := mtO_sound h2
          refine ⟨b1, b2, (c, .bst i x) :: os, by simp [b3], by simp [bdO, b4], fun c' o' hm => ?_, by simp [b6]⟩
          rcases List.mem_cons.1 hm with he | hm
          · simp only [Prod.mk.injEq] at he
            obtain ⟨rfl, rfl⟩ := he
            refine ⟨n, .bst i x, b1 _ _ hn, hown, rfl, fun _ => .box none ((V.enc i x).map .d), fun ω => rfl, fun _ => .box none ((V.enc i x).map .d), fun ω => rfl, fun τ all E E' M w ω ω' hs _ ht ho => ?_⟩
            obtain ⟨b, cs, ty, k1, k2, k3, k4, k5⟩ := ho
            refine ⟨b, cs, ty, by rw [ht.env c' n (hs _ _ (b1 _ _ hn))]; exact k1, k2, k3, fun i' a z ha hz => ?_, k5⟩
            have hq := k4 i' a z ha hz
            rw [List.getElem?_map, Option.map_eq_some_iff] at hz
            obtain ⟨d, _, rfl⟩ := hz
            exact hq.mono (Mem.le_refl _) fun m hm => by simp [H.has] at hm
          · obtain ⟨n', o, q1, q2, q3, x, q4, x', q5, q6⟩ := b5 c' o' hm
            exact ⟨n', o, q1, q2, q3, x, q4, x', q5, fun τ all E E' M w ω ω' hs hv ht ho => q6 τ all E E' M w ω ω' hs (fun p hp => hv p (List.mem_cons_of_mem _ hp)) ht ho⟩
        · cases h
      · rename_i ps j x hown
        split at h
        · rename_i σ' l1 h1
          split at h
          · rename_i σ'' l2 h2
            simp at h; obtain ⟨rfl, rfl⟩ := h
            obtain ⟨a1, a2, a3, vs', a4, a5, a6⟩ := mtL_sound h1
            obtain ⟨b1, b2, os, b3, b4, b5, b6⟩ := mtO_sound h2
            refine ⟨a1.trans b1, fun hi => b2 (a2 hi), (c, .box none vs') :: os, by simp [b3], by simp only [bdO, a5, b4], fun c' o' hm => ?_, by simp [b6]⟩
            rcases List.mem_cons.1 hm with he | hm
            · simp only [Prod.mk.injEq] at he
              obtain ⟨rfl, rfl⟩ := he
              refine ⟨n, .bst j x, b1 _ _ (a1 _ _ hn), hown, rfl, fun _ => .box none ((V.enc j x).map .d), fun ω => rfl, fun ω => .box none (encL V ω vs'), fun ω => rfl, fun τ all E E' M w ω ω' hs hv ht ho => ?_⟩
              have hv0 : ps.all (vhIn V all) = true := hv (c', .box none ps) List.mem_cons_self
              obtain ⟨b, cs, ty, k1, k2, k3, k4, k5⟩ := ho
              rw [← bst_enc ω, encL_len] at k3
              refine ⟨b, cs, ty, by rw [ht.env c' n (hs _ _ (b1 _ _ (a1 _ _ hn)))]; exact k1, k2, by rw [encL_len]; omega, fun i x' y hx hy => ?_, k5⟩
              simp only [encL_map, List.getElem?_map] at hy
              cases hvi : vs'[i]? with
              | none => rw [hvi] at hy; cases hy
              | some v' =>
                rw [hvi] at hy; simp at hy; subst hy
                have hi : i < ((V.cells j x).map fun l => (.lf l.t l.x : TV V.N)).length := by rw [← a4]; exact (List.getElem?_eq_some_iff.1 hvi).1
                obtain ⟨_, q⟩ := a6 i _ v' (List.getElem?_eq_getElem hi) hvi
                exact q τ all E E' M ω ω' x' (b1.trans hs) hv0 ht (k4 i x' _ hx (by rw [← bst_enc ω, encL_map, List.getElem?_map, List.getElem?_eq_getElem hi]; rfl))
            · obtain ⟨n', o, q1, q2, q3, x, q4, x', q5, q6⟩ := b5 c' o' hm
              exact ⟨n', o, q1, q2, q3, x, q4, x', q5, fun τ all E E' M w ω ω' hs hv ht ho => q6 τ all E E' M w ω ω' hs (fun p hp => hv p (List.mem_cons_of_mem _ hp)) ht ho⟩
          · cases h
        · cases h
      · rename_i te e te' e' xs hown
        have h' := if_some h; clear h
        obtain ⟨⟨e1, e2⟩, h⟩ := h'
        subst e1; subst e2
        split at h
        · rename_i σ'' l2 h2
          simp at h; obtain ⟨rfl, rfl⟩ := h
          obtain ⟨b1, b2, os, b3, b4, b5, b6⟩ := mtO_sound h2
          refine ⟨b1, b2, (c, .vec te e xs) :: os, by simp [b3], by simp [bdO, b4], fun c' o' hm => ?_, by simp [b6]⟩
          rcases List.mem_cons.1 hm with he | hm
          · simp only [Prod.mk.injEq] at he
            obtain ⟨rfl, rfl⟩ := he
            refine ⟨n, .vec te e xs, b1 _ _ hn, hown, rfl, fun _ => .vec te (tsz V.sz e) (xs.map fun x => encR V.sz V.enc e x), fun ω => rfl, fun _ => .vec te (tsz V.sz e) (xs.map fun x => encR V.sz V.enc e x), fun ω => rfl, fun τ all E E' M w ω ω' hs _ ht ho => ?_⟩
            obtain ⟨ys, k1, k2, k3, k4⟩ := ho
            have he := ht.env c' n (hs _ _ (b1 _ _ hn))
            exact ⟨ys, by rw [he]; exact k1, k2, k3, by rw [he]; exact k4⟩
          · obtain ⟨n', o, q1, q2, q3, x, q4, x', q5, q6⟩ := b5 c' o' hm
            exact ⟨n', o, q1, q2, q3, x, q4, x', q5, fun τ all E E' M w ω ω' hs hv ht ho => q6 τ all E E' M w ω ω' hs (fun p hp => hv p (List.mem_cons_of_mem _ hp)) ht ho⟩
        · cases h
      · rename_i s p hown
        split at h
        · rename_i σ'' l2 h2
          simp at h; obtain ⟨rfl, rfl⟩ := h
          obtain ⟨b1, b2, os, b3, b4, b5, b6⟩ := mtO_sound h2
          refine ⟨b1, b2, (c, .iter s p) :: os, by simp [b3], by simp [bdO, b4], fun c' o' hm => ?_, by simp [b6]⟩
          rcases List.mem_cons.1 hm with he | hm
          · simp only [Prod.mk.injEq] at he
            obtain ⟨rfl, rfl⟩ := he
            refine ⟨n, .iter s p, b1 _ _ hn, hown, rfl, fun _ => .iter s p.toNat, fun ω => rfl, fun _ => .iter s p.toNat, fun ω => rfl, fun τ all E E' M w ω ω' hs _ ht ho => ?_⟩
            obtain ⟨b, k1, k2, k3⟩ := ho
            have he := ht.env c' n (hs _ _ (b1 _ _ hn))
            exact ⟨b, by rw [he]; exact k1, k2, k3⟩
          · obtain ⟨n', o, q1, q2, q3, x, q4, x', q5, q6⟩ := b5 c' o' hm
            exact ⟨n', o, q1, q2, q3, x, q4, x', q5, fun τ all E E' M w ω ω' hs hv ht ho => q6 τ all E E' M w ω ω' hs (fun p hp => hv p (List.mem_cons_of_mem _ hp)) ht ho⟩
        · cases h
      · rename_i tk tv tk' tv' es hown
        have h' := if_some h; clear h
        obtain ⟨⟨e1, e2⟩, h⟩ := h'
        subst e1; subst e2
        split at h
        · rename_i σ'' l2 h2
          simp at h; obtain ⟨rfl, rfl⟩ := h
          obtain ⟨b1, b2, os, b3, b4, b5, b6⟩ := mtO_sound h2
          refine ⟨b1, b2, (c, .map tk tv es) :: os, by simp [b3], by simp [bdO, b4], fun c' o' hm => ?_, by simp [b6]⟩
          rcases List.mem_cons.1 hm with he | hm
          · simp only [Prod.mk.injEq] at he
            obtain ⟨rfl, rfl⟩ := he
            refine ⟨n, .map tk tv es, b1 _ _ hn, hown, rfl, fun _ => .map (es.map fun p => (encK tk p.1, encD V.sz V.enc tv p.2)), fun ω => rfl, fun _ => .map (es.map fun p => (encK tk p.1, encD V.sz V.enc tv p.2)), fun ω => rfl, fun τ all E E' M w ω ω' hs _ ht ho => ?_⟩
            obtain ⟨b, es', clock, k1, k2, k3, k4, k5⟩ := ho
            have he := ht.env c' n (hs _ _ (b1 _ _ hn))
            exact ⟨b, es', clock, by rw [he]; exact k1, k2, k3, k4, k5⟩
          · obtain ⟨n', o, q1, q2, q3, x, q4, x', q5, q6⟩ := b5 c' o' hm
            exact ⟨n', o, q1, q2, q3, x, q4, x', q5, fun τ all E E' M w ω ω' hs hv ht ho => q6 τ all E E' M w ω ω' hs (fun p hp => hv p (List.mem_cons_of_mem _ hp)) ht ho⟩
        · cases h
      · cases h
    · cases h

theorem gt_zip {α : Type} : ∀ {ks : List Nat} {vs : List α} {t : Nat} {x : α}, gt (ks.zip vs) t = some x → ∃ i : Nat, ks[i]? = some t ∧ vs[i]? = some x
  | [], _, t, x, h => by simp [gt] at h
  | _ :: _, [], t, x, h => by simp [gt] at h
  | k :: ks, v :: vs, t, x, h => by
    simp only [List.zip_cons_cons, gt_cons] at h
    by_cases hk : k = t
    · rw [if_pos hk] at h; cases h; exact ⟨0, by simp [hk], rfl⟩
    · rw [if_neg hk] at h
      obtain ⟨i, h1, h2⟩ := gt_zip h
      exact ⟨i + 1, by simpa using h1, by simpa using h2⟩

/-- A CUT: what is named there is there. -/
theorem cut_ent {S : TS V.N} {c : Cut V.ι} {σ : Names} {ls : List (Leaf V.N)} (h : extr0 V c S = some (σ, ls)) (hok : objsOk V c σ = true) : Ent (encS V S) (encS V (build V c ls)) := by
  unfold extr0 at h
  split at h
  · rename_i σ0 l0 h0
    split at h
    · rename_i σ1 l1 h1
      simp at h; obtain ⟨rfl, rfl⟩ := h
      obtain ⟨a1, a2, a3, vs', a4, a5, a6⟩ := mtL_sound h0
      obtain ⟨b1, b2, os, b3, b4, b5, b6⟩ := mtO_sound h1
      have hinj : Inj σ1 := b2 (a2 fun c c' n h => by simp [gt] at h)
      simp only [objsOk, Bool.and_eq_true, List.all_eq_true] at hok
      obtain ⟨⟨hg, hsl⟩, hob⟩ := hok
      have hbuild : build V c (l0 ++ l1) = { tmps := (c.slots.map (·.1)).zip vs', own := os } := by
        unfold build
        rw [a5 l1]
        simp only [b4]
      rw [hbuild]
      let S' : TS V.N := { tmps := (c.slots.map (·.1)).zip vs', own := os }
      have hown : ∀ n o, S'.own? n = some o → (n, o) ∈ os := fun n o ho => gt_mem ho
      have hkey : ∀ n, (c.objs.any fun p => Nat.beq p.1 n) = true → ∃ o, S'.own? n = some o := by
        intro n hn
        rw [List.any_eq_true] at hn
        obtain ⟨p, hp, hpn⟩ := hn
        have hpn : p.1 = n := by simpa using hpn
        have hm : n ∈ os.map (·.1) := by rw [b6, ← hpn]; exact List.mem_map_of_mem hp
        exact gt_some hm
      intro C E M a w hs
      let E' : Env := fun m => match gt σ1 m with
        | some n => E n
        | none => E m
      have hE : ∀ k n, gt σ1 k = some n → E' k = E n := fun k n hk => by simp only [E', hk]
      have ht : Tr σ1 c.objs E E' S.len S'.len := by
        refine ⟨hE, fun k n hk hkn => ?_⟩
        obtain ⟨o, ho⟩ := hkey k hk
        obtain ⟨n', o', q1, q2, q3, _⟩ := b5 k o (hown k o ho)
        rw [hkn] at q1; cases q1
        unfold TS.len; rw [ho, q2]; exact q3
      have hob' : ∀ p ∈ c.objs, match p.2 with | .box _ ps => ps.all (vhIn V c.objs) = true | _ => True := by
        intro p hp
        have := hob p hp
        cases hq : p.2 with
        | box oty ps => rw [hq] at this; simpa using this
        | st i => trivial
        | vec te e => trivial
        | map tk tv => trivial
        | iter => trivial
      have hfind : ∀ n o, (encS V S').own? n = some o → ∃ n0 o0, gt σ1 n = some n0 ∧ (encS V S).own? n0 = some o0 ∧ ∀ w, OwnOk E M w n0 o0 → OwnOk E' M w n o := by
        intro n o ho
        rw [encS_own?, Option.bind_eq_some_iff] at ho
        obtain ⟨o', ho', hoo⟩ := ho
        obtain ⟨n0, o0, q1, q2, _, x, q4, x', q5, q6⟩ := b5 n o' (hown n o' ho')
        rw [q5] at hoo
        simp only [Option.some.injEq] at hoo
        subst hoo
        exact ⟨n0, x S.len, q1, by rw [encS_own?, q2]; exact q4 _, fun w hw => q6 σ1 c.objs E E' M w S.len S'.len (Sub.refl _) hob' ht hw⟩
      refine ⟨E', M, { size := hs.size, defers := hs.defers, tmps := fun t x hx => ?_, mem := hs.mem, own := fun n o hn => ?_, apart := fun n m o o' b hne hn hm hb => ?_, home := fun n o b hn hb => ?_, m0 := hs.m0, mnew := hs.mnew, frame := hs.frame, grows := hs.grows, os := hs.os, tape := hs.tape, output := hs.output, env := fun n hn => ?_ }⟩
      · rw [encS_gt, Option.map_eq_some_iff] at hx
        obtain ⟨v', hv', rfl⟩ := hx
        obtain ⟨i, g1, g2⟩ := gt_zip hv'
        have hi : i < (c.slots.map fun p => S.get p.1).length := by rw [← a4]; exact (List.getElem?_eq_some_iff.1 g2).1
        have hget : (c.slots.map fun p => S.get p.1)[i]? = some (S.get t) := by
          rw [List.getElem?_map] at g1 ⊢
          cases hsl' : c.slots[i]? with
          | none => rw [hsl'] at g1; cases g1
          | some p => rw [hsl'] at g1; simp at g1; subst g1; rfl
        obtain ⟨k1, k2⟩ := a6 i _ v' hget g2
        have hgt : ∃ v, gt S.tmps t = some v ∧ S.get t = v := by
          unfold TS.get at k1 ⊢
          cases hq : gt S.tmps t with
          | none => rw [hq] at k1; exact (k1 rfl).elim
          | some v => exact ⟨v, rfl, rfl⟩
        obtain ⟨v, hv1, hv2⟩ := hgt
        obtain ⟨av, hav, hrep⟩ := hs.tmps t (encV V S.len v) (by rw [encS_gt, hv1]; rfl)
        refine ⟨av, hav, k2 σ1 c.objs E E' M S.len S'.len av b1 ?_ ht (by rw [hv2]; exact hrep)⟩
        rw [List.all_map]
        exact List.all_eq_true.2 hsl
      · obtain ⟨n0, o0, q1, q2, q3⟩ := hfind n o hn
        exact q3 w (hs.own n0 _ q2)
      · obtain ⟨n0, o0, q1, q2, _⟩ := hfind n o hn
        obtain ⟨m0, o1, r1, r2, _⟩ := hfind m o' hm
        rw [hE n n0 q1] at hb
        rw [hE m m0 r1]
        exact hs.apart n0 m0 _ _ b (fun e => by subst e; exact hne (hinj n m n0 q1 r1)) q2 r2 hb
      · obtain ⟨n0, o0, q1, q2, _⟩ := hfind n o hn
        rw [hE n n0 q1] at hb
        exact hs.home n0 _ b q2 hb
      · cases hq : gt σ1 n with
        | none => simp only [E', hq]; exact hs.env n hn
        | some m =>
          have := hg _ (gt_mem hq)
          simp only [Bool.or_eq_true, Nat.blt_eq] at this
          rcases this with h | h
          · omega
          · have e : n = m := by simpa using h
            rw [hE n m hq, ← e]; exact hs.env n hn
    · cases h
  · cases h

end
end Go.Tx
