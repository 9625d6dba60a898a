/-
  Texts of this claim, joined by a program of mine: what the theorem uses.
-/
import Derived.Test.YtdmggfegkaiaiaaGreatDoorPkB
import Derived.Scope
import Derived.KernelRfl
import Derived.WalkKit
import Derived.ProofKit
import Derived.OpenShut
import Derived.Test.YtdmggfegkaiaiaaGreatDoorRows
import Derived.Lib.LaidIn
import Derived.Lib.LaidU8T
import Derived.MakeChecks
import Derived.Test.YtdmggfegkaiaiaaGreatDoorProg
import Derived.Shelf.Strings.Builder1
set_option linter.unusedSectionVars false
set_option linter.unusedSimpArgs false
set_option linter.unusedVariables false
section
namespace Go.Tx
open Go.Awp
variable [Inhabited GMem]
def Sub (σ σ' : Names) : Prop := ∀ c n, gt σ c = some n → gt σ' c = some n
theorem Sub.refl (σ : Names) : Sub σ σ := fun _ _ h => h
theorem Sub.trans {a b c : Names} (h : Sub a b) (k : Sub b c) : Sub a c := fun x n hx => k x n (h x n hx)
def Inj (σ : Names) : Prop := ∀ c c' n, gt σ c = some n → gt σ c' = some n → c = c'
theorem bindN_sound {σ σ' : Names} {c n : Nat} (h : bindN σ c n = some σ') : Sub σ σ' ∧ gt σ' c = some n ∧ (Inj σ → Inj σ') := by
 unfold bindN at h
 split at h
 ·rename_i m hm
  split at h
  ·rename_i e; cases h; subst e; exact ⟨Sub.refl _, hm, id⟩
  ·cases h
 ·rename_i hc
  split at h
  ·cases h
  ·rename_i hn
   cases h
   have hn' : ∀ x, gt σ x ≠ some n := fun x hx => by
    apply hn
    rw [List.any_eq_true]
    exact ⟨(x, n), gt_mem hx, by simp⟩
   refine ⟨fun x m hx => ?_, by simp [gt_cons], fun hi x y m hx hy => ?_⟩
   ·rw [gt_cons]
    by_cases e : c = x
    ·subst e; rw [hc] at hx; cases hx
    ·rw [if_neg e]; exact hx
   ·rw [gt_cons] at hx hy
    by_cases e : c = x <;> by_cases e' : c = y
    ·rw [← e, ← e']
    ·rw [if_pos e] at hx; rw [if_neg e'] at hy; cases hx; exact (hn' _ hy).elim
    ·rw [if_pos e'] at hy; rw [if_neg e] at hx; cases hy; exact (hn' _ hx).elim
    ·rw [if_neg e] at hx; rw [if_neg e'] at hy; exact hi x y m hx hy
section
variable {V : View}
theorem H.le.nil (sz : Nat) : H.le (.d (.v (.slice none 0 0))) (.d (.sl sz [])) := H.le.d (D.le.nil sz)
structure Tr (σ : Names) (objs : List (Nat × OPt V.ι)) (E E' : Env) (ω ω' : Nat → Nat) : Prop where
 env : ∀ c n, gt σ c = some n → E' c = E n
 len : ∀ c n, (objs.any fun p => Nat.beq p.1 c) = true → gt σ c = some n → ω' c = ω n
theorem bindL_sound : ∀ {l : List Nat} {vs : List (TV V.N)} {σ σ' : Names}, bindL σ l vs = some σ' → Sub σ σ' ∧ (Inj σ → Inj σ') ∧ l.length = vs.length ∧
  ∀ (i : Nat) (c : Nat) (v : TV V.N), l[i]? = some c → vs[i]? = some v → ∃ n, v = .bp n 0 ∧ gt σ' c = some n
 | [], [], σ, σ', h => by simp [bindL] at h; subst h; exact ⟨Sub.refl _, id, rfl, fun i c v hc => by simp at hc⟩
 | [], _ :: _, σ, σ', h => by simp [bindL] at h
 | _ :: _, [], σ, σ', h => by simp [bindL] at h
 | c :: r, v :: s, σ, σ', h => by
  unfold bindL at h
  split at h
  ·rename_i heq1 heq2; cases heq1
  ·rename_i c' r' n s' heq1 heq2
   simp only [List.cons.injEq] at heq1 heq2
   obtain ⟨rfl, rfl⟩ := heq1
   obtain ⟨rfl, rfl⟩ := heq2
   split at h
   ·rename_i σ1 h1
    obtain ⟨a1, a2, a3⟩ := bindN_sound h1
    obtain ⟨b1, b2, b3, b4⟩ := bindL_sound h
    refine ⟨a1.trans b1, fun hi => b2 (a3 hi), by simp [b3], fun i x w hx hw => ?_⟩
    cases i with
    | zero => simp at hx hw; subst hx; subst hw; exact ⟨n, rfl, b1 _ _ a2⟩
    | succ i => exact b4 i x w (by simpa using hx) (by simpa using hw)
   ·cases h
  ·cases h
theorem bp_list {E E' : Env} {M : Mem} {σ : Names} {ω ω' : Nat → Nat} (hE : ∀ c n, gt σ c = some n → E' c = E n) {l : List Nat} {vs : List (TV V.N)} (hl : l.length = vs.length)
  (h : ∀ (i : Nat) (c : Nat) (v : TV V.N), l[i]? = some c → vs[i]? = some v → ∃ n, v = .bp n 0 ∧ gt σ c = some n) {av : Array Value}
  (hs : av.size = (encL V ω vs).length) (hr : ∀ (i : Nat) (c : Value) (x : H), av[i]? = some c → (encL V ω vs)[i]? = some x → HRep E M c x) :
  av.size = (encL V ω' (l.map fun c => (.bp c 0 : TV V.N))).length ∧ ∀ (i : Nat) (c : Value) (x : H), av[i]? = some c → (encL V ω' (l.map fun c => (.bp c 0 : TV V.N)))[i]? = some x → HRep E' M c x := by
 rw [encL_len] at hs
 refine ⟨by rw [encL_len, List.length_map]; omega, fun i c x hc hx => ?_⟩
 simp only [encL_map, List.getElem?_map, Option.map_map] at hx
 cases hli : l[i]? with
 | none => rw [hli] at hx; cases hx
 | some k =>
  rw [hli] at hx
  simp [encV] at hx; subst hx
  have hi : i < vs.length := by rw [← hl]; exact (List.getElem?_eq_some_iff.1 hli).1
  obtain ⟨n, hv, hn⟩ := h i k _ hli (List.getElem?_eq_getElem hi)
  have := hr i c (.bp n 0) hc (by rw [encL_map, List.getElem?_map, List.getElem?_eq_getElem hi, hv]; simp [encV])
  cases this with
  | bp _ off b hb => exact .bp k 0 b (by rw [hE k n hn]; exact hb)
theorem mtC_sound : ∀ {cs : List (Ty V.ι ⊕ Nat)} {vs : List (TV V.N)} {σ σ1 : Names} {l : List (Leaf V.N)}, mtC V σ cs vs = some (σ1, l) → Sub σ σ1 ∧ (Inj σ → Inj σ1) ∧
  ∃ vs' : List (TV V.N), vs'.length = vs.length ∧ (∀ rest, bdC V cs (l ++ rest) = some (vs', rest)) ∧ ∀ (i : Nat) (v v' : TV V.N), vs[i]? = some v → vs'[i]? = some v' →
   ∀ (τ : Names) (objs : List (Nat × OPt V.ι)) (E E' : Env) (M : Mem) (ω ω' : Nat → Nat) (a : Value), Sub σ1 τ → vhIn V objs (.ag cs) = true → Tr τ objs E E' ω ω' → HRep E M a (encV V ω v) → HRep E' M a (encV V ω' v')
 | [], [], σ, σ1, l, h => by
  simp [mtC] at h; obtain ⟨rfl, rfl⟩ := h
  exact ⟨Sub.refl _, id, [], rfl, fun rest => rfl, fun i v v' hv => by simp at hv⟩
 | [], _ :: _, σ, σ1, l, h => by simp [mtC] at h
 | _ :: _, [], σ, σ1, l, h => by unfold mtC at h; split at h <;> first | (cases h; done) | contradiction
 | .inl t :: r, x :: s, σ, σ1, l, h => by
  simp only [mtC] at h
  split at h
  ·rename_i l0 hl
   split at h
   ·rename_i σ' ls h2
    simp at h; obtain ⟨rfl, rfl⟩ := h
    obtain ⟨b1, b2, vs', b4, b5, b6⟩ := mtC_sound h2
    refine ⟨b1, b2, .lf l0.t l0.x :: vs', by simp [b4], fun rest => ?_, fun i w w' hw hw' τ objs E E' M ω ω' a hs hv ht hr => ?_⟩
    ·simp only [List.cons_append, bdC, b5]
    ·cases i with
     | zero =>
      simp at hw hw'; subst hw; subst hw'
      have hls : leavesOf V false [t] [x] = some [l0] := by simp [leavesOf, hl]
      obtain ⟨ds, e1, e2, _⟩ := leavesOf_sound (ω := ω) hls
      simp only [encL] at e1
      obtain ⟨d, hd⟩ : ∃ d, ds = [d] := by
       match ds, e1 with
       | [d], _ => exact ⟨d, rfl⟩
       | [], e1 => simp at e1
       | _ :: _ :: _, e1 => simp at e1
      subst hd
      simp only [List.map_cons, List.map_nil, List.cons.injEq, and_true] at e1
      rw [e1] at hr
      simp only [encV]
      obtain ⟨d0, g1, g2⟩ := e2.get 0 (encD V.sz V.enc l0.t l0.x) rfl
      simp at g1; subst g1
      cases hr with
      | d q => exact .d (g2 M a q)
     | succ i =>
      refine b6 i w w' (by simpa using hw) (by simpa using hw') τ objs E E' M ω ω' a hs ?_ ht hr
      simp only [vhIn, List.all_cons, Bool.and_eq_true] at hv ⊢; exact hv.2
   ·cases h
  ·cases h
 | .inr c :: r, x :: s, σ, σ1, l, h => by
  unfold mtC at h
  split at h
  ·rename_i heq _; cases heq
  ·rename_i heq _; simp at heq
  ·rename_i c' r' n s' heq1 heq2
   simp only [List.cons.injEq, Sum.inr.injEq] at heq1 heq2
   obtain ⟨rfl, rfl⟩ := heq1
   obtain ⟨rfl, rfl⟩ := heq2
   split at h
   ·rename_i σ' hb
    obtain ⟨a1, a2, a3⟩ := bindN_sound hb
    obtain ⟨b1, b2, vs', b4, b5, b6⟩ := mtC_sound h
    refine ⟨a1.trans b1, fun hi => b2 (a3 hi), .vh c :: vs', by simp [b4], fun rest => ?_, fun i w w' hw hw' τ objs E E' M ω ω' a hs hv ht hr => ?_⟩
    ·simp only [bdC, b5]
    ·simp only [vhIn, List.all_cons, Bool.and_eq_true] at hv
     cases i with
     | zero =>
      simp at hw hw'; subst hw; subst hw'
      simp only [encV] at hr ⊢
      rw [ht.len c n hv.1 (hs _ _ (b1 _ _ a2))]
      cases hr with
      | vh _ len l cc ad hE hl => exact .vh c _ l cc ad (by rw [ht.env c n (hs _ _ (b1 _ _ a2))]; exact hE) hl
     | succ i =>
      refine b6 i w w' (by simpa using hw) (by simpa using hw') τ objs E E' M ω ω' a hs ?_ ht hr
      simp only [vhIn]; exact hv.2
   ·cases h
  ·cases h
theorem mt1_sound {σ σ1 : Names} {p : Pt V.ι} {v : TV V.N} {l : List (Leaf V.N)} (h : mt1 V σ p v = some (σ1, l)) : Sub σ σ1 ∧ (Inj σ → Inj σ1) ∧ v ≠ .junk ∧
  ∃ v', (∀ rest, bd1 V p (l ++ rest) = some (v', rest)) ∧ ∀ (τ : Names) (objs : List (Nat × OPt V.ι)) (E E' : Env) (M : Mem) (ω ω' : Nat → Nat) (a : Value), Sub σ1 τ → vhIn V objs p = true → Tr τ objs E E' ω ω' →
   HRep E M a (encV V ω v) → HRep E' M a (encV V ω' v') := by
 unfold mt1 at h
 split at h
 ·rename_i t t' x
  obtain ⟨rfl, h⟩ := if_some h
  simp at h; obtain ⟨rfl, rfl⟩ := h
  refine ⟨Sub.refl _, id, by simp, .lf t' x, fun rest => rfl, fun τ objs E E' M ω ω' a _ _ _ hr => ?_⟩
  simp only [encV] at hr ⊢
  exact hr.mono (Mem.le_refl _) fun n hn => by simp [H.has] at hn
 ·rename_i e
  simp at h; obtain ⟨rfl, rfl⟩ := h
  refine ⟨Sub.refl _, id, by simp, .lf (.sl e) [], fun rest => rfl, fun τ objs E E' M ω ω' a _ _ _ hr => ?_⟩
  simp only [encV, encRaw, encD, List.map_nil] at hr ⊢
  exact H.le.nil _ E' M a (hr.mono (Mem.le_refl _) fun n hn => by simp [H.has] at hn)
 ·simp at h; obtain ⟨rfl, rfl⟩ := h
  refine ⟨Sub.refl _, id, by simp, .lf .er false, fun rest => rfl, fun τ objs E E' M ω ω' a _ _ _ hr => ?_⟩
  simp only [encV, encRaw, encD] at hr ⊢
  exact H.le.d D.le.ern E' M a (hr.mono (Mem.le_refl _) fun n hn => by simp [H.has] at hn)
 ·rename_i i cs
  split at h
  ·rename_i t x hx
   simp at h; obtain ⟨rfl, rfl⟩ := h
   refine ⟨Sub.refl _, id, by simp, .lf t x, fun rest => rfl, fun τ objs E E' M ω ω' a _ _ _ hr => ?_⟩
   have hm := (mkV_sound (V := V) (ω := ω) (ex := false) (ot := some (.st i)) (cs := cs)).1
   rw [hx] at hm
   simp only [encV] at hr hm ⊢
   exact (hm E M a hr).mono (Mem.le_refl _) fun n hn => by simp [H.has] at hn
  ·cases h
 ·rename_i c off n off'
  have h' := if_some h; clear h
  obtain ⟨e, h⟩ := h'
  subst e
  rw [Option.map_eq_some_iff] at h
  obtain ⟨σ', hb, h⟩ := h
  simp at h; obtain ⟨rfl, rfl⟩ := h
  obtain ⟨h1, h2, h3⟩ := bindN_sound hb
  refine ⟨h1, h3, by simp, .bp c off, fun rest => rfl, fun τ objs E E' M ω ω' a hs _ ht hr => ?_⟩
  simp only [encV] at hr ⊢
  cases hr with
  | bp _ _ b hb => exact .bp c off b (by rw [ht.env c n (hs _ _ h2)]; exact hb)
 ·rename_i c n
  rw [Option.map_eq_some_iff] at h
  obtain ⟨σ', hb, h⟩ := h
  simp at h; obtain ⟨rfl, rfl⟩ := h
  obtain ⟨h1, h2, h3⟩ := bindN_sound hb
  refine ⟨h1, h3, by simp, .vh c, fun rest => rfl, fun τ objs E E' M ω ω' a hs hv ht hr => ?_⟩
  simp only [encV] at hr ⊢
  rw [ht.len c n (by simpa [vhIn] using hv) (hs _ _ h2)]
  cases hr with
  | vh _ len l cc ad hE hl => exact .vh c _ l cc ad (by rw [ht.env c n (hs _ _ h2)]; exact hE) hl
 ·rename_i c n
  rw [Option.map_eq_some_iff] at h
  obtain ⟨σ', hb, h⟩ := h
  simp at h; obtain ⟨rfl, rfl⟩ := h
  obtain ⟨h1, h2, h3⟩ := bindN_sound hb
  refine ⟨h1, h3, by simp, .mp c, fun rest => rfl, fun τ objs E E' M ω ω' a hs _ ht hr => ?_⟩
  simp only [encV] at hr ⊢
  cases hr with
  | mp _ b hE => exact .mp c b (by rw [ht.env c n (hs _ _ h2)]; exact hE)
 ·rename_i c n b
  rw [Option.map_eq_some_iff] at h
  obtain ⟨σ', hb, h⟩ := h
  simp at h; obtain ⟨rfl, rfl⟩ := h
  obtain ⟨h1, h2, h3⟩ := bindN_sound hb
  refine ⟨h1, h3, by simp, .np c b, fun rest => rfl, fun τ objs E E' M ω ω' a hs _ ht hr => ?_⟩
  simp only [encV] at hr ⊢
  cases hr with
  | np0 => exact .np0 c
  | np1 _ b hE => exact .np1 c b (by rw [ht.env c n (hs _ _ h2)]; exact hE)
 ·rename_i c n
  rw [Option.map_eq_some_iff] at h
  obtain ⟨σ', hb, h⟩ := h
  simp at h; obtain ⟨rfl, rfl⟩ := h
  obtain ⟨h1, h2, h3⟩ := bindN_sound hb
  refine ⟨h1, h3, by simp, .np c true, fun rest => rfl, fun τ objs E E' M ω ω' a hs _ ht hr => ?_⟩
  simp only [encV] at hr ⊢
  cases hr with
  | bp _ _ b hE => exact .np1 c b (by rw [ht.env c n (hs _ _ h2)]; exact hE)
 ·rename_i c
  simp at h; obtain ⟨rfl, rfl⟩ := h
  refine ⟨Sub.refl _, id, by simp, .np c false, fun rest => rfl, fun τ objs E E' M ω ω' a _ _ _ hr => ?_⟩
  simp only [encV, encRaw] at hr ⊢
  rw [hr.dv]
  exact .np0 c
 ·simp at h; obtain ⟨rfl, rfl⟩ := h
  refine ⟨Sub.refl _, id, by simp, .raw .nilIface, fun rest => rfl, fun τ objs E E' M ω ω' a _ _ _ hr => ?_⟩
  simp only [encV, encRaw] at hr ⊢
  exact hr.mono (Mem.le_refl _) fun n hn => by simp [H.has] at hn
 ·rename_i f a b f' a' b'
  have h' := if_some h; clear h
  obtain ⟨e, h⟩ := h'
  subst e
  split at h
  ·rename_i σ' ha
   rw [Option.map_eq_some_iff] at h
   obtain ⟨σ'', hb, h⟩ := h
   simp at h; obtain ⟨rfl, rfl⟩ := h
   obtain ⟨a1, a2, a3, a4⟩ := bindL_sound ha
   obtain ⟨b1, b2, b3, b4⟩ := bindL_sound hb
   refine ⟨a1.trans b1, fun hi => b2 (a2 hi), by simp, .fn f (a.map fun c => .bp c 0) (b.map fun c => .bp c 0), fun rest => rfl, fun τ objs E E' M ω ω' v hs _ ht hr => ?_⟩
   simp only [encV] at hr ⊢
   cases hr with
   | fn _ first captured l l' h1 h2 h3 h4 =>
    obtain ⟨x1, x2⟩ := bp_list (V := V) (ω' := ω') (fun c n hc => ht.env c n hc) a3 (fun i c v hc hv => by
     obtain ⟨n, q1, q2⟩ := a4 i c v hc hv
     exact ⟨n, q1, hs _ _ (b1 _ _ q2)⟩) h1 h3
    obtain ⟨y1, y2⟩ := bp_list (V := V) (ω' := ω') (fun c n hc => ht.env c n hc) b3 (fun i c v hc hv => by
     obtain ⟨n, q1, q2⟩ := b4 i c v hc hv
     exact ⟨n, q1, hs _ _ q2⟩) h2 h4
    exact .fn f first captured _ _ x1 y1 x2 y2
  ·cases h
 ·rename_i cs vs
  obtain ⟨b1, b2, vs', b4, b5, b6⟩ := mtC_sound h
  refine ⟨b1, b2, by simp, .agg vs', fun rest => by simp only [bd1, b5], fun τ objs E E' M ω ω' a hs hv ht hr => ?_⟩
  simp only [encV] at hr ⊢
  have h1 := mkAgg_to _ E M a hr
  obtain ⟨xs, rfl, h2, h3⟩ := h1.hagg
  refine mkAgg_of _ E' M _ (.agg xs _ (by rw [encL_len] at h2 ⊢; omega) fun i c x hc hx => ?_)
  rw [encL_map, List.getElem?_map, Option.map_eq_some_iff] at hx
  obtain ⟨v', hv', rfl⟩ := hx
  have hi : i < vs.length := by rw [← b4]; exact (List.getElem?_eq_some_iff.1 hv').1
  exact b6 i _ v' (List.getElem?_eq_getElem hi) hv' τ objs E E' M ω ω' c hs hv ht (h3 i c _ hc (by rw [encL_map, List.getElem?_map, List.getElem?_eq_getElem hi]; rfl))
 ·cases h
theorem mtL_sound : ∀ {ps : List (Pt V.ι)} {vs : List (TV V.N)} {σ σ1 : Names} {l : List (Leaf V.N)}, mtL V σ ps vs = some (σ1, l) → Sub σ σ1 ∧ (Inj σ → Inj σ1) ∧ ps.length = vs.length ∧
  ∃ vs' : List (TV V.N), vs'.length = vs.length ∧ (∀ rest, bdL V ps (l ++ rest) = some (vs', rest)) ∧ ∀ (i : Nat) (v v' : TV V.N), vs[i]? = some v → vs'[i]? = some v' → v ≠ .junk ∧
   ∀ (τ : Names) (objs : List (Nat × OPt V.ι)) (E E' : Env) (M : Mem) (ω ω' : Nat → Nat) (a : Value), Sub σ1 τ → ps.all (vhIn V objs) = true → Tr τ objs E E' ω ω' → HRep E M a (encV V ω v) → HRep E' M a (encV V ω' v')
 | [], [], σ, σ1, l, h => by
  simp [mtL] at h; obtain ⟨rfl, rfl⟩ := h
  exact ⟨Sub.refl _, id, rfl, [], rfl, fun rest => rfl, fun i v v' hv => by simp at hv⟩
 | [], _ :: _, σ, σ1, l, h => by simp [mtL] at h
 | _ :: _, [], σ, σ1, l, h => by simp [mtL] at h
 | p :: r, v :: s, σ, σ1, l, h => by
  simp only [mtL] at h
  split at h
  ·rename_i σ' l1 h1
   split at h
   ·rename_i σ'' l2 h2
    simp at h; obtain ⟨rfl, rfl⟩ := h
    obtain ⟨a1, a2, a3, v', a4, a5⟩ := mt1_sound h1
    obtain ⟨b1, b2, b3, vs', b4, b5, b6⟩ := mtL_sound h2
    refine ⟨a1.trans b1, fun hi => b2 (a2 hi), by simp [b3], v' :: vs', by simp [b4], fun rest => ?_, fun i w w' hw hw' => ?_⟩
    ·simp only [bdL, List.append_assoc, a4, b5]
    ·cases i with
     | zero =>
      simp at hw hw'; subst hw; subst hw'
      refine ⟨a3, fun τ objs E E' M ω ω' a hs hv ht hr => a5 τ objs E E' M ω ω' a (b1.trans hs) ?_ ht hr⟩
      simp only [List.all_cons, Bool.and_eq_true] at hv; exact hv.1
     | succ i =>
      obtain ⟨c1, c2⟩ := b6 i w w' (by simpa using hw) (by simpa using hw')
      refine ⟨c1, fun τ objs E E' M ω ω' a hs hv ht hr => c2 τ objs E E' M ω ω' a hs ?_ ht hr⟩
      simp only [List.all_cons, Bool.and_eq_true] at hv; exact hv.2
   ·cases h
  ·cases h
theorem mtO_sound {S : TS V.N} : ∀ {objs : List (Nat × OPt V.ι)} {σ σ1 : Names} {l : List (Leaf V.N)}, mtO V S σ objs = some (σ1, l) → Sub σ σ1 ∧ (Inj σ → Inj σ1) ∧
  ∃ os : List (Nat × TO V.N), os.length = objs.length ∧ bdO V objs l = some os ∧ (∀ c o', (c, o') ∈ os → ∃ n o, gt σ1 c = some n ∧ S.own? n = some o ∧ TO.len (some o') = TO.len (some o) ∧
   ∃ x : (Nat → Nat) → Own, (∀ ω, encO V ω o = some (x ω)) ∧ ∃ x' : (Nat → Nat) → Own, (∀ ω, encO V ω o' = some (x' ω)) ∧
   ∀ (τ : Names) (all : List (Nat × OPt V.ι)) (E E' : Env) (M : Mem) (w : World) (ω ω' : Nat → Nat), Sub σ1 τ → (∀ p ∈ objs, match p.2 with | .box _ ps => ps.all (vhIn V all) = true | _ => True) → Tr τ all E E' ω ω' →
    OwnOk E M w n (x ω) → OwnOk E' M w c (x' ω')) ∧ os.map (·.1) = objs.map (·.1)
 | [], σ, σ1, l, h => by
  simp [mtO] at h; obtain ⟨rfl, rfl⟩ := h
  exact ⟨Sub.refl _, id, [], rfl, rfl, fun c o' h => by simp at h, rfl⟩
 | (c, p) :: r, σ, σ1, l, h => by
  simp only [mtO] at h
  split at h
  ·rename_i n hn
   split at h
   ·rename_i oo ps oo' cells hown
    have h' := if_some h; clear h
    obtain ⟨hoo, h⟩ := h'
    split at h
    ·rename_i σ' l1 h1
     split at h
     ·rename_i σ'' l2 h2
      simp at h; obtain ⟨rfl, rfl⟩ := h
      obtain ⟨a1, a2, a3, vs', a4, a5, a6⟩ := mtL_sound h1
      obtain ⟨b1, b2, os, b3, b4, b5, b6⟩ := mtO_sound h2
      refine ⟨a1.trans b1, fun hi => b2 (a2 hi), (c, .box oo vs') :: os, by simp [b3], by simp only [bdO, a5, b4], fun c' o' hm => ?_, by simp [b6]⟩
      rcases List.mem_cons.1 hm with he | hm
      ·simp only [Prod.mk.injEq] at he
       obtain ⟨rfl, rfl⟩ := he
       refine ⟨n, .box oo' cells, b1 _ _ (a1 _ _ hn), hown, rfl, fun ω => .box oo' (encL V ω cells), fun ω => rfl, fun ω => .box oo (encL V ω vs'), fun ω => rfl, fun τ all E E' M w ω ω' hs hv ht ho => ?_⟩
       have hv0 : ps.all (vhIn V all) = true := hv (c', .box oo ps) List.mem_cons_self
       obtain ⟨b, cs, ty, k1, k2, k3, k4, k5, k6⟩ := ho
       rw [encL_len] at k3
       refine ⟨b, cs, ty, by rw [ht.env c' n (hs _ _ (b1 _ _ (a1 _ _ hn)))]; exact k1, k2, by rw [encL_len]; omega, fun i x y hx hy => ?_, k5, fun t htt => by
        rcases hoo with hoo | hoo
        ·rw [hoo] at htt; cases htt
        ·rw [hoo] at htt; exact k6 t htt⟩
       simp only [encL_map, List.getElem?_map] at hy
       cases hvi : vs'[i]? with
       | none => rw [hvi] at hy; cases hy
       | some v' =>
        rw [hvi] at hy; simp at hy; subst hy
        have hi : i < cells.length := by rw [← a4]; exact (List.getElem?_eq_some_iff.1 hvi).1
        obtain ⟨_, q⟩ := a6 i _ v' (List.getElem?_eq_getElem hi) hvi
        exact q τ all E E' M ω ω' x (b1.trans hs) hv0 ht (k4 i x _ hx (by rw [encL_map, List.getElem?_map, List.getElem?_eq_getElem hi]; rfl))
      ·obtain ⟨n', o, q1, q2, q3, x, q4, x', q5, q6⟩ := b5 c' o' hm
       exact ⟨n', o, q1, q2, q3, x, q4, x', q5, fun τ all E E' M w ω ω' hs hv ht ho => q6 τ all E E' M w ω ω' hs (fun p hp => hv p (List.mem_cons_of_mem _ hp)) ht ho⟩
     ·cases h
    ·cases h
   ·rename_i i oty cells hown
    split at h
    ·rename_i j x hx
     split at h
     ·rename_i σ'' l2 h2
      simp at h; obtain ⟨rfl, rfl⟩ := h
      obtain ⟨b1, b2, os, b3, b4, b5, b6⟩ := mtO_sound h2
      have hmk : i = j ∧ ∃ ls, leavesOf V false (V.tys i) cells = some ls ∧ ∃ y : V.N i, V.ofCells i ls = some y ∧ (TV.lf (.st i) y : TV V.N) = .lf (.st j) x := by
       unfold mkV at hx
       simp only at hx
       split at hx
       ·rename_i ls hls
        split at hx
        ·rename_i y hy
         have : i = j := by cases hx; rfl
         exact ⟨this, ls, hls, y, hy, hx⟩
        ·cases hx
       ·cases hx
      obtain ⟨rfl, ls, hls, y, hy, he⟩ := hmk
      have he : y = x := by cases he; rfl
      subst he
      refine ⟨b1, b2, (c, .bst i y) :: os, by simp [b3], by simp [bdO, b4], fun c' o' hm => ?_, by simp [b6]⟩
      rcases List.mem_cons.1 hm with he | hm
      ·simp only [Prod.mk.injEq] at he
       obtain ⟨rfl, rfl⟩ := he
       refine ⟨n, .box oty cells, b1 _ _ hn, hown, rfl, fun ω => .box oty (encL V ω cells), fun ω => rfl, fun _ => .box none ((V.enc i y).map .d), fun ω => rfl, fun τ all E E' M w ω ω' hs _ ht ho => ?_⟩
       obtain ⟨ds, e1, e2, _⟩ := leavesOf_sound (ω := ω) hls
       obtain ⟨b, cs, ty, k1, k2, k3, k4, k5, _⟩ := ho
       have hc := V.of_cells i ls y hy
       have hnew : (V.enc i y).map H.d = (ls.map fun l => encD V.sz V.enc l.t l.x).map H.d := by
        rw [V.enc_cells, hc]
       refine ⟨b, cs, ty, by rw [ht.env c' n (hs _ _ (b1 _ _ hn))]; exact k1, k2, ?_, fun i' a z ha hz => ?_, k5, fun t htt => by cases htt⟩
       ·rw [k3, hnew, e1, List.length_map, List.length_map]; exact e2.len
       ·rw [hnew, List.getElem?_map] at hz
        cases hd : (ls.map fun l => encD V.sz V.enc l.t l.x)[i']? with
        | none => rw [hd] at hz; cases hz
        | some d =>
         rw [hd] at hz; simp at hz; subst hz
         obtain ⟨d0, g1, g2⟩ := e2.get i' d hd
         have := k4 i' a (.d d0) ha (by rw [e1, List.getElem?_map, g1]; rfl)
         cases this with
         | d q => exact .d (g2 M a q)
      ·obtain ⟨n', o, q1, q2, q3, x, q4, x', q5, q6⟩ := b5 c' o' hm
       exact ⟨n', o, q1, q2, q3, x, q4, x', q5, fun τ all E E' M w ω ω' hs hv ht ho => q6 τ all E E' M w ω ω' hs (fun p hp => hv p (List.mem_cons_of_mem _ hp)) ht ho⟩
     ·cases h
    ·cases h
   ·rename_i i j x hown
    have h' := if_some h; clear h
    obtain ⟨e1, h⟩ := h'
    subst e1
    split at h
    ·rename_i σ'' l2 h2
     simp at h; obtain ⟨rfl, rfl⟩ := h
     obtain ⟨b1, b2, os, b3, b4, b5, b6⟩ := mtO_sound h2
     refine ⟨b1, b2, (c, .bst i x) :: os, by simp [b3], by simp [bdO, b4], fun c' o' hm => ?_, by simp [b6]⟩
     rcases List.mem_cons.1 hm with he | hm
     ·simp only [Prod.mk.injEq] at he
      obtain ⟨rfl, rfl⟩ := he
      refine ⟨n, .bst i x, b1 _ _ hn, hown, rfl, fun _ => .box none ((V.enc i x).map .d), fun ω => rfl, fun _ => .box none ((V.enc i x).map .d), fun ω => rfl, fun τ all E E' M w ω ω' hs _ ht ho => ?_⟩
      obtain ⟨b, cs, ty, k1, k2, k3, k4, k5⟩ := ho
      refine ⟨b, cs, ty, by rw [ht.env c' n (hs _ _ (b1 _ _ hn))]; exact k1, k2, k3, fun i' a z ha hz => ?_, k5⟩
      have hq := k4 i' a z ha hz
      rw [List.getElem?_map, Option.map_eq_some_iff] at hz
      obtain ⟨d, _, rfl⟩ := hz
      exact hq.mono (Mem.le_refl _) fun m hm => by simp [H.has] at hm
     ·obtain ⟨n', o, q1, q2, q3, x, q4, x', q5, q6⟩ := b5 c' o' hm
      exact ⟨n', o, q1, q2, q3, x, q4, x', q5, fun τ all E E' M w ω ω' hs hv ht ho => q6 τ all E E' M w ω ω' hs (fun p hp => hv p (List.mem_cons_of_mem _ hp)) ht ho⟩
    ·cases h
   ·rename_i ps j x hown
    split at h
    ·rename_i σ' l1 h1
     split at h
     ·rename_i σ'' l2 h2
      simp at h; obtain ⟨rfl, rfl⟩ := h
      obtain ⟨a1, a2, a3, vs', a4, a5, a6⟩ := mtL_sound h1
      obtain ⟨b1, b2, os, b3, b4, b5, b6⟩ := mtO_sound h2
      refine ⟨a1.trans b1, fun hi => b2 (a2 hi), (c, .box none vs') :: os, by simp [b3], by simp only [bdO, a5, b4], fun c' o' hm => ?_, by simp [b6]⟩
      rcases List.mem_cons.1 hm with he | hm
      ·simp only [Prod.mk.injEq] at he
       obtain ⟨rfl, rfl⟩ := he
       refine ⟨n, .bst j x, b1 _ _ (a1 _ _ hn), hown, rfl, fun _ => .box none ((V.enc j x).map .d), fun ω => rfl, fun ω => .box none (encL V ω vs'), fun ω => rfl, fun τ all E E' M w ω ω' hs hv ht ho => ?_⟩
       have hv0 : ps.all (vhIn V all) = true := hv (c', .box none ps) List.mem_cons_self
       obtain ⟨b, cs, ty, k1, k2, k3, k4, k5⟩ := ho
       rw [← bst_enc ω, encL_len] at k3
       refine ⟨b, cs, ty, by rw [ht.env c' n (hs _ _ (b1 _ _ (a1 _ _ hn)))]; exact k1, k2, by rw [encL_len]; omega, fun i x' y hx hy => ?_, k5⟩
       simp only [encL_map, List.getElem?_map] at hy
       cases hvi : vs'[i]? with
       | none => rw [hvi] at hy; cases hy
       | some v' =>
        rw [hvi] at hy; simp at hy; subst hy
        have hi : i < ((V.cells j x).map fun l => (.lf l.t l.x : TV V.N)).length := by rw [← a4]; exact (List.getElem?_eq_some_iff.1 hvi).1
        obtain ⟨_, q⟩ := a6 i _ v' (List.getElem?_eq_getElem hi) hvi
        exact q τ all E E' M ω ω' x' (b1.trans hs) hv0 ht (k4 i x' _ hx (by rw [← bst_enc ω, encL_map, List.getElem?_map, List.getElem?_eq_getElem hi]; rfl))
      ·obtain ⟨n', o, q1, q2, q3, x, q4, x', q5, q6⟩ := b5 c' o' hm
       exact ⟨n', o, q1, q2, q3, x, q4, x', q5, fun τ all E E' M w ω ω' hs hv ht ho => q6 τ all E E' M w ω ω' hs (fun p hp => hv p (List.mem_cons_of_mem _ hp)) ht ho⟩
     ·cases h
    ·cases h
   ·rename_i te e te' e' xs hown
    have h' := if_some h; clear h
    obtain ⟨⟨e1, e2⟩, h⟩ := h'
    subst e1; subst e2
    split at h
    ·rename_i σ'' l2 h2
     simp at h; obtain ⟨rfl, rfl⟩ := h
     obtain ⟨b1, b2, os, b3, b4, b5, b6⟩ := mtO_sound h2
     refine ⟨b1, b2, (c, .vec te e xs) :: os, by simp [b3], by simp [bdO, b4], fun c' o' hm => ?_, by simp [b6]⟩
     rcases List.mem_cons.1 hm with he | hm
     ·simp only [Prod.mk.injEq] at he
      obtain ⟨rfl, rfl⟩ := he
      refine ⟨n, .vec te e xs, b1 _ _ hn, hown, rfl, fun _ => .vec te (tsz V.sz e) (xs.map fun x => encR V.sz V.enc e x), fun ω => rfl, fun _ => .vec te (tsz V.sz e) (xs.map fun x => encR V.sz V.enc e x), fun ω => rfl, fun τ all E E' M w ω ω' hs _ ht ho => ?_⟩
      obtain ⟨ys, k1, k2, k3, k4⟩ := ho
      have he := ht.env c' n (hs _ _ (b1 _ _ hn))
      exact ⟨ys, by rw [he]; exact k1, k2, k3, by rw [he]; exact k4⟩
     ·obtain ⟨n', o, q1, q2, q3, x, q4, x', q5, q6⟩ := b5 c' o' hm
      exact ⟨n', o, q1, q2, q3, x, q4, x', q5, fun τ all E E' M w ω ω' hs hv ht ho => q6 τ all E E' M w ω ω' hs (fun p hp => hv p (List.mem_cons_of_mem _ hp)) ht ho⟩
    ·cases h
   ·rename_i s p hown
    split at h
    ·rename_i σ'' l2 h2
     simp at h; obtain ⟨rfl, rfl⟩ := h
     obtain ⟨b1, b2, os, b3, b4, b5, b6⟩ := mtO_sound h2
     refine ⟨b1, b2, (c, .iter s p) :: os, by simp [b3], by simp [bdO, b4], fun c' o' hm => ?_, by simp [b6]⟩
     rcases List.mem_cons.1 hm with he | hm
     ·simp only [Prod.mk.injEq] at he
      obtain ⟨rfl, rfl⟩ := he
      refine ⟨n, .iter s p, b1 _ _ hn, hown, rfl, fun _ => .iter s p.toNat, fun ω => rfl, fun _ => .iter s p.toNat, fun ω => rfl, fun τ all E E' M w ω ω' hs _ ht ho => ?_⟩
      obtain ⟨b, k1, k2, k3⟩ := ho
      have he := ht.env c' n (hs _ _ (b1 _ _ hn))
      exact ⟨b, by rw [he]; exact k1, k2, k3⟩
     ·obtain ⟨n', o, q1, q2, q3, x, q4, x', q5, q6⟩ := b5 c' o' hm
      exact ⟨n', o, q1, q2, q3, x, q4, x', q5, fun τ all E E' M w ω ω' hs hv ht ho => q6 τ all E E' M w ω ω' hs (fun p hp => hv p (List.mem_cons_of_mem _ hp)) ht ho⟩
    ·cases h
   ·rename_i tk tv tk' tv' es hown
    have h' := if_some h; clear h
    obtain ⟨⟨e1, e2⟩, h⟩ := h'
    subst e1; subst e2
    split at h
    ·rename_i σ'' l2 h2
     simp at h; obtain ⟨rfl, rfl⟩ := h
     obtain ⟨b1, b2, os, b3, b4, b5, b6⟩ := mtO_sound h2
     refine ⟨b1, b2, (c, .map tk tv es) :: os, by simp [b3], by simp [bdO, b4], fun c' o' hm => ?_, by simp [b6]⟩
     rcases List.mem_cons.1 hm with he | hm
     ·simp only [Prod.mk.injEq] at he
      obtain ⟨rfl, rfl⟩ := he
      refine ⟨n, .map tk tv es, b1 _ _ hn, hown, rfl, fun _ => .map (es.map fun p => (encK tk p.1, encD V.sz V.enc tv p.2)), fun ω => rfl, fun _ => .map (es.map fun p => (encK tk p.1, encD V.sz V.enc tv p.2)), fun ω => rfl, fun τ all E E' M w ω ω' hs _ ht ho => ?_⟩
      obtain ⟨b, es', clock, k1, k2, k3, k4, k5⟩ := ho
      have he := ht.env c' n (hs _ _ (b1 _ _ hn))
      exact ⟨b, es', clock, by rw [he]; exact k1, k2, k3, k4, k5⟩
     ·obtain ⟨n', o, q1, q2, q3, x, q4, x', q5, q6⟩ := b5 c' o' hm
      exact ⟨n', o, q1, q2, q3, x, q4, x', q5, fun τ all E E' M w ω ω' hs hv ht ho => q6 τ all E E' M w ω ω' hs (fun p hp => hv p (List.mem_cons_of_mem _ hp)) ht ho⟩
    ·cases h
   ·cases h
  ·cases h
theorem gt_zip {α : Type} : ∀ {ks : List Nat} {vs : List α} {t : Nat} {x : α}, gt (ks.zip vs) t = some x → ∃ i : Nat, ks[i]? = some t ∧ vs[i]? = some x
 | [], _, t, x, h => by simp [gt] at h
 | _ :: _, [], t, x, h => by simp [gt] at h
 | k :: ks, v :: vs, t, x, h => by
  simp only [List.zip_cons_cons, gt_cons] at h
  by_cases hk : k = t
  ·rw [if_pos hk] at h; cases h; exact ⟨0, by simp [hk], rfl⟩
  ·rw [if_neg hk] at h
   obtain ⟨i, h1, h2⟩ := gt_zip h
   exact ⟨i + 1, by simpa using h1, by simpa using h2⟩
theorem cut_ent {S : TS V.N} {c : Cut V.ι} {σ : Names} {ls : List (Leaf V.N)} (h : extr0 V c S = some (σ, ls)) (hok : objsOk V c σ = true) : Ent (encS V S) (encS V (build V c ls)) := by
 unfold extr0 at h
 split at h
 ·rename_i σ0 l0 h0
  split at h
  ·rename_i σ1 l1 h1
   simp at h; obtain ⟨rfl, rfl⟩ := h
   obtain ⟨a1, a2, a3, vs', a4, a5, a6⟩ := mtL_sound h0
   obtain ⟨b1, b2, os, b3, b4, b5, b6⟩ := mtO_sound h1
   have hinj : Inj σ1 := b2 (a2 fun c c' n h => by simp [gt] at h)
   simp only [objsOk, Bool.and_eq_true, List.all_eq_true] at hok
   obtain ⟨⟨hg, hsl⟩, hob⟩ := hok
   have hbuild : build V c (l0 ++ l1) = { tmps := (c.slots.map (·.1)).zip vs', own := os } := by
    unfold build
    rw [a5 l1]
    simp only [b4]
   rw [hbuild]
   let S' : TS V.N := { tmps := (c.slots.map (·.1)).zip vs', own := os }
   have hown : ∀ n o, S'.own? n = some o → (n, o) ∈ os := fun n o ho => gt_mem ho
   have hkey : ∀ n, (c.objs.any fun p => Nat.beq p.1 n) = true → ∃ o, S'.own? n = some o := by
    intro n hn
    rw [List.any_eq_true] at hn
    obtain ⟨p, hp, hpn⟩ := hn
    have hpn : p.1 = n := by simpa using hpn
    have hm : n ∈ os.map (·.1) := by rw [b6, ← hpn]; exact List.mem_map_of_mem hp
    exact gt_some hm
   intro C E M a w hs
   let E' : Env := fun m => match gt σ1 m with
    | some n => E n
    | none => E m
   have hE : ∀ k n, gt σ1 k = some n → E' k = E n := fun k n hk => by simp only [E', hk]
   have ht : Tr σ1 c.objs E E' S.len S'.len := by
    refine ⟨hE, fun k n hk hkn => ?_⟩
    obtain ⟨o, ho⟩ := hkey k hk
    obtain ⟨n', o', q1, q2, q3, _⟩ := b5 k o (hown k o ho)
    rw [hkn] at q1; cases q1
    unfold TS.len; rw [ho, q2]; exact q3
   have hob' : ∀ p ∈ c.objs, match p.2 with | .box _ ps => ps.all (vhIn V c.objs) = true | _ => True := by
    intro p hp
    have := hob p hp
    cases hq : p.2 with
    | box oty ps => rw [hq] at this; simpa using this
    | st i => trivial
    | vec te e => trivial
    | map tk tv => trivial
    | iter => trivial
   have hfind : ∀ n o, (encS V S').own? n = some o → ∃ n0 o0, gt σ1 n = some n0 ∧ (encS V S).own? n0 = some o0 ∧ ∀ w, OwnOk E M w n0 o0 → OwnOk E' M w n o := by
    intro n o ho
    rw [encS_own?, Option.bind_eq_some_iff] at ho
    obtain ⟨o', ho', hoo⟩ := ho
    obtain ⟨n0, o0, q1, q2, _, x, q4, x', q5, q6⟩ := b5 n o' (hown n o' ho')
    rw [q5] at hoo
    simp only [Option.some.injEq] at hoo
    subst hoo
    exact ⟨n0, x S.len, q1, by rw [encS_own?, q2]; exact q4 _, fun w hw => q6 σ1 c.objs E E' M w S.len S'.len (Sub.refl _) hob' ht hw⟩
   refine ⟨E', M, { size := hs.size, defers := hs.defers, tmps := fun t x hx => ?_, mem := hs.mem, own := fun n o hn => ?_, apart := fun n m o o' b hne hn hm hb => ?_, home := fun n o b hn hb => ?_, m0 := hs.m0, mnew := hs.mnew, frame := hs.frame, grows := hs.grows, os := hs.os, tape := hs.tape, output := hs.output, env := fun n hn => ?_ }⟩
   ·rw [encS_gt, Option.map_eq_some_iff] at hx
    obtain ⟨v', hv', rfl⟩ := hx
    obtain ⟨i, g1, g2⟩ := gt_zip hv'
    have hi : i < (c.slots.map fun p => S.get p.1).length := by rw [← a4]; exact (List.getElem?_eq_some_iff.1 g2).1
    have hget : (c.slots.map fun p => S.get p.1)[i]? = some (S.get t) := by
     rw [List.getElem?_map] at g1 ⊢
     cases hsl' : c.slots[i]? with
     | none => rw [hsl'] at g1; cases g1
     | some p => rw [hsl'] at g1; simp at g1; subst g1; rfl
    obtain ⟨k1, k2⟩ := a6 i _ v' hget g2
    have hgt : ∃ v, gt S.tmps t = some v ∧ S.get t = v := by
     unfold TS.get at k1 ⊢
     cases hq : gt S.tmps t with
     | none => rw [hq] at k1; exact (k1 rfl).elim
     | some v => exact ⟨v, rfl, rfl⟩
    obtain ⟨v, hv1, hv2⟩ := hgt
    obtain ⟨av, hav, hrep⟩ := hs.tmps t (encV V S.len v) (by rw [encS_gt, hv1]; rfl)
    refine ⟨av, hav, k2 σ1 c.objs E E' M S.len S'.len av b1 ?_ ht (by rw [hv2]; exact hrep)⟩
    rw [List.all_map]
    exact List.all_eq_true.2 hsl
   ·obtain ⟨n0, o0, q1, q2, q3⟩ := hfind n o hn
    exact q3 w (hs.own n0 _ q2)
   ·obtain ⟨n0, o0, q1, q2, _⟩ := hfind n o hn
    obtain ⟨m0, o1, r1, r2, _⟩ := hfind m o' hm
    rw [hE n n0 q1] at hb
    rw [hE m m0 r1]
    exact hs.apart n0 m0 _ _ b (fun e => by subst e; exact hne (hinj n m n0 q1 r1)) q2 r2 hb
   ·obtain ⟨n0, o0, q1, q2, _⟩ := hfind n o hn
    rw [hE n n0 q1] at hb
    exact hs.home n0 _ b q2 hb
   ·cases hq : gt σ1 n with
    | none => simp only [E', hq]; exact hs.env n hn
    | some m =>
     have := hg _ (gt_mem hq)
     simp only [Bool.or_eq_true, Nat.blt_eq] at this
     rcases this with h | h
     ·omega
     ·have e : n = m := by simpa using h
      rw [hE n m hq, ← e]; exact hs.env n hn
  ·cases h
 ·cases h
end
end Go.Tx
end
section
namespace Go.Tx
open Go.Awp
variable [Inhabited GMem]
theorem Ent.le {S S' : AState} (ht : ∀ t x, gt S'.tmps t = some x → ∃ y, gt S.tmps t = some y ∧ H.le y x) (ho : ∀ n o, S'.own? n = some o → ∃ o', S.own? n = some o' ∧ OLe o' o) : Ent S S' :=
 fun _ E M _ _ hs => ⟨E, M, Sim.le hs ht ho⟩
theorem hle_trans {a b c : H} (h : H.le a b) (k : H.le b c) : H.le a c := fun E M v x => k E M v (h E M v x)
mutual
theorem frz_le {n sz : Nat} {rows : List (List D)} : ∀ x : H, H.has n x = false → H.le (H.frz n sz rows x) x
 | .d x, _ => by simp only [H.frz]; exact H.le.refl _
 | .junk, _ => by simp only [H.frz]; exact H.le.refl _
 | .bp m o, _ => by simp only [H.frz]; exact H.le.refl _
 | .vh m l, h => by
  simp only [H.has] at h
  have : m ≠ n := by intro e; subst e; simp at h
  simp only [H.frz]
  rw [if_neg (fun e => this e.1)]
  exact H.le.refl _
 | .ep m s i o, _ => by simp only [H.frz]; exact H.le.refl _
 | .mp m, _ => by simp only [H.frz]; exact H.le.refl _
 | .np m b, _ => by simp only [H.frz]; exact H.le.refl _
 | .sd m, _ => by simp only [H.frz]; exact H.le.refl _
 | .agg cs, h => by
  simp only [H.frz]
  simp only [H.has] at h
  exact hle_trans (mkAgg_to _) (agg_le (H.frzL_len ..) (frzL_le cs h))
 | .tup cs, h => by
  simp only [H.frz]
  simp only [H.has] at h
  exact tup_le (H.frzL_len ..) (frzL_le cs h)
 | .fn f a b, _ => by simp only [H.frz]; exact H.le.refl _
theorem frzL_le {n sz : Nat} {rows : List (List D)} : ∀ l : List H, H.hasL n l = false → ∀ (i : Nat) (x : H), l[i]? = some x → ∃ y, (H.frzL n sz rows l)[i]? = some y ∧ H.le y x
 | [], _, i, x, hx => by simp at hx
 | y :: r, h, 0, x, hx => by
  rw [H.hasL, Bool.or_eq_false_iff] at h
  simp at hx; subst hx
  exact ⟨H.frz n sz rows y, by simp [H.frzL], frz_le y h.1⟩
 | y :: r, h, i + 1, x, hx => by
  rw [H.hasL, Bool.or_eq_false_iff] at h
  obtain ⟨z, h1, h2⟩ := frzL_le r h.2 i x (by simpa using hx)
  exact ⟨z, by simpa [H.frzL] using h1, h2⟩
end
section
variable {V : View}
theorem frz_len {S : TS V.N} {n : Nat} {te : TypeId} {e : Ty V.ι} {xs : List (den V.N e)} (hn : S.own? n = some (.vec te e xs)) : (S.frz V n e xs).len = S.len := by
 funext m
 unfold TS.len
 unfold TS.own? at hn ⊢
 unfold TS.frz
 simp only [gt_cons]
 by_cases hm : n = m
 ·subst hm; rw [if_pos rfl, hn]; rfl
 ·rw [if_neg hm, gt_map (frzO V n e xs)]
  cases gt S.own m with
  | none => rfl
  | some o => cases o <;> rfl
theorem frz1_le {S : TS V.N} {n : Nat} {te : TypeId} {e : Ty V.ι} {xs : List (den V.N e)} (hn : S.own? n = some (.vec te e xs)) (v : TV V.N) :
  H.le (H.frz n (tsz V.sz e) (xs.map fun x => encR V.sz V.enc e x) (encV V S.len v)) (encV V (S.frz V n e xs).len (frz1 V n e xs v)) := by
 have other : ∀ v : TV V.N, H.le (H.frz n (tsz V.sz e) (xs.map fun x => encR V.sz V.enc e x) (encV V S.len v)) (encV V (S.frz V n e xs).len (if TV.has n v = true then .junk else v)) := by
  intro v
  split
  ·simp only [encV]; exact H.le.junk _
  ·rename_i hh
   have hh : TV.has n v = false := by simpa using hh
   rw [frz_len hn]
   exact frz_le _ (by rw [encV_has]; exact hh)
 unfold frz1
 split
 ·rename_i m
  by_cases hm : m = n
  ·subst hm
   rw [if_pos rfl]
   simp only [encV, encD, H.frz, len_vec hn, List.length_map, and_self, if_true]
   exact H.le.refl _
  ·rw [if_neg hm]
   simp only [encV, H.frz]
   rw [if_neg (fun e => hm e.1), frz_len hn]
   exact H.le.refl _
 ·exact other v
theorem frzV_le {S : TS V.N} {n : Nat} {te : TypeId} {e : Ty V.ι} {xs : List (den V.N e)} (hn : S.own? n = some (.vec te e xs)) (v : TV V.N) :
  H.le (H.frz n (tsz V.sz e) (xs.map fun x => encR V.sz V.enc e x) (encV V S.len v)) (encV V (S.frz V n e xs).len (frzV V n e xs v)) := by
 unfold frzV
 split
 ·rename_i cs
  simp only [encV]
  refine hle_trans ?_ (mkAgg_of _)
  have hp : ∀ (l : List H), (∀ (i : Nat) (x : H), (encL V (S.frz V n e xs).len (cs.map (frz1 V n e xs)))[i]? = some x → ∃ y, l[i]? = some y ∧ H.le y x) → l.length = cs.length →
    H.le (.agg l) (.agg (encL V (S.frz V n e xs).len (cs.map (frz1 V n e xs)))) := fun l h hl => agg_le (by rw [encL_len, List.length_map]; exact hl) h
  have hfrz : ∀ (i : Nat) (x : H), (encL V (S.frz V n e xs).len (cs.map (frz1 V n e xs)))[i]? = some x →
    ∃ y, (encL V S.len cs)[i]? = some y ∧ H.le (H.frz n (tsz V.sz e) (xs.map fun x => encR V.sz V.enc e x) y) x := by
   intro i x hx
   simp only [encL_map, List.getElem?_map] at hx ⊢
   cases hc : cs[i]? with
   | none => rw [hc] at hx; cases hx
   | some c => rw [hc] at hx; simp at hx; subst hx; exact ⟨_, rfl, frz1_le hn c⟩
  unfold mkAgg
  split
  ·rename_i ds hds
   obtain ⟨g1, g2⟩ := allD_get hds
   simp only [H.frz]
   have e1 : H.le (.d (.agg ds)) (.agg (encL V S.len cs)) := by
    have := mkAgg_to (encL V S.len cs)
    unfold mkAgg at this
    rw [hds] at this; exact this
   refine hle_trans e1 (hp _ (fun i x hx => ?_) (encL_len ..))
   obtain ⟨y, hy, hle⟩ := hfrz i x hx
   refine ⟨y, hy, ?_⟩
   rw [g2] at hy
   cases hd : ds[i]? with
   | none => rw [hd] at hy; cases hy
   | some d => rw [hd] at hy; simp at hy; subst hy; simpa only [H.frz] using hle
  ·simp only [H.frz]
   refine hle_trans (mkAgg_to _) (hp _ (fun i x hx => ?_) (by rw [H.frzL_len, encL_len]))
   obtain ⟨y, hy, hle⟩ := hfrz i x hx
   exact ⟨_, by rw [H.frzL_get, hy]; rfl, hle⟩
 ·exact frz1_le hn v
theorem frz_ent {S : TS V.N} {n : Nat} {te : TypeId} {e : Ty V.ι} {xs : List (den V.N e)} (hn : S.own? n = some (.vec te e xs)) : Ent (encS V S) (encS V (S.frz V n e xs)) := by
 refine Ent.trans (Ent.freeze (own_vec hn)) (Ent.le (fun t x hx => ?_) fun m o ho => ?_)
 ·rw [encS_gt] at hx
  simp only [TS.frz, gt_map] at hx
  cases hq : gt S.tmps t with
  | none => rw [hq] at hx; cases hx
  | some v =>
   rw [hq] at hx; simp at hx; subst hx
   refine ⟨_, by simp only [AState.frz, gt_map, encS_gt, hq, Option.map_some], frzV_le hn v⟩
 ·rw [encS_own?, Option.bind_eq_some_iff] at ho
  obtain ⟨o1, ho1, ho⟩ := ho
  have hown : (S.frz V n e xs).own? m = if n = m then some (.gone xs.length) else (S.own? m).map (frzO V n e xs) := by
   unfold TS.own? TS.frz
   simp only [gt_cons]
   split
   ·rfl
   ·rw [gt_map (frzO V n e xs)]
  rw [hown] at ho1
  by_cases hm : n = m
  ·rw [if_pos hm] at ho1; simp at ho1; subst ho1; simp [encO] at ho
  ·rw [if_neg hm] at ho1
   cases hq : S.own? m with
   | none => rw [hq] at ho1; cases ho1
   | some o0 =>
    rw [hq] at ho1; simp at ho1; subst ho1
    have hsrc : ∀ x, encO V S.len o0 = some x → ((encS V S).frz n (tsz V.sz e) (xs.map fun x => encR V.sz V.enc e x)).own? m = some (Own.frz n (tsz V.sz e) (xs.map fun x => encR V.sz V.enc e x) x) := by
     intro x hx
     have := encS_own? S m
     rw [hq] at this
     simp only [Option.bind_some, hx] at this
     unfold AState.own? at this ⊢
     simp only [AState.frz, gt_cons]
     rw [if_neg hm, gt_map (fun x : Option Own => x.map (Own.frz n (tsz V.sz e) (xs.map fun x => encR V.sz V.enc e x)))]
     cases hg : gt (encS V S).own m with
     | none => rw [hg] at this; cases this
     | some oo => rw [hg] at this; simp at this; subst this; rfl
    cases o0 with
    | gone l => simp [frzO, encO] at ho
    | bst i y =>
     simp only [frzO, encO, Option.some.injEq] at ho
     subst ho
     refine ⟨_, hsrc _ rfl, ?_⟩
     simp only [Own.frz]
     refine OLe.box (.inr rfl) (by rw [H.frzL_len]) fun i' x hx => ?_
     refine ⟨_, by rw [H.frzL_get, hx]; rfl, ?_⟩
     rw [List.getElem?_map, Option.map_eq_some_iff] at hx
     obtain ⟨d, _, rfl⟩ := hx
     exact frz_le _ (by simp [H.has])
    | vec te' e' ys =>
     simp only [frzO, encO, Option.some.injEq] at ho
     subst ho
     exact ⟨_, hsrc _ rfl, OLe.refl _⟩
    | map tk tv es =>
     simp only [frzO, encO, Option.some.injEq] at ho
     subst ho
     exact ⟨_, hsrc _ rfl, OLe.refl _⟩
    | iter s p =>
     simp only [frzO, encO, Option.some.injEq] at ho
     subst ho
     exact ⟨_, hsrc _ rfl, OLe.refl _⟩
    | box oty cells =>
     simp only [frzO, encO, Option.some.injEq] at ho
     subst ho
     refine ⟨_, hsrc _ rfl, ?_⟩
     simp only [Own.frz]
     refine OLe.box (.inr rfl) (by rw [H.frzL_len, encL_len, encL_len, List.length_map]) fun i x hx => ?_
     simp only [encL_map, List.getElem?_map] at hx
     cases hc : cells[i]? with
     | none => rw [hc] at hx; cases hx
     | some c =>
      rw [hc] at hx; simp at hx; subst hx
      exact ⟨_, by rw [H.frzL_get, encL_map, List.getElem?_map, hc]; rfl, frz1_le hn c⟩
theorem frzAt_ent (S : TS V.N) (v : TV V.N) : Ent (encS V S) (encS V (frzAt V S v)) := by
 unfold frzAt
 split
 ·rename_i n
  split
  ·rename_i te e xs hn; exact frz_ent hn
  ·exact Ent.refl _
 ·exact Ent.refl _
theorem frzL_ent : ∀ (l : List (TV V.N)) (S : TS V.N), Ent (encS V S) (encS V (frzL V S l))
 | [], _ => Ent.refl _
 | v :: r, S => Ent.trans (frzAt_ent S v) (frzL_ent r _)
theorem nilAt_ent (te : TypeId) (e : Ty V.ι) (S : TS V.N) (t : Nat) : Ent (encS V S) (encS V (nilAt V te e S t)) := by
 unfold nilAt
 split
 ·rename_i ht
  split
  ·rename_i hf
   obtain ⟨hf, hg⟩ := hf
   have hg : 60000 + t < given := by simpa [Nat.blt_eq] using hg
   have h1 : gt (encS V S).tmps t = some (.d (.v (.slice none 0 0))) := by rw [encS_gt, ht]; simp [encV, encRaw]
   have h2 : (encS V S).fresh (60000 + t) = true := encS_fresh hf
   refine Ent.trans (Ent.nilvec (e := te) (sz := tsz V.sz e) h1 h2 hg) fun C E M a w hs => ⟨E, M, ?_⟩
   exact Sim.tapp (V := V) (S := S) (dst := some t) (te := { val := .vh (60000 + t), upd := [(60000 + t, .vec te e [])], new := [60000 + t] }) (ex := false)
    (e' := { val := .vh (60000 + t) 0, upd := [(60000 + t, some (.vec te (tsz V.sz e) []))], new := [60000 + t] }) (fun m o hm => by
      simp only [gt_cons] at hm
      split at hm
      ·rename_i e; left; simp [e]
      ·simp [gt] at hm) (fun d hd => by simp at hd; subst hd; exact hf) (ele_upd (by
      simp only [encV]
      rw [app_len]
      simp [gt_cons, TO.len]) rfl (by simp [encO]) rfl) hs
  ·exact Ent.refl _
 ·exact Ent.refl _
theorem pre_ent (objs : List (Nat × OPt V.ι)) : ∀ (l : List (Nat × Pt V.ι)) (S : TS V.N), Ent (encS V S) (encS V (preS V objs S l))
 | [], _ => Ent.refl _
 | (t, .vh c) :: r, S => by
  simp only [preS]
  split
  ·exact Ent.trans (nilAt_ent _ _ S t) (pre_ent objs r _)
  ·exact pre_ent objs r S
 | (t, .dat ty) :: r, S => by
  simp only [preS]
  exact Ent.trans (frzL_ent _ S) (pre_ent objs r _)
 | (t, .bp c off) :: r, S => by simp only [preS]; exact pre_ent objs r S
 | (t, .mp c) :: r, S => by simp only [preS]; exact pre_ent objs r S
 | (t, .np c) :: r, S => by simp only [preS]; exact pre_ent objs r S
 | (t, .nif) :: r, S => by simp only [preS]; exact pre_ent objs r S
 | (t, .ag cs) :: r, S => by
  simp only [preS]
  exact Ent.trans (frzL_ent _ S) (pre_ent objs r _)
 | (t, .fn f a b) :: r, S => by simp only [preS]; exact pre_ent objs r S
theorem nilBox_ent (te : TypeId) (e : Ty V.ι) (S : TS V.N) (b i : Nat) : Ent (encS V S) (encS V (nilBox V te e S b i)) := by
 unfold nilBox
 split
 ·rename_i oty cells hb
  split
  ·rename_i hc
   split
   ·rename_i hf
    obtain ⟨hf, hg⟩ := hf
    generalize hn : 70000 + S.own.length = n at hf hg ⊢
    have hg : n < given := by simpa [Nat.blt_eq] using hg
    have h1 : (encS V S).own? b = some (.box oty (encL V S.len cells)) := by rw [encS_own?, hb]; rfl
    have h2 : (encL V S.len cells)[i]? = some (.d (.v (.slice none 0 0))) := by rw [encL_map, List.getElem?_map, hc]; simp [encV, encRaw]
    have hfr := hf
    unfold TS.fresh at hfr
    simp only [Bool.and_eq_true, List.all_eq_true] at hfr
    obtain ⟨⟨f1, f2⟩, f3⟩ := hfr
    have hbn : b ≠ n := by
     rintro rfl
     rw [hb] at f1; cases f1
    have hcn : TV.hasL n cells = false := by
     have := f3 (b, .box oty cells) (gt_mem hb)
     simpa [TO.has] using this
    refine Ent.trans (Ent.nilcell (e := te) (sz := tsz V.sz e) h1 h2 (encS_fresh hf) hg) fun C E M a w hs => ⟨E, M, ?_⟩
    refine Sim.tapp (V := V) (S := S) (dst := none) (te := { val := .junk, upd := [(b, .box oty (cells.set i (.vh n))), (n, .vec te e [])], new := [n] }) (ex := false)
     (e' := { val := .junk, upd := [(b, some (.box oty ((encL V S.len cells).set i (.vh n 0)))), (n, some (.vec te (tsz V.sz e) []))], new := [n] }) (fun m o hm => ?_) (fun d hd => by simp at hd; subst hd; exact hf) (ele_upd ?_ rfl ?_ rfl) hs
    ·simp only [gt_cons] at hm
     split at hm
     ·rename_i e1
      right
      simp at hm; subst hm; subst e1
      unfold TS.len
      rw [hb]; rfl
     ·split at hm
      ·rename_i e1; left; simp [e1]
      ·simp [gt] at hm
    ·simp [encV]
    ·simp only [List.map_cons, List.map_nil, encO]
     have hl : ∀ m, (S.app none ({ val := .junk, upd := [(b, .box oty (cells.set i (.vh n))), (n, .vec te e [])], new := [n] } : TE V.N)).len m = if m = n then 0 else S.len m := by
      intro m
      rw [app_len]
      simp only [gt_cons]
      by_cases hmb : b = m
      ·subst hmb
       rw [if_pos rfl, if_neg hbn]
       simp only [TO.len]
       unfold TS.len; rw [hb]; rfl
      ·rw [if_neg hmb]
       by_cases hmn : n = m
       ·subst hmn; simp [TO.len]
       ·rw [if_neg hmn, if_neg (fun e => hmn e.symm)]; rfl
     have hcells : encL V (S.app none ({ val := .junk, upd := [(b, .box oty (cells.set i (.vh n))), (n, .vec te e [])], new := [n] } : TE V.N)).len (cells.set i (.vh n)) = (encL V S.len cells).set i (.vh n 0) := by
      rw [encL_map, List.map_set, encL_map]
      congr 1
      ·rw [← encL_map, ← encL_map]
       refine encL_congr cells fun m hm => ?_
       rw [hl, if_neg]
       rintro rfl
       rw [hcn] at hm; cases hm
      ·simp only [encV]
       rw [hl, if_pos rfl]
     rw [hcells]
   ·exact Ent.refl _
  ·exact Ent.refl _
 ·exact Ent.refl _
theorem preBox_ent (objs : List (Nat × OPt V.ι)) (b : Nat) : ∀ (l : List (Pt V.ι)) (i : Nat) (S : TS V.N), Ent (encS V S) (encS V (preBox V objs b i l S))
 | [], _, _ => Ent.refl _
 | .vh c :: r, i, S => by
  simp only [preBox]
  split
  ·exact Ent.trans (nilBox_ent _ _ S b i) (preBox_ent objs b r _ _)
  ·exact preBox_ent objs b r _ S
 | .dat ty :: r, i, S => by simp only [preBox]; exact Ent.trans (frzL_ent _ S) (preBox_ent objs b r _ _)
 | .bp c off :: r, i, S => by simp only [preBox]; exact preBox_ent objs b r _ S
 | .mp c :: r, i, S => by simp only [preBox]; exact preBox_ent objs b r _ S
 | .np c :: r, i, S => by simp only [preBox]; exact preBox_ent objs b r _ S
 | .nif :: r, i, S => by simp only [preBox]; exact preBox_ent objs b r _ S
 | .ag cs :: r, i, S => by simp only [preBox]; exact preBox_ent objs b r _ S
 | .fn f x y :: r, i, S => by simp only [preBox]; exact preBox_ent objs b r _ S
theorem preObj_ent (objs : List (Nat × OPt V.ι)) (c b : Nat) (S : TS V.N) : Ent (encS V S) (encS V (preObj V objs c b S)) := by
 unfold preObj
 split
 ·exact preBox_ent objs b _ 0 S
 ·split
  ·exact frzL_ent _ S
  ·exact Ent.refl _
 ·exact Ent.refl _
theorem preW_ent (objs : List (Nat × OPt V.ι)) : ∀ (m : Nat) (l : List (Nat × Nat)) (S : TS V.N), Ent (encS V S) (encS V (preW V objs m l S))
 | 0, _, _ => by simp only [preW]; exact Ent.refl _
 | _ + 1, [], _ => by simp only [preW]; exact Ent.refl _
 | m + 1, (c, b) :: r, S => by simp only [preW]; exact Ent.trans (preObj_ent objs c b S) (preW_ent objs m _ _)
theorem preA_ent (objs : List (Nat × OPt V.ι)) (l : List (Nat × Pt V.ι)) (S : TS V.N) : Ent (encS V S) (encS V (preA V objs S l)) := by
 unfold preA
 split
 ·exact pre_ent _ l S
 ·exact Ent.trans (pre_ent _ l S) (preW_ent _ _ _ _)
theorem extr_ent {c : Cut V.ι} {S : TS V.N} {v : HL V.N c.tys} (h : extr V c S = some v) : Ent (encS V S) (encS V (conc V c v)) := by
 unfold extr at h
 split at h
 ·rename_i σ ls hx
  obtain ⟨hok, h⟩ := if_some h
  have := toHL_of h
  unfold conc
  rw [this]
  exact Ent.trans (preA_ent c.objs c.slots S) (cut_ent hx hok)
 ·cases h
end
end Go.Tx
end
section
namespace Go.Tx
open Go.Awp
variable [Inhabited GMem]
section
variable {ι : Type} {N : ι → Type}
def setB (S : TS N) (d : Nat) (b : Bool) : TS N := { S with tmps := (d, .lf .bool b) :: S.tmps }
def guardV (S : TS N) (all : List Oper) (j : Nat) : Option (Nat × TV N) := match all[j]? with
 | some o => match o.dst with
  | some d => match gt S.tmps d with
   | some v => some (d, v)
   | none => none
  | none => none
 | none => none
def dstOk (n : Nat) (o : Oper) : Bool := match o.dst with
 | some d => Nat.blt d n
 | none => true
def newOk (S : TS N) (e : TE N) : Bool := e.new.all fun d => S.fresh d && Nat.blt d given
end
section
variable (V : View) (P : Program) (n : Nat) (nm : Nat → Nat) (call : Caller V)
def wantsAll : TV V.N → List (TV V.N)
 | .vh n => [.vh n]
 | .agg cs => cs
 | _ => []
def wantsC (b : Bool) : TV V.N → List (TV V.N)
 | .vh n => match b with
  | true => [.vh n]
  | false => []
 | .agg cs => cs
 | _ => []
def preOp (pre : Nat → Bool) (o : Oper) (S : TS V.N) : TS V.N := match o.op with
 | .buildSlice _ _ parts => frzL V S (parts.toList.flatMap fun p => wantsAll V (tev S p.2))
 | .convert _ _ x => frzL V S (wantsAll V (tev S x))
 | .slice _ x _ _ _ => frzL V S (wantsAll V (tev S x))
 | .store _ x y => match tev S x with
  | .ep .. => frzL V S (wantsAll V (tev S y))
  | _ => S
 | .call c => match c.callee with
  | .value f => match tev S f with
   | .fn fid first captured => frzL V S ((first ++ c.args.toList.map (tev S) ++ captured).flatMap (wantsC V (pre fid)))
   | _ => S
  | .builtin .append => match c.args.toList, c.argTypes.toList with
   | [_, .tmp t], ty :: _ => match gt S.tmps t, V.ty ty with
    | some (.vh n), _ => frzL V S [.vh n]
    | some (.raw (.slice (some _) 0 _)), some (.sl e) => { S with tmps := (t, .lf (.sl e) []) :: S.tmps }
    | some (.raw (.slice none 0 0)), some (.sl e) => { S with tmps := (t, .lf (.sl e) []) :: S.tmps }
    | _, _ => S
   | _, _ => S
  | _ => S
 | _ => S
def forceL {α β : Type} : List α → (List α → β) → β
 | [], k => k []
 | x :: r, k => forceL r fun l => k (x :: l)
theorem forceL_eq {α β : Type} : ∀ (l : List α) (k : List α → β), forceL l k = k l
 | [], _ => rfl
 | x :: r, k => by rw [forceL, forceL_eq r]
def forceS {ι : Type} {N : ι → Type} {β : Type} (S : TS N) (k : TS N → β) : β := forceL S.tmps fun t => forceL S.own fun o => k ⟨t, o⟩
theorem forceS_eq {ι : Type} {N : ι → Type} {β : Type} (S : TS N) (k : TS N → β) : forceS S k = k S := by
 unfold forceS
 rw [forceL_eq, forceL_eq]
def txo (pre : Nat → Bool) (o : Oper) {A : Type} (S : TS V.N) (k : TS V.N → Option A) : Option A :=
 tx V P nm call false o (preOp V pre o S) fun te => match newOk (preOp V pre o S) te with
  | true => k ((preOp V pre o S).app o.dst te)
  | false => none
def txs (pre : Nat → Bool) (all : List Oper) {A : Type} : List Oper → TS V.N → (TS V.N → Option A) → Option A
 | [], S, k => k S
 | o :: os, S, k => forceS S fun S => match dstOk n o with
  | false => none
  | true => match o.guard with
   | none => txo V P nm call pre o S fun S' => txs pre all os S' k
   | some (j, want) => match guardV S all j with
    | some (d, .lf .bool b) => if b = true then
       match want with
       | true => txo V P nm call pre o (setB S d true) fun S' => txs pre all os S' k
       | false => txs pre all os ((setB S d true).app o.dst { val := .tup [] }) k
      else
       match want with
       | false => txo V P nm call pre o (setB S d false) fun S' => txs pre all os S' k
       | true => txs pre all os ((setB S d false).app o.dst { val := .tup [] }) k
    | some (_, .tup []) => txs pre all os (S.app o.dst { val := .tup [] }) k
    | _ => none
def txd (all : List Oper) {A : Type} : List Oper → TS V.N → List Tr1 → (TS V.N → List Tr1 → Option A) → Option A
 | [], S, tr, k => k S tr
 | o :: os, S, tr, k => forceS S fun S => match dstOk n o with
  | false => none
  | true => match o.guard with
   | none => tx V P nm call true o S fun te => match newOk S te with
    | true => txd all os (S.app o.dst te) (tr ++ [⟨encE (S.app o.dst te).len te, true⟩]) k
    | false => none
   | some (j, want) => match guardV S all j with
    | some (d, .lf .bool b) => if b = true then
       match want with
       | true => tx V P nm call true o (setB S d true) fun te => match newOk (setB S d true) te with
        | true => txd all os ((setB S d true).app o.dst te) (tr ++ [⟨encE ((setB S d true).app o.dst te).len te, true⟩]) k
        | false => none
       | false => txd all os ((setB S d true).app o.dst { val := .tup [] }) (tr ++ [⟨{ val := .tup [] }, false⟩]) k
      else
       match want with
       | false => tx V P nm call true o (setB S d false) fun te => match newOk (setB S d false) te with
        | true => txd all os ((setB S d false).app o.dst te) (tr ++ [⟨encE ((setB S d false).app o.dst te).len te, true⟩]) k
        | false => none
       | true => txd all os ((setB S d false).app o.dst { val := .tup [] }) (tr ++ [⟨{ val := .tup [] }, false⟩]) k
    | some (_, .tup []) => txd all os (S.app o.dst { val := .tup [] }) (tr ++ [⟨{ val := .tup [] }, false⟩]) k
    | _ => none
end
section
variable {V : View}
theorem setB_sim {C : Ctx} {E : Env} {M : Mem} {S : TS V.N} {d : Nat} {b : Bool} {a : Act} {w : World} (hd : gt S.tmps d = some (.lf .bool b)) (hs : Sim C E M (encS V S) a w) : Sim C E M (encS V (setB S d b)) a w := by
 have hl : (setB S d b).len = S.len := rfl
 refine Sim.le hs (fun t x hx => ?_) fun n o ho => ⟨o, ho, OLe.refl _⟩
 rw [encS_gt] at hx ⊢
 simp only [setB, gt_cons] at hx
 by_cases h : d = t
 ·subst h
  rw [if_pos rfl] at hx
  rw [hd]
  exact ⟨x, hx, H.le.refl _⟩
 ·rw [if_neg h] at hx
  exact ⟨x, hx, H.le.refl _⟩
theorem guardV_some {S : TS V.N} {all : List Oper} {j d : Nat} {v : TV V.N} (h : guardV S all j = some (d, v)) : gt S.tmps d = some v ∧ ∃ o, all[j]? = some o ∧ o.dst = some d := by
 unfold guardV at h
 split at h
 ·rename_i o ho
  split at h
  ·rename_i d' hd
   split at h
   ·rename_i v' hv
    simp at h; obtain ⟨rfl, rfl⟩ := h
    exact ⟨hv, o, ho, hd⟩
   ·cases h
  ·cases h
 ·cases h
theorem guardB_of {S : TS V.N} {σ : AState} (hσ : ∀ t, gt σ.tmps t = gt (encS V S).tmps t) {all : List Oper} {j d : Nat} {v : TV V.N} {want b : Bool} (h : guardV S all j = some (d, v))
  (hv : v = .lf .bool b ∨ v = .tup [] ∧ b = !want) : guardB σ all j want = some b := by
 obtain ⟨h1, o, h2, h3⟩ := guardV_some h
 have hg : σ.get d = encV V S.len v := by
  unfold AState.get
  rw [hσ, encS_gt, h1]; rfl
 unfold guardB
 simp only [h2, h3, hg]
 rcases hv with rfl | ⟨rfl, rfl⟩
 ·simp [encV, encD]
 ·simp [encV, encL]
theorem newOk_fresh {S : TS V.N} {te : TE V.N} (h : newOk S te = true) : (∀ d ∈ te.new, S.fresh d = true) ∧ ∀ d ∈ te.new, d < given := by
 unfold newOk at h
 rw [List.all_eq_true] at h
 refine ⟨fun d hd => ?_, fun d hd => ?_⟩
 ·have := h d hd
  simp only [Bool.and_eq_true] at this
  exact this.1
 ·have := h d hd
  simp only [Bool.and_eq_true, Nat.blt_eq] at this
  exact this.2
theorem dstOk_lt {n : Nat} {o : Oper} (h : dstOk n o = true) : ∀ d, o.dst = some d → d < n := by
 intro d hd
 unfold dstOk at h
 rw [hd] at h
 simpa [Nat.blt_eq] using h
theorem tup_good (S : TS V.N) : good S { val := .tup [] } := good_val S _ _
theorem tup_sim {C : Ctx} {E : Env} {M : Mem} {S : TS V.N} {o : Oper} {a : Act} {w : World} (hd : ∀ d, o.dst = some d → d < C.N) (hs : Sim C E M (encS V S) a w) : Sim C E M (encS V (S.app o.dst { val := .tup [] })) (a.put o.dst undef) w := by
 have h1 := hs.app_val (o := o) hd (e := { val := .tup [] }) rfl undefH
 refine Sim.tapp (ex := false) (e' := { val := .tup [] }) (tup_good S) (fun d h => by cases h) (ele_eq ?_) h1
 simp [encV, encL]
theorem tx_wp {C : Ctx} {nm : Nat → Nat} {call : Caller V} {ex : Bool} {o : Oper} {S : TS V.N} {A : Type} {k : TS V.N → Option A} {r : A} {E : Env} {M : Mem} {a : Act} {w : World} {K : Act → World → Prop} {Q : Exit → Act → World → Prop}
  (hcall : CallerOk C.P call) (hd : dstOk C.N o = true) (h : (tx V C.P nm call ex o S fun te => match newOk S te with | true => k (S.app o.dst te) | false => none) = some r) (hs : Sim C E M (encS V S) a w)
  (hK : ∀ te E' M' a' w', k (S.app o.dst te) = some r → Sim C E' M' (encS V (S.app o.dst te)) a' w' → K a' w') : o.wp C.P a w K Q := by
 have hnew : ∀ te : TE V.N, (match newOk S te with | true => k (S.app o.dst te) | false => none) = some r → newOk S te = true ∧ k (S.app o.dst te) = some r := by
  intro te h
  cases hq : newOk S te with
  | true => rw [hq] at h; exact ⟨rfl, h⟩
  | false => rw [hq] at h; cases h
 obtain ⟨te, h1, h2, h3⟩ := tx_sound hcall (fun te hte => (newOk_fresh (hnew te hte).1).1) h
 obtain ⟨hn, hk⟩ := hnew te h1
 obtain ⟨f1, f2⟩ := newOk_fresh hn
 refine ok_all (dstOk_lt hd) E M (encS V S) a w K Q (fun e => ELe ex e (encE (S.app o.dst te).len te)) hs (AVal_mono (fun e he => ⟨fun d hd => ?_, he⟩) h3) fun e E' M' a' w' he hs' => hK te E' M' a' w' hk (Sim.tapp h2 f1 he hs')
 have hd : d ∈ te.new := by rw [he.new] at hd; exact hd
 exact ⟨encS_fresh (f1 d hd), f2 d hd⟩
theorem slot_le {S : TS V.N} {t : Nat} {v v' : TV V.N} (ht : gt S.tmps t = some v) (h : H.le (encV V S.len v) (encV V S.len v')) : Ent (encS V S) (encS V { S with tmps := (t, v') :: S.tmps }) :=
 Ent.le (fun d x hx => by
  have hl : ({ S with tmps := (t, v') :: S.tmps } : TS V.N).len = S.len := rfl
  rw [encS_gt] at hx
  simp only [gt_cons, hl] at hx
  by_cases h1 : t = d
  ·subst h1
   rw [if_pos rfl] at hx
   simp at hx; subst hx
   exact ⟨_, by rw [encS_gt, ht]; rfl, h⟩
  ·rw [if_neg h1] at hx
   exact ⟨x, by rw [encS_gt]; exact hx, H.le.refl _⟩) fun n o ho => ⟨o, ho, OLe.refl _⟩
theorem preOp_ent (pre : Nat → Bool) (o : Oper) (S : TS V.N) : Ent (encS V S) (encS V (preOp V pre o S)) := by
 unfold preOp
 split
 ·exact frzL_ent _ S
 ·exact frzL_ent _ S
 ·exact frzL_ent _ S
 ·split
  ·exact frzL_ent _ S
  ·exact Ent.refl _
 ·split
  ·split
   ·exact frzL_ent _ S
   ·exact Ent.refl _
  ·split
   ·split
    ·exact frzL_ent _ S
    ·rename_i ht _
     refine slot_le ht ?_
     simp only [encV, encRaw, encD, List.map_nil]
     exact fun E M v h => by rw [h.dv]; exact .d (.slmt _ _ _)
    ·rename_i ht _
     refine slot_le ht ?_
     simp only [encV, encRaw, encD, List.map_nil]
     exact fun E M v h => by rw [h.dv]; exact .d (.slnil _)
    ·exact Ent.refl _
   ·exact Ent.refl _
  ·exact Ent.refl _
 ·exact Ent.refl _
theorem txs_sound {C : Ctx} {nm : Nat → Nat} {call : Caller V} {pre : Nat → Bool} {ops : Array Oper} {Q : Exit → Act → World → Prop} {A : Type} {r : A} (hcall : CallerOk C.P call) : ∀ (l : List Oper) (i : Nat) (S : TS V.N) (k : TS V.N → Option A) (E : Env) (M : Mem) (a : Act) (w : World),
  ops.toList.drop i = l → txs V C.P C.N nm call pre ops.toList l S k = some r → Sim C E M (encS V S) a w → (∀ S' E' M' a' w', k S' = some r → Sim C E' M' (encS V S') a' w' → Q .normal a' w') →
  wpOps C.P ops Q ((List.range l.length).map (i + ·)) a w
 | [], i, S, k, E, M, a, w, _, h, hs, hQ => by
  simp only [txs] at h
  simpa [wpOps] using hQ S E M a w h hs
 | o :: os, i, S, k, E, M, a, w, hl, h, hs, hQ => by
  have hi : ops[i]? = some o := by
   have : (ops.toList.drop i)[0]? = some o := by rw [hl]; rfl
   simpa using this
  have hl' : ops.toList.drop (i + 1) = os := by
   rw [← List.tail_drop, hl]; rfl
  have hlist : (List.range (o :: os).length).map (i + ·) = i :: (List.range os.length).map (i + 1 + ·) := by
   simp only [List.length_cons, List.range_succ_eq_map, List.map_cons, List.map_map, Nat.add_zero]
   congr 1
   apply List.map_congr_left
   intro x _
   simp; omega
  rw [hlist]
  simp only [txs, forceS_eq] at h
  split at h
  ·cases h
  rename_i hdst
  have run : ∀ (S : TS V.N), Sim C E M (encS V S) a w → (txo V C.P nm call pre o S fun S' => txs V C.P C.N nm call pre ops.toList os S' k) = some r →
    o.wp C.P a w (wpOps C.P ops Q ((List.range os.length).map (i + 1 + ·))) Q := fun S hs h =>
   let ⟨_, _, hs1⟩ := preOp_ent pre o S C E M a w hs
   tx_wp (k := fun S' => txs V C.P C.N nm call pre ops.toList os S' k) hcall hdst h hs1 fun te E' M' a' w' hk hs' => txs_sound hcall os (i + 1) _ k E' M' a' w' hl' hk hs' hQ
  have off : ∀ (S : TS V.N), Sim C E M (encS V S) a w → txs V C.P C.N nm call pre ops.toList os (S.app o.dst { val := .tup [] }) k = some r →
    wpOps C.P ops Q ((List.range os.length).map (i + 1 + ·)) (a.put o.dst undef) w := fun S hs h =>
   txs_sound hcall os (i + 1) _ k E M _ w hl' h (tup_sim (dstOk_lt hdst) hs) hQ
  simp only [wpOps, hi]
  cases hg : o.guard with
  | none =>
   simp only [hg] at h
   rw [if_pos (by simp [Region.wanted, hg])]
   exact .inl (run S hs h)
  | some g =>
   obtain ⟨j, want⟩ := g
   simp only [hg] at h
   split at h
   ·rename_i d b hgv
    have hb := guardB_of (V := V) (S := S) (σ := encS V S) (fun t => rfl) (want := want) hgv (.inl rfl)
    have hy := hs.guard hb
    have hgt := (guardV_some hgv).1
    cases b with
    | true =>
     rw [if_pos rfl] at h
     have hs' := setB_sim hgt hs
     cases want with
     | true =>
      rw [if_pos (by simp [Region.wanted, hg, hy])]
      exact .inl (run _ hs' h)
     | false =>
      rw [if_neg (by simp [Region.wanted, hg, hy])]
      exact off _ hs' h
    | false =>
     rw [if_neg (by simp)] at h
     have hs' := setB_sim hgt hs
     cases want with
     | false =>
      rw [if_pos (by simp [Region.wanted, hg, hy])]
      exact .inl (run _ hs' h)
     | true =>
      rw [if_neg (by simp [Region.wanted, hg, hy])]
      exact off _ hs' h
   ·rename_i d hgv
    have hb := guardB_of (V := V) (S := S) (σ := encS V S) (fun t => rfl) (want := want) hgv (.inr ⟨rfl, rfl⟩)
    have hy := hs.guard hb
    rw [if_neg (by cases want <;> simp [Region.wanted, hg, hy])]
    exact off _ hs h
   ·cases h
structure Rl (σ : AState) (S : TS V.N) : Prop where
 tmp : ∀ t, gt σ.tmps t = gt (encS V S).tmps t
 own : ∀ n, σ.own? n = (encS V S).own? n
 fresh : ∀ d, S.fresh d = true → σ.fresh d = true
theorem Rl.refl (S : TS V.N) : Rl (encS V S) S := ⟨fun _ => rfl, fun _ => rfl, fun _ h => encS_fresh h⟩
theorem Rl.ent {σ : AState} {S : TS V.N} (h : Rl σ S) : Ent σ (encS V S) := Ent.le (fun t x hx => ⟨x, by rw [h.tmp]; exact hx, H.le.refl _⟩) fun n o ho => ⟨o, by rw [h.own]; exact ho, OLe.refl _⟩
theorem Rl.setB {σ : AState} {S : TS V.N} (h : Rl σ S) {d : Nat} {b : Bool} (hd : gt S.tmps d = some (.lf .bool b)) : Rl σ (setB S d b) where
 tmp := fun t => by
  rw [h.tmp, encS_gt, encS_gt]
  simp only [Tx.setB, gt_cons]
  by_cases e : d = t
  ·subst e; rw [if_pos rfl, hd]; simp [encV]
  ·rw [if_neg e]; rfl
 own := fun n => h.own n
 fresh := fun n hn => h.fresh n (by
  unfold TS.fresh at hn ⊢
  simp only [Bool.and_eq_true] at hn ⊢
  refine ⟨⟨hn.1.1, ?_⟩, hn.2⟩
  have := hn.1.2
  simp only [Tx.setB, List.all_cons, Bool.and_eq_true] at this
  exact this.2)
theorem Rl.app {σ : AState} {S : TS V.N} (h : Rl σ S) {dst : Option Tmp} {te : TE V.N} (hg : good S te) (hn : ∀ d ∈ te.new, S.fresh d = true) : Rl (σ.app dst (encE (S.app dst te).len te)) (S.app dst te) where
 tmp := fun t => by
  rw [(encS_app (dst := dst) hg hn).1]
  simp only [AState.app, putT]
  cases dst with
  | none => exact h.tmp t
  | some d => simp only [gt_cons]; rw [h.tmp]
 own := fun n => by
  rw [(encS_app (dst := dst) hg hn).2]
  have := h.own n
  unfold AState.own? at this ⊢
  simp only [AState.app, gt_app]
  cases gt (encE (S.app dst te).len te).upd n with
  | some o => rfl
  | none => exact this
 fresh := fun n hn' => by
  unfold TS.fresh at hn'
  simp only [Bool.and_eq_true] at hn'
  obtain ⟨⟨f1, f2⟩, f3⟩ := hn'
  have hu : gt te.upd n = none := by
   rw [app_own?] at f1
   cases hq : gt te.upd n with
   | none => rfl
   | some o => rw [hq] at f1; cases f1
  have hs : S.fresh n = true := by
   unfold TS.fresh
   simp only [Bool.and_eq_true]
   refine ⟨⟨?_, ?_⟩, ?_⟩
   ·rw [app_own?, hu] at f1; exact f1
   ·rw [List.all_eq_true] at f2 ⊢
    intro p hp
    refine f2 p ?_
    unfold TS.app putV
    cases dst with
    | none => exact hp
    | some d => exact List.mem_cons_of_mem _ hp
   ·rw [List.all_eq_true] at f3 ⊢
    exact fun p hp => f3 p (List.mem_append_right _ hp)
  have hσ := h.fresh n hs
  unfold AState.fresh at hσ ⊢
  simp only [Bool.and_eq_true] at hσ ⊢
  obtain ⟨⟨g1, g2⟩, g3⟩ := hσ
  refine ⟨⟨?_, ?_⟩, ?_⟩
  ·have hq : gt (encE (S.app dst te).len te).upd n = none := by simp only [encE, gt_map, hu]; rfl
   unfold AState.own? at g1 ⊢
   simp only [AState.app, gt_app, hq]
   exact g1
  ·simp only [AState.app, putT]
   cases dst with
   | none => exact g2
   | some d =>
    rw [List.all_cons, Bool.and_eq_true]
    refine ⟨?_, g2⟩
    rw [List.all_eq_true] at f2
    have := f2 (d, te.val) (by simp [TS.app, putV])
    simpa [encE, encV_has] using this
  ·simp only [AState.app, List.all_append, Bool.and_eq_true]
   refine ⟨?_, g3⟩
   rw [List.all_eq_true] at f3 ⊢
   intro p hp
   simp only [encE, List.mem_map] at hp
   obtain ⟨q, hq, rfl⟩ := hp
   have := f3 q (List.mem_append_left _ hq)
   simp only
   cases ho : encO V (S.app dst te).len q.2 with
   | none => rfl
   | some o => simp only [encO_has _ n ho]; exact this
theorem Rl.tup {σ : AState} {S : TS V.N} (h : Rl σ S) {dst : Option Tmp} : Rl (σ.app dst { val := .tup [] }) (S.app dst { val := .tup [] }) := by
 have := h.app (dst := dst) (te := { val := .tup [] }) (tup_good S) fun d h => by cases h
 simpa [encE, encV, encL] using this
theorem txd_sound {P : Program} {n : Nat} {nm : Nat → Nat} {call : Caller V} {all : List Oper} {A : Type} {r : A} (hcall : CallerOk P call) : ∀ (l : List Oper) (S : TS V.N) (σ : AState) (tr : List Tr1) (k : TS V.N → List Tr1 → Option A),
  txd V P n nm call all l S tr k = some r → Rl σ S → aopsT P n nm all l σ tr fun σ' tr' => ∃ S', Rl σ' S' ∧ k S' tr' = some r
 | [], S, σ, tr, k, h, hr => by
  simp only [txd] at h
  exact ⟨S, hr, h⟩
 | o :: os, S, σ, tr, k, h, hr => by
  simp only [txd, forceS_eq] at h
  split at h
  ·cases h
  rename_i hdst
  have run : ∀ (S : TS V.N), Rl σ S → (tx V P nm call true o S fun te => match newOk S te with | true => txd V P n nm call all os (S.app o.dst te) (tr ++ [⟨encE (S.app o.dst te).len te, true⟩]) k | false => none) = some r →
    AVal P nm o (ev σ) σ.own? fun e => (∀ d ∈ e.new, σ.fresh d = true ∧ d < given) ∧ aopsT P n nm all os (σ.app o.dst e) (tr ++ [⟨e, true⟩]) fun σ' tr' => ∃ S', Rl σ' S' ∧ k S' tr' = some r := by
   intro S hr h
   have hnew : ∀ te : TE V.N, (match newOk S te with | true => txd V P n nm call all os (S.app o.dst te) (tr ++ [⟨encE (S.app o.dst te).len te, true⟩]) k | false => none) = some r →
     newOk S te = true ∧ txd V P n nm call all os (S.app o.dst te) (tr ++ [⟨encE (S.app o.dst te).len te, true⟩]) k = some r := by
    intro te h
    cases hq : newOk S te with
    | true => rw [hq] at h; exact ⟨rfl, h⟩
    | false => rw [hq] at h; cases h
   obtain ⟨te, h1, h2, h3⟩ := tx_sound hcall (fun te hte => (newOk_fresh (hnew te hte).1).1) h
   obtain ⟨hn, hk⟩ := hnew te h1
   obtain ⟨f1, f2⟩ := newOk_fresh hn
   have e1 : ev σ = ev (encS V S) := by
    funext x
    cases x with
    | tmp t => simp only [ev, AState.get, hr.tmp]
    | _ => rfl
   have e2 : σ.own? = (encS V S).own? := funext hr.own
   rw [e1, e2]
   refine AVal_mono (fun e he => ?_) h3
   have he' : e = encE (S.app o.dst te).len te := by
    obtain ⟨q1, q2, q3⟩ := he.eq rfl
    have q4 := he.new
    cases e
    simp only at q1 q2 q3 q4
    subst q1; subst q2; subst q3; subst q4; rfl
   subst he'
   exact ⟨fun d hd => ⟨hr.fresh d (f1 d hd), f2 d hd⟩, txd_sound hcall os _ _ _ k hk (hr.app h2 f1)⟩
  have off : ∀ (S : TS V.N), Rl σ S → txd V P n nm call all os (S.app o.dst { val := .tup [] }) (tr ++ [⟨{ val := .tup [] }, false⟩]) k = some r →
    aopsT P n nm all os (σ.app o.dst { val := .tup [] }) (tr ++ [⟨{ val := .tup [] }, false⟩]) fun σ' tr' => ∃ S', Rl σ' S' ∧ k S' tr' = some r := fun S hr h =>
   txd_sound hcall os _ _ _ k h hr.tup
  simp only [aopsT]
  refine ⟨dstOk_lt hdst, ?_⟩
  cases hg : o.guard with
  | none =>
   simp only [hg] at h
   exact run S hr h
  | some g =>
   obtain ⟨j, want⟩ := g
   simp only [hg] at h
   split at h
   ·rename_i d b hgv
    have hb := guardB_of (V := V) (S := S) (σ := σ) hr.tmp (want := want) hgv (.inl rfl)
    have hgt := (guardV_some hgv).1
    simp only [hb]
    cases b with
    | true =>
     rw [if_pos rfl] at h
     have hr' := hr.setB hgt
     cases want with
     | true => exact ⟨fun _ => run _ hr' h, fun e => by simp at e⟩
     | false => exact ⟨fun e => by simp at e, fun _ => off _ hr' h⟩
    | false =>
     rw [if_neg (by simp)] at h
     have hr' := hr.setB hgt
     cases want with
     | false => exact ⟨fun _ => run _ hr' h, fun e => by simp at e⟩
     | true => exact ⟨fun e => by simp at e, fun _ => off _ hr' h⟩
   ·rename_i d hgv
    have hb := guardB_of (V := V) (S := S) (σ := σ) hr.tmp (want := want) hgv (.inr ⟨rfl, rfl⟩)
    simp only [hb]
    exact ⟨fun e => by cases want <;> simp at e, fun _ => off _ hr h⟩
   ·cases h
end
end Go.Tx
end
section
namespace Go.Tx
open Go.Awp
variable [Inhabited GMem]
inductive Alt where
 | norm
 | ret
 | exit (id : Nat)
 deriving DecidableEq
section
variable (V : View)
structure Shape where
 exits : Nat → Cut V.ι := fun _ => ⟨[], []⟩
 rcut : Cut V.ι
variable {V}
def altTys (sh : Shape V) (jt : List (Ty V.ι)) : Alt → List (Ty V.ι)
 | .norm => jt
 | .ret => sh.rcut.tys
 | .exit id => (sh.exits id).tys
def OutT (E : Alt → List (Ty V.ι)) : List Alt → Type
 | [] => Empty
 | [a] => HL V.N (E a)
 | a :: b :: r => HL V.N (E a) ⊕ OutT E (b :: r)
def inj (E : Alt → List (Ty V.ι)) : (alts : List Alt) → (a : Alt) → HL V.N (E a) → Option (OutT E alts)
 | [], _, _ => none
 | [b], a, v => if h : a = b then some (h ▸ v) else none
 | b :: c :: r, a, v => if h : a = b then some (.inl (h ▸ v)) else match inj E (c :: r) a v with
  | some o => some (.inr o)
  | none => none
def handle (E : Alt → List (Ty V.ι)) {A : Type} : (alts : List Alt) → OutT E alts → ((a : Alt) → HL V.N (E a) → Option A) → Option A
 | [], _, _ => none
 | [a], v, f => f a v
 | a :: b :: r, o, f => match o with
  | .inl v => f a v
  | .inr o' => handle E (b :: r) o' f
theorem handle_inj {E : Alt → List (Ty V.ι)} {A : Type} {f : (a : Alt) → HL V.N (E a) → Option A} : ∀ {alts : List Alt} {a : Alt} {v : HL V.N (E a)} {o : OutT E alts}, inj E alts a v = some o → handle E alts o f = f a v
 | [], a, v, o, h => by simp [inj] at h
 | [b], a, v, o, h => by
  simp only [inj] at h
  split at h
  ·rename_i e; subst e; cases h; rfl
  ·cases h
 | b :: c :: r, a, v, o, h => by
  simp only [inj] at h
  split at h
  ·rename_i e; subst e; cases h; rfl
  ·split at h
   ·rename_i o' ho
    cases h
    show handle E (c :: r) o' f = f a v
    exact handle_inj (f := f) ho
   ·cases h
variable (V)
structure LoopA (sh : Shape V) where
 cut : Cut V.ι
 alts : List Alt
 F : HL V.N cut.tys → Option (OutT (altTys sh []) alts)
structure Xc where
 P : Program
 n : Nat
 nm : Nat → Nat := id
 call : Caller V
 pre : Nat → Bool := fun _ => false
 sh : Shape V
 joins : Nat → Option (Cut V.ι × List Alt) := fun _ => none
 regs : Nat → Option (Cut V.ι) := fun _ => none
 loops : Nat → Option (LoopA V sh) := fun _ => none
 pair : Nat → Option (Nat × Nat) := fun _ => none
 jumps : Nat → Option (Nat × LoopA V sh) := fun _ => none
def firstId : Code → Nat
 | .region id _ _ => id
 | .seq a b => if firstId a = 1000000 then firstId b else firstId a
 | .block _ x => firstId x
 | .cond _ a b => if firstId a = 1000000 then firstId b else firstId a
 | .loop b => firstId b
 | .scope b => firstId b
 | _ => 1000000
variable {V}
noncomputable def both {A : Type} (x y : Option A) : Option A := by classical exact if x = y then x else none
theorem both_some {A : Type} {x y : Option A} {r : A} (h : both x y = some r) : x = some r ∧ y = some r := by
 unfold both at h
 split at h
 ·rename_i e; exact ⟨h, e ▸ h⟩
 ·cases h
theorem both_mk {A : Type} {x y : Option A} {r : A} (h : x = some r) (h2 : y = some r) : both x y = some r := by
 unfold both; rw [if_pos (h.trans h2.symm), h]
def regd (X : Xc V) {A : Type} (ops : Array Oper) (S : TS V.N) (k : TS V.N → Option A) : Option A :=
 txd V X.P X.n X.nm X.call ops.toList ops.toList S [] fun S' tr => match drawOk ops.toList tr with
  | true => k S'
  | false => none
def pairFits (i j n : Nat) : Bool := !Nat.beq i j && Nat.blt i n && Nat.blt j n
noncomputable def regx (X : Xc V) {A : Type} (id : Nat) (ops : Array Oper) (draw : Bool) (S : TS V.N) (k : TS V.N → Option A) : Option A := match draw with
 | false => txs V X.P X.n X.nm X.call X.pre ops.toList ops.toList S k
 | true => match X.pair id with
  | none => regd X ops S k
  | some (i, j) => match pairFits i j ops.size with
   | true => both (regd X (varOps i i i j ops) S k) (regd X (varOps i j j i ops) S k)
   | false => none
def noJump {A : Type} (ke : Nat → TS V.N → Option A) : Nat → TS V.N → Option A := fun id S => match Nat.blt id 1000000 with
 | true => ke id S
 | false => none
noncomputable def ex (X : Xc V) : Code → (A : Type) → TS V.N → (TS V.N → Option A) → (Nat → TS V.N → Option A) → (HL V.N X.sh.rcut.tys → Option A) → Option A
 | .skip, _, S, kn, _, _ => kn S
 | .ret, _, S, _, _, kr => match extr V X.sh.rcut S with
  | some v => kr v
  | none => none
 | .exit id, _, S, _, ke, _ => noJump ke id S
 | .goto l, _, S, _, ke, _ => ke (1000000 + l) S
 | .label _, _, S, kn, _, _ => kn S
 | .seq x y, A, S, kn, ke, kr => match X.joins (firstId y) with
  | none => ex X x A S (fun S' => ex X y A S' kn ke kr) ke kr
  | some (cut, alts) =>
   ex X x (OutT (altTys X.sh cut.tys) alts) S
    (fun S' => match extr V cut S' with
      | some v => inj (altTys X.sh cut.tys) alts .norm v
      | none => none)
    (fun id S' => match extr V (X.sh.exits id) S' with
      | some v => inj (altTys X.sh cut.tys) alts (.exit id) v
      | none => none)
    (fun v => inj (altTys X.sh cut.tys) alts .ret v) >>= fun out =>
   handle (altTys X.sh cut.tys) alts out fun a => match a with
    | .norm => fun v => ex X y A (conc V cut v) kn ke kr
    | .ret => fun v => kr v
    | .exit id => fun v => ke id (conc V (X.sh.exits id) v)
 | .block id x, A, S, kn, ke, kr => match Nat.blt id 1000000 with
  | true => ex X x A S kn (fun id' S' => if id' = id then kn S' else ke id' S') kr
  | false => none
 | .cond c x y, A, S, kn, ke, kr => match c with
  | .tmp t => match gt S.tmps t with
   | some (.lf .bool b) => if b = true then ex X x A (setB S t true) kn ke kr else ex X y A (setB S t false) kn ke kr
   | _ => none
  | .const (.bool b) => match b with
   | true => ex X x A S kn ke kr
   | false => ex X y A S kn ke kr
  | _ => none
 | .region id ops draw, _, S, kn, _, _ => match X.regs id with
  | none => regx X id ops draw S kn
  | some cut => (regx X id ops draw S fun S' => extr V cut S') >>= fun v => kn (conc V cut v)
 | .scope c, A, S, kn, ke, kr => match X.jumps (firstId c) with
  | none => ex X c A S kn (noJump ke) kr
  | some (l, la) => ex X c A S kn (fun id S' => match Nat.beq id (1000000 + l) with
   | true => match extr V la.cut S' with
    | none => none
    | some v => la.F v >>= fun out => handle (altTys X.sh []) la.alts out fun a => match a with
     | .norm => fun _ => none
     | .ret => fun v => kr v
     | .exit id => fun v => ke id (conc V (X.sh.exits id) v)
   | false => noJump ke id S') kr
 | .loop b, _, S, _, ke, kr => match X.loops (firstId b) with
  | none => none
  | some la => match extr V la.cut S with
   | none => none
   | some v => la.F v >>= fun out => handle (altTys X.sh []) la.alts out fun a => match a with
    | .norm => fun _ => none
    | .ret => fun v => kr v
    | .exit id => fun v => ke id (conc V (X.sh.exits id) v)
 | _, _, _, _, _, _ => none
noncomputable def exL (X : Xc V) (b : Code) (cut : Cut V.ι) (alts : List Alt) (F : HL V.N cut.tys → Option (OutT (altTys X.sh []) alts)) (v : HL V.N cut.tys) : Option (OutT (altTys X.sh []) alts) :=
 ex X b _ (conc V cut v)
  (fun S' => match extr V cut S' with
    | some v => F v
    | none => none)
  (noJump fun id S' => match extr V (X.sh.exits id) S' with
    | some v => inj (altTys X.sh []) alts (.exit id) v
    | none => none)
  (fun v => inj (altTys X.sh []) alts .ret v)
noncomputable def exJ (X : Xc V) (b : Code) (l : Nat) (cut : Cut V.ι) (alts : List Alt) (F : HL V.N cut.tys → Option (OutT (altTys X.sh []) alts)) (v : HL V.N cut.tys) : Option (OutT (altTys X.sh []) alts) :=
 ex X b _ (conc V cut v)
  (fun _ => none)
  (fun id S' => match Nat.beq id (1000000 + l) with
    | true => match extr V cut S' with
     | some v => F v
     | none => none
    | false => noJump (fun id S' => match extr V (X.sh.exits id) S' with
     | some v => inj (altTys X.sh []) alts (.exit id) v
     | none => none) id S')
  (fun v => inj (altTys X.sh []) alts .ret v)
def AWpL (C : Ctx) (c : Code) (S : AState) (Q : Exit → AState → Prop) : Prop :=
 ∀ (E : Env) (M : Mem) (a : Act) (w : World), Sim C E M S a w → ∀ (b : Frame) (k : List Item) (cs : List Frame),
  ∃ e a' w', (∃ S' E' M', Q e S' ∧ Sim C E' M' S' a' w') ∧ Arrives C.P (lone (b.at a (.code c :: .inLoop c :: k)) cs w) b k cs e a' w'
theorem AWpL.loop {C : Ctx} {c : Code} {S : AState} {Q : Exit → AState → Prop} (h : AWpL C c S Q) : AWp C (.loop c) S Q := fun E M a w hs b k cs =>
 let ⟨e, a', w', hq, harr⟩ := h E M a w hs b k cs
 ⟨e, a', w', hq, .of_steps (.one step_loop) harr⟩
theorem AWpL.ent {C : Ctx} {c : Code} {S S' : AState} {Q : Exit → AState → Prop} (he : Ent S S') (h : AWpL C c S' Q) : AWpL C c S Q := fun E M a w hs =>
 let ⟨E', M', hs'⟩ := he C E M a w hs
 h E' M' a w hs'
theorem AWpL.round {C : Ctx} {c : Code} {S : AState} {Q : Exit → AState → Prop} (h : AWp C c S (eThen (fun S' => AWpL C c S' Q) Q)) : AWpL C c S Q := by
 intro E M a w hs b k cs
 obtain ⟨e, a₁, w₁, ⟨S₁, E₁, M₁, hq, hs₁⟩, harr⟩ := h E M a w hs b (.inLoop c :: k) cs
 cases e with
 | normal =>
  obtain ⟨e₂, a₂, w₂, hq₂, harr₂⟩ := hq E₁ M₁ a₁ w₁ hs₁ b k cs
  exact ⟨e₂, a₂, w₂, hq₂, .of_steps (Steps.trans harr (.one step_inLoop)) harr₂⟩
 | exit id => exact ⟨_, a₁, w₁, ⟨S₁, E₁, M₁, hq, hs₁⟩, .pass (x := .inLoop c) rfl (fun _ _ => .inl (by simp)) harr⟩
 | goto l => exact ⟨_, a₁, w₁, ⟨S₁, E₁, M₁, hq, hs₁⟩, .pass (x := .inLoop c) rfl (fun _ _ => .inl (by simp)) harr⟩
 | ret => exact ⟨_, a₁, w₁, ⟨S₁, E₁, M₁, hq, hs₁⟩, .pass (x := .inLoop c) rfl (fun _ _ => .inl (by simp)) harr⟩
 | panic ch => exact ⟨_, a₁, w₁, ⟨S₁, E₁, M₁, hq, hs₁⟩, .pass (x := .inLoop c) rfl (fun _ _ => .inl (by simp)) harr⟩
 | outgrown => exact ⟨_, a₁, w₁, ⟨S₁, E₁, M₁, hq, hs₁⟩, .pass (x := .inLoop c) rfl (fun _ _ => .inl (by simp)) harr⟩
def AWpJ (C : Ctx) (x rest : Code) (S : AState) (Q : Exit → AState → Prop) : Prop :=
 ∀ (E : Env) (M : Mem) (a : Act) (w : World), Sim C E M S a w → ∀ (b : Frame) (k : List Item) (cs : List Frame),
  ∃ e a' w', (∃ S' E' M', Q e S' ∧ Sim C E' M' S' a' w') ∧ Arrives C.P (lone (b.at a (.code rest :: .inScope x :: k)) cs w) b k cs e a' w'
def eJump (l : Nat) (J : AState → Prop) (Q : Exit → AState → Prop) : Exit → AState → Prop
 | .goto l', S => l' = l ∧ J S
 | e, S => Q e S
theorem AWpJ.ent {C : Ctx} {x rest : Code} {S S' : AState} {Q : Exit → AState → Prop} (he : Ent S S') (h : AWpJ C x rest S' Q) : AWpJ C x rest S Q := fun E M a w hs =>
 let ⟨E', M', hs'⟩ := he C E M a w hs
 h E' M' a w hs'
theorem AWpJ.mono {C : Ctx} {x rest : Code} {S : AState} {Q Q' : Exit → AState → Prop} (h : AWpJ C x rest S Q) (hq : ∀ e S, Q e S → Q' e S) : AWpJ C x rest S Q' := fun E M a w hs b k cs =>
 let ⟨e, a', w', ⟨S', E', M', hq', hs'⟩, harr⟩ := h E M a w hs b k cs
 ⟨e, a', w', ⟨S', E', M', hq e S' hq', hs'⟩, harr⟩
theorem AWpJ.pass {C : Ctx} {x rest : Code} {l : Nat} {S : AState} {Q : Exit → AState → Prop} (hf : findLabel x l = some rest) (h : AWp C rest S (eJump l (fun S' => AWpJ C x rest S' Q) Q)) : AWpJ C x rest S Q := by
 intro E M a w hs b k cs
 have hg : gotoIn l (.inScope x :: k) = some (.code rest :: .inScope x :: k) := by simp [gotoIn, hf]
 obtain ⟨e, a₁, w₁, ⟨S₁, E₁, M₁, hq, hs₁⟩, harr⟩ := h E M a w hs b (.inScope x :: k) cs
 cases e with
 | normal => exact ⟨.normal, a₁, w₁, ⟨S₁, E₁, M₁, hq, hs₁⟩, Steps.trans harr (.one step_inScope)⟩
 | exit id => exact ⟨.exit id, a₁, w₁, ⟨S₁, E₁, M₁, hq, hs₁⟩, fun k' hk => harr k' (by simp [exitTo, hk])⟩
 | goto l' =>
  obtain ⟨rfl, hJ⟩ := hq
  obtain ⟨e₂, a₂, w₂, hq₂, harr₂⟩ := hJ E₁ M₁ a₁ w₁ hs₁ b k cs
  exact ⟨e₂, a₂, w₂, hq₂, .of_steps (harr _ hg) harr₂⟩
 | ret => exact ⟨_, a₁, w₁, ⟨S₁, E₁, M₁, hq, hs₁⟩, harr⟩
 | panic ch => exact ⟨_, a₁, w₁, ⟨S₁, E₁, M₁, hq, hs₁⟩, harr⟩
 | outgrown => exact ⟨_, a₁, w₁, ⟨S₁, E₁, M₁, hq, hs₁⟩, harr⟩
theorem awp_scope_jumps {C : Ctx} {x rest : Code} {l : Nat} {S : AState} {Q : Exit → AState → Prop} (hf : findLabel x l = some rest) (h : AWp C x S (eJump l (fun S' => AWpJ C x rest S' Q) Q)) : AWp C (.scope x) S Q := by
 intro E M a w hs b k cs
 have hg : gotoIn l (.inScope x :: k) = some (.code rest :: .inScope x :: k) := by simp [gotoIn, hf]
 obtain ⟨e, a₁, w₁, ⟨S₁, E₁, M₁, hq, hs₁⟩, harr⟩ := h E M a w hs b (.inScope x :: k) cs
 cases e with
 | normal => exact ⟨.normal, a₁, w₁, ⟨S₁, E₁, M₁, hq, hs₁⟩, .head step_scope (Steps.trans harr (.one step_inScope))⟩
 | exit id => exact ⟨.exit id, a₁, w₁, ⟨S₁, E₁, M₁, hq, hs₁⟩, fun k' hk => .head step_scope (harr k' (by simp [exitTo, hk]))⟩
 | goto l' =>
  obtain ⟨rfl, hJ⟩ := hq
  obtain ⟨e₂, a₂, w₂, hq₂, harr₂⟩ := hJ E₁ M₁ a₁ w₁ hs₁ b k cs
  exact ⟨e₂, a₂, w₂, hq₂, .of_steps (.head step_scope (harr _ hg)) harr₂⟩
 | ret => exact ⟨_, a₁, w₁, ⟨S₁, E₁, M₁, hq, hs₁⟩, .of_steps (.one step_scope) harr⟩
 | panic ch => exact ⟨_, a₁, w₁, ⟨S₁, E₁, M₁, hq, hs₁⟩, .of_steps (.one step_scope) harr⟩
 | outgrown => exact ⟨_, a₁, w₁, ⟨S₁, E₁, M₁, hq, hs₁⟩, .of_steps (.one step_scope) harr⟩
theorem blt_jump (l : Nat) : Nat.blt (1000000 + l) 1000000 = false := by
 cases h : Nat.blt (1000000 + l) 1000000 with
 | false => rfl
 | true => rw [Nat.blt_eq] at h; omega
theorem noJump_some {A : Type} {ke : Nat → TS V.N → Option A} {id : Nat} {S : TS V.N} {r : A} (h : noJump ke id S = some r) : Nat.blt id 1000000 = true ∧ ke id S = some r := by
 unfold noJump at h
 split at h
 ·exact ⟨‹_›, h⟩
 ·cases h
theorem noJump_jump {A : Type} {ke : Nat → TS V.N → Option A} {l : Nat} {S : TS V.N} {r : A} (h : noJump ke (1000000 + l) S = some r) : False := by
 have := (noJump_some h).1
 rw [blt_jump] at this; cases this
structure Post (sh : Shape V) {A : Type} (kn : TS V.N → Option A) (ke : Nat → TS V.N → Option A) (kr : HL V.N sh.rcut.tys → Option A) (r : A) (Q : Exit → AState → Prop) : Prop where
 norm : ∀ S σ, kn S = some r → Ent σ (encS V S) → Q .normal σ
 exit : ∀ id S σ, Nat.blt id 1000000 = true → ke id S = some r → Ent σ (encS V S) → Q (.exit id) σ
 jump : ∀ l S σ, ke (1000000 + l) S = some r → Ent σ (encS V S) → Q (.goto l) σ
 ret : ∀ v σ, kr v = some r → Ent σ (encS V (conc V sh.rcut v)) → Q .ret σ
def OutQ (sh : Shape V) (alts : List Alt) (out : OutT (altTys sh []) alts) (e : Exit) (σ : AState) : Prop := match e with
 | .exit id => Nat.blt id 1000000 = true ∧ ∃ v : HL V.N (sh.exits id).tys, inj (altTys sh []) alts (.exit id) v = some out ∧ Ent σ (encS V (conc V (sh.exits id) v))
 | .ret => ∃ v : HL V.N sh.rcut.tys, inj (altTys sh []) alts .ret v = some out ∧ Ent σ (encS V (conc V sh.rcut v))
 | _ => False
def LoopOk (C : Ctx) (b : Code) {sh : Shape V} (la : LoopA V sh) : Prop := ∀ v out, la.F v = some out → AWpL C b (encS V (conc V la.cut v)) (OutQ sh la.alts out)
def JumpOk (C : Ctx) (x : Code) (l : Nat) {sh : Shape V} (la : LoopA V sh) : Prop :=
 ∃ rest, findLabel x l = some rest ∧ ∀ v out, la.F v = some out → AWpJ C x rest (encS V (conc V la.cut v)) (OutQ sh la.alts out)
def LOk (C : Ctx) (X : Xc V) : Code → Prop
 | .seq x y => LOk C X x ∧ LOk C X y
 | .block _ x => LOk C X x
 | .scope x => LOk C X x ∧ ∀ l la, X.jumps (firstId x) = some (l, la) → JumpOk C x l la
 | .cond _ x y => LOk C X x ∧ LOk C X y
 | .loop b => ∀ la, X.loops (firstId b) = some la → LoopOk C b la
 | _ => True
theorem aopsT_mono {P : Program} {N : Nat} {nm : Nat → Nat} {all : List Oper} : ∀ {os : List Oper} {S : AState} {tr : List Tr1} {k k' : AState → List Tr1 → Prop}, (∀ S tr, k S tr → k' S tr) → aopsT P N nm all os S tr k → aopsT P N nm all os S tr k'
 | [], S, tr, k, k', hk, h => hk _ _ h
 | o :: os, S, tr, k, k', hk, h => by
  simp only [aopsT] at h ⊢
  obtain ⟨hd, h⟩ := h
  refine ⟨hd, ?_⟩
  cases hg : o.guard with
  | none =>
   simp only [hg] at h ⊢
   exact AVal_mono (fun e ⟨h1, h2⟩ => ⟨h1, aopsT_mono hk h2⟩) h
  | some g =>
   obtain ⟨j, want⟩ := g
   simp only [hg] at h ⊢
   split at h
   ·exact ⟨fun e => AVal_mono (fun e ⟨h1, h2⟩ => ⟨h1, aopsT_mono hk h2⟩) (h.1 e), fun e => aopsT_mono hk (h.2 e)⟩
   ·exact h.elim
def noGo (Q : Exit → AState → Prop) : Exit → AState → Prop
 | .goto _, _ => False
 | e, S => Q e S
theorem awp_scope {C : Ctx} {c : Code} {S : AState} {Q : Exit → AState → Prop} (h : AWp C c S (noGo Q)) : AWp C (.scope c) S Q := fun E M a w hs =>
 wp_scope_straight (wp_mono (h E M a w hs) fun e a' w' => by
  rintro ⟨S', E', M', hq, hs'⟩
  cases e with
  | goto l => exact hq.elim
  | _ => exact ⟨S', E', M', hq, hs'⟩)
theorem ex_sound {C : Ctx} {X : Xc V} (hP : C.P = X.P) (hn : C.N = X.n) (hm : X.P.follows .mixedOrders = true) (hcall : CallerOk X.P X.call) : ∀ (c : Code) (A : Type) (S : TS V.N) (kn : TS V.N → Option A) (ke : Nat → TS V.N → Option A)
  (kr : HL V.N X.sh.rcut.tys → Option A) (r : A) (Q : Exit → AState → Prop), LOk C X c → ex X c A S kn ke kr = some r → Post X.sh kn ke kr r Q → AWp C c (encS V S) Q := by
 intro c
 induction c with
 | skip => intro A S kn ke kr r Q _ h hp; exact .skip (hp.norm S _ h (Ent.refl _))
 | label l => intro A S kn ke kr r Q _ h hp; exact .label (hp.norm S _ h (Ent.refl _))
 | exit id =>
  intro A S kn ke kr r Q _ h hp
  simp only [ex] at h
  obtain ⟨h1, h2⟩ := noJump_some h
  exact .exit (hp.exit id S _ h1 h2 (Ent.refl _))
 | goto l => intro A S kn ke kr r Q _ h hp; exact .goto (hp.jump l S _ h (Ent.refl _))
 | ret =>
  intro A S kn ke kr r Q _ h hp
  simp only [ex] at h
  split at h
  ·rename_i v hv; exact .ret (hp.ret v _ h (extr_ent hv))
  ·cases h
 | seq x y ihx ihy =>
  intro A S kn ke kr r Q hl h hp
  obtain ⟨hlx, hly⟩ := hl
  simp only [ex] at h
  split at h
  ·refine .seq (ihx A S _ ke kr r _ hlx h ⟨fun S' σ hk he => ?_, hp.exit, hp.jump, fun v σ hk he => hp.ret v σ hk he⟩)
   exact .ent he (ihy A S' kn ke kr r Q hly hk hp)
  ·rename_i cut alts hj
   obtain ⟨out, h1, h2⟩ := some_bind h
   refine .seq (ihx _ S _ _ _ out _ hlx h1 ⟨fun S' σ hk he => ?_, fun id S' σ hb hk he => ?_, fun l S' σ hk he => ?_, fun v σ hk he => ?_⟩)
   ·split at hk
    ·rename_i v hv
     rw [handle_inj hk] at h2
     exact .ent (Ent.trans he (extr_ent hv)) (ihy A _ kn ke kr r Q hly h2 hp)
    ·cases hk
   ·split at hk
    ·rename_i v hv
     rw [handle_inj hk] at h2
     exact hp.exit id _ σ hb h2 (Ent.trans he (extr_ent hv))
    ·cases hk
   ·split at hk
    ·rename_i v hv
     rw [handle_inj hk] at h2
     exact hp.jump l _ σ h2 (Ent.trans he (extr_ent hv))
    ·cases hk
   ·rw [handle_inj hk] at h2
    exact hp.ret v σ h2 he
 | block id x ih =>
  intro A S kn ke kr r Q hl h hp
  simp only [ex] at h
  split at h
  ·rename_i hb
   refine .block (ih A S kn _ kr r _ hl h ⟨fun S' σ hk he => hp.norm S' σ hk he, fun id' S' σ hb' hk he => ?_, fun l S' σ hk he => ?_, fun v σ hk he => hp.ret v σ hk he⟩)
   ·simp only [eBlock]
    split at hk
    ·rename_i e; rw [if_pos e]; exact hp.norm S' σ hk he
    ·rename_i e; rw [if_neg e]; exact hp.exit id' S' σ hb' hk he
   ·simp only [eBlock]
    rw [if_neg (fun e => by rw [← e, blt_jump] at hb; cases hb)] at hk
    exact hp.jump l S' σ hk he
  ·cases h
 | cond c x y ihx ihy =>
  intro A S kn ke kr r Q hl h hp
  obtain ⟨hlx, hly⟩ := hl
  simp only [ex] at h
  split at h
  ·rename_i t
   split at h
   ·rename_i b hb
    have hev : ev (encS V S) (.tmp t) = .d (.v (.bool b)) := by
     rw [ev_enc]
     simp only [tev, TS.get, hb, Option.getD_some, encV, encD]
    have hset : ∀ b', b = b' → Ent (encS V S) (encS V (setB S t b')) := fun b' e C E M a w hs => ⟨E, M, setB_sim (by rw [hb, e]) hs⟩
    cases b with
    | true =>
     rw [if_pos rfl] at h
     exact .cond hev (fun _ => .ent (hset true rfl) (ihx A _ kn ke kr r Q hlx h hp)) (fun e => by cases e)
    | false =>
     rw [if_neg (by simp)] at h
     exact .cond hev (fun e => by cases e) (fun _ => .ent (hset false rfl) (ihy A _ kn ke kr r Q hly h hp))
   ·cases h
  ·rename_i b
   have hev : ev (encS V S) (.const (.bool b)) = .d (.v (.bool b)) := rfl
   cases b with
   | true => exact .cond hev (fun _ => ihx A _ kn ke kr r Q hlx h hp) (fun e => by cases e)
   | false => exact .cond hev (fun e => by cases e) (fun _ => ihy A _ kn ke kr r Q hly h hp)
  ·cases h
 | region id ops draw =>
  intro A S kn ke kr r Q _ h hp
  have key : ∀ {B : Type} (k : TS V.N → Option B) (s : B), regx X id ops draw S k = some s → (∀ S' σ, k S' = some s → Ent σ (encS V S') → Q .normal σ) → AWp C (.region id ops draw) (encS V S) Q := by
   intro B k s hr hq
   cases draw with
   | false =>
    simp only [regx] at hr
    rw [← hP, ← hn] at hr
    intro E M a w hs
    refine wp_region ?_
    have := txs_sound (C := C) (ops := ops) (Q := fun e a' w' => ∃ S' E' M', Q e S' ∧ Sim C E' M' S' a' w') (hP ▸ hcall) ops.toList 0 S k E M a w (by simp) hr hs
     fun S' E' M' a' w' hk hs' => ⟨_, E', M', hq S' _ hk (Ent.refl _), hs'⟩
    have e : (List.range ops.toList.length).map (0 + ·) = List.range ops.size := by simp
    rw [e] at this
    exact this
   | true =>
    simp only [regx] at hr
    have one : ∀ (ops : Array Oper), regd X ops S k = some s → aopsT C.P C.N X.nm ops.toList ops.toList (encS V S) [] (fun S' tr => drawOk ops.toList tr = true ∧ Q .normal S') := by
     intro ops hr
     simp only [regd] at hr
     rw [hP, hn]
     have h2 := txd_sound hcall ops.toList S (encS V S) [] _ hr (Rl.refl S)
     refine aopsT_mono (fun σ' tr' ⟨S', hrl, hk⟩ => ?_) h2
     split at hk
     ·rename_i hd; exact ⟨hd, hq S' σ' hk hrl.ent⟩
     ·cases hk
    split at hr
    ·exact .draw X.nm (by rw [hP]; exact hm) (one ops hr)
    ·rename_i i j _
     split at hr
     ·rename_i hf
      obtain ⟨h1, h2⟩ := both_some hr
      simp only [pairFits, Bool.and_eq_true, Bool.not_eq_true', Nat.blt_eq] at hf
      obtain ⟨⟨f1, f2⟩, f3⟩ := hf
      exact .draw2 X.nm i j (fun e => by rw [e, Nat.beq_refl] at f1; cases f1) f2 f3 (by rw [hP]; exact hm) (one _ h1) (one _ h2)
     ·cases hr
  simp only [ex] at h
  split at h
  ·exact key kn r h fun S' σ hk he => hp.norm S' σ hk he
  ·rename_i cut _
   obtain ⟨v, h1, h2⟩ := some_bind h
   exact key _ v h1 fun S' σ hk he => hp.norm _ σ h2 (Ent.trans he (extr_ent hk))
 | scope x ih =>
  intro A S kn ke kr r Q hl h hp
  simp only [ex] at h
  split at h
  ·exact awp_scope (ih A S kn _ kr r _ hl.1 h ⟨fun S' σ hk he => hp.norm S' σ hk he, fun id' S' σ hb hk he => hp.exit id' S' σ hb (noJump_some hk).2 he, fun l S' σ hk he => (noJump_jump hk).elim, fun v σ hk he => hp.ret v σ hk he⟩)
  ·rename_i l la hj
   obtain ⟨rest, hf, hok⟩ := hl.2 l la hj
   refine awp_scope_jumps hf (ih A S kn _ kr r _ hl.1 h ⟨fun S' σ hk he => hp.norm S' σ hk he, fun id' S' σ hb hk he => ?_, fun l' S' σ hk he => ?_, fun v σ hk he => hp.ret v σ hk he⟩)
   ·split at hk
    ·rename_i e
     have := Nat.eq_of_beq_eq_true e
     rw [this, blt_jump] at hb; cases hb
    ·exact hp.exit id' S' σ hb (noJump_some hk).2 he
   ·split at hk
    ·rename_i e
     have e := Nat.eq_of_beq_eq_true e
     refine ⟨by omega, ?_⟩
     split at hk
     ·cases hk
     ·rename_i v hv
      obtain ⟨out, h1, h2⟩ := some_bind hk
      refine .ent (Ent.trans he (extr_ent hv)) ((hok v out h1).mono fun e σ hq => ?_)
      unfold OutQ at hq
      split at hq
      ·obtain ⟨hb, w, hw1, hw2⟩ := hq
       rw [handle_inj hw1] at h2
       exact hp.exit _ _ σ hb h2 hw2
      ·obtain ⟨w, hw1, hw2⟩ := hq
       rw [handle_inj hw1] at h2
       exact hp.ret w σ h2 hw2
      ·exact hq.elim
    ·exact (noJump_jump hk).elim
 | loop b ih =>
  intro A S kn ke kr r Q hl h hp
  simp only [ex] at h
  split at h
  ·cases h
  ·rename_i la hla
   split at h
   ·cases h
   ·rename_i v hv
    obtain ⟨out, h1, h2⟩ := some_bind h
    refine .ent (extr_ent hv) ((AWpL.loop (hl la hla v out h1)).mono fun e σ hq => ?_)
    unfold OutQ at hq
    split at hq
    ·obtain ⟨hb, w, hw1, hw2⟩ := hq
     rw [handle_inj hw1] at h2
     exact hp.exit _ _ σ hb h2 hw2
    ·obtain ⟨w, hw1, hw2⟩ := hq
     rw [handle_inj hw1] at h2
     exact hp.ret w σ h2 hw2
    ·exact hq.elim
 | _ => intro A S kn ke kr r Q _ h hp; simp only [ex] at h; cases h
theorem loop_step {C : Ctx} {X : Xc V} (hP : C.P = X.P) (hn : C.N = X.n) (hm : X.P.follows .mixedOrders = true) (hcall : CallerOk X.P X.call) {b : Code} (hl : LOk C X b) {cut : Cut V.ι} {alts : List Alt}
  {F : HL V.N cut.tys → Option (OutT (altTys X.sh []) alts)} (ih : ∀ v out, F v = some out → AWpL C b (encS V (conc V cut v)) (OutQ X.sh alts out)) {v : HL V.N cut.tys} {out : OutT (altTys X.sh []) alts}
  (h : exL X b cut alts F v = some out) : AWpL C b (encS V (conc V cut v)) (OutQ X.sh alts out) := by
 refine AWpL.round (ex_sound hP hn hm hcall b _ _ _ _ _ out _ hl h ⟨fun S' σ hk he => ?_, fun id S' σ hb hk he => ?_, fun l S' σ hk he => (noJump_jump hk).elim, fun v σ hk he => ?_⟩)
 ·split at hk
  ·rename_i w hw; exact .ent (Ent.trans he (extr_ent hw)) (ih w out hk)
  ·cases hk
 ·have hk := (noJump_some hk).2
  split at hk
  ·rename_i w hw; exact ⟨hb, w, hk, Ent.trans he (extr_ent hw)⟩
  ·cases hk
 ·exact ⟨v, hk, he⟩
theorem jump_step {C : Ctx} {X : Xc V} (hP : C.P = X.P) (hn : C.N = X.n) (hm : X.P.follows .mixedOrders = true) (hcall : CallerOk X.P X.call) {x b : Code} {l : Nat} (hf : findLabel x l = some b) (hl : LOk C X b) {cut : Cut V.ι} {alts : List Alt}
  {F : HL V.N cut.tys → Option (OutT (altTys X.sh []) alts)} (ih : ∀ v out, F v = some out → AWpJ C x b (encS V (conc V cut v)) (OutQ X.sh alts out)) {v : HL V.N cut.tys} {out : OutT (altTys X.sh []) alts}
  (h : exJ X b l cut alts F v = some out) : AWpJ C x b (encS V (conc V cut v)) (OutQ X.sh alts out) := by
 refine AWpJ.pass hf (ex_sound hP hn hm hcall b _ _ _ _ _ out _ hl h ⟨fun S' σ hk he => (by cases hk), fun id S' σ hb hk he => ?_, fun l' S' σ hk he => ?_, fun v σ hk he => ?_⟩)
 ·split at hk
  ·rename_i e
   have := Nat.eq_of_beq_eq_true e
   rw [this, blt_jump] at hb; cases hb
  ·have hk := (noJump_some hk).2
   split at hk
   ·rename_i w hw; exact ⟨hb, w, hk, Ent.trans he (extr_ent hw)⟩
   ·cases hk
 ·split at hk
  ·rename_i e
   have e := Nat.eq_of_beq_eq_true e
   refine ⟨by omega, ?_⟩
   split at hk
   ·rename_i w hw; exact .ent (Ent.trans he (extr_ent hw)) (ih w out hk)
   ·cases hk
  ·exact (noJump_jump hk).elim
 ·exact ⟨v, hk, he⟩
end
end Go.Tx
end
section
namespace Go.Tx
open Go.Awp
variable [Inhabited GMem]
def FnEndL (P : Program) (rs : List ResultVar) (r : H) (own' : List (Nat × Own)) (e : Exit) (S : AState) : Prop :=
 (e = .normal ∨ e = .ret) ∧ ∃ S', Ent S S' ∧ ∃ h, resH P S' rs = some h ∧ H.le h r ∧ ∀ n o, gt own' n = some o → S'.own? n = some o
theorem fn_of_awpL {P : Program} {f : FuncId} {fn : Func} {c : Code} {args : List H} {own own' : List (Nat × Own)} {r : H} (hf : P.funcs[f]? = some fn) (hb : fn.body = some c)
  (hname : (fn.name != "runtime.NumGoroutine") = true) (hn : args.length ≤ fn.ntmps)
  (h : ∀ C : Ctx, C.P = P → C.N = fn.ntmps → AWp C c ⟨startT 0 args, startO own⟩ (FnEndL P fn.results.toList r own')) : FnOk P f args own r own' := by
 refine ⟨by simp [callable, hf, hb, hname], fun E M w vs hgm hm how hvs => ?_⟩
 refine calls_of_wp hf hb ?_
 let C : Ctx := ⟨P, fn.ntmps, w, M, E, inExt E own, hgm, fun b ⟨n, o, hn, hb⟩ => ((how.ok n o hn).block hb).2⟩
 have hs : Sim C E M ⟨startT 0 args, startO own⟩ { tmps := vs ++ Array.replicate (fn.ntmps - vs.size) undef, defers := [] } w := by
  have hvs1 := hvs.1
  refine { size := by simp [C]; omega, defers := rfl, tmps := fun t x hx => ?_, mem := hm, own := fun n o ho => ?_, apart := fun n m o o' b hne ho ho' => ?_, home := fun n o b ho hb => ?_, m0 := Mem.le_refl M, mnew := fun b o v hv => .inl hv, frame := fun _ _ _ => rfl, grows := Nat.le_refl _, os := rfl, tape := rfl, output := rfl, env := fun _ _ => rfl }
  ·obtain ⟨_, h2⟩ := gt_startT args 0 t x hx
   simp only [Nat.sub_zero] at h2
   have hlt : t < vs.size := by have := (List.getElem?_eq_some_iff.1 h2).1; omega
   exact ⟨vs[t], by simp [Array.getElem?_append_left hlt, hlt], hvs.2 t _ x (Array.getElem?_eq_getElem hlt) h2⟩
  ·have ho' : gt own n = some o := by rw [← gt_startO]; exact ho
   exact how.ok n o ho'
  ·have h1 : gt own n = some o := by rw [← gt_startO]; exact ho
   have h2 : gt own m = some o' := by rw [← gt_startO]; exact ho'
   exact how.apart n m o o' b hne h1 h2
  ·have h1 : gt own n = some o := by rw [← gt_startO]; exact ho
   exact .inl ⟨n, o, h1, hb⟩
 refine wp_mono (h C rfl rfl E M _ w hs) ?_
 rintro e a' w' ⟨S', E', M', ⟨he, S'', hent, hh, hres, hle, hown⟩, hs'⟩
 obtain ⟨E2, M2, hs2⟩ := hent C E' M' a' w' hs'
 obtain ⟨v, hrun, hrep⟩ := run_resH (C := C) hs2 hres
 have hpost : FnPost E M own w v r own' E2 M2 w' :=
  { rep := hle _ _ _ hrep
    owns := ⟨fun n o ho => hs2.own n o (hown n o ho), fun n m o o' b hne h1 h2 => hs2.apart n m o o' b hne (hown n o h1) (hown m o' h2)⟩
    mle := hs2.m0
    mem := hs2.mem
    mnew := hs2.mnew
    home := fun n o b ho hb => hs2.home n o b (hown n o ho) hb
    frame := hs2.frame
    grows := hs2.grows
    os := hs2.os
    tape := hs2.tape
    output := hs2.output
    env := hs2.env }
 rcases he with rfl | rfl
 ·exact ⟨hs2.defers, v, hrun, v, E2, M2, rfl, hpost⟩
 ·exact ⟨hs2.defers, v, hrun, v, E2, M2, rfl, hpost⟩
section
variable (V : View)
structure Sig where
 params : List (Pt V.ι)
 objs : List (Nat × OPt V.ι) := []
 rcut : Cut V.ι
 rvars : List ResultVar
 keep : List Nat := []
variable {V}
def Sig.tys (sig : Sig V) : List (Ty V.ι) := ptsTys sig.params ++ objTys sig.objs
def enumT {α : Type} : Nat → List α → List (Nat × α)
 | _, [] => []
 | i, x :: r => (i, x) :: enumT (i + 1) r
def startOs (sig : Sig V) (v : HL V.N sig.tys) : List (TV V.N) × List (Nat × TO V.N) := match bdL V sig.params (ofHL sig.tys v) with
 | some (xs, ls) => match bdO V sig.objs ls with
  | some os => (xs, os)
  | none => ([], [])
 | none => ([], [])
def startS (sig : Sig V) (v : HL V.N sig.tys) : TS V.N := { tmps := enumT 0 (startOs sig v).1, own := (startOs sig v).2 }
def resV1 (P : Program) (S : TS V.N) : ResultVar → Option (TV V.N)
 | .tmp t => gt S.tmps t
 | .cell a t => match gt S.tmps a with
  | some (.bp n off) => match tyLoad P t with
   | some (ag, sz) => match wholeV V ag off sz (V.ty t) (S.own? n) with
    | some v => some v
    | none => match boxC V (S.own? n) with
     | some cells => loadV V false ag sz (V.ty t) (cells.drop off)
     | none => none
   | none => none
  | _ => none
def resVL (P : Program) (S : TS V.N) : List ResultVar → Option (List (TV V.N))
 | [] => some []
 | x :: r => match resV1 P S x, resVL P S r with
  | some h, some l => some (h :: l)
  | _, _ => none
def oneV : List (TV V.N) → TV V.N
 | [x] => x
 | l => .tup l
def resV (P : Program) (sig : Sig V) (r : HL V.N sig.rcut.tys) : Option (TV V.N) := (resVL P (conc V sig.rcut r) sig.rvars).map oneV
def encOs (ω : Nat → Nat) (os : List (Nat × TO V.N)) : List (Nat × Own) := os.filterMap fun p => (encO V ω p.2).map fun o => (p.1, o)
def kept (sig : Sig V) (r : HL V.N sig.rcut.tys) : List (Nat × TO V.N) := (conc V sig.rcut r).own.filter fun p => sig.keep.contains p.1
def SigOk (P : Program) (fid : FuncId) (sig : Sig V) (F : HL V.N sig.tys → Option (HL V.N sig.rcut.tys)) : Prop :=
 ∀ v r x, F v = some r → resV P sig r = some x →
  FnOk P fid (encL V (startS sig v).len (startOs sig v).1) (encOs (startS sig v).len (startS sig v).own) (encV V (conc V sig.rcut r).len x) (encOs (conc V sig.rcut r).len (kept sig r))
noncomputable def exF (X : Xc V) (sig : Sig V) (h : X.sh.rcut = sig.rcut) (c : Code) (v : HL V.N sig.tys) : Option (HL V.N sig.rcut.tys) :=
 ex X c _ (startS sig v) (fun S => extr V sig.rcut S) (fun _ _ => none) (fun r => some (h ▸ r))
theorem gt_filterMap {α β : Type} {f : α → Option β} : ∀ {l : List (Nat × α)} {n : Nat} {y : β}, gt (l.filterMap fun p => (f p.2).map fun o => (p.1, o)) n = some y → ∃ x, (n, x) ∈ l ∧ f x = some y
 | [], n, y, h => by simp [gt] at h
 | (k, x) :: r, n, y, h => by
  rw [List.filterMap_cons] at h
  cases hx : f x with
  | none =>
   simp only [hx, Option.map_none] at h
   obtain ⟨z, h1, h2⟩ := gt_filterMap h
   exact ⟨z, List.mem_cons_of_mem _ h1, h2⟩
  | some z =>
   simp only [hx, Option.map_some, gt_cons] at h
   by_cases hk : k = n
   ·rw [if_pos hk] at h; cases h; subst hk; exact ⟨x, List.mem_cons_self, hx⟩
   ·rw [if_neg hk] at h
    obtain ⟨w, h1, h2⟩ := gt_filterMap h
    exact ⟨w, List.mem_cons_of_mem _ h1, h2⟩
def distinct : List Nat → Bool
 | [] => true
 | x :: r => !r.contains x && distinct r
theorem gt_distinct {α : Type} : ∀ {l : List (Nat × α)} {n : Nat} {x : α}, distinct (l.map (·.1)) = true → (n, x) ∈ l → gt l n = some x
 | [], n, x, _, h => by cases h
 | (k, y) :: r, n, x, hd, h => by
  simp only [List.map_cons, distinct, Bool.and_eq_true] at hd
  rw [gt_cons]
  rcases List.mem_cons.1 h with he | h
  ·simp only [Prod.mk.injEq] at he
   obtain ⟨rfl, rfl⟩ := he
   rw [if_pos rfl]
  ·have : k ≠ n := by
    intro e; subst e
    have h1 := hd.1
    have : k ∈ r.map (·.1) := List.mem_map_of_mem h
    simp at h1
    simp at this
    exact h1 _ this.choose_spec
   rw [if_neg this]
   exact gt_distinct hd.2 h
theorem resH_sound {P : Program} {S : TS V.N} : ∀ {rs : List ResultVar} {vs : List (TV V.N)}, resVL P S rs = some vs →
  ∃ hs, resList P (encS V S) rs = some hs ∧ hs.length = vs.length ∧ ∀ (i : Nat) (v : TV V.N), vs[i]? = some v → ∃ h, hs[i]? = some h ∧ H.le h (encV V S.len v)
 | [], vs, h => by simp [resVL] at h; subst h; exact ⟨[], rfl, rfl, fun i v hv => by simp at hv⟩
 | x :: r, vs, h => by
  simp only [resVL] at h
  split at h
  ·rename_i v l h1 h2
   simp at h; subst h
   obtain ⟨hs, g1, g2, g3⟩ := resH_sound h2
   have : ∃ y, resOne P (encS V S) x = some y ∧ H.le y (encV V S.len v) := by
    cases x with
    | tmp t =>
     simp only [resV1] at h1
     refine ⟨(encS V S).get t, rfl, ?_⟩
     unfold AState.get
     rw [encS_gt, h1]
     exact H.le.refl _
    | cell a t =>
     simp only [resV1] at h1
     split at h1
     ·rename_i n off hn
      have hg : (encS V S).get a = .bp n off := by
       unfold AState.get
       rw [encS_gt, hn]; simp [encV]
      split at h1
      ·rename_i ag sz ht
       split at h1
       ·rename_i w hw
        simp only [Option.some.injEq] at h1; subst h1
        unfold wholeV at hw
        split at hw
        ·rename_i i y hnn
         have hw' := if_some hw; clear hw
         obtain ⟨⟨e1, e2, e3, hot⟩, hw⟩ := hw'
         subst e1; subst e2; subst e3
         simp only [Option.some.injEq] at hw; subst hw
         have hb : boxC V (S.own? n) = some ((V.cells i y).map fun l => .lf l.t l.x) := by rw [hnn]; rfl
         have hl : (V.enc i y).length = V.sz i := by rw [V.enc_cells, List.length_map, V.len_cells]
         refine ⟨encV V S.len (.lf (.st i) y), ?_, H.le.refl _⟩
         simp only [resOne, hg, own_boxC hb, ht, bst_enc, loadC, List.drop_zero, encV_st, List.length_map]
         rw [if_pos (by omega), List.take_of_length_le (by rw [List.length_map]; omega), mkAgg, allD_map]
        ·cases hw
       ·split at h1
        ·rename_i cells hc
         obtain ⟨y, k1, k2, _⟩ := loadV_sound (ω := S.len) h1
         rw [encL_drop] at k1
         refine ⟨y, ?_, k2⟩
         simp only [resOne, hg, own_boxC hc, ht, k1]
        ·cases h1
      ·cases h1
     ·cases h1
   obtain ⟨y, y1, y2⟩ := this
   refine ⟨y :: hs, by simp only [resList, y1, g1], by simp [g2], fun i w hw => ?_⟩
   cases i with
   | zero => simp at hw; subst hw; exact ⟨y, rfl, y2⟩
   | succ i => obtain ⟨z, z1, z2⟩ := g3 i w (by simpa using hw); exact ⟨z, by simpa using z1, z2⟩
  ·cases h
theorem startT_enum {ω : Nat → Nat} : ∀ (l : List (TV V.N)) (i : Nat), startT i (encL V ω l) = (enumT i l).map fun p => (p.1, encV V ω p.2)
 | [], i => rfl
 | x :: r, i => by simp [encL, startT, enumT, startT_enum r (i + 1)]
theorem bdL_len : ∀ {ps : List (Pt V.ι)} {ls ls' : List (Leaf V.N)} {xs : List (TV V.N)}, bdL V ps ls = some (xs, ls') → xs.length = ps.length
 | [], ls, ls', xs, h => by simp [bdL] at h; rw [h.1]; rfl
 | p :: r, ls, ls', xs, h => by
  simp only [bdL] at h
  split at h
  ·rename_i x l1 h1
   split at h
   ·rename_i ys l2 h2
    simp at h
    rw [← h.1]
    simp [bdL_len h2]
   ·cases h
  ·cases h
theorem bdO_names : ∀ {objs : List (Nat × OPt V.ι)} {ls : List (Leaf V.N)} {os : List (Nat × TO V.N)}, bdO V objs ls = some os → os.map (·.1) = objs.map (·.1)
 | [], [], os, h => by simp [bdO] at h; subst h; rfl
 | [], _ :: _, os, h => by simp [bdO] at h
 | (c, .box oty ps) :: r, ls, os, h => by
  simp only [bdO] at h
  split at h
  ·split at h
   ·rename_i os' h2
    simp at h; subst h
    simp [bdO_names h2]
   ·cases h
  ·cases h
 | (c, .st i) :: r, [], os, h => by simp [bdO] at h
 | (c, .vec te e) :: r, [], os, h => by simp [bdO] at h
 | (c, .st i) :: r, ⟨t, x⟩ :: ls, os, h => by
  cases t <;> simp only [bdO] at h <;> first
   | (cases h; done)
   | (split at h
      ·split at h
       ·rename_i os' h2
        simp at h; subst h
        simp [bdO_names h2]
       ·cases h
      ·cases h)
 | (c, .vec te e) :: r, ⟨t, x⟩ :: ls, os, h => by
  cases t <;> simp only [bdO] at h <;> first
   | (cases h; done)
   | (split at h
      ·split at h
       ·rename_i os' h2
        simp at h; subst h
        simp [bdO_names h2]
       ·cases h
      ·cases h)
 | (c, .iter) :: r, [], os, h => by simp [bdO] at h
 | (c, .iter) :: r, [⟨t, x⟩], os, h => by
  cases t <;> simp [bdO] at h
 | (c, .iter) :: r, ⟨t, x⟩ :: ⟨t2, x2⟩ :: ls, os, h => by
  cases t <;> first
   | (simp [bdO] at h; done)
   | (cases t2 <;> first
    | (simp [bdO] at h; done)
    | (rename_i ki; cases ki <;> first
     | (simp [bdO] at h; done)
     | (simp only [bdO] at h
        split at h
        ·rename_i os' h2
         simp at h; subst h
         simp [bdO_names h2]
        ·cases h)))
 | (c, .map tk tv) :: r, [], os, h => by simp [bdO] at h
 | (c, .map tk tv) :: r, ⟨t, x⟩ :: ls, os, h => by
  cases t <;> simp only [bdO] at h <;> first
   | (cases h; done)
   | (split at h
      ·split at h
       ·rename_i os' h2
        simp at h; subst h
        simp [bdO_names h2]
       ·cases h
      ·cases h)
theorem build_names (c : Cut V.ι) (ls : List (Leaf V.N)) (h : distinct (c.objs.map (·.1)) = true) : distinct ((build V c ls).own.map (·.1)) = true := by
 unfold build
 split
 ·split
  ·rename_i os ho
   simp only
   rw [bdO_names ho]; exact h
  ·rfl
 ·rfl
theorem gt_encOs {ω : Nat → Nat} : ∀ {os : List (Nat × TO V.N)} {n : Nat} {x : TO V.N} {o : Own}, gt os n = some x → encO V ω x = some o → gt (encOs ω os) n = some o
 | [], n, x, o, h, _ => by simp [gt] at h
 | (k, y) :: r, n, x, o, h, ho => by
  rw [gt_cons] at h
  unfold encOs
  rw [List.filterMap_cons]
  by_cases hk : k = n
  ·rw [if_pos hk] at h; cases h
   simp only [ho, Option.map_some, gt_cons]
   rw [if_pos hk]
  ·rw [if_neg hk] at h
   have ih := gt_encOs (ω := ω) h ho
   unfold encOs at ih
   cases hy : encO V ω y with
   | none => simp only [hy, Option.map_none]; exact ih
   | some z =>
    simp only [hy, Option.map_some, gt_cons]
    rw [if_neg hk]; exact ih
theorem fn_ok {X : Xc V} {sig : Sig V} (hsh : X.sh.rcut = sig.rcut) {fid : FuncId} {fn : Func} {c : Code} (hf : X.P.funcs[fid]? = some fn) (hb : fn.body = some c) (hn : fn.ntmps = X.n) (hrs : fn.results.toList = sig.rvars)
  (hname : (fn.name != "runtime.NumGoroutine") = true) (hlen : Nat.ble sig.params.length X.n = true) (hm : X.P.follows .mixedOrders = true) (hcall : CallerOk X.P X.call)
  (hdr : distinct (sig.rcut.objs.map (·.1)) = true) (hl : ∀ C : Ctx, C.P = X.P → C.N = X.n → LOk C X c) {v : HL V.N sig.tys} {r : HL V.N sig.rcut.tys} (h : exF X sig hsh c v = some r) :
  ∀ x, resV X.P sig r = some x →
   FnOk X.P fid (encL V (startS sig v).len (startOs sig v).1) (encOs (startS sig v).len (startS sig v).own) (encV V (conc V sig.rcut r).len x) (encOs (conc V sig.rcut r).len (kept sig r)) := by
 obtain ⟨params, objs, rcut, rvars, keep⟩ := sig
 simp only at hsh
 subst hsh
 intro x hx
 have hargs : (startOs ⟨params, objs, X.sh.rcut, rvars, keep⟩ v).1.length ≤ X.n := by
  have hp : params.length ≤ X.n := Nat.le_of_ble_eq_true hlen
  unfold startOs
  split
  ·rename_i xs ls h1
   split
   ·simp only; rw [bdL_len h1]; exact hp
   ·simp
  ·simp
 refine fn_of_awpL hf hb hname (by rw [encL_len, hn]; exact hargs) fun C hP hN => ?_
 have hent : Ent ⟨startT 0 (encL V (startS ⟨params, objs, X.sh.rcut, rvars, keep⟩ v).len (startOs ⟨params, objs, X.sh.rcut, rvars, keep⟩ v).1), startO (encOs (startS ⟨params, objs, X.sh.rcut, rvars, keep⟩ v).len (startS ⟨params, objs, X.sh.rcut, rvars, keep⟩ v).own)⟩
   (encS V (startS ⟨params, objs, X.sh.rcut, rvars, keep⟩ v)) := by
  refine Ent.le (fun t y hy => ⟨y, ?_, H.le.refl _⟩) fun n o ho => ⟨o, ?_, OLe.refl _⟩
  ·rw [startT_enum]; exact hy
  ·rw [encS_own?, Option.bind_eq_some_iff] at ho
   obtain ⟨o', ho', hoo⟩ := ho
   have := gt_encOs (os := (startS ⟨params, objs, X.sh.rcut, rvars, keep⟩ v).own) ho' hoo
   unfold AState.own?
   rw [gt_startO]
   exact this
 have hend : ∀ e σ, (e = .normal ∨ e = .ret) → Ent σ (encS V (conc V X.sh.rcut r)) →
   FnEndL X.P fn.results.toList (encV V (conc V X.sh.rcut r).len x) (encOs (conc V X.sh.rcut r).len (kept ⟨params, objs, X.sh.rcut, rvars, keep⟩ r)) e σ := by
  intro e σ he hσ
  unfold resV at hx
  rw [Option.map_eq_some_iff] at hx
  obtain ⟨vs, hvs, hone⟩ := hx
  obtain ⟨hs, g1, g2, g3⟩ := resH_sound hvs
  have hh : ∃ y, resH X.P (encS V (conc V X.sh.rcut r)) fn.results.toList = some y ∧ H.le y (encV V (conc V X.sh.rcut r).len x) := by
   rw [hrs]
   unfold resH
   rw [g1]
   cases vs with
   | nil =>
    have : hs = [] := List.eq_nil_of_length_eq_zero (by simpa using g2)
    subst this; subst hone
    exact ⟨.tup [], rfl, by simp only [oneV, encV, encL]; exact H.le.refl _⟩
   | cons a l =>
    cases l with
    | nil =>
     cases hs with
     | nil => simp at g2
     | cons y l' =>
      have : l' = [] := List.eq_nil_of_length_eq_zero (by simpa using g2)
      subst this; subst hone
      obtain ⟨z, z1, z2⟩ := g3 0 a rfl
      simp at z1; subst z1
      exact ⟨y, rfl, z2⟩
    | cons b l =>
     cases hs with
     | nil => simp at g2
     | cons y l' =>
      cases l' with
      | nil => simp at g2
      | cons y2 l2 =>
       subst hone
       refine ⟨.tup (y :: y2 :: l2), rfl, ?_⟩
       simp only [oneV, encV]
       refine tup_le (by rw [encL_len]; exact g2) fun i w hw => ?_
       rw [encL_map, List.getElem?_map, Option.map_eq_some_iff] at hw
       obtain ⟨u, hu, rfl⟩ := hw
       exact g3 i u hu
  obtain ⟨y, hy1, hy2⟩ := hh
  refine ⟨he, _, hσ, y, hy1, hy2, fun n o ho => ?_⟩
  obtain ⟨o', h1, h2⟩ := gt_filterMap ho
  have h1 : (n, o') ∈ (conc V X.sh.rcut r).own := (List.mem_filter.1 h1).1
  have := gt_distinct (build_names X.sh.rcut _ hdr) h1
  rw [encS_own?]
  unfold TS.own?
  unfold conc at *
  rw [this]
  exact h2
 refine .ent hent (ex_sound hP (by rw [hN, hn]) hm hcall c _ _ _ _ _ r _ (hl C hP (by rw [hN, hn])) h ⟨fun S σ hk he => ?_, fun id S σ _ hk he => (by cases hk), fun l S σ hk he => (by cases hk), fun w σ hk he => ?_⟩)
 ·exact hend _ σ (.inl rfl) (Ent.trans he (extr_ent hk))
 ·have : w = r := by simpa using hk
  subst this
  exact hend _ σ (.inr rfl) he
end
end Go.Tx
end
section
namespace Go.Tx
open Go.Awp
variable [Inhabited GMem]
section
variable {V : View}
mutual
def TV.plain : TV V.N → Bool
 | .lf .. => true
 | .raw _ => true
 | .rp .. => true
 | .junk => true
 | .agg cs => TV.plainL cs
 | .tup vs => TV.plainL vs
 | .fn _ a b => TV.plainL a && TV.plainL b
 | _ => false
def TV.plainL : List (TV V.N) → Bool
 | [] => true
 | x :: r => TV.plain x && TV.plainL r
end
mutual
theorem plain_has : ∀ {x : TV V.N}, TV.plain x = true → ∀ n, TV.has n x = false
 | .lf .., _, n => by simp [TV.has]
 | .raw _, _, n => by simp [TV.has]
 | .rp .., _, n => by simp [TV.has]
 | .junk, _, n => by simp [TV.has]
 | .agg cs, h, n => by simp only [TV.plain] at h; simp only [TV.has]; exact plainL_has h n
 | .tup cs, h, n => by simp only [TV.plain] at h; simp only [TV.has]; exact plainL_has h n
 | .fn f a b, h, n => by
  simp only [TV.plain, Bool.and_eq_true] at h
  simp only [TV.has, plainL_has h.1 n, plainL_has h.2 n]; rfl
 | .bp .., h, n => by simp [TV.plain] at h
 | .vh .., h, n => by simp [TV.plain] at h
 | .ep .., h, n => by simp [TV.plain] at h
 | .mp .., h, n => by simp [TV.plain] at h
 | .np .., h, n => by simp [TV.plain] at h
 | .sd .., h, n => by simp [TV.plain] at h
theorem plainL_has : ∀ {l : List (TV V.N)}, TV.plainL l = true → ∀ n, TV.hasL n l = false
 | [], _, n => by simp [TV.hasL]
 | x :: r, h, n => by
  simp only [TV.plainL, Bool.and_eq_true] at h
  simp only [TV.hasL, plain_has h.1 n, plainL_has h.2 n]; rfl
end
theorem plain_enc {x : TV V.N} (h : TV.plain x = true) (ω ω' : Nat → Nat) : encV V ω' x = encV V ω x := encV_congr x fun n hn => by rw [plain_has h n] at hn; cases hn
def Ty.flat {ι : Type} : Ty ι → Bool
 | .int _ => true
 | .bool => true
 | .str => true
 | _ => false
def flat1 : TV V.N → Bool
 | .lf t x => (rcells V t x).all fun l => l.t.flat
 | _ => false
def flatV : TV V.N → Bool
 | .tup vs => vs.all flat1
 | x => flat1 x
theorem flat1_plain {x : TV V.N} (h : flat1 x = true) : TV.plain x = true := by
 cases x <;> first | rfl | (simp [flat1] at h; done)
theorem flat_plain {x : TV V.N} (h : flatV x = true) : TV.plain x = true := by
 cases x with
 | tup vs =>
  simp only [flatV, List.all_eq_true] at h
  simp only [TV.plain]
  have : ∀ l : List (TV V.N), (∀ x ∈ l, flat1 x = true) → TV.plainL l = true := by
   intro l
   induction l with
   | nil => intro _; rfl
   | cons y r ih => intro h; simp only [TV.plainL, Bool.and_eq_true]; exact ⟨flat1_plain (h y List.mem_cons_self), ih fun x hx => h x (List.mem_cons_of_mem _ hx)⟩
  exact this vs h
 | lf t x => rfl
 | raw _ => rfl
 | rp a b c => rfl
 | junk => rfl
 | agg cs => simp [flatV, flat1] at h
 | fn f a b => simp [flatV, flat1] at h
 | bp a b => simp [flatV, flat1] at h
 | vh a => simp [flatV, flat1] at h
 | ep a b c d => simp [flatV, flat1] at h
 | mp a => simp [flatV, flat1] at h
 | np a b => simp [flatV, flat1] at h
 | sd a => simp [flatV, flat1] at h
theorem encD_flat {l : Leaf V.N} (h : l.t.flat = true) {M M' : Mem} {v : Value} (hv : DRep M v (encD V.sz V.enc l.t l.x)) : DRep M' v (encD V.sz V.enc l.t l.x) := by
 obtain ⟨t, x⟩ := l
 cases t with
 | int k => simp only [encD] at hv ⊢; cases hv; exact .v _
 | bool => simp only [encD] at hv ⊢; cases hv; exact .v _
 | str => simp only [encD] at hv ⊢; cases hv; exact .v _
 | st i => simp [Ty.flat] at h
 | sl e => simp [Ty.flat] at h
 | mp k v => simp [Ty.flat] at h
 | er => simp [Ty.flat] at h
theorem flat1_any {x : TV V.N} (h : flat1 x = true) {ω : Nat → Nat} {E E' : Env} {M M' : Mem} {v : Value} (hv : HRep E M v (encV V ω x)) : HRep E' M' v (encV V ω x) := by
 cases x with
 | lf t x =>
  simp only [flat1, List.all_eq_true] at h
  simp only [encV] at hv ⊢
  cases hv with
  | d hd =>
   refine .d ?_
   cases t with
   | st i =>
    simp only [encD] at hd ⊢
    rw [V.enc_cells] at hd ⊢
    cases hd with
    | agg cs _ hl hh =>
     refine .agg cs _ hl fun k c y hc hy => ?_
     rw [List.getElem?_map] at hy
     cases hq : (V.cells i x)[k]? with
     | none => rw [hq] at hy; cases hy
     | some l =>
      rw [hq] at hy; simp at hy; subst hy
      exact encD_flat (h l (List.mem_of_getElem? hq)) (hh k c _ hc (by rw [List.getElem?_map, hq]; rfl))
   | int k => exact encD_flat (l := ⟨.int k, x⟩) rfl hd
   | bool => exact encD_flat (l := ⟨.bool, x⟩) rfl hd
   | str => exact encD_flat (l := ⟨.str, x⟩) rfl hd
   | sl e => simp [rcells, Ty.flat] at h
   | mp k v => simp [rcells, Ty.flat] at h
   | er => simp [rcells, Ty.flat] at h
 | _ => simp [flat1] at h
theorem flat_any {x : TV V.N} (h : flatV x = true) {ω : Nat → Nat} {E E' : Env} {M M' : Mem} {v : Value} (hv : HRep E M v (encV V ω x)) : HRep E' M' v (encV V ω x) := by
 cases x with
 | tup vs =>
  simp only [flatV, List.all_eq_true] at h
  simp only [encV] at hv ⊢
  obtain ⟨cs, rfl, h1, h2⟩ := hv.htup
  refine .tup cs _ h1 fun i c y hc hy => ?_
  rw [encL_map, List.getElem?_map] at hy
  cases hq : vs[i]? with
  | none => rw [hq] at hy; cases hy
  | some u =>
   rw [hq] at hy; simp at hy; subst hy
   exact flat1_any (h u (List.mem_of_getElem? hq)) (h2 i c _ hc (by rw [encL_map, List.getElem?_map, hq]; rfl))
 | lf t x => exact flat1_any (x := .lf t x) (by simpa [flatV] using h) hv
 | _ => simp [flatV, flat1] at h
def LentTo (own : List (Nat × Own)) (a a0 : H) : Prop := ∀ (E : Env) (M : Mem) (w : World) (v : Value), M.le (memOf w) → Owns E M w own → HRep E M v a → HRep E (memOf w) v a0
theorem LentTo.le {own : List (Nat × Own)} {a a0 : H} (h : H.le a a0) : LentTo own a a0 := fun E M w v hM _ hv => (h E M v hv).le hM
theorem LentTo.agg {own : List (Nat × Own)} {l l0 : List H} (hl : l0.length = l.length) (h : ∀ (i : Nat) (a a0 : H), l[i]? = some a → l0[i]? = some a0 → LentTo own a a0) : LentTo own (.agg l) (.agg l0) := fun E M w v hM ho hv => by
 obtain ⟨cs, rfl, h1, h2⟩ := hv.hagg
 refine .agg cs l0 (by omega) fun i c x hc hx => ?_
 have hi : i < l.length := by rw [← hl]; exact (List.getElem?_eq_some_iff.1 hx).1
 exact h i _ x (List.getElem?_eq_getElem hi) hx E M w c hM ho (h2 i c _ hc (List.getElem?_eq_getElem hi))
theorem LentTo.vh {own : List (Nat × Own)} {n e sz : Nat} {rows : List (List D)} (h1 : gt own n = some (.vec e sz rows)) : LentTo own (.vh n rows.length) (.d (.sl sz rows)) := fun E M w v hM ho hca => by
 obtain ⟨xs, g1, g2, g3, g4⟩ := ho.ok n _ h1
 refine .d ?_
 cases hca with
 | vh n len l cc a hE hle =>
  rcases g1.2 with ⟨hnil, hz⟩ | ⟨g, cap, cur, hE', hbg, hg, hnc, hcm, hcs, htake⟩
  ·rw [hE] at hnil
   simp only [Value.slice.injEq] at hnil
   obtain ⟨rfl, rfl, rfl⟩ := hnil
   have : rows = [] := List.eq_nil_of_length_eq_zero hz
   subst this
   exact .slnil sz
  ·rw [hE] at hE'
   simp only [Value.slice.injEq] at hE'
   obtain ⟨rfl, rfl, rfl⟩ := hE'
   refine .sl g 0 _ _ sz rows (fun k => xs.getD k undef) rfl hnc g2 (fun k hk => ?_) fun i j r x hr' hx => ?_
   ·have hxk : k < xs.length := by rw [g1.1]; exact hk
    obtain ⟨u, hu⟩ : ∃ u, xs[k]? = some u := ⟨_, List.getElem?_eq_getElem hxk⟩
    have hq : w.cell? ⟨g, k, none⟩ = some u := by
     rw [cell_of_row w g k cur e (0, 0) hg]
     have hu' := hu
     rw [← htake, List.getElem?_take, if_pos hk] at hu'
     simpa using hu'
    simp [memOf, hq, hu]
   ·have hlr := g2 r (List.mem_of_getElem? hr')
    have hir : i < rows.length := (List.getElem?_eq_some_iff.1 hr').1
    have hj : j < sz := by have := (List.getElem?_eq_some_iff.1 hx).1; omega
    have hmul : (i + 1) * sz ≤ rows.length * sz := Nat.mul_le_mul_right _ hir
    rw [Nat.succ_mul] at hmul
    have hxk : i * sz + j < xs.length := by rw [g1.1]; omega
    have := g3 i j r xs[i * sz + j] x hr' hx (List.getElem?_eq_getElem hxk)
    have hg' : xs.getD (i * sz + j) undef = xs[i * sz + j] := by simp [hxk]
    rw [hg']
    exact this.mono hM
theorem lend {P : Program} {f : FuncId} {args0 args : List H} {r : H} {own : List (Nat × Own)} (h : FnOk P f args0 [] r []) (hl : args.length = args0.length)
  (ha : ∀ (i : Nat) (a a0 : H), args[i]? = some a → args0[i]? = some a0 → LentTo own a a0)
  (hvec : ∀ n o, gt own n = some o → ∃ e sz rows, o = .vec e sz rows) (hr : ∀ (E E' : Env) (M M' : Mem) (v : Value), HRep E M v r → HRep E' M' v r) : FnAt P f args own r own := by
 refine ⟨h.1, fun E M w vs hgm hm ho hvs => ?_⟩
 have hM : M.le (memOf w) := fun b o v hv => hm b o v hv
 have hrep : HReps E (memOf w) vs args0 := by
  refine ⟨hvs.1.trans hl, fun i c x hc hx => ?_⟩
  have hi : i < args.length := by rw [hl]; exact (List.getElem?_eq_some_iff.1 hx).1
  have hca := hvs.2 i c _ hc (List.getElem?_eq_getElem hi)
  exact ha i _ x (List.getElem?_eq_getElem hi) hx E M w c hM ho hca
 refine (h.2 E (memOf w) w vs (hgm.mono hM fun _ _ _ => rfl) (fun b o v hv => hv) ⟨fun n o hn => by simp [gt] at hn, fun n m o o' b _ hn => by simp [gt] at hn⟩ hrep).mono ?_
 rintro e w' ⟨v, E', M', rfl, hp⟩
 have hfr : ∀ b, b < w.heap.size → w'.heap[b]? = w.heap[b]? := fun b hb => hp.frame b hb fun ⟨n, o, hn, _⟩ => by simp [gt] at hn
 refine ⟨v, E, M, rfl, { rep := hr _ _ _ _ _ hp.rep, owns := ⟨fun n o hn => ?_, ho.apart⟩, mle := Mem.le_refl _, mem := fun b o v hv => hp.mem b o v (hp.mle b o v (hm b o v hv)), mnew := fun b o v hv => .inl hv, home := fun n o b hn hb => .inl ⟨n, o, hn, hb⟩, frame := fun k hk _ => hfr k hk, grows := hp.grows, os := hp.os, tape := hp.tape, output := hp.output, env := fun _ _ => rfl }, fun _ _ => rfl⟩
 have hok := ho.ok n o hn
 obtain ⟨e, sz, rows, rfl⟩ := hvec n o hn
 refine hok.keep rfl (fun b hb => hfr b (hok.block hb).1) (fun _ _ => rfl) (Mem.le_refl _) fun b hb => (hok.block hb).2
def argC (S : TS V.N) : List (Ty V.ι) → List (TV V.N) → Option (List (Nat × TO V.N) × List (Leaf V.N))
 | [], [] => some ([], [])
 | .sl e :: ts, .vh n :: xs => match S.own? n with
  | some (.vec te e' ys) => match argC S ts xs with
   | some (l, ls) => some ((n, .vec te e' ys) :: l, ⟨.sl e', ys⟩ :: ls)
   | none => none
  | _ => none
 | t :: ts, x :: xs => match leafOf V false t x with
  | some l0 => match argC S ts xs with
   | some (l, ls) => some (l, l0 :: ls)
   | none => none
  | none => none
 | _, _ => none
def hasVh : List (TV V.N) → Bool
 | [] => false
 | .vh _ :: _ => true
 | _ :: r => hasVh r
def arg1 (S : TS V.N) : Pt V.ι → TV V.N → Option (List (Nat × TO V.N) × List (Leaf V.N))
 | .dat (.sl e), .vh n => match S.own? n with
  | some (.vec te e' xs) => if e' = e then some ([(n, .vec te e' xs)], [⟨.sl e', xs⟩]) else none
  | _ => none
 | .dat (.st i), .agg vs => match hasVh vs with
  | true => match argC S (V.tys i) vs with
   | some (p :: l, ls) => match V.ofCells i ls with
    | some y => some (p :: l, [⟨.st i, y⟩])
    | none => none
   | _ => none
  | false => match mt1 V [] (.dat (.st i)) (.agg vs) with
   | some (_, ls) => some ([], ls)
   | none => none
 | .dat t, x => match mt1 V [] (.dat t) x with
  | some (_, ls) => some ([], ls)
  | none => none
 | .fn f [] [], .fn f' [] [] => if f = f' then some ([], []) else none
 | _, _ => none
def argsL (S : TS V.N) : List (Pt V.ι) → List (TV V.N) → Option (List (Nat × TO V.N) × List (Leaf V.N))
 | [], [] => some ([], [])
 | p :: ps, x :: xs => match arg1 S p x with
  | some (l, ls) => match argsL S ps xs with
   | some (l', ls') => some (l ++ l', ls ++ ls')
   | none => none
  | none => none
 | _, _ => none
def callPure (P : Program) (sig : Sig V) (F : HL V.N sig.tys → Option (HL V.N sig.rcut.tys)) (A : Type) (args : List (TV V.N)) (S : TS V.N) (k : TE V.N → Option A) : Option A :=
 match argsL S sig.params args with
 | some (lent, ls) => match toHL sig.tys ls with
  | some v => F v >>= fun r => match resV P sig r with
   | some x => match lent with
    | [] => match TV.plain x with
     | true => k { val := x }
     | false => none
    | p :: l => match flatV x with
     | true => k { val := x, acc := (p :: l).map (·.1), upd := (p :: l) ++ (p :: l).map fun q => (q.1, .gone (TO.len (some q.2))) }
     | false => none
   | none => none
  | none => none
 | none => none
theorem mt1_dat {σ σ' : Names} {t : Ty V.ι} {x : TV V.N} {ls : List (Leaf V.N)} (h : mt1 V σ (.dat t) x = some (σ', ls)) : σ' = σ := by
 cases x with
 | lf t' y =>
  simp only [mt1] at h
  have := (if_some h).2
  simp only [Option.some.injEq, Prod.mk.injEq] at this
  exact this.1.symm
 | raw v =>
  unfold mt1 at h
  split at h <;> first
   | (simp only [Option.some.injEq, Prod.mk.injEq] at h; exact h.1.symm)
   | (cases h; done)
   | contradiction
 | agg cs =>
  unfold mt1 at h
  split at h <;> first
   | (split at h
      ·simp only [Option.some.injEq, Prod.mk.injEq] at h; exact h.1.symm
      ·cases h)
   | (cases h; done)
   | contradiction
 | _ => simp [mt1] at h
theorem LentTo.pre {own : List (Nat × Own)} {a b c : H} (h : H.le a b) (k : LentTo own b c) : LentTo own a c := fun E M w v hM ho hv => k E M w v hM ho (h E M v hv)
theorem LentTo.post {own : List (Nat × Own)} {a b c : H} (h : LentTo own a b) (k : H.le b c) : LentTo own a c := fun E M w v hM ho hv => k E _ v (h E M w v hM ho hv)
def Among (own : List (Nat × Own)) (l : List (Nat × TO V.N)) : Prop := ∀ n te e ys, (n, TO.vec te e ys) ∈ l → gt own n = some (.vec te (tsz V.sz e) (ys.map fun x => encR V.sz V.enc e x))
theorem argC_sound {S : TS V.N} : ∀ {ts : List (Ty V.ι)} {xs : List (TV V.N)} {l : List (Nat × TO V.N)} {ls : List (Leaf V.N)}, argC S ts xs = some (l, ls) →
  xs.length = ls.length ∧ (∀ n o, (n, o) ∈ l → ∃ te e ys, o = .vec te e ys ∧ S.own? n = some (.vec te e ys)) ∧
   ∀ own : List (Nat × Own), Among own l → ∀ (i : Nat) (x : TV V.N) (l0 : Leaf V.N), xs[i]? = some x → ls[i]? = some l0 → LentTo own (encV V S.len x) (.d (encD V.sz V.enc l0.t l0.x))
 | [], [], l, ls, h => by
  simp [argC] at h; obtain ⟨rfl, rfl⟩ := h
  exact ⟨rfl, fun n o hm => by simp at hm, fun own _ i x l0 hx => by simp at hx⟩
 | [], _ :: _, l, ls, h => by simp [argC] at h
 | _ :: _, [], l, ls, h => by unfold argC at h; split at h <;> first | (cases h; done) | contradiction
 | t :: ts, x :: xs, l, ls, h => by
  unfold argC at h
  split at h
  ·rename_i heq _; cases heq
  ·rename_i e ts' n xs' heq1 heq2
   simp only [List.cons.injEq] at heq1 heq2
   obtain ⟨rfl, rfl⟩ := heq1
   obtain ⟨rfl, rfl⟩ := heq2
   split at h
   ·rename_i te e' ys hn
    split at h
    ·rename_i l' ls' h2
     simp at h; obtain ⟨rfl, rfl⟩ := h
     obtain ⟨b1, b2, b3⟩ := argC_sound h2
     refine ⟨by simp [b1], fun m o hm => ?_, fun own hown i y l0 hy hl => ?_⟩
     ·rcases List.mem_cons.1 hm with he | hm
      ·simp only [Prod.mk.injEq] at he
       obtain ⟨rfl, rfl⟩ := he
       exact ⟨te, e', ys, rfl, hn⟩
      ·exact b2 m o hm
     ·cases i with
      | zero =>
       simp at hy hl; subst hy; subst hl
       have := LentTo.vh (hown n te e' ys List.mem_cons_self)
       simp only [encV, encD, len_vec hn]
       rw [List.length_map] at this
       exact this
      | succ i => exact b3 own (fun m a b c hm => hown m a b c (List.mem_cons_of_mem _ hm)) i y l0 (by simpa using hy) (by simpa using hl)
    ·cases h
   ·cases h
  ·rename_i t' ts' x' xs' _ heq1 heq2
   simp only [List.cons.injEq] at heq1 heq2
   obtain ⟨rfl, rfl⟩ := heq1
   obtain ⟨rfl, rfl⟩ := heq2
   split at h
   ·rename_i l0 hl
    split at h
    ·rename_i l' ls' h2
     simp at h; obtain ⟨rfl, rfl⟩ := h
     obtain ⟨b1, b2, b3⟩ := argC_sound h2
     refine ⟨by simp [b1], b2, fun own hown i y l1 hy hl1 => ?_⟩
     cases i with
     | zero =>
      simp at hy hl1; subst hy; subst hl1
      have hls : leavesOf V false [t] [x] = some [l0] := by simp [leavesOf, hl]
      obtain ⟨ds, e1, e2, _⟩ := leavesOf_sound (ω := S.len) hls
      simp only [encL] at e1
      obtain ⟨d, hd⟩ : ∃ d, ds = [d] := by
       match ds, e1 with
       | [d], _ => exact ⟨d, rfl⟩
       | [], e1 => simp at e1
       | _ :: _ :: _, e1 => simp at e1
      subst hd
      simp only [List.map_cons, List.map_nil, List.cons.injEq, and_true] at e1
      rw [e1]
      obtain ⟨d0, g1, g2⟩ := e2.get 0 (encD V.sz V.enc l0.t l0.x) rfl
      simp at g1; subst g1
      refine LentTo.le fun E M a hr => ?_
      cases hr with
      | d q => exact .d (g2 M a q)
     | succ i => exact b3 own hown i y l1 (by simpa using hy) (by simpa using hl1)
    ·cases h
   ·cases h
  ·cases h
theorem arg1_sound {S : TS V.N} {p : Pt V.ι} {x : TV V.N} {l : List (Nat × TO V.N)} {ls : List (Leaf V.N)} (h : arg1 S p x = some (l, ls)) :
  (∃ x0, (∀ rest, bd1 V p (ls ++ rest) = some (x0, rest)) ∧ ∀ ω0 : Nat → Nat, (l = [] → H.le (encV V S.len x) (encV V ω0 x0)) ∧ ∀ own, Among own l → LentTo own (encV V S.len x) (encV V ω0 x0)) ∧
    ∀ n o, (n, o) ∈ l → ∃ te e xs, o = .vec te e xs ∧ S.own? n = some (.vec te e xs) := by
 unfold arg1 at h
 split at h
 ·rename_i e n
  split at h
  ·rename_i te e' xs hn
   have h' := if_some h; clear h
   obtain ⟨he, h⟩ := h'
   subst he
   simp at h; obtain ⟨rfl, rfl⟩ := h
   refine ⟨⟨.lf (.sl e') xs, fun rest => rfl, fun ω0 => ⟨fun hl => by simp at hl, fun own hown => ?_⟩⟩, fun m o hm => ?_⟩
   ·have := LentTo.vh (hown n te e' xs List.mem_cons_self)
    simp only [encV, encD, len_vec hn]
    rw [List.length_map] at this
    exact this
   ·simp at hm
    obtain ⟨rfl, rfl⟩ := hm
    exact ⟨te, e', xs, rfl, hn⟩
  ·cases h
 ·rename_i i vs
  split at h
  ·split at h
   ·rename_i p0 l0 ls0 hC
    split at h
    ·rename_i y hy
     simp at h; obtain ⟨rfl, rfl⟩ := h
     obtain ⟨b1, b2, b3⟩ := argC_sound hC
     refine ⟨⟨.lf (.st i) y, fun rest => rfl, fun ω0 => ⟨fun hl => by simp at hl, fun own hown => ?_⟩⟩, b2⟩
     have hc := V.of_cells i ls0 y hy
     simp only [encV, encD]
     refine LentTo.pre (mkAgg_to _) (LentTo.post (LentTo.agg (l0 := ls0.map fun l => .d (encD V.sz V.enc l.t l.x)) (by rw [List.length_map, encL_len]; exact b1.symm) fun i a a0 ha ha0 => ?_) ?_)
     ·rw [encL_map, List.getElem?_map, Option.map_eq_some_iff] at ha
      rw [List.getElem?_map, Option.map_eq_some_iff] at ha0
      obtain ⟨u, hu, rfl⟩ := ha
      obtain ⟨l1, hl1, rfl⟩ := ha0
      exact b3 own hown i u l1 hu hl1
     ·have e1 : V.enc i y = ls0.map fun l => encD V.sz V.enc l.t l.x := by rw [V.enc_cells, hc]
      have := mkAgg_of ((ls0.map fun l => encD V.sz V.enc l.t l.x).map H.d)
      rw [mkAgg, allD_map] at this
      rw [e1]
      rw [List.map_map] at this
      exact this
    ·cases h
   ·cases h
  ·split at h
   ·rename_i σ ls' h1
    simp at h; obtain ⟨rfl, rfl⟩ := h
    obtain ⟨_, _, _, x0, a1, a2⟩ := mt1_sound h1
    have hσ := mt1_dat h1
    subst hσ
    have hle : ∀ ω0 : Nat → Nat, H.le (encV V S.len (.agg vs)) (encV V ω0 x0) := fun ω0 E M v hv => a2 [] [] E E M S.len ω0 v (Sub.refl _) rfl ⟨fun c n hc => by simp [gt] at hc, fun c n hc => by simp at hc⟩ hv
    exact ⟨⟨x0, a1, fun ω0 => ⟨fun _ => hle ω0, fun own _ => LentTo.le (hle ω0)⟩⟩, fun n o hm => by simp at hm⟩
   ·cases h
 ·rename_i t x' hne hne2
  split at h
  ·rename_i σ ls' h1
   simp at h; obtain ⟨rfl, rfl⟩ := h
   obtain ⟨_, _, _, x0, a1, a2⟩ := mt1_sound h1
   have hσ := mt1_dat h1
   subst hσ
   have hle : ∀ ω0 : Nat → Nat, H.le (encV V S.len x) (encV V ω0 x0) := fun ω0 E M v hv => a2 [] [] E E M S.len ω0 v (Sub.refl _) rfl ⟨fun c n hc => by simp [gt] at hc, fun c n hc => by simp at hc⟩ hv
   exact ⟨⟨x0, a1, fun ω0 => ⟨fun _ => hle ω0, fun own _ => LentTo.le (hle ω0)⟩⟩, fun n o hm => by simp at hm⟩
  ·cases h
 ·rename_i f f'
  have h' := if_some h; clear h
  obtain ⟨he, h⟩ := h'
  subst he
  simp at h; obtain ⟨rfl, rfl⟩ := h
  have hle : ∀ ω0 : Nat → Nat, H.le (encV V S.len (.fn f [] [])) (encV V ω0 (.fn f [] [] : TV V.N)) := fun ω0 => by simp only [encV, encL]; exact H.le.refl _
  exact ⟨⟨.fn f [] [], fun rest => rfl, fun ω0 => ⟨fun _ => hle ω0, fun own _ => LentTo.le (hle ω0)⟩⟩, fun n o hm => by simp at hm⟩
 ·cases h
theorem argsL_sound {S : TS V.N} : ∀ {ps : List (Pt V.ι)} {xs : List (TV V.N)} {l : List (Nat × TO V.N)} {ls : List (Leaf V.N)}, argsL S ps xs = some (l, ls) →
  ∃ xs0 : List (TV V.N), xs0.length = xs.length ∧ (∀ rest, bdL V ps (ls ++ rest) = some (xs0, rest)) ∧ (∀ (i : Nat) (x x0 : TV V.N), xs[i]? = some x → xs0[i]? = some x0 →
   ∀ ω0 : Nat → Nat, (l = [] → H.le (encV V S.len x) (encV V ω0 x0)) ∧ ∀ own, Among own l → LentTo own (encV V S.len x) (encV V ω0 x0)) ∧
   ∀ n o, (n, o) ∈ l → ∃ te e ys, o = .vec te e ys ∧ S.own? n = some (.vec te e ys)
 | [], [], l, ls, h => by
  simp [argsL] at h; obtain ⟨rfl, rfl⟩ := h
  exact ⟨[], rfl, fun rest => rfl, fun i x x0 hx => by simp at hx, fun n o hm => by simp at hm⟩
 | [], _ :: _, l, ls, h => by simp [argsL] at h
 | _ :: _, [], l, ls, h => by simp [argsL] at h
 | p :: ps, x :: xs, l, ls, h => by
  simp only [argsL] at h
  split at h
  ·rename_i l1 ls1 h1
   split at h
   ·rename_i l2 ls2 h2
    simp at h; obtain ⟨rfl, rfl⟩ := h
    obtain ⟨⟨x0, a1, a2⟩, a3⟩ := arg1_sound h1
    obtain ⟨xs0, b1, b2, b3, b4⟩ := argsL_sound h2
    refine ⟨x0 :: xs0, by simp [b1], fun rest => by simp only [bdL, List.append_assoc, a1, b2], fun i y y0 hy hy0 ω0 => ?_, fun n o hm => ?_⟩
    ·cases i with
     | zero =>
      simp at hy hy0; subst hy; subst hy0
      exact ⟨fun hl => (a2 ω0).1 (List.append_eq_nil_iff.1 hl).1, fun own hown => (a2 ω0).2 own fun m a b c hm => hown m a b c (List.mem_append_left _ hm)⟩
     | succ i =>
      have := b3 i y y0 (by simpa using hy) (by simpa using hy0) ω0
      exact ⟨fun hl => this.1 (List.append_eq_nil_iff.1 hl).2, fun own hown => this.2 own fun m a b c hm => hown m a b c (List.mem_append_right _ hm)⟩
    ·rcases List.mem_append.1 hm with hm | hm
     ·exact a3 n o hm
     ·exact b4 n o hm
   ·cases h
  ·cases h
theorem newNames_sub {own : List (Nat × Own)} : ∀ {l : List (Nat × Own)}, (∀ p ∈ l, ∃ o, gt own p.1 = some o) → newNames own l = []
 | [], _ => rfl
 | (n, o) :: r, h => by
  obtain ⟨o', ho⟩ := h (n, o) List.mem_cons_self
  simp only at ho
  simp only [newNames, ho]
  exact newNames_sub fun p hp => h p (List.mem_cons_of_mem _ hp)
theorem callPure_ok {P : Program} {fid : Nat} {sig : Sig V} {F : HL V.N sig.tys → Option (HL V.N sig.rcut.tys)} (hF : SigOk P fid sig F) (ho : sig.objs = []) (hk0 : sig.keep = []) {A : Type} {args : List (TV V.N)} {S : TS V.N} {dst : Option Tmp}
  {k : TE V.N → Option A} {r : A} (h : callPure P sig F A args S k = some r) :
  ∃ te, k te = some r ∧ good S te ∧ ACall P fid (encL V S.len args) (encS V S).own? fun e' => ELe true e' (encE (S.app dst te).len te) := by
 unfold callPure at h
 split at h
 ·rename_i lent ls hargs
  split at h
  ·rename_i v hv
   obtain ⟨y, hy, h⟩ := some_bind h
   split at h
   ·rename_i x hx
    have hc := hF v y x hy hx
    have hkept : kept sig y = [] := by
     unfold kept
     rw [hk0, List.filter_eq_nil_iff]
     intro p _; simp
    rw [hkept] at hc
    obtain ⟨xs0, b1, b2, b3, b4⟩ := argsL_sound hargs
    have hls := toHL_of hv
    have hst : startOs sig v = (xs0, []) := by
     unfold startOs
     rw [hls]
     have := b2 []
     rw [List.append_nil] at this
     rw [this, ho]
     rfl
    have hown0 : (startS sig v).own = [] := by unfold startS; rw [hst]
    rw [hst, hown0] at hc
    simp only [encOs, List.filterMap_nil] at hc
    generalize (startS sig v).len = ω0 at hc
    cases lent with
    | nil =>
     simp only at h
     split at h
     ·rename_i hpl
      refine ⟨_, h, good_val S x [], ?_⟩
      have hw := hc.weak (args' := encL V S.len args) (by rw [encL_len, encL_len]; exact b1.symm) fun i a a0 ha ha0 => by
       rw [encL_map, List.getElem?_map, Option.map_eq_some_iff] at ha ha0
       obtain ⟨u, hu, rfl⟩ := ha
       obtain ⟨u0, hu0, rfl⟩ := ha0
       exact (b3 i u u0 hu hu0 ω0).1 rfl
      have hplH : H.plain (encV V (conc V sig.rcut y).len x) = true := by
       have : ∀ z : H, (∀ n, H.has n z = false) → H.plain z = true := by
        intro z
        refine H.rec (motive_1 := fun z => (∀ n, H.has n z = false) → H.plain z = true) (motive_2 := fun l => (∀ n, H.hasL n l = false) → H.plainL l = true) ?_ ?_ ?_ ?_ ?_ ?_ ?_ ?_ ?_ ?_ ?_ ?_ ?_ z
        ·intro _ _; rfl
        ·intro _; rfl
        ·intro m o hn; have := hn m; simp [H.has] at this
        ·intro m o hn; have := hn m; simp [H.has] at this
        ·intro m s i o hn; have := hn m; simp [H.has] at this
        ·intro m hn; have := hn m; simp [H.has] at this
        ·intro m b hn; have := hn m; simp [H.has] at this
        ·intro m hn; have := hn m; simp [H.has] at this
        ·intro cs ih hn; simp only [H.plain]; exact ih fun n => by have := hn n; simpa [H.has] using this
        ·intro cs ih hn; simp only [H.plain]; exact ih fun n => by have := hn n; simpa [H.has] using this
        ·intro f a b ih1 ih2 hn
         simp only [H.plain, Bool.and_eq_true]
         exact ⟨ih1 fun n => by have := hn n; simp only [H.has, Bool.or_eq_false_iff] at this; exact this.1, ih2 fun n => by have := hn n; simp only [H.has, Bool.or_eq_false_iff] at this; exact this.2⟩
        ·intro _; rfl
        ·intro x r ih1 ih2 hn
         simp only [H.plainL, Bool.and_eq_true]
         exact ⟨ih1 fun n => by have := hn n; simp only [H.hasL, Bool.or_eq_false_iff] at this; exact this.1, ih2 fun n => by have := hn n; simp only [H.hasL, Bool.or_eq_false_iff] at this; exact this.2⟩
       exact this _ fun n => by rw [encV_has]; exact plain_has hpl n
      refine acall_pure hw hplH ?_
      exact ele_eq (dst := dst) (l := []) (plain_enc hpl _ _)
     ·cases h
    | cons p l =>
     simp only at h
     split at h
     ·rename_i hfl
      generalize hL : p :: l = L at h hargs b3 b4
      have hpl := flat_plain hfl
      refine ⟨_, h, fun m o hm => ?_, ?_⟩
      ·right
       simp only [gt_app] at hm
       cases hq : gt L m with
       | some o' =>
        rw [hq] at hm; simp at hm; subst hm
        obtain ⟨te, e, ys, rfl, h2⟩ := b4 m o' (gt_mem hq)
        rw [len_vec h2]; rfl
       | none =>
        rw [hq] at hm
        have hm' := gt_mem hm
        obtain ⟨q, hq1, hq2⟩ := List.mem_map.1 hm'
        simp only [Prod.mk.injEq] at hq2
        obtain ⟨rfl, rfl⟩ := hq2
        obtain ⟨te, e, ys, h1, h2⟩ := b4 q.1 q.2 hq1
        rw [len_vec h2, h1]; rfl
      ·let own : List (Nat × Own) := L.filterMap fun q => (encO V S.len q.2).map fun o => (q.1, o)
       have hmap : ∀ l' : List (Nat × TO V.N), (∀ n o, (n, o) ∈ l' → ∃ te e ys, o = TO.vec te e ys ∧ S.own? n = some (.vec te e ys)) → ∀ ω : Nat → Nat,
         l'.map (fun q => (q.1, encO V ω q.2)) = (l'.filterMap fun q => (encO V S.len q.2).map fun o => (q.1, o)).map (fun q => (q.1, some q.2)) ∧
         (l'.map fun q : Nat × TO V.N => (q.1, TO.gone (N := V.N) (TO.len (some q.2)))).map (fun q => (q.1, encO V ω q.2)) = (l'.filterMap fun q => (encO V S.len q.2).map fun o => (q.1, o)).map (fun q => (q.1, none)) ∧
         l'.map (·.1) = (l'.filterMap fun q => (encO V S.len q.2).map fun o => (q.1, o)).map (·.1) := by
        intro l'
        induction l' with
        | nil => intro _ ω; exact ⟨rfl, rfl, rfl⟩
        | cons q r ih =>
         intro hq ω
         obtain ⟨n, o⟩ := q
         obtain ⟨te, e, ys, rfl, h2⟩ := hq n o List.mem_cons_self
         obtain ⟨i1, i2, i3⟩ := ih (fun n o hm => hq n o (List.mem_cons_of_mem _ hm)) ω
         have e0 : encO V S.len (.vec te e ys) = some (.vec te (tsz V.sz e) (ys.map fun x => encR V.sz V.enc e x)) := rfl
         simp only [List.filterMap_cons, e0, Option.map_some, List.map_cons]
         rw [i1, i2, i3]
         exact ⟨rfl, rfl, rfl⟩
       have hgt : ∀ n o, gt own n = some o → ∃ te e ys, (n, TO.vec te e ys) ∈ L ∧ S.own? n = some (.vec te e ys) ∧ o = .vec te (tsz V.sz e) (ys.map fun x => encR V.sz V.enc e x) := by
        intro n o hn
        obtain ⟨z, h1, h2⟩ := gt_filterMap hn
        obtain ⟨te, e, ys, rfl, h3⟩ := b4 n z h1
        simp only [encO, Option.some.injEq] at h2
        exact ⟨te, e, ys, h1, h3, h2.symm⟩
       have hgt' : ∀ n te e ys, (n, TO.vec te e ys) ∈ L → gt own n = some (.vec te (tsz V.sz e) (ys.map fun x => encR V.sz V.enc e x)) := by
        intro n te e ys hn
        have hkey : n ∈ own.map (·.1) := by rw [← (hmap L b4 S.len).2.2]; exact List.mem_map_of_mem (f := (·.1)) hn
        obtain ⟨o, hoo⟩ := gt_some hkey
        obtain ⟨te', e', ys', h1, h2, h3⟩ := hgt n o hoo
        obtain ⟨te2, e2, ys2, h4, h5⟩ := b4 n _ hn
        cases h4
        rw [h2] at h5; cases h5
        rw [hoo, h3]
       have hat := lend (args := encL V S.len args) (own := own) hc (by rw [encL_len, encL_len]; exact b1.symm) (fun i a a0 ha ha0 => by
        rw [encL_map, List.getElem?_map, Option.map_eq_some_iff] at ha ha0
        obtain ⟨u, hu, rfl⟩ := ha
        obtain ⟨u0, hu0, rfl⟩ := ha0
        exact (b3 i u u0 hu hu0 ω0).2 own hgt') (fun n o hn => by
        obtain ⟨te, e, ys, _, _, rfl⟩ := hgt n o hn
        exact ⟨_, _, _, rfl⟩) (fun E E' M M' v hv => flat_any hfl hv)
       refine ⟨own, _, own, hat, fun q hq => ?_, ?_⟩
       ·obtain ⟨z, hz1, hz2⟩ := List.mem_filterMap.1 hq
        obtain ⟨te, e, ys, h1, h2⟩ := b4 z.1 z.2 hz1
        rw [h1] at hz2
        simp only [encO, Option.map_some, Option.some.injEq] at hz2
        subst hz2
        exact own_vec h2
       ·refine ele_upd ?_ ?_ ?_ ?_
        ·exact plain_enc hpl _ _
        ·simp only [callEff]
         exact newNames_sub fun p hp => by
          obtain ⟨o, hoo⟩ := gt_some (List.mem_map_of_mem (f := (·.1)) hp)
          exact ⟨o, hoo⟩
        ·simp only [callEff, List.map_append]
         obtain ⟨i1, i2, _⟩ := hmap L b4 (S.app dst { val := x, acc := L.map (·.1), upd := L ++ L.map fun q => (q.1, .gone (TO.len (some q.2))) }).len
         rw [i1, i2]
        ·simp only [callEff]
         exact (hmap L b4 S.len).2.2.symm
     ·cases h
   ·cases h
  ·cases h
 ·cases h
end
end Go.Tx
end
section
namespace Go.Tx
open Go.Awp
variable [Inhabited GMem]
def bodyOf (f : Func) : Code := match f.body with
 | some c => c
 | none => .skip
def loopsIn : Code → List Code
 | .seq a b => loopsIn a ++ loopsIn b
 | .block _ x => loopsIn x
 | .cond _ a b => loopsIn a ++ loopsIn b
 | .loop b => [b]
 | .scope b => loopsIn b
 | _ => []
def loopNo (c : Code) (i : Nat) : Code := match (loopsIn c)[i]? with
 | some b => b
 | none => .skip
def jumpsIn : Code → List Code
 | .seq a b => jumpsIn a ++ jumpsIn b
 | .block _ x => jumpsIn x
 | .cond _ a b => jumpsIn a ++ jumpsIn b
 | .scope b => b :: jumpsIn b
 | _ => []
def scopeNo (c : Code) (i : Nat) : Code := match (jumpsIn c)[i]? with
 | some b => b
 | none => .skip
def restOf (c : Code) (l : Nat) : Code := match findLabel c l with
 | some b => b
 | none => .skip
def AllB (p : Code → Prop) : List Code → Prop
 | [] => True
 | b :: r => p b ∧ AllB p r
theorem AllB_app {p : Code → Prop} : ∀ {l m : List Code}, AllB p (l ++ m) → AllB p l ∧ AllB p m
 | [], _, h => ⟨trivial, h⟩
 | _ :: _, _, h => ⟨⟨h.1, (AllB_app h.2).1⟩, (AllB_app h.2).2⟩
theorem kcast {a b : Prop} (h : a = b) (x : a) : b := h ▸ x
section
variable {V : View}
def LoopsP (C : Ctx) (X : Xc V) (b : Code) : Prop := ∀ la, X.loops (firstId b) = some la → LoopOk C b la
def JumpsP (C : Ctx) (X : Xc V) (x : Code) : Prop := ∀ l la, X.jumps (firstId x) = some (l, la) → JumpOk C x l la
theorem lok_all2 {C : Ctx} {X : Xc V} : ∀ {c : Code}, AllB (LoopsP C X) (loopsIn c) → AllB (JumpsP C X) (jumpsIn c) → LOk C X c := by
 intro c
 induction c with
 | seq a b iha ihb => intro h g; exact ⟨iha (AllB_app h).1 (AllB_app g).1, ihb (AllB_app h).2 (AllB_app g).2⟩
 | block id x ih => intro h g; exact ih h g
 | scope x ih => intro h g; exact ⟨ih h g.2, g.1⟩
 | cond c a b iha ihb => intro h g; exact ⟨iha (AllB_app h).1 (AllB_app g).1, ihb (AllB_app h).2 (AllB_app g).2⟩
 | loop b ih => intro h g; exact h.1
 | _ => intro _ _; trivial
theorem allB_of {p : Code → Prop} (h : ∀ b, p b) : ∀ l : List Code, AllB p l
 | [] => trivial
 | b :: r => ⟨h b, allB_of h r⟩
theorem lok_all {C : Ctx} {X : Xc V} {c : Code} (h : AllB (LoopsP C X) (loopsIn c)) (hj : ∀ k, X.jumps k = none := by intro k; rfl) : LOk C X c :=
 lok_all2 h (allB_of (fun x l la e => by rw [hj] at e; cases e) _)
theorem jump_at {C : Ctx} {X : Xc V} {x : Code} {l : Nat} {la0 : LoopA V X.sh} (e : X.jumps (firstId x) = some (l, la0)) (h : JumpOk C x l la0) : JumpsP C X x := fun l' la hl => by
 rw [e] at hl
 cases hl
 exact h
theorem loop_at {C : Ctx} {X : Xc V} {b : Code} {la0 : LoopA V X.sh} (e : X.loops (firstId b) = some la0) (h : LoopOk C b la0) : LoopsP C X b := fun la hl => by
 rw [e] at hl
 cases hl
 exact h
theorem call_none {P : Program} : CallerOk P (fun (_ : Type) _ _ _ _ => none : Caller V) := fun A fid args S dst k r h => by cases h
end
end Go.Tx
end
section
namespace Go.Tx
open Go.Awp
variable [Inhabited GMem]
section
variable {ι : Type} {N : ι → Type}
mutual
def TV.ren (f : Nat → Nat) : TV N → TV N
 | .bp n o => .bp (f n) o
 | .vh n => .vh (f n)
 | .ep n s i o => .ep (f n) s i o
 | .mp n => .mp (f n)
 | .np n b => .np (f n) b
 | .sd n => .sd (f n)
 | .agg cs => .agg (TV.renL f cs)
 | .tup vs => .tup (TV.renL f vs)
 | .fn g a b => .fn g (TV.renL f a) (TV.renL f b)
 | .lf t x => .lf t x
 | .raw v => .raw v
 | .rp t x off => .rp t x off
 | .junk => .junk
def TV.renL (f : Nat → Nat) : List (TV N) → List (TV N)
 | [] => []
 | x :: r => TV.ren f x :: TV.renL f r
end
def TO.ren (f : Nat → Nat) : TO N → TO N
 | .box o cells => .box o (TV.renL f cells)
 | .bst i x => .bst i x
 | .vec te e xs => .vec te e xs
 | .map k v es => .map k v es
 | .iter s p => .iter s p
 | .gone l => .gone l
mutual
def TV.allN (p : Nat → Bool) : TV N → Bool
 | .bp n _ => p n
 | .vh n => p n
 | .ep n _ _ _ => p n
 | .mp n => p n
 | .np n _ => p n
 | .sd n => p n
 | .agg cs => TV.allNL p cs
 | .tup vs => TV.allNL p vs
 | .fn _ a b => TV.allNL p a && TV.allNL p b
 | .lf .. => true
 | .raw _ => true
 | .rp .. => true
 | .junk => true
def TV.allNL (p : Nat → Bool) : List (TV N) → Bool
 | [] => true
 | x :: r => TV.allN p x && TV.allNL p r
end
def TO.allN (p : Nat → Bool) : TO N → Bool
 | .box _ cells => TV.allNL p cells
 | .bst .. => true
 | .vec .. => true
 | .map .. => true
 | .iter .. => true
 | .gone _ => false
end
section
variable {V : View}
mutual
theorem TV.allN_has {p : Nat → Bool} {n : Nat} : ∀ {x : TV V.N}, TV.allN p x = true → TV.has n x = true → p n = true
 | .bp m o, h, hn => by simp [TV.has] at hn; subst hn; simpa [TV.allN] using h
 | .vh m, h, hn => by simp [TV.has] at hn; subst hn; simpa [TV.allN] using h
 | .ep m s i o, h, hn => by simp [TV.has] at hn; subst hn; simpa [TV.allN] using h
 | .mp m, h, hn => by simp [TV.has] at hn; subst hn; simpa [TV.allN] using h
 | .np m b, h, hn => by simp [TV.has] at hn; subst hn; simpa [TV.allN] using h
 | .sd m, h, hn => by simp [TV.has] at hn; subst hn; simpa [TV.allN] using h
 | .agg cs, h, hn => by simp only [TV.allN] at h; simp only [TV.has] at hn; exact TV.allNL_has h hn
 | .tup cs, h, hn => by simp only [TV.allN] at h; simp only [TV.has] at hn; exact TV.allNL_has h hn
 | .fn f a b, h, hn => by
  simp only [TV.allN, Bool.and_eq_true] at h
  simp only [TV.has, Bool.or_eq_true] at hn
  rcases hn with hn | hn
  ·exact TV.allNL_has h.1 hn
  ·exact TV.allNL_has h.2 hn
 | .lf .., h, hn => by simp [TV.has] at hn
 | .raw _, h, hn => by simp [TV.has] at hn
 | .rp .., h, hn => by simp [TV.has] at hn
 | .junk, h, hn => by simp [TV.has] at hn
theorem TV.allNL_has {p : Nat → Bool} {n : Nat} : ∀ {l : List (TV V.N)}, TV.allNL p l = true → TV.hasL n l = true → p n = true
 | [], h, hn => by simp [TV.hasL] at hn
 | x :: r, h, hn => by
  simp only [TV.allNL, Bool.and_eq_true] at h
  simp only [TV.hasL, Bool.or_eq_true] at hn
  rcases hn with hn | hn
  ·exact TV.allN_has h.1 hn
  ·exact TV.allNL_has h.2 hn
end
theorem TO.allN_has {p : Nat → Bool} {n : Nat} {o : TO V.N} (h : TO.allN p o = true) (hn : TO.has n o = true) : p n = true := by
 cases o with
 | box oty cells => exact TV.allNL_has h hn
 | bst i x => simp [TO.has] at hn
 | vec te e xs => simp [TO.has] at hn
 | map k v es => simp [TO.has] at hn
 | iter s p => simp [TO.has] at hn
 | gone l => simp [TO.has] at hn
mutual
theorem H.allN_of {p : Nat → Bool} : ∀ {x : H}, (∀ n, H.has n x = true → p n = true) → H.allN p x = true
 | .bp m o, h => by simp only [H.allN]; exact h m (by simp [H.has])
 | .vh m l, h => by simp only [H.allN]; exact h m (by simp [H.has])
 | .ep m s i o, h => by simp only [H.allN]; exact h m (by simp [H.has])
 | .mp m, h => by simp only [H.allN]; exact h m (by simp [H.has])
 | .np m b, h => by simp only [H.allN]; exact h m (by simp [H.has])
 | .sd m, h => by simp only [H.allN]; exact h m (by simp [H.has])
 | .agg cs, h => by simp only [H.allN]; exact H.allNL_of fun n hn => h n (by simpa [H.has] using hn)
 | .tup cs, h => by simp only [H.allN]; exact H.allNL_of fun n hn => h n (by simpa [H.has] using hn)
 | .fn f a b, h => by
  simp only [H.allN, Bool.and_eq_true]
  exact ⟨H.allNL_of fun n hn => h n (by simp [H.has, hn]), H.allNL_of fun n hn => h n (by simp [H.has, hn])⟩
 | .d _, h => by simp [H.allN]
 | .junk, h => by simp [H.allN]
theorem H.allNL_of {p : Nat → Bool} : ∀ {l : List H}, (∀ n, H.hasL n l = true → p n = true) → H.allNL p l = true
 | [], h => by simp [H.allNL]
 | x :: r, h => by
  simp only [H.allNL, Bool.and_eq_true]
  exact ⟨H.allN_of fun n hn => h n (by simp [H.hasL, hn]), H.allNL_of fun n hn => h n (by simp [H.hasL, hn])⟩
end
theorem allD_ren (f : Nat → Nat) : ∀ l : List H, allD (H.renL f l) = allD l
 | [] => rfl
 | x :: r => by
  have ih := allD_ren f r
  cases x <;> simp [H.renL, H.ren, allD, ih]
theorem mkAgg_ren (f : Nat → Nat) (l : List H) : H.ren f (mkAgg l) = mkAgg (H.renL f l) := by
 unfold mkAgg
 rw [allD_ren]
 split <;> simp [H.ren]
theorem encRaw_ren (f : Nat → Nat) (v : Value) : H.ren f (encRaw v) = encRaw v := by cases v <;> simp [encRaw, H.ren]
mutual
theorem encV_ren {f : Nat → Nat} {ω ω' : Nat → Nat} : ∀ x : TV V.N, (∀ n, TV.has n x = true → ω' (f n) = ω n) → encV V ω' (TV.ren f x) = H.ren f (encV V ω x)
 | .bp m o, h => by simp [TV.ren, encV, H.ren]
 | .vh m, h => by simp [TV.ren, encV, H.ren, h m (by simp [TV.has])]
 | .ep m s i o, h => by simp [TV.ren, encV, H.ren]
 | .mp m, h => by simp [TV.ren, encV, H.ren]
 | .np m b, h => by simp [TV.ren, encV, H.ren]
 | .sd m, h => by simp [TV.ren, encV, H.ren]
 | .agg cs, h => by simp only [TV.ren, encV, mkAgg_ren]; rw [encL_ren cs fun n hn => h n (by simpa [TV.has] using hn)]
 | .tup cs, h => by simp only [TV.ren, encV, H.ren]; rw [encL_ren cs fun n hn => h n (by simpa [TV.has] using hn)]
 | .fn g a b, h => by
  simp only [TV.ren, encV, H.ren]
  rw [encL_ren a fun n hn => h n (by simp [TV.has, hn]), encL_ren b fun n hn => h n (by simp [TV.has, hn])]
 | .lf t x, h => by simp [TV.ren, encV, H.ren]
 | .raw v, h => by simp [TV.ren, encV, encRaw_ren]
 | .rp t x o, h => by simp [TV.ren, encV, H.ren]
 | .junk, h => by simp [TV.ren, encV, H.ren]
theorem encL_ren {f : Nat → Nat} {ω ω' : Nat → Nat} : ∀ l : List (TV V.N), (∀ n, TV.hasL n l = true → ω' (f n) = ω n) → encL V ω' (TV.renL f l) = H.renL f (encL V ω l)
 | [], h => rfl
 | x :: r, h => by
  simp only [TV.renL, encL, H.renL]
  rw [encV_ren x fun n hn => h n (by simp [TV.hasL, hn]), encL_ren r fun n hn => h n (by simp [TV.hasL, hn])]
end
theorem renL_ds (f : Nat → Nat) : ∀ l : List D, H.renL f (l.map .d) = l.map .d
 | [] => rfl
 | x :: r => by simp only [List.map_cons, H.renL, H.ren, renL_ds f r]
theorem encO_ren {f : Nat → Nat} {ω ω' : Nat → Nat} (o : TO V.N) (h : ∀ n, TO.has n o = true → ω' (f n) = ω n) : encO V ω' (TO.ren f o) = (encO V ω o).map (Own.ren f) := by
 cases o with
 | box oty cells => simp only [TO.ren, encO, Option.map_some, Own.ren]; rw [encL_ren cells h]
 | bst i x => simp only [TO.ren, encO, Option.map_some, Own.ren]; rw [renL_ds]
 | vec te e xs => simp [TO.ren, encO, Own.ren]
 | map k v es => simp [TO.ren, encO, Own.ren]
 | iter s p => simp [TO.ren, encO, Own.ren]
 | gone l => simp [TO.ren, encO]
theorem FnAt.weak {P : Program} {f : FuncId} {args args' : List H} {own own1 own' : List (Nat × Own)} {r : H} (h : FnAt P f args own r own')
  (ha : ∀ E M vs, HReps E M vs args' → HReps E M vs args) (ho : ∀ E M w, Owns E M w own1 → Owns E M w own) (hk : ∀ n, (∃ o, gt own n = some o) ↔ ∃ o, gt own1 n = some o) : FnAt P f args' own1 r own' := by
 have hin : ∀ E b, inExt E own b ↔ inExt E own1 b := fun E b => by
  constructor
  ·rintro ⟨n, o, hn, hb⟩
   obtain ⟨o', ho'⟩ := (hk n).1 ⟨o, hn⟩
   exact ⟨n, o', ho', hb⟩
  ·rintro ⟨n, o, hn, hb⟩
   obtain ⟨o', ho'⟩ := (hk n).2 ⟨o, hn⟩
   exact ⟨n, o', ho', hb⟩
 refine ⟨h.1, fun E M w vs hgm hm how hvs => (h.2 E M w vs hgm hm (ho E M w how) (ha E M vs hvs)).mono ?_⟩
 rintro e w' ⟨v, E', M', rfl, hp, hE⟩
 refine ⟨v, E', M', rfl, { hp with mnew := fun b o v hv => ?_, home := fun n o b hn hb => ?_, frame := fun k hk hx => hp.frame k hk fun h1 => hx ((hin E k).1 h1) }, fun n hn => hE n ?_⟩
 ·rcases hp.mnew b o v hv with h1 | h1 | h1
  ·exact .inl h1
  ·exact .inr (.inl ((hin E b).1 h1))
  ·exact .inr (.inr h1)
 ·rcases hp.home n o b hn hb with h1 | h1
  ·exact .inl ((hin E b).1 h1)
  ·exact .inr h1
 ·rcases hn with hn | hn
  ·exact .inl hn
  ·exact .inr ((hk n).2 hn)
end
end Go.Tx
end
section
namespace Go.Tx
open Go.Awp
variable [Inhabited GMem]
section
variable {V : View}
def isIn (n : Nat) : List Nat → Bool
 | [] => false
 | k :: r => Nat.beq k n || isIn n r
def newN (ks : List Nat) : List Nat → List Nat
 | [] => []
 | n :: r => match isIn n ks with
  | true => newN ks r
  | false => n :: newN ks r
def callNew : Nat → Names → List Nat → Names
 | _, σ, [] => σ
 | b, σ, c :: r => match gt σ c with
  | some _ => callNew b σ r
  | none => callNew (b + 1) ((c, b) :: σ) r
def callIn (sig : Sig V) : Bool := sig.params.all (vhIn V sig.objs) && sig.objs.all (fun p => match p.2 with
 | .box _ ps => ps.all (vhIn V sig.objs)
 | _ => true) && sig.objs.all (fun p => Nat.ble given p.1)
def stays (S : TS V.N) (n : Nat) : TO V.N → Bool
 | .box _ _ => Nat.beq (S.len n) 0
 | .bst _ _ => Nat.beq (S.len n) 0
 | .map _ _ _ => Nat.beq (S.len n) 0
 | .iter _ _ => Nat.beq (S.len n) 0
 | .vec _ _ _ => true
 | _ => false
def callOut (S : TS V.N) (sig : Sig V) (τ : Names) (x : TV V.N) (os : List (Nat × TO V.N)) : Bool :=
 σok τ && os.all (fun p => Nat.ble given p.1 || Nat.blt (σf τ p.1) given) && TV.allN (fun n => (gt os n).isSome) x && os.all (fun p => TO.allN (fun n => (gt os n).isSome) p.2) &&
  os.all (fun p => !isIn p.1 (sig.objs.map (·.1)) || stays S (σf τ p.1) p.2) && distinct (os.map (·.1))
def keepLens (S : TS V.N) (ks : List Nat) (τ : Names) : List (Nat × TO V.N) → List (Nat × Nat)
 | [] => []
 | (c, o) :: r => match o with
  | .vec _ _ xs => match isIn c ks with
   | true => (xs.length, S.len (σf τ c)) :: keepLens S ks τ r
   | false => keepLens S ks τ r
  | _ => keepLens S ks τ r
def lenIfs {A : Type} : List (Nat × Nat) → Option A → Option A
 | [], k => k
 | (a, b) :: r, k => if a = b then lenIfs r k else none
theorem lenIfs_some {A : Type} {x : A} : ∀ {l : List (Nat × Nat)} {k : Option A}, lenIfs l k = some x → k = some x ∧ ∀ p ∈ l, p.1 = p.2
 | [], k, h => ⟨h, fun p hp => by cases hp⟩
 | (a, b) :: r, k, h => by
  simp only [lenIfs] at h
  split at h
  ·rename_i hab
   obtain ⟨h1, h2⟩ := lenIfs_some h
   refine ⟨h1, fun p hp => ?_⟩
   rcases List.mem_cons.1 hp with rfl | hp
   ·exact hab
   ·exact h2 p hp
  ·cases h
theorem keepLens_mem {S : TS V.N} {ks : List Nat} {τ : Names} {c : Nat} {te : TypeId} {e : Ty V.ι} {xs : List (den V.N e)} (hi : isIn c ks = true) : ∀ {l : List (Nat × TO V.N)}, (c, TO.vec te e xs) ∈ l → (xs.length, S.len (σf τ c)) ∈ keepLens S ks τ l
 | (d, o) :: r, h => by
  rcases List.mem_cons.1 h with h | h
  ·simp only [Prod.mk.injEq] at h
   obtain ⟨rfl, rfl⟩ := h
   simp only [keepLens, hi]
   exact List.mem_cons_self
  ·have ih := keepLens_mem (S := S) (τ := τ) hi h
   unfold keepLens
   split
   ·split
    ·exact List.mem_cons_of_mem _ ih
    ·exact ih
   ·exact ih
def callObj (P : Program) (sig : Sig V) (F : HL V.N sig.tys → Option (HL V.N sig.rcut.tys)) (A : Type) (args : List (TV V.N)) (S : TS V.N) (k : TE V.N → Option A) : Option A :=
 match mtL V [] sig.params args with
 | some (σ0, l0) => match mtO V S σ0 sig.objs with
  | some (σ1, l1) => match callIn sig with
   | true => match toHL sig.tys (l0 ++ l1) with
    | some v => F v >>= fun r => match resV P sig r with
     | some x => match callOut S sig (callNew (80000 + S.own.length) σ1 ((kept sig r).map (·.1))) x (kept sig r) with
      | true => lenIfs (keepLens S (sig.objs.map (·.1)) (callNew (80000 + S.own.length) σ1 ((kept sig r).map (·.1))) (kept sig r)) (k
       { val := x.ren (σf (callNew (80000 + S.own.length) σ1 ((kept sig r).map (·.1))))
         acc := sig.objs.map fun p => σf σ1 p.1
         upd := ((kept sig r).map fun p => (σf (callNew (80000 + S.own.length) σ1 ((kept sig r).map (·.1))) p.1, p.2.ren (σf (callNew (80000 + S.own.length) σ1 ((kept sig r).map (·.1)))))) ++ sig.objs.map fun p => (σf σ1 p.1, .gone (S.len (σf σ1 p.1)))
         new := newN (sig.objs.map fun p => σf σ1 p.1) ((kept sig r).map fun p => σf (callNew (80000 + S.own.length) σ1 ((kept sig r).map (·.1))) p.1) })
      | false => none
     | none => none
    | none => none
   | false => none
  | none => none
 | none => none
theorem isIn_iff {n : Nat} : ∀ {l : List Nat}, isIn n l = true ↔ n ∈ l
 | [] => by simp [isIn]
 | k :: r => by
  simp only [isIn, Bool.or_eq_true, List.mem_cons, isIn_iff (l := r)]
  constructor
  ·rintro (h | h)
   ·exact .inl (Nat.eq_of_beq_eq_true h).symm
   ·exact .inr h
  ·rintro (rfl | h)
   ·exact .inl (by simp)
   ·exact .inr h
theorem gt_none_iff {α : Type} : ∀ {l : List (Nat × α)} {n : Nat}, gt l n = none ↔ n ∉ l.map (·.1)
 | [], n => by simp [gt]
 | (k, x) :: r, n => by
  rw [gt_cons]
  by_cases hk : k = n
  ·subst hk; simp
  ·rw [if_neg hk, gt_none_iff (l := r)]
   simp [Ne.symm hk]
theorem newNames_newN {own : List (Nat × Own)} : ∀ {l : List (Nat × Own)}, newNames own l = newN (own.map (·.1)) (l.map (·.1))
 | [] => rfl
 | (n, o) :: r => by
  simp only [newNames, List.map_cons, newN]
  cases hq : gt own n with
  | none =>
   have : isIn n (own.map (·.1)) = false := by
    rw [Bool.eq_false_iff]; intro h; exact gt_none_iff.1 hq (isIn_iff.1 h)
   simp only [this, newNames_newN (l := r)]
  | some y =>
   have : isIn n (own.map (·.1)) = true := isIn_iff.2 (List.mem_map_of_mem (f := (·.1)) (gt_mem hq))
   simp only [this, newNames_newN (l := r)]
theorem callNew_sub : ∀ {l : List Nat} {b : Nat} {σ : Names} {c n : Nat}, gt σ c = some n → gt (callNew b σ l) c = some n
 | [], b, σ, c, n, h => h
 | d :: r, b, σ, c, n, h => by
  simp only [callNew]
  split
  ·exact callNew_sub h
  ·rename_i hd
   refine callNew_sub ?_
   rw [gt_cons]
   by_cases hk : d = c
   ·subst hk; rw [hd] at h; cases h
   ·rw [if_neg hk]; exact h
theorem σf_some {σ : Names} {c n : Nat} (h : gt σ c = some n) : σf σ c = n := by unfold σf; rw [h]
end
end Go.Tx
end
section
namespace Go.Tx
open Go.Awp
variable [Inhabited GMem]
section
variable {V : View}
theorem gt_filter {α : Type} (q : Nat → Bool) : ∀ (l : List (Nat × α)) (n : Nat) (x : α), gt (l.filter fun p => q p.1) n = some x → gt l n = some x
 | [], n, x, h => by simp [gt] at h
 | (k, y) :: r, n, x, h => by
  rw [List.filter_cons] at h
  rw [gt_cons]
  by_cases hk : k = n
  ·subst hk
   rw [if_pos rfl]
   split at h
   ·rw [gt_cons, if_pos rfl] at h; exact h
   ·rename_i hq
    have := gt_mem h
    have := (List.mem_filter.1 this).2
    exact (hq this).elim
  ·rw [if_neg hk]
   split at h
   ·rw [gt_cons, if_neg hk] at h; exact gt_filter q r n x h
   ·exact gt_filter q r n x h
theorem gt_mapf {α β : Type} {f : Nat → Nat} {g : α → β} (hf : ∀ a b, f a = f b → a = b) : ∀ (l : List (Nat × α)) (n : Nat), gt (l.map fun p => (f p.1, g p.2)) (f n) = (gt l n).map g
 | [], n => by simp [gt]
 | (k, y) :: r, n => by
  rw [List.map_cons, gt_cons, gt_cons]
  by_cases hk : k = n
  ·subst hk; simp
  ·rw [if_neg hk, if_neg fun e => hk (hf _ _ e)]; exact gt_mapf hf r n
theorem newN_mem {ks : List Nat} {n : Nat} : ∀ {l : List Nat}, n ∈ l → n ∉ ks → n ∈ newN ks l
 | [], h, _ => by cases h
 | k :: r, h, hn => by
  simp only [newN]
  rcases List.mem_cons.1 h with rfl | h
  ·split
   ·rename_i hi; exact (hn (isIn_iff.1 hi)).elim
   ·exact List.mem_cons_self
  ·split
   ·exact newN_mem h hn
   ·exact List.mem_cons_of_mem _ (newN_mem h hn)
theorem len_ren (f : Nat → Nat) (o : TO V.N) : TO.len (some (TO.ren f o)) = TO.len (some o) := by cases o <;> rfl
theorem callObj_ok {P : Program} {fid : Nat} {sig : Sig V} {F : HL V.N sig.tys → Option (HL V.N sig.rcut.tys)} (hF : SigOk P fid sig F) {A : Type} {args : List (TV V.N)} {S : TS V.N} {dst : Option Tmp}
  {k : TE V.N → Option A} {r : A} (h : callObj P sig F A args S k = some r) :
  ∃ te, k te = some r ∧ good S te ∧ ACall P fid (encL V S.len args) (encS V S).own? fun e' => ELe true e' (encE (S.app dst te).len te) := by
 unfold callObj at h
 split at h
 ·rename_i σ0 l0 h0
  split at h
  ·rename_i σ1 l1 h1
   split at h
   ·rename_i hin
    split at h
    ·rename_i v hv
     obtain ⟨y, hy, h⟩ := some_bind h
     split at h
     ·rename_i x hx
      split at h
      ·rename_i hout
       obtain ⟨h, hlens⟩ := lenIfs_some h
       have hc := hF v y x hy hx
       have hls := toHL_of hv
       obtain ⟨a1, a2, a3, xs0, a4, a5, a6⟩ := mtL_sound h0
       obtain ⟨b1, b2, os0, b3, b4, b5, b6⟩ := mtO_sound h1
       have hst : startOs sig v = (xs0, os0) := by
        unfold startOs
        rw [hls, a5 l1]
        simp only [b4]
       have hS : (startS sig v).own = os0 := by unfold startS; rw [hst]
       rw [hst, hS] at hc
       have hlen0 : ∀ c o, gt os0 c = some o → (startS sig v).len c = TO.len (some o) := by
        intro c o ho
        unfold TS.len TS.own?
        rw [hS, ho]
       generalize (startS sig v).len = ω0 at hc hlen0
       generalize hos : kept sig y = os at h hout hc hlens
       have hlen1 : ∀ c o, gt os c = some o → (conc V sig.rcut y).len c = TO.len (some o) := by
        intro c o ho
        rw [← hos] at ho
        have := gt_filter (fun n => sig.keep.contains n) (conc V sig.rcut y).own c o ho
        unfold TS.len TS.own?
        rw [this]
       generalize (conc V sig.rcut y).len = ω1 at hc hlen1
       generalize hτ : callNew (80000 + S.own.length) σ1 (os.map (·.1)) = τ at h hout hlens
       have hsub : ∀ c n, gt σ1 c = some n → gt τ c = some n := fun c n hcn => by rw [← hτ]; exact callNew_sub hcn
       simp only [callOut, Bool.and_eq_true, List.all_eq_true] at hout
       obtain ⟨⟨⟨⟨⟨o1, o2⟩, o3⟩, o4⟩, o5⟩, o6⟩ := hout
       simp only [callIn, Bool.and_eq_true, List.all_eq_true] at hin
       obtain ⟨⟨i1, i2⟩, i3⟩ := hin
       have hfi := σf_inj o1
       have hbound : ∀ p ∈ sig.objs, ∃ n o, gt σ1 p.1 = some n ∧ S.own? n = some o ∧ ∃ z, encO V S.len o = some z := by
        intro p hp
        have : p.1 ∈ os0.map (·.1) := by rw [b6]; exact List.mem_map_of_mem hp
        obtain ⟨q, hq, hqe⟩ := List.mem_map.1 this
        obtain ⟨n, o, q1, q2, _, z, q3, _⟩ := b5 q.1 q.2 hq
        exact ⟨n, o, by rw [← hqe]; exact q1, q2, _, q3 S.len⟩
       have hTr : ∀ E : Env, Tr σ1 sig.objs E (fun c => E (σf τ c)) S.len ω0 := fun E => by
        refine ⟨fun c n hcn => by rw [σf_some (hsub c n hcn)], fun c n hc' hcn => ?_⟩
        rw [List.any_eq_true] at hc'
        obtain ⟨p, hp, hpn⟩ := hc'
        have hpn : p.1 = c := by simpa using hpn
        have hm : c ∈ os0.map (·.1) := by rw [b6, ← hpn]; exact List.mem_map_of_mem hp
        obtain ⟨o, ho⟩ := gt_some hm
        obtain ⟨n', o', q1, q2, q3, _⟩ := b5 c o (gt_mem ho)
        rw [hcn] at q1; cases q1
        rw [hlen0 c o ho, q3]; unfold TS.len; rw [q2]
       have hob' : ∀ p ∈ sig.objs, match p.2 with | .box _ ps => ps.all (vhIn V sig.objs) = true | _ => True := by
        intro p hp
        have := i2 p hp
        cases hq : p.2 with
        | box oty ps => rw [hq] at this; simpa using this
        | st i => trivial
        | vec te e => trivial
        | map tk tv => trivial
        | iter => trivial
       have hown : ∀ n o, gt (sig.objs.filterMap fun p => ((S.own? (σf σ1 p.1)).bind (encO V S.len)).map fun o => (σf σ1 p.1, o)) n = some o → (S.own? n).bind (encO V S.len) = some o := by
        intro n o hn
        obtain ⟨p, hp, hpe⟩ := List.mem_filterMap.1 (gt_mem hn)
        rw [Option.map_eq_some_iff] at hpe
        obtain ⟨o', h1, h2⟩ := hpe
        simp only [Prod.mk.injEq] at h2
        obtain ⟨rfl, rfl⟩ := h2
        exact h1
       have hkeys : ∀ n, n ∈ (sig.objs.filterMap fun p => ((S.own? (σf σ1 p.1)).bind (encO V S.len)).map fun o => (σf σ1 p.1, o)).map (·.1) ↔ n ∈ sig.objs.map fun p => σf σ1 p.1 := by
        intro n
        constructor
        ·intro hn
         obtain ⟨q, hq, rfl⟩ := List.mem_map.1 hn
         obtain ⟨p, hp, hpe⟩ := List.mem_filterMap.1 hq
         rw [Option.map_eq_some_iff] at hpe
         obtain ⟨o', h1, h2⟩ := hpe
         rw [← h2]
         exact List.mem_map_of_mem (f := fun p => σf σ1 p.1) hp
        ·intro hn
         obtain ⟨p, hp, rfl⟩ := List.mem_map.1 hn
         obtain ⟨n, o, q1, q2, z, q3⟩ := hbound p hp
         refine List.mem_map.2 ⟨(σf σ1 p.1, z), List.mem_filterMap.2 ⟨p, hp, ?_⟩, rfl⟩
         rw [σf_some q1, q2]
         simp [q3]
       have hex : ∀ n o, gt (renO (σf τ) (encOs ω0 os0)) n = some o → ∃ z, (gt (sig.objs.filterMap fun p => ((S.own? (σf σ1 p.1)).bind (encO V S.len)).map fun o => (σf σ1 p.1, o)) n = some z) ∧ ∀ E M w, OwnOk E M w n z → OwnOk E M w n o := by
        intro n o hn
        obtain ⟨c, o1, rfl, hg, rfl⟩ := gt_renO_some hfi hn
        obtain ⟨t, ht, hto⟩ := gt_filterMap hg
        obtain ⟨n', oS, q1, q2, _, x4, q4, x', q5, q6⟩ := b5 c t ht
        rw [q5] at hto
        simp only [Option.some.injEq] at hto; subst hto
        have e : σf τ c = n' := σf_some (hsub _ _ q1)
        have hck : c ∈ sig.objs.map (·.1) := by rw [← b6]; exact List.mem_map_of_mem (f := (·.1)) ht
        obtain ⟨p, hp, hpc⟩ := List.mem_map.1 hck
        have hk' := (hkeys n').2 (List.mem_map.2 ⟨p, hp, by rw [hpc]; exact σf_some q1⟩)
        obtain ⟨z, hz⟩ := gt_some hk'
        have hz' := hown _ _ hz
        rw [q2] at hz'
        simp only [Option.bind_some, q4, Option.some.injEq] at hz'
        rw [e]
        refine ⟨z, hz, fun E M w hw => ?_⟩
        rw [← hz'] at hw
        have := (q6 σ1 sig.objs E _ M w S.len ω0 (Sub.refl _) hob' (hTr E) hw).ren (E' := E) (f := σf τ) rfl fun m _ => rfl
        rw [e] at this
        exact this
       have hsome : ∀ p ∈ os, ∃ o, encO V ω1 p.2 = some o := by
        intro p hp
        have := o4 p hp
        cases hq : p.2 with
        | box oty cells => exact ⟨_, rfl⟩
        | bst i x => exact ⟨_, rfl⟩
        | vec te e xs => exact ⟨_, rfl⟩
        | map tk tv es => exact ⟨_, rfl⟩
        | iter s p => exact ⟨_, rfl⟩
        | gone l => rw [hq] at this; simp [TO.allN] at this
       have hgos : ∀ n, (gt os n).isSome = true → (gt (encOs ω1 os) n).isSome = true := by
        intro n hn
        obtain ⟨o, ho⟩ := Option.isSome_iff_exists.1 hn
        obtain ⟨z, hz⟩ := hsome _ (gt_mem ho)
        rw [gt_encOs ho hz]; rfl
       refine ⟨_, h, ?_, ?_⟩
       ·intro m o hm
        simp only [gt_app] at hm
        split at hm
        ·rename_i o' hq
         simp only [Option.some.injEq] at hm; subst hm
         obtain ⟨p, hp, hpe⟩ := List.mem_map.1 (gt_mem hq)
         simp only [Prod.mk.injEq] at hpe
         obtain ⟨rfl, rfl⟩ := hpe
         have h5 := o5 p hp
         rw [Bool.or_eq_true] at h5
         by_cases hpk : isIn p.1 (sig.objs.map (·.1)) = true
         ·right
          rcases h5 with h5 | h5
          ·rw [hpk] at h5; cases h5
          ·rw [len_ren]
           cases hpp : p.2 with
           | box oty cells => rw [hpp] at h5; simp only [stays] at h5; exact (Nat.eq_of_beq_eq_true h5).symm
           | bst i x => rw [hpp] at h5; simp only [stays] at h5; exact (Nat.eq_of_beq_eq_true h5).symm
           | vec te e xs =>
            have := hlens _ (keepLens_mem hpk (te := te) (e := e) (xs := xs) (by rw [← hpp]; exact hp))
            exact this
           | map tk tv es => rw [hpp] at h5; simp only [stays] at h5; exact (Nat.eq_of_beq_eq_true h5).symm
           | iter s p => rw [hpp] at h5; simp only [stays] at h5; exact (Nat.eq_of_beq_eq_true h5).symm
           | gone l => rw [hpp] at h5; cases h5
         ·left
          refine newN_mem (List.mem_map.2 ⟨p, hp, rfl⟩) fun hmem => hpk (isIn_iff.2 ?_)
          obtain ⟨q, hq', hqe⟩ := List.mem_map.1 hmem
          obtain ⟨n, o, q1, _⟩ := hbound q hq'
          rw [σf_some q1, ← σf_some (hsub _ _ q1)] at hqe
          rw [← hfi _ _ hqe]
          exact List.mem_map_of_mem (f := (·.1)) hq'
        ·right
         obtain ⟨q, hq', hqe⟩ := List.mem_map.1 (gt_mem hm)
         simp only [Prod.mk.injEq] at hqe
         obtain ⟨rfl, rfl⟩ := hqe
         rfl
       ·have hat := hc.ren τ (by
         simp only [renOk, Bool.and_eq_true, List.all_eq_true]
         refine ⟨⟨⟨⟨o1, fun p hp => ?_⟩, fun p hp => ?_⟩, ?_⟩, fun p hp => ?_⟩
         ·obtain ⟨z, hz, hz2⟩ := List.mem_filterMap.1 hp
          rw [Option.map_eq_some_iff] at hz2
          obtain ⟨o', _, rfl⟩ := hz2
          have : z.1 ∈ sig.objs.map (·.1) := by rw [← b6]; exact List.mem_map_of_mem (f := (·.1)) hz
          obtain ⟨q, hq, hqe⟩ := List.mem_map.1 this
          have := i3 q hq
          rw [hqe] at this
          exact this
         ·obtain ⟨z, hz, hz2⟩ := List.mem_filterMap.1 hp
          rw [Option.map_eq_some_iff] at hz2
          obtain ⟨o', _, rfl⟩ := hz2
          exact o2 z hz
         ·refine H.allN_of fun n hn => ?_
          rw [encV_has] at hn
          have := TV.allN_has o3 hn
          rw [Bool.or_eq_true]; exact .inr (hgos n this)
         ·obtain ⟨z, hz, hz2⟩ := List.mem_filterMap.1 hp
          rw [Option.map_eq_some_iff] at hz2
          obtain ⟨o', ho', rfl⟩ := hz2
          have h4 := o4 z hz
          cases o' with
          | box oty cells =>
           simp only [Own.allN]
           refine H.allNL_of fun n hn => ?_
           have : TO.has n z.2 = true := by rw [← encO_has ω1 n ho']; exact hn
           have := TO.allN_has h4 this
           rw [Bool.or_eq_true]; exact .inr (hgos n this)
          | vec e sz rows => rfl
          | map es => rfl
          | iter s p => rfl)
        generalize hownE : (sig.objs.filterMap fun p => ((S.own? (σf σ1 p.1)).bind (encO V S.len)).map fun o => (σf σ1 p.1, o)) = own at hown hkeys hex
        refine ⟨own, _, _, FnAt.weak (args' := encL V S.len args) (own1 := own) hat (fun E M vs hvs => ?_) (fun E M w hw => ?_) (fun n => ?_), fun p hp => ?_, ?_⟩
        ·refine ⟨by rw [hvs.1, H.renL_len, encL_len, encL_len, a4], fun i c z hcz hz => ?_⟩
         rw [H.renL_get, encL_map, List.getElem?_map, Option.map_map, Option.map_eq_some_iff] at hz
         obtain ⟨u0, hu0, rfl⟩ := hz
         have hi : i < args.length := by rw [← a4]; exact (List.getElem?_eq_some_iff.1 hu0).1
         have hu := List.getElem?_eq_getElem hi
         obtain ⟨_, k2⟩ := a6 i _ u0 hu hu0
         have hr := hvs.2 i c (encV V S.len args[i]) hcz (by rw [encL_map, List.getElem?_map, hu]; rfl)
         exact (k2 σ1 sig.objs E _ M S.len ω0 c b1 (List.all_eq_true.2 i1) (hTr E) hr).ren fun n _ => rfl
        ·refine ⟨fun n o hn => ?_, fun n m o o' b hne hn hm hb => ?_⟩
         ·obtain ⟨z, hz, hz'⟩ := hex n o hn
          exact hz' E M w (hw.ok n z hz)
         ·obtain ⟨z, hz, _⟩ := hex n o hn
          obtain ⟨z', hz', _⟩ := hex m o' hm
          exact hw.apart n m z z' b hne hz hz' hb
        ·constructor
         ·rintro ⟨o, ho⟩
          obtain ⟨z, hz, _⟩ := hex n o ho
          exact ⟨z, hz⟩
         ·rintro ⟨o, ho⟩
          have := (hkeys n).1 (List.mem_map_of_mem (f := (·.1)) (gt_mem ho))
          obtain ⟨p, hp, rfl⟩ := List.mem_map.1 this
          have hm : p.1 ∈ os0.map (·.1) := by rw [b6]; exact List.mem_map_of_mem hp
          obtain ⟨t, ht⟩ := gt_some hm
          obtain ⟨n', oS, q1, q2, _, x4, q4, x', q5, q6⟩ := b5 p.1 t (gt_mem ht)
          refine ⟨(x' ω0).ren (σf τ), ?_⟩
          rw [σf_some q1, ← σf_some (hsub _ _ q1), gt_renO hfi, gt_encOs ht (q5 ω0)]
          rfl
        ·rw [← hownE] at hp
         obtain ⟨q, hq, hqe⟩ := List.mem_filterMap.1 hp
         rw [Option.map_eq_some_iff] at hqe
         obtain ⟨o', h1, rfl⟩ := hqe
         rw [encS_own?]; exact h1
        ·have hω : ∀ te : TE V.N, (∀ c o, gt os c = some o → gt te.upd (σf τ c) = some (o.ren (σf τ))) → ∀ c, (gt os c).isSome = true → (S.app dst te).len (σf τ c) = ω1 c := by
          intro te hte c hcs
          obtain ⟨o, ho⟩ := Option.isSome_iff_exists.1 hcs
          rw [app_len, hte c o ho, hlen1 c o ho]
          exact len_ren _ o
         have hkl : own.map (·.1) = sig.objs.map fun p => σf σ1 p.1 := by
          rw [← hownE]
          have : ∀ l : List (Nat × OPt V.ι), (∀ p ∈ l, ∃ n o, gt σ1 p.1 = some n ∧ S.own? n = some o ∧ ∃ z, encO V S.len o = some z) →
            (l.filterMap fun p => ((S.own? (σf σ1 p.1)).bind (encO V S.len)).map fun o => (σf σ1 p.1, o)).map (·.1) = l.map fun p => σf σ1 p.1 := by
           intro l
           induction l with
           | nil => intro _; rfl
           | cons p r ih =>
            intro hl
            obtain ⟨n, o, q1, q2, z, q3⟩ := hl p List.mem_cons_self
            have e : (S.own? (σf σ1 p.1)).bind (encO V S.len) = some z := by rw [σf_some q1, q2]; exact q3
            simp only [List.filterMap_cons, e, Option.map_some, List.map_cons]
            rw [ih fun q hq => hl q (List.mem_cons_of_mem _ hq)]
          exact this sig.objs hbound
         have hml : (renO (σf τ) (encOs ω1 os)).map (·.1) = os.map fun p => σf τ p.1 := by
          have : ∀ l : List (Nat × TO V.N), (∀ p ∈ l, ∃ o, encO V ω1 p.2 = some o) → (renO (σf τ) (encOs ω1 l)).map (·.1) = l.map fun p => σf τ p.1 := by
           intro l
           induction l with
           | nil => intro _; rfl
           | cons p r ih =>
            intro hl
            obtain ⟨o, ho⟩ := hl p List.mem_cons_self
            have := ih fun q hq => hl q (List.mem_cons_of_mem _ hq)
            unfold renO encOs at this ⊢
            simp only [List.filterMap_cons, ho, Option.map_some, List.map_cons]
            rw [this]
          exact this os hsome
         refine ele_upd ?_ ?_ ?_ ?_
         ·simp only [callEff]
          refine (encV_ren x fun n hn => hω _ (fun c o ho => ?_) n (TV.allN_has o3 hn)).symm
          simp only [gt_app, gt_mapf hfi, ho, Option.map_some]
         ·simp only [callEff]
          rw [newNames_newN, hkl]
          rw [hml]
         ·simp only [callEff, List.map_append]
          refine congr (congrArg _ ?_) ?_
          ·have : ∀ (ω2 : Nat → Nat) (l : List (Nat × TO V.N)), (∀ p ∈ l, ∃ o, encO V ω1 p.2 = some o) → (∀ p ∈ l, encO V ω2 (TO.ren (σf τ) p.2) = (encO V ω1 p.2).map (Own.ren (σf τ))) →
             (renO (σf τ) (encOs ω1 l)).map (fun p => (p.1, some p.2)) = (l.map fun p => (σf τ p.1, TO.ren (σf τ) p.2)).map fun p => (p.1, encO V ω2 p.2) := by
            intro ω2 l
            induction l with
            | nil => intro _ _; rfl
            | cons p r ih =>
             intro hl hl2
             obtain ⟨o, ho⟩ := hl p List.mem_cons_self
             have h2 := hl2 p List.mem_cons_self
             have := ih (fun q hq => hl q (List.mem_cons_of_mem _ hq)) fun q hq => hl2 q (List.mem_cons_of_mem _ hq)
             unfold renO encOs at this ⊢
             simp only [List.filterMap_cons, ho, Option.map_some, List.map_cons, h2]
             rw [this]
           refine this _ os hsome fun p hp => encO_ren p.2 fun n hn => hω _ (fun c o ho => ?_) n (TO.allN_has (o4 p hp) hn)
           simp only [gt_app, gt_mapf hfi, ho, Option.map_some]
          ·have e : own.map (fun p : Nat × Own => (p.1, (none : Option Own))) = (own.map (·.1)).map fun n => (n, none) := by rw [List.map_map]; rfl
           rw [e, hkl, List.map_map, List.map_map]
           rfl
         ·simp only [callEff]
          exact hkl
      ·cases h
     ·cases h
    ·cases h
   ·cases h
  ·cases h
 ·cases h
end
end Go.Tx
end
section
namespace Go.Tx
open Go.Awp
variable [Inhabited GMem]
section
variable (V : View)
mutual
def dbulk {H : Type} : DataW H → Nat
 | .lit (.string bs) => bs.length + 1
 | .lit _ => 1
 | .nil => 1
 | .ptr d => dbulk d + 1
 | .slice elems spare => dbulkL elems + dbulkL spare + 1
 | .agg parts => dbulkL parts + 1
 | .iface _ d => dbulk d + 1
 | .map _ => 1
 | .held _ => 1
def dbulkL {H : Type} : List (DataW H) → Nat
 | [] => 0
 | d :: r => dbulk d + dbulkL r
end
theorem dbulkL_sum {H : Type} : ∀ l : List (DataW H), dbulkL l = (l.map dbulk).sum
 | [] => by simp [dbulkL]
 | d :: r => by simp [dbulkL, dbulkL_sum r]
inductive Ok : (t : Ty V.ι) → den V.N t → Prop
 | int {k : IntKind} {n : Int} : (Lit.int k n).wf = true → Ok (.int k) n
 | bool (b : Bool) : Ok .bool b
 | str {s : ByteArray} : s.size ≤ maxLen → Ok .str s
 | sl {e : Ty V.ι} {xs : List (den V.N e)} : xs.length ≤ maxLen → (∀ x ∈ xs, Ok e x) → Ok (.sl e) xs
 | st {i : V.ι} {x : V.N i} : (∀ l ∈ V.cells i x, Ok l.t l.x) → Ok (.st i) x
inductive Bk : (t : Ty V.ι) → den V.N t → Nat → Prop
 | int {k : IntKind} {n : Int} {m : Nat} : 1 ≤ m → Bk (.int k) n m
 | bool {b : Bool} {m : Nat} : 1 ≤ m → Bk .bool b m
 | str {s : ByteArray} {m : Nat} : s.size + 1 ≤ m → Bk .str s m
 | sl {e : Ty V.ι} {xs : List (den V.N e)} {m : Nat} (ns : List Nat) : ns.length = xs.length → (∀ (i : Nat) (x : den V.N e) (n : Nat), xs[i]? = some x → ns[i]? = some n → Bk e x n) → ns.sum + 1 ≤ m → Bk (.sl e) xs m
 | st {i : V.ι} {x : V.N i} {m : Nat} (ns : List Nat) : ns.length = (V.cells i x).length → (∀ (j : Nat) (l : Leaf V.N) (n : Nat), (V.cells i x)[j]? = some l → ns[j]? = some n → Bk l.t l.x n) → ns.sum + 1 ≤ m → Bk (.st i) x m
def Bks (ls : List (Leaf V.N)) (m : Nat) : Prop :=
 ∃ ns : List Nat, ns.length = ls.length ∧ (∀ (j : Nat) (l : Leaf V.N) (n : Nat), ls[j]? = some l → ns[j]? = some n → Bk V l.t l.x n) ∧ ns.sum ≤ m
def flatTy : Ty V.ι → List (Ty V.ι)
 | .st i => V.tys i
 | t => [t]
def flds (P : Program) : Nat → List Field → Option (List (Ty V.ι))
 | _, [] => some []
 | off, f :: fs => match V.ty f.type with
  | some τ => if f.offset = off ∧ P.cellsOf f.type = tsz V.sz τ then match flds P (off + tsz V.sz τ) fs with
    | some l => some (flatTy V τ ++ l)
    | none => none
   else none
  | none => none
def tyFact (P : Program) (t : TypeId) : Ty V.ι → Prop
 | .int k => P.underlying t = some (.int k)
 | .bool => P.underlying t = some .bool
 | .str => P.underlying t = some .string
 | .sl e => ∃ te, P.underlying t = some (.slice te) ∧ V.ty te = some e ∧ P.cellsOf te = tsz V.sz e ∧ Nat.blt 0 (tsz V.sz e) = true
 | .mp _ _ => False
 | .er => False
 | .st i => ∃ fs : Array Field, P.underlying t = some (.struct fs) ∧ P.cellsOf t = V.sz i ∧ flds V P 0 fs.toList = some (V.tys i)
structure Facts (P : Program) : Prop where
 ty : ∀ t τ, V.ty t = some τ → tyFact V P t τ
 tys : ∀ i x, (V.cells i x).map (·.t) = V.tys i
 of : ∀ i ls, ls.map (·.t) = V.tys i → ∃ y, V.ofCells i ls = some y
end
section
variable {V : View} {H0 : Type} {enc : TypeId × Value → H0} {P : Program} {W : World} {spare : Nat → Bool} {held : Bool} {base : Nat}
theorem read_string {t : TypeId} (hu : P.underlying t = some .string) {fuel : Nat} {cs : List Value} {x : DataW H0 × List MemPlace} (h : DataW.trod enc P W base spare held fuel t cs = some x) :
  ∃ s, cs = [.string s] ∧ s.size ≤ maxLen := by
 cases fuel with
 | zero => cases h
 | succ fuel =>
  unfold DataW.trod at h
  rw [hu] at h
  simp only [] at h
  split at h <;> try (rename_i h1 _; cases h1)
  all_goals try (cases h; done)
  all_goals simp_all
def LeafRep (M : Mem) (cs : List Value) (ls : List (Leaf V.N)) : Prop :=
 cs.length = ls.length ∧ ∀ (i : Nat) (c : Value) (l : Leaf V.N), cs[i]? = some c → ls[i]? = some l → DRep M c (encD V.sz V.enc l.t l.x)
theorem LeafRep.app {M : Mem} {cs cs' : List Value} {ls ls' : List (Leaf V.N)} (h : LeafRep M cs ls) (h' : LeafRep M cs' ls') : LeafRep M (cs ++ cs') (ls ++ ls') := by
 refine ⟨by simp [h.1, h'.1], fun i c l hc hl => ?_⟩
 by_cases hi : i < cs.length
 ·rw [List.getElem?_append_left hi] at hc
  rw [List.getElem?_append_left (by rw [← h.1]; exact hi)] at hl
  exact h.2 i c l hc hl
 ·rw [List.getElem?_append_right (by omega)] at hc
  rw [List.getElem?_append_right (by rw [← h.1]; omega), ← h.1] at hl
  exact h'.2 _ c l hc hl
theorem Bks.app {ls ls' : List (Leaf V.N)} {m m' : Nat} (h : Bks V ls m) (h' : Bks V ls' m') : Bks V (ls ++ ls') (m + m') := by
 obtain ⟨ns, h1, h2, h3⟩ := h
 obtain ⟨ns', h1', h2', h3'⟩ := h'
 refine ⟨ns ++ ns', by simp [h1, h1'], fun j l n hl hn => ?_, by simp; omega⟩
 by_cases hj : j < ls.length
 ·rw [List.getElem?_append_left hj] at hl
  rw [List.getElem?_append_left (by omega)] at hn
  exact h2 j l n hl hn
 ·rw [List.getElem?_append_right (by omega)] at hl
  rw [List.getElem?_append_right (by omega), h1] at hn
  exact h2' _ l n hl hn
theorem Bks.one {t : Ty V.ι} {x : den V.N t} {m : Nat} (h : Bk V t x m) : Bks V [⟨t, x⟩] m :=
 ⟨[m], rfl, fun j l n hl hn => by
  cases j with
  | zero => simp at hl hn; subst hl; subst hn; exact h
  | succ j => simp at hl, by simp⟩
def Rd (M : Mem) (τ : Ty V.ι) (cs : List Value) (m : Nat) : Prop :=
 ∃ y : den V.N τ, Ok V τ y ∧ LeafRep M cs (rcells V τ y) ∧ (rcells V τ y).map (·.t) = flatTy V τ ∧ (∀ l ∈ rcells V τ y, Ok V l.t l.x) ∧ Bk V τ y m ∧ Bks V (rcells V τ y) m
theorem read_fields (F : Facts V P) {M : Mem} {rd : TypeId → List Value → Nat → Prop} (hrd : ∀ t τ cs m, V.ty t = some τ → rd t cs m → Rd (V := V) M τ cs m) {cs : List Value} : ∀ (fs : List Field) (ms : List Nat) (off : Nat) (l : List (Ty V.ι)),
  flds V P off fs = some l → ms.length = fs.length → (∀ (j : Nat) (f : Field) (m : Nat), fs[j]? = some f → ms[j]? = some m → rd f.type ((cs.drop f.offset).take (P.cellsOf f.type)) m) →
  ∃ (n : Nat) (ls : List (Leaf V.N)), ls.map (·.t) = l ∧ LeafRep M ((cs.drop off).take n) ls ∧ (∀ x ∈ ls, Ok V x.t x.x) ∧ n = ls.length ∧ Bks V ls ms.sum
 | [], ms, off, l, h, hm, _ => by
  simp [flds] at h; subst h
  exact ⟨0, [], rfl, ⟨rfl, fun i c l hc => by simp at hc⟩, (fun x hx => nomatch hx), rfl, [], rfl, fun j l n hl => by simp at hl, by simp⟩
 | f :: fs, [], off, l, h, hm, _ => by simp at hm
 | f :: fs, m :: ms, off, l, h, hm, hf => by
  simp only [flds] at h
  split at h
  ·rename_i τ hτ
   split at h
   ·rename_i hc
    obtain ⟨ho, hsz⟩ := hc
    split at h
    ·rename_i l' hl'
     simp at h; subst h
     obtain ⟨n, ls, a1, a2, a3, a4, a5⟩ := read_fields F hrd fs ms _ l' hl' (by simpa using hm) fun j g m hg hm => hf (j + 1) g m (by simpa using hg) (by simpa using hm)
     obtain ⟨y, b1, b2, b3, b4, b5, b6⟩ := hrd f.type τ _ m hτ (hf 0 f m rfl rfl)
     rw [ho, hsz] at b2
     refine ⟨tsz V.sz τ + n, rcells V τ y ++ ls, by simp [a1, b3], ?_, fun x hx => ?_, by simp [rcells_len, a4], by rw [List.sum_cons]; exact b6.app a5⟩
     ·have e : (cs.drop off).take (tsz V.sz τ + n) = (cs.drop off).take (tsz V.sz τ) ++ (cs.drop (off + tsz V.sz τ)).take n := by
       rw [List.take_add, List.drop_drop]
      rw [e]
      exact b2.app a2
     ·rcases List.mem_append.1 hx with hx | hx
      ·exact b4 x hx
      ·exact a3 x hx
    ·cases h
   ·cases h
  ·cases h
theorem read_structB {t : TypeId} {fs : Array Field} (hu : P.underlying t = some (.struct fs)) {fuel : Nat} {cs : List Value} {x : DataW H0 × List MemPlace} (h : DataW.trod enc P W base spare held (fuel + 1) t cs = some x) :
  cs.length = P.cellsOf t ∧ ∃ ds : List (DataW H0), x.1 = .agg ds ∧ ds.length = fs.toList.length ∧ ∀ (i : Nat) (f : Field), fs.toList[i]? = some f → ∃ y, ds[i]? = some y.1 ∧ DataW.trod enc P W base spare held fuel f.type ((cs.drop f.offset).take (P.cellsOf f.type)) = some y := by
 unfold DataW.trod at h
 rw [hu] at h
 simp only [] at h
 split at h
 ·rename_i hl
  rw [Option.map_eq_some_iff] at h
  obtain ⟨ys, hm, hx⟩ := h
  subst hx
  refine ⟨hl, ys.map (·.1), rfl, by rw [List.length_map, (mapM_some hm).1], fun i f hf => ?_⟩
  obtain ⟨y, hy1, hy⟩ := (mapM_some hm).2 i f hf
  exact ⟨y, by rw [List.getElem?_map, hy1]; rfl, hy⟩
 ·cases h
theorem read_sliceB {t e : TypeId} (hu : P.underlying t = some (.slice e)) {fuel : Nat} {cs : List Value} {x : DataW H0 × List MemPlace} (h : DataW.trod enc P W base spare held (fuel + 1) t cs = some x) :
  (cs = [.slice none 0 0] ∧ x.1 = .nil) ∨ ∃ a len cap, cs = [.slice (some a) len cap] ∧ len ≤ cap ∧ cap ≤ maxLen ∧ ∃ ds sp : List (DataW H0), x.1 = .slice ds sp ∧ ds.length = len ∧
    ∀ i, i < len → ∃ row y, W.cells? base (a.add (i * P.cellsOf e)) (P.cellsOf e) = some row ∧ DataW.trod enc P W base spare held fuel e row = some y ∧ ds[i]? = some y.1 := by
 unfold DataW.trod at h
 rw [hu] at h
 simp only [] at h
 split at h
 all_goals first
  | (simp only [Option.some.injEq, reduceCtorEq] at *; done)
  | (left; simp only [Option.some.injEq] at h; exact ⟨rfl, by rw [← h]⟩)
  | (rename_i a len cap hx
     simp only [Option.some.injEq, TypeDesc.slice.injEq] at hx
     subst hx
     right
     split at h
     ·rename_i hc
      rw [Option.bind_eq_some_iff] at h
      obtain ⟨ys, hm, h⟩ := h
      rw [Option.map_eq_some_iff] at h
      obtain ⟨rest, _, h⟩ := h
      subst h
      refine ⟨a, len, cap, rfl, hc.2.1, hc.2.2, ys.map (·.1), rest.map (·.1), rfl, by rw [List.length_map, (mapM_some hm).1, List.length_range], fun i hi => ?_⟩
      obtain ⟨y, hy1, hy⟩ := (mapM_some hm).2 i i (by rw [List.getElem?_range hi])
      rw [Option.bind_eq_some_iff] at hy
      obtain ⟨row, h1, h2⟩ := hy
      exact ⟨row, y, h1, h2, by rw [List.getElem?_map, hy1]; rfl⟩
     ·cases h)
  | skip
theorem dbulk_pos {H : Type} (d : DataW H) : 1 ≤ dbulk d := by
 cases d with
 | lit l => cases l <;> simp [dbulk]
 | _ => simp [dbulk]
theorem read_stringB {t : TypeId} (hu : P.underlying t = some .string) {fuel : Nat} {cs : List Value} {x : DataW H0 × List MemPlace} (h : DataW.trod enc P W base spare held fuel t cs = some x) :
  ∃ s, cs = [.string s] ∧ s.size ≤ maxLen ∧ dbulk x.1 = s.size + 1 := by
 cases fuel with
 | zero => cases h
 | succ fuel =>
  obtain ⟨s, rfl, hs⟩ := read_string hu h
  refine ⟨s, rfl, hs, ?_⟩
  unfold DataW.trod at h
  rw [hu] at h
  simp only [] at h
  rw [if_pos hs] at h
  cases h
  show dbulk (.lit (.string s.data.toList)) = s.data.size + 1
  rw [dbulk, Array.length_toList]
theorem encR_rcells (τ : Ty V.ι) (y : den V.N τ) : encR V.sz V.enc τ y = (rcells V τ y).map fun l => encD V.sz V.enc l.t l.x := by
 cases τ <;> first | rfl | (simp only [encR, rcells]; exact V.enc_cells _ _) | simp [encR, rcells, encD]
theorem read_all (F : Facts V P) : ∀ (fuel : Nat) (t : TypeId) (τ : Ty V.ι) (cs : List Value) (x : DataW H0 × List MemPlace), V.ty t = some τ → DataW.trod enc P W base spare held fuel t cs = some x → Rd (memOf W) τ cs (dbulk x.1) := by
 intro fuel
 induction fuel using Nat.strongRecOn with
 | ind fuel ih =>
 intro t τ cs x hty h
 have hf := F.ty t τ hty
 cases τ with
 | mp k v => exact hf.elim
 | er => exact hf.elim
 | int k =>
  obtain ⟨n, rfl, hw⟩ := read_int hf h
  refine ⟨n, .int hw, ⟨rfl, fun i c l hc hl => ?_⟩, rfl, fun l hl => ?_, .int (dbulk_pos _), .one (.int (dbulk_pos _))⟩
  ·cases i with
   | zero => simp [rcells] at hc hl; subst hc; subst hl; exact .v _
   | succ i => simp at hc
  ·simp [rcells] at hl; subst hl; exact .int hw
 | bool =>
  obtain ⟨b, rfl⟩ := read_bool hf h
  refine ⟨b, .bool b, ⟨rfl, fun i c l hc hl => ?_⟩, rfl, fun l hl => ?_, .bool (dbulk_pos _), .one (.bool (dbulk_pos _))⟩
  ·cases i with
   | zero => simp [rcells] at hc hl; subst hc; subst hl; exact .v _
   | succ i => simp at hc
  ·simp [rcells] at hl; subst hl; exact .bool b
 | str =>
  obtain ⟨s, rfl, hs, hb⟩ := read_stringB hf h
  refine ⟨s, .str hs, ⟨rfl, fun i c l hc hl => ?_⟩, rfl, fun l hl => ?_, .str (Nat.le_of_eq hb.symm), .one (.str (Nat.le_of_eq hb.symm))⟩
  ·cases i with
   | zero => simp [rcells] at hc hl; subst hc; subst hl; exact .v _
   | succ i => simp at hc
  ·simp [rcells] at hl; subst hl; exact .str hs
 | st i =>
  obtain ⟨fs, hu, hsz, hfl⟩ := hf
  cases fuel with
  | zero => cases h
  | succ fuel =>
   obtain ⟨hl, ds, hx, hdl, hr⟩ := read_structB hu h
   obtain ⟨n, ls, a1, a2, a3, a4, a5⟩ := read_fields F (M := memOf W) (rd := fun t cs m => ∃ y, DataW.trod enc P W base spare held fuel t cs = some y ∧ m = dbulk y.1) (fun t τ cs m hτ ⟨y, hy, hm⟩ => hm ▸ ih fuel (by omega) t τ cs y hτ hy) fs.toList (ds.map dbulk) 0 _ hfl
    (by rw [List.length_map, hdl])
    (fun j f m hf hm => by
      obtain ⟨y, hy1, hy⟩ := hr j f hf
      rw [List.getElem?_map, hy1] at hm
      exact ⟨y, hy, by simpa using hm.symm⟩)
   obtain ⟨y, hy⟩ := F.of i ls a1
   have hc := V.of_cells i ls y hy
   have hn : n = cs.length := by rw [a4, ← hc, V.len_cells, hl, hsz]
   rw [List.drop_zero, List.take_of_length_le (by omega)] at a2
   have hdb : dbulk x.1 = (ds.map dbulk).sum + 1 := by rw [hx, dbulk, dbulkL_sum]
   obtain ⟨ns, c1, c2, c3⟩ := a5
   refine ⟨y, .st (by rw [hc]; exact a3), by simpa only [rcells, hc] using a2, by simpa only [rcells, hc, flatTy] using a1, by simpa only [rcells, hc] using a3, .st ns (by rw [hc]; exact c1) (by rw [hc]; exact c2) (by omega), ns, by simpa only [rcells, hc] using c1, by simpa only [rcells, hc] using c2, by omega⟩
 | sl e =>
  obtain ⟨te, hu, hte, hsz, hpos⟩ := hf
  have hpos : 0 < tsz V.sz e := by simpa [Nat.blt_eq] using hpos
  cases fuel with
  | zero => cases h
  | succ fuel =>
   have fin : ∀ (c3 : Value) (ys : List (den V.N e)), ys.length ≤ maxLen → (∀ y ∈ ys, Ok V e y) → DRep (memOf W) c3 (encD V.sz V.enc (.sl e) ys) → Bk V (.sl e) ys (dbulk x.1) → Rd (V := V) (memOf W) (.sl e) [c3] (dbulk x.1) := by
    intro c3 ys h1 h2 h3 h4
    refine ⟨ys, .sl h1 h2, ⟨rfl, fun i c l hc hl => ?_⟩, rfl, fun l hl => ?_, h4, .one h4⟩
    ·cases i with
     | zero => simp [rcells] at hc hl; subst hc; subst hl; exact h3
     | succ i => simp at hc
    ·simp [rcells] at hl; subst hl; exact .sl h1 h2
   rcases read_sliceB hu h with ⟨h4, hx⟩ | ⟨a, len, cap, h4, hlc, hcm, ds, sp, hx, hdl, hr⟩
   ·subst h4
    exact fin _ [] (by simp) (fun y hy => by cases hy) (.slnil _) (.sl [] rfl (fun i x n hx => by simp at hx) (by rw [hx]; simp [dbulk]))
   ·subst h4
    rw [hsz] at hr
    obtain ⟨ys, hyl, hys⟩ := list_of (α := den V.N e) (R := fun i y => ∃ row d, W.cells? base (a.add (i * tsz V.sz e)) (tsz V.sz e) = some row ∧ Ok V e y ∧ LeafRep (memOf W) row (rcells V e y) ∧ ds[i]? = some d ∧ Bk V e y (dbulk d)) len
     fun i hi => by
      obtain ⟨row, z, g1, g2, g3⟩ := hr i hi
      obtain ⟨y, b1, b2, _, _, b5, _⟩ := ih fuel (by omega) te e row z hte g2
      exact ⟨y, row, z.1, g1, b1, b2, g3, b5⟩
    have hdb : dbulk x.1 = (ds.map dbulk).sum + dbulkL sp + 1 := by rw [hx, dbulk, dbulkL_sum]
    refine fin _ ys (by omega) (fun y hy => ?_) (DRep.of_slice (b := base) hpos hlc (by rw [List.length_map, hyl]) (fun r hr' => ?_) fun i hi => ?_) (.sl (ds.map dbulk) (by rw [List.length_map, hdl, hyl]) (fun i y n hy hn => ?_) (by omega))
    ·obtain ⟨i, hi, rfl⟩ := List.getElem_of_mem hy
     obtain ⟨row, _, _, e1, _⟩ := hys i _ (List.getElem?_eq_getElem hi)
     exact e1
    ·obtain ⟨y, _, rfl⟩ := List.mem_map.1 hr'
     rw [encR_rcells, List.length_map, rcells_len]
    ·obtain ⟨row, _, e0, _, e2, _⟩ := hys i (ys[i]'(by omega)) (List.getElem?_eq_getElem (by omega))
     refine ⟨row, e0, fun r hr' j c y hc hy => ?_⟩
     rw [List.getElem?_map, List.getElem?_eq_getElem (by omega : i < ys.length)] at hr'
     simp at hr'
     subst hr'
     rw [encR_rcells, List.getElem?_map, Option.map_eq_some_iff] at hy
     obtain ⟨l, hl, rfl⟩ := hy
     exact e2.2 j c l hc hl
    ·obtain ⟨row, d, _, _, _, e3, e4⟩ := hys i y hy
     rw [List.getElem?_map, e3] at hn
     simp at hn
     subst hn
     exact e4
theorem cell_not_agg {r : Reach} {t : TypeId} {cs : Array Value} (h : (∃ k, P.underlying t = some (.int k)) ∨ P.underlying t = some .bool ∨ P.underlying t = some .string ∨ ∃ e, P.underlying t = some (.slice e)) :
  ¬ Value.okWide P W r base t (.agg cs) := by
 intro hv
 unfold Value.okWide at hv
 rcases h with ⟨k, h⟩ | h | h | ⟨e, h⟩ <;> rw [h] at hv <;> simp only [Cell.okWide, Cell.ok, h] at hv
theorem open_valB (F : Facts V P) {r : Reach} {b0 : Nat} {t : TypeId} {τ : Ty V.ι} {v : Value} {d : DataW H0} {p : List MemPlace} (hty : V.ty t = some τ) (hok : Value.okWide P W r b0 t v) (h : DataW.Trod enc P W base spare held t v d p) :
  ∃ y : den V.N τ, Ok V τ y ∧ DRep (memOf W) v (encD V.sz V.enc τ y) ∧ Bk V τ y (dbulk d) := by
 obtain ⟨fuel, h⟩ := h
 obtain ⟨y, h1, h2, _, _, h5, _⟩ := read_all F fuel t τ _ _ hty h
 refine ⟨y, h1, ?_, h5⟩
 have hf := F.ty t τ hty
 have cell : (∀ cs, v ≠ .agg cs) → rcells V τ y = [⟨τ, y⟩] → DRep (memOf W) v (encD V.sz V.enc τ y) := by
  intro hn hr
  rw [hr] at h2
  have hc : v.cells.toList = [v] := by cases v <;> first | rfl | exact (hn _ rfl).elim
  rw [hc] at h2
  exact h2.2 0 v ⟨τ, y⟩ rfl rfl
 cases τ with
 | mp k v => exact hf.elim
 | er => exact hf.elim
 | int k => exact cell (fun cs e => by subst e; exact cell_not_agg (.inl ⟨k, hf⟩) hok) rfl
 | bool => exact cell (fun cs e => by subst e; exact cell_not_agg (.inr (.inl hf)) hok) rfl
 | str => exact cell (fun cs e => by subst e; exact cell_not_agg (.inr (.inr (.inl hf))) hok) rfl
 | sl e =>
  obtain ⟨te, hu, _⟩ := hf
  exact cell (fun cs e => by subst e; exact cell_not_agg (.inr (.inr (.inr ⟨te, hu⟩))) hok) rfl
 | st i =>
  obtain ⟨fs, hu, _, _⟩ := hf
  unfold Value.okWide at hok
  rw [hu] at hok
  obtain ⟨cs, rfl, _⟩ := hok
  simp only [Value.cells] at h2
  simp only [encD]
  rw [V.enc_cells]
  refine .agg cs _ (by rw [List.length_map]; have := h2.1; simpa [rcells] using this) fun k c x hc hx => ?_
  rw [List.getElem?_map, Option.map_eq_some_iff] at hx
  obtain ⟨l, hl, rfl⟩ := hx
  exact h2.2 k c l (by simpa using hc) hl
theorem open_val (F : Facts V P) {r : Reach} {b0 : Nat} {t : TypeId} {τ : Ty V.ι} {v : Value} {d : DataW H0} {p : List MemPlace} (hty : V.ty t = some τ) (hok : Value.okWide P W r b0 t v) (h : DataW.Trod enc P W base spare held t v d p) :
  ∃ y : den V.N τ, Ok V τ y ∧ DRep (memOf W) v (encD V.sz V.enc τ y) :=
 let ⟨y, h1, h2, _⟩ := open_valB F hty hok h
 ⟨y, h1, h2⟩
end
end Go.Tx
end
section
namespace Go.Proofs.YtdmggfegkaiaiaaGreatDoor
open Go.Awp Go.Shelf
open Go.Proofs.Tryz (prog)
set_option maxRecDepth 100000
theorem types8 : U8Types prog Tryz.lays196_ren := .of196 Tryz.lays196
theorem extra8 : U8Extra prog Tryz.lays196_ren := ⟨by kernel_rfl, by kernel_rfl, by kernel_rfl, by kernel_rfl, by kernel_rfl, by kernel_rfl, by kernel_rfl⟩
theorem first8 : Rows.laid_unicode_utf8_first = Lib.firstData := by kernel_rfl
theorem accept8 : (Rows.laid_unicode_utf8_acceptRanges : DataW Unit) = Lib.acceptData := by kernel_rfl
theorem pow8 : (Rows.laid_internal_strconv_uint64pow10 : DataW Unit) = Lib.tabData .u64 Lib.pow10Tab := by kernel_rfl
def bruijn : List Int := [0, 1, 56, 2, 57, 49, 28, 3, 61, 58, 42, 50, 38, 29, 17, 4, 62, 47, 59, 36, 45, 43, 51, 22, 53, 39, 33, 30, 24, 18, 12, 5, 63, 55, 48, 27, 60, 41, 37, 16, 46, 35, 44, 21, 52, 32, 23, 11, 54, 26, 40, 15, 34, 20, 31, 10, 25, 14, 19, 9, 13, 8, 7, 6]
theorem bruijn8 : (Rows.laid_math_bits_deBruijn64tab : DataW Unit) = Lib.tabData .u8 bruijn := by kernel_rfl
def laid8 : List (String × DataW Unit) := [("math/bits.deBruijn32tab", Rows.laid_math_bits_deBruijn32tab), ("math/bits.deBruijn64tab", Rows.laid_math_bits_deBruijn64tab), ("internal/strconv.uint64pow10", Rows.laid_internal_strconv_uint64pow10), ("unicode/utf8.acceptRanges", Rows.laid_unicode_utf8_acceptRanges), ("strconv.ErrRange", Rows.laid_strconv_ErrRange), ("strconv.ErrSyntax", Rows.laid_strconv_ErrSyntax), ("unicode.CaseRanges", Rows.laid_unicode_CaseRanges), ("unicode/utf8.first", Rows.laid_unicode_utf8_first)]
theorem tab_of_reads {P : Program} {w : World} {name : String} {k : IntKind} {zs : List Int} {g : Nat} {t e : TypeId} {n : Nat} (hg : P.globalNamed name = some g) (hty : (P.globals[g]?).map (·.type) = some t) (ht : P.underlying t = some (.array n e)) (he : P.underlying e = some (.int k)) (hce : P.cellsOf e = 1) (hct : P.cellsOf t = n)
  (h : Lib.VarReads P w name (Lib.tabData k zs)) : Lib.TabIs P w name k zs := by
 obtain ⟨g', t', cs, fuel, p, hg', ht', hvar, hd⟩ := h
 obtain rfl := Option.some.inj (hg.symm.trans hg')
 obtain rfl := Option.some.inj (hty.symm.trans ht')
 unfold Lib.TabIs
 rw [hvar, ← Lib.cells_of_tab ht he hce hct hd]
theorem iface_of_reads {P : Program} {w : World} {name nm : String} {d : DataW Unit} {g : Nat} {t : TypeId} {ms : TypeDesc} (hg : P.globalNamed name = some g) (hty : (P.globals[g]?).map (·.type) = some t) (ht : P.underlying t = some ms) (hms : ∃ l, ms = .interface l)
  (h : Lib.VarReads P w name (.iface nm d)) : ∃ u v, w.cell? ⟨g, 0, none⟩ = some (.iface u v) := by
 obtain ⟨l, rfl⟩ := hms
 obtain ⟨g', t', cs, fuel, p, hg', ht', hvar, hd⟩ := h
 obtain rfl := Option.some.inj (hg.symm.trans hg')
 obtain rfl := Option.some.inj (hty.symm.trans ht')
 have hc : ∃ u v, cs.toList = [.iface u v] := by
  cases fuel with
  | zero => cases hd
  | succ fuel =>
   unfold DataW.trod at hd
   rw [ht] at hd
   simp only [] at hd
   split at hd <;> try (rename_i h1 _; cases h1)
   all_goals try (cases hd; done)
   all_goals first
    | (rename_i u v _; exact ⟨u, v, by assumption⟩)
    | (simp_all; done)
 obtain ⟨u, v, hc⟩ := hc
 refine ⟨u, v, ?_⟩
 unfold World.var? at hvar
 rw [hg] at hvar
 simp only [Option.bind_some] at hvar
 split at hvar
 ·rename_i cs' _ _ hw
  cases hvar
  have : cs[0]? = some (.iface u v) := by rw [← Array.getElem?_toList, hc]; rfl
  simpa [World.cell?, hw] using this
 ·cases hvar
theorem gmem_laid {W : World} (h : laidMetH prog laid8 W) : GOk (memOf W) W := by
 rw [MakeChecks.laidMetH_plain _ _ _ (by kernel_rfl)] at h
 have h1 : Lib.VarReads prog W "unicode/utf8.acceptRanges" Lib.acceptData := accept8 ▸ Lib.laidMet.reads h (.tail _ (.tail _ (.tail _ (.head _))))
 have h2 : Lib.VarReads prog W "unicode/utf8.first" Lib.firstData := first8 ▸ Lib.laidMet.reads h (.tail _ (.tail _ (.tail _ (.tail _ (.tail _ (.tail _ (.tail _ (.head _))))))))
 have h3 : Lib.VarReads prog W "internal/strconv.uint64pow10" (Lib.tabData .u64 Lib.pow10Tab) := pow8 ▸ Lib.laidMet.reads h (.tail _ (.tail _ (.head _)))
 have h4 := iface_of_reads (P := prog) (g := 3) (t := 84) (by kernel_rfl) (by kernel_rfl) Tryz.underlying84 ⟨_, rfl⟩ (Lib.laidMet.reads h (.tail _ (.tail _ (.tail _ (.tail _ (.head _))))))
 have h5 := iface_of_reads (P := prog) (g := 2) (t := 84) (by kernel_rfl) (by kernel_rfl) Tryz.underlying84 ⟨_, rfl⟩ (Lib.laidMet.reads h (.tail _ (.tail _ (.tail _ (.tail _ (.tail _ (.head _)))))))
 have h6 : Lib.TabIs prog W "internal/strconv.uint64pow10" .u64 Lib.pow10Tab := by
  obtain ⟨g, t, cs, fuel, p, hg, ht, _, _⟩ := id h3
  exact tab_of_reads (g := 4) (t := 184) (e := 142) (n := 20) (by kernel_rfl) (by kernel_rfl) (by kernel_rfl) (by kernel_rfl) (by kernel_rfl) (by kernel_rfl) h3
 have h7 : W.cell? ⟨7, 15, none⟩ = some (.int .u8 4) := by
  have h9 : Lib.VarReads prog W "math/bits.deBruijn64tab" (Lib.tabData .u8 bruijn) := bruijn8 ▸ Lib.laidMet.reads h (.tail _ (.head _))
  have h10 := tab_of_reads (P := prog) (g := 7) (t := 202) (e := 5) (n := 64) (by kernel_rfl) (by kernel_rfl) (by kernel_rfl) (by kernel_rfl) (by kernel_rfl) (by kernel_rfl) h9
  have := h10.cell (g := 7) (by kernel_rfl) 15 (by decide)
  exact this
 refine ⟨tabs_le h7 (utf8Tabs_of_readsT types8 extra8 h2 h1) h6, fun b hb => ?_, fun p hp => ?_⟩
 ·have hb : b ∈ [2, 3] := hb
  simp only [List.mem_cons, List.not_mem_nil, or_false] at hb
  rcases hb with rfl | rfl
  ·exact h5
  ·exact h4
 ·have hp : p ∈ [(4, 20)] := hp
  simp only [List.mem_cons, List.not_mem_nil, or_false] at hp
  subst hp
  have hn : prog.globalNamed "internal/strconv.uint64pow10" = some 4 := by kernel_rfl
  refine ⟨⟨_, h6.cell hn 0 (by rw [pow10_len]; decide)⟩, ?_⟩
  unfold Lib.TabIs World.var? at h6
  rw [hn] at h6
  simp only [Option.bind_some] at h6
  split at h6
  ·rename_i cs t fr hw
   cases h6
   exact ⟨_, _, _, hw, by simp [pow10_len]⟩
  ·cases h6
end Go.Proofs.YtdmggfegkaiaiaaGreatDoor
end
section
namespace Go.Tx
open Go.Awp
variable [Inhabited GMem]
section
variable {V : View}
theorem fn_okS {X : Xc V} {sig : Sig V} (hsh : X.sh.rcut = sig.rcut) {fid : FuncId} {fn : Func} {c : Code} (hf : X.P.funcs[fid]? = some fn) (hb : fn.body = some c) (hn : fn.ntmps = X.n) (hrs : fn.results.toList = sig.rvars)
  (hname : (fn.name != "runtime.NumGoroutine") = true) (hm : X.P.follows .mixedOrders = true) (hcall : CallerOk X.P X.call) (hdr : distinct (sig.rcut.objs.map (·.1)) = true)
  (hl : ∀ C : Ctx, C.P = X.P → C.N = X.n → LOk C X c) {xs : List (TV V.N)} (hlen : Nat.ble xs.length X.n = true) {r : HL V.N sig.rcut.tys}
  (h : ex X c _ { tmps := enumT 0 xs, own := [] } (fun S => extr V sig.rcut S) (fun _ _ => none) (fun r => some (hsh ▸ r)) = some r) :
  ∀ x, resV X.P sig r = some x → FnOk X.P fid (encL V (fun _ => 0) xs) [] (encV V (conc V sig.rcut r).len x) (encOs (conc V sig.rcut r).len (kept sig r)) := by
 obtain ⟨params, objs, rcut, rvars, keep⟩ := sig
 simp only at hsh
 subst hsh
 intro x hx
 have hargs : xs.length ≤ X.n := Nat.le_of_ble_eq_true hlen
 refine fn_of_awpL hf hb hname (by rw [encL_len, hn]; exact hargs) fun C hP hN => ?_
 have hent : Ent ⟨startT 0 (encL V (fun _ => 0) xs), startO []⟩ (encS V { tmps := enumT 0 xs, own := [] }) := by
  refine Ent.le (fun t y hy => ⟨y, ?_, H.le.refl _⟩) fun n o ho => ?_
  ·rw [startT_enum]; exact hy
  ·rw [encS_own?] at ho
   simp [TS.own?, gt] at ho
 have hend : ∀ e σ, (e = .normal ∨ e = .ret) → Ent σ (encS V (conc V X.sh.rcut r)) →
   FnEndL X.P fn.results.toList (encV V (conc V X.sh.rcut r).len x) (encOs (conc V X.sh.rcut r).len (kept ⟨params, objs, X.sh.rcut, rvars, keep⟩ r)) e σ := by
  intro e σ he hσ
  unfold resV at hx
  rw [Option.map_eq_some_iff] at hx
  obtain ⟨vs, hvs, hone⟩ := hx
  obtain ⟨hs, g1, g2, g3⟩ := resH_sound hvs
  have hh : ∃ y, resH X.P (encS V (conc V X.sh.rcut r)) fn.results.toList = some y ∧ H.le y (encV V (conc V X.sh.rcut r).len x) := by
   rw [hrs]
   unfold resH
   rw [g1]
   cases vs with
   | nil =>
    have : hs = [] := List.eq_nil_of_length_eq_zero (by simpa using g2)
    subst this; subst hone
    exact ⟨.tup [], rfl, by simp only [oneV, encV, encL]; exact H.le.refl _⟩
   | cons a l =>
    cases l with
    | nil =>
     cases hs with
     | nil => simp at g2
     | cons y l' =>
      have : l' = [] := List.eq_nil_of_length_eq_zero (by simpa using g2)
      subst this; subst hone
      obtain ⟨z, z1, z2⟩ := g3 0 a rfl
      simp at z1; subst z1
      exact ⟨y, rfl, z2⟩
    | cons b l =>
     cases hs with
     | nil => simp at g2
     | cons y l' =>
      cases l' with
      | nil => simp at g2
      | cons y2 l2 =>
       subst hone
       refine ⟨.tup (y :: y2 :: l2), rfl, ?_⟩
       simp only [oneV, encV]
       refine tup_le (by rw [encL_len]; exact g2) fun i w hw => ?_
       rw [encL_map, List.getElem?_map, Option.map_eq_some_iff] at hw
       obtain ⟨u, hu, rfl⟩ := hw
       exact g3 i u hu
  obtain ⟨y, hy1, hy2⟩ := hh
  refine ⟨he, _, hσ, y, hy1, hy2, fun n o ho => ?_⟩
  obtain ⟨o', h1, h2⟩ := gt_filterMap ho
  have h1 : (n, o') ∈ (conc V X.sh.rcut r).own := (List.mem_filter.1 h1).1
  have := gt_distinct (build_names X.sh.rcut _ hdr) h1
  rw [encS_own?]
  unfold TS.own?
  unfold conc at *
  rw [this]
  exact h2
 refine .ent hent (ex_sound hP (by rw [hN, hn]) hm hcall c _ _ _ _ _ r _ (hl C hP (by rw [hN, hn])) h ⟨fun S σ hk he => ?_, fun id S σ _ hk he => (by cases hk), fun l S σ hk he => (by cases hk), fun w σ hk he => ?_⟩)
 ·exact hend _ σ (.inl rfl) (Ent.trans he (extr_ent hk))
 ·have : w = r := by simpa using hk
  subst this
  exact hend _ σ (.inr rfl) he
theorem fn_split {P : Program} {f : FuncId} {sz : Nat} {rows : List (List D)} {r : H} {own' : List (Nat × Own)} (h1 : rows ≠ [] → FnOk P f [.d (.sl sz rows)] [] r own')
  (h2 : rows = [] → FnOk P f [.d (.v (.slice none 0 0))] [] r own') (h3 : rows = [] → ∀ a cap, FnOk P f [.d (.v (.slice (some a) 0 cap))] [] r own') : FnOk P f [.d (.sl sz rows)] [] r own' := by
 by_cases h0 : rows = []
 ·refine ⟨(h2 h0).1, fun E M w vs hgm hm ho hvs => ?_⟩
  obtain ⟨hsz, hv⟩ := hvs
  obtain ⟨v, hv0⟩ : ∃ v, vs[0]? = some v := ⟨vs[0]'(by simp at hsz; omega), Array.getElem?_eq_getElem _⟩
  have hr := hv 0 v _ hv0 rfl
  have go : ∀ u : Value, v = u → HReps E M vs [.d (.v u)] := by
   rintro u rfl
   refine ⟨hsz, fun i c x hc hx => ?_⟩
   cases i with
   | zero => simp at hx; subst hx; rw [hv0] at hc; cases hc; exact .d (.v _)
   | succ i => simp at hx
  subst h0
  cases hr with
  | d hd =>
   generalize hq : D.sl sz [] = q at hd
   cases hd with
   | slnil => exact (h2 rfl).2 E M w vs hgm hm ho (go _ rfl)
   | slmt a cap => exact (h3 rfl a cap).2 E M w vs hgm hm ho (go _ rfl)
   | sl b off len cap sz' rows' c hlen hcap =>
    simp only [D.sl.injEq] at hq
    obtain ⟨_, rfl⟩ := hq
    simp at hlen
    subst hlen
    exact (h3 rfl _ cap).2 E M w vs hgm hm ho (go _ rfl)
   | _ => cases hq
 ·exact h1 h0
end
end Go.Tx
end
section
namespace Go.Proofs.YtdmggfegkaiaiaaGreatDoor.Ty
open Go.Awp
theorem mixed : Tryz.prog.follows .mixedOrders = true := by kernel_rfl
end Go.Proofs.YtdmggfegkaiaiaaGreatDoor.Ty
end
section
namespace Go.Proofs.YtdmggfegkaiaiaaGreatDoor
open Go.Awp Go.Tx
structure Tag where
 kind : Int
 n : Int
 text : ByteArray
 names : (List ByteArray)
 parts : (List Tag)
mutual
noncomputable def Tag.enc : Tag → List D
 | ⟨a0, a1, a2, a3, a4⟩ => [.v (.int .i64 a0)] ++ [.v (.int .i64 a1)] ++ [.v (.string a2)] ++ [.sl 1 (List.map (fun y => [.v (.string y)]) a3)] ++ [.sl 5 (Tag.encL a4)]
noncomputable def Tag.encL : List Tag → List (List D)
 | [] => []
 | x :: r => Tag.enc x :: Tag.encL r
end
theorem Tag.encL_map : ∀ l : List Tag, Tag.encL l = l.map Tag.enc
 | [] => by simp [Tag.encL]
 | x :: r => by simp [Tag.encL, Tag.encL_map r]
structure Size where
 depth : Int
 pieces : Int
 bytes : Int
 deriving DecidableEq
noncomputable def Size.enc (x : Size) : List D := [.v (.int .i64 x.depth)] ++ [.v (.int .i64 x.pieces)] ++ [.v (.int .i64 x.bytes)]
structure Reader where
 s : ByteArray
 at0 : Int
noncomputable def Reader.enc (x : Reader) : List D := [.v (.string x.s)] ++ [.v (.int .i64 x.at0)]
structure Mandrelref20Reader where
 s : ByteArray
 at0 : Int
 wrong : Bool
noncomputable def Mandrelref20Reader.enc (x : Mandrelref20Reader) : List D := [.v (.string x.s)] ++ [.v (.int .i64 x.at0)] ++ [.v (.bool x.wrong)]
structure AcceptRange where
 lo : Int
 hi : Int
 deriving DecidableEq
noncomputable def AcceptRange.enc (x : AcceptRange) : List D := [.v (.int .u8 x.lo)] ++ [.v (.int .u8 x.hi)]
structure ErrorString where
 s : ByteArray
noncomputable def ErrorString.enc (x : ErrorString) : List D := [.v (.string x.s)]
inductive SN where
 | tagT
 | sizeT
 | readerT
 | mandrelref20ReaderT
 | acceptRangeT
 | errorStringT
 deriving DecidableEq
abbrev NN : SN → Type
 | .tagT => Tag
 | .sizeT => Size
 | .readerT => Reader
 | .mandrelref20ReaderT => Mandrelref20Reader
 | .acceptRangeT => AcceptRange
 | .errorStringT => ErrorString
noncomputable def szN : SN → Nat
 | .tagT => 5
 | .sizeT => 3
 | .readerT => 2
 | .mandrelref20ReaderT => 3
 | .acceptRangeT => 2
 | .errorStringT => 1
noncomputable def tysN : SN → List (Ty SN)
 | .tagT => [(.int .i64), (.int .i64), .str, (.sl .str), (.sl (.st .tagT))]
 | .sizeT => [(.int .i64), (.int .i64), (.int .i64)]
 | .readerT => [.str, (.int .i64)]
 | .mandrelref20ReaderT => [.str, (.int .i64), .bool]
 | .acceptRangeT => [(.int .u8), (.int .u8)]
 | .errorStringT => [.str]
noncomputable def cellsN : (i : SN) → NN i → List (Leaf NN)
 | .tagT, x => [⟨(.int .i64), x.kind⟩, ⟨(.int .i64), x.n⟩, ⟨.str, x.text⟩, ⟨(.sl .str), x.names⟩, ⟨(.sl (.st .tagT)), x.parts⟩]
 | .sizeT, x => [⟨(.int .i64), x.depth⟩, ⟨(.int .i64), x.pieces⟩, ⟨(.int .i64), x.bytes⟩]
 | .readerT, x => [⟨.str, x.s⟩, ⟨(.int .i64), x.at0⟩]
 | .mandrelref20ReaderT, x => [⟨.str, x.s⟩, ⟨(.int .i64), x.at0⟩, ⟨.bool, x.wrong⟩]
 | .acceptRangeT, x => [⟨(.int .u8), x.lo⟩, ⟨(.int .u8), x.hi⟩]
 | .errorStringT, x => [⟨.str, x.s⟩]
noncomputable def encN : (i : SN) → NN i → List D
 | .tagT, x => Tag.enc x
 | .sizeT, x => Size.enc x
 | .readerT, x => Reader.enc x
 | .mandrelref20ReaderT, x => Mandrelref20Reader.enc x
 | .acceptRangeT, x => AcceptRange.enc x
 | .errorStringT, x => ErrorString.enc x
noncomputable def ofN : (i : SN) → List (Leaf NN) → Option (NN i)
 | .tagT, [⟨(.int .i64), a0⟩, ⟨(.int .i64), a1⟩, ⟨.str, a2⟩, ⟨(.sl .str), a3⟩, ⟨(.sl (.st .tagT)), a4⟩] => some ⟨a0, a1, a2, a3, a4⟩
 | .sizeT, [⟨(.int .i64), a0⟩, ⟨(.int .i64), a1⟩, ⟨(.int .i64), a2⟩] => some ⟨a0, a1, a2⟩
 | .readerT, [⟨.str, a0⟩, ⟨(.int .i64), a1⟩] => some ⟨a0, a1⟩
 | .mandrelref20ReaderT, [⟨.str, a0⟩, ⟨(.int .i64), a1⟩, ⟨.bool, a2⟩] => some ⟨a0, a1, a2⟩
 | .acceptRangeT, [⟨(.int .u8), a0⟩, ⟨(.int .u8), a1⟩] => some ⟨a0, a1⟩
 | .errorStringT, [⟨.str, a0⟩] => some ⟨a0⟩
 | _, _ => none
noncomputable def tyN : TypeId → Option (Ty SN)
 | 2 => some (.int .i64)
 | 3 => some (.int .i64)
 | 4 => some .bool
 | 5 => some (.int .u8)
 | 6 => some (.int .u8)
 | 9 => some .str
 | 10 => some .str
 | 11 => some .str
 | 12 => some (.int .u64)
 | 21 => some (.int .i32)
 | 22 => some (.sl .str)
 | 23 => some (.sl (.st .tagT))
 | 25 => some (.st .tagT)
 | 29 => some (.int .i64)
 | 46 => some (.int .u64)
 | 47 => some (.sl (.int .u8))
 | 64 => some (.st .sizeT)
 | 70 => some (.st .readerT)
 | 74 => some (.st .mandrelref20ReaderT)
 | 123 => some (.st .acceptRangeT)
 | 133 => some (.int .i64)
 | 140 => some (.int .u32)
 | 142 => some (.int .u64)
 | 143 => some (.int .i64)
 | 157 => some (.int .u64)
 | 181 => some (.st .errorStringT)
 | 218 => some (.int .u8)
 | 219 => some (.int .u8)
 | 221 => some (.int .i32)
 | 222 => some (.int .i32)
 | _ => none
theorem enc_cellsN (i : SN) (x : NN i) : encN i x = (cellsN i x).map fun l => encD szN encN l.t l.x := by
 cases i <;> cases x <;> simp [encN, cellsN, encD, encR, tsz, szN, Tag.enc, Size.enc, Reader.enc, Mandrelref20Reader.enc, AcceptRange.enc, ErrorString.enc, Tag.encL_map]
theorem of_cellsN (i : SN) (ls : List (Leaf NN)) (x : NN i) (h : ofN i ls = some x) : cellsN i x = ls := by
 unfold ofN at h
 split at h <;> first
  | (cases h; rfl)
  | (cases h; done)
theorem len_cellsN (i : SN) (x : NN i) : (cellsN i x).length = szN i := by cases i <;> rfl
theorem one_cellsN (i : SN) (x : NN i) : ∀ l ∈ cellsN i x, l.t.cell = true := by
 have h : (cellsN i x).all (fun l => l.t.cell) = true := by cases i <;> rfl
 exact List.all_eq_true.1 h
noncomputable def vw : View where
 ι := SN
 dec := inferInstance
 N := NN
 sz := szN
 tys := tysN
 cells := cellsN
 ofCells := ofN
 enc := encN
 ty := tyN
 enc_cells := enc_cellsN
 of_cells := of_cellsN
 len_cells := len_cellsN
 one_cells := one_cellsN
end Go.Proofs.YtdmggfegkaiaiaaGreatDoor
end
section
namespace Go.Proofs.YtdmggfegkaiaiaaGreatDoor
open Go.Awp Go.Tx
open Go.Proofs.Tryz (prog)
set_option maxRecDepth 100000
def structOf (P : Program) (t : TypeId) : Array Field := match P.underlying t with
 | some (.struct fs) => fs
 | _ => #[]
theorem tf2 : tyFact vw prog 2 (.int .i64) := (by kernel_rfl : prog.underlying 2 = some (.int .i64))
theorem tf3 : tyFact vw prog 3 (.int .i64) := (by kernel_rfl : prog.underlying 3 = some (.int .i64))
theorem tf4 : tyFact vw prog 4 .bool := (by kernel_rfl : prog.underlying 4 = some .bool)
theorem tf5 : tyFact vw prog 5 (.int .u8) := (by kernel_rfl : prog.underlying 5 = some (.int .u8))
theorem tf6 : tyFact vw prog 6 (.int .u8) := (by kernel_rfl : prog.underlying 6 = some (.int .u8))
theorem tf9 : tyFact vw prog 9 .str := (by kernel_rfl : prog.underlying 9 = some .string)
theorem tf10 : tyFact vw prog 10 .str := (by kernel_rfl : prog.underlying 10 = some .string)
theorem tf11 : tyFact vw prog 11 .str := (by kernel_rfl : prog.underlying 11 = some .string)
theorem tf12 : tyFact vw prog 12 (.int .u64) := (by kernel_rfl : prog.underlying 12 = some (.int .u64))
theorem tf21 : tyFact vw prog 21 (.int .i32) := (by kernel_rfl : prog.underlying 21 = some (.int .i32))
theorem tf22 : tyFact vw prog 22 (.sl .str) := ⟨9, by kernel_rfl, by kernel_rfl, by kernel_rfl, by kernel_rfl⟩
theorem tf23 : tyFact vw prog 23 (.sl (.st .tagT)) := ⟨25, by kernel_rfl, by kernel_rfl, by kernel_rfl, by kernel_rfl⟩
theorem tf25 : tyFact vw prog 25 (.st .tagT) := ⟨structOf prog 25, by kernel_rfl, by kernel_rfl, by kernel_rfl⟩
theorem tf29 : tyFact vw prog 29 (.int .i64) := (by kernel_rfl : prog.underlying 29 = some (.int .i64))
theorem tf46 : tyFact vw prog 46 (.int .u64) := (by kernel_rfl : prog.underlying 46 = some (.int .u64))
theorem tf47 : tyFact vw prog 47 (.sl (.int .u8)) := ⟨5, by kernel_rfl, by kernel_rfl, by kernel_rfl, by kernel_rfl⟩
theorem tf64 : tyFact vw prog 64 (.st .sizeT) := ⟨structOf prog 64, by kernel_rfl, by kernel_rfl, by kernel_rfl⟩
theorem tf70 : tyFact vw prog 70 (.st .readerT) := ⟨structOf prog 70, by kernel_rfl, by kernel_rfl, by kernel_rfl⟩
theorem tf74 : tyFact vw prog 74 (.st .mandrelref20ReaderT) := ⟨structOf prog 74, by kernel_rfl, by kernel_rfl, by kernel_rfl⟩
theorem tf123 : tyFact vw prog 123 (.st .acceptRangeT) := ⟨structOf prog 123, by kernel_rfl, by kernel_rfl, by kernel_rfl⟩
theorem tf133 : tyFact vw prog 133 (.int .i64) := (by kernel_rfl : prog.underlying 133 = some (.int .i64))
theorem tf140 : tyFact vw prog 140 (.int .u32) := (by kernel_rfl : prog.underlying 140 = some (.int .u32))
theorem tf142 : tyFact vw prog 142 (.int .u64) := (by kernel_rfl : prog.underlying 142 = some (.int .u64))
theorem tf143 : tyFact vw prog 143 (.int .i64) := (by kernel_rfl : prog.underlying 143 = some (.int .i64))
theorem tf157 : tyFact vw prog 157 (.int .u64) := (by kernel_rfl : prog.underlying 157 = some (.int .u64))
theorem tf181 : tyFact vw prog 181 (.st .errorStringT) := ⟨structOf prog 181, by kernel_rfl, by kernel_rfl, by kernel_rfl⟩
theorem tf218 : tyFact vw prog 218 (.int .u8) := (by kernel_rfl : prog.underlying 218 = some (.int .u8))
theorem tf219 : tyFact vw prog 219 (.int .u8) := (by kernel_rfl : prog.underlying 219 = some (.int .u8))
theorem tf221 : tyFact vw prog 221 (.int .i32) := (by kernel_rfl : prog.underlying 221 = some (.int .i32))
theorem tf222 : tyFact vw prog 222 (.int .i32) := (by kernel_rfl : prog.underlying 222 = some (.int .i32))
theorem leaves_cons {ls : List (Leaf NN)} {t : Ty SN} {ts : List (Ty SN)} (h : ls.map (·.t) = t :: ts) : ∃ (x : den NN t) (ls' : List (Leaf NN)), ls = ⟨t, x⟩ :: ls' ∧ ls'.map (·.t) = ts := by
 match ls, h with
 | ⟨t', x⟩ :: r, h =>
  simp only [List.map_cons, List.cons.injEq] at h
  obtain ⟨h1, h2⟩ := h
  subst h1
  exact ⟨x, r, rfl, h2⟩
theorem leaves_nil {ls : List (Leaf NN)} (h : ls.map (·.t) = []) : ls = [] := by simpa using h
theorem facts : Facts vw prog where
 ty := fun t τ h => by
  have h : tyN t = some τ := h
  unfold tyN at h
  split at h
  ·cases h; exact tf2
  ·cases h; exact tf3
  ·cases h; exact tf4
  ·cases h; exact tf5
  ·cases h; exact tf6
  ·cases h; exact tf9
  ·cases h; exact tf10
  ·cases h; exact tf11
  ·cases h; exact tf12
  ·cases h; exact tf21
  ·cases h; exact tf22
  ·cases h; exact tf23
  ·cases h; exact tf25
  ·cases h; exact tf29
  ·cases h; exact tf46
  ·cases h; exact tf47
  ·cases h; exact tf64
  ·cases h; exact tf70
  ·cases h; exact tf74
  ·cases h; exact tf123
  ·cases h; exact tf133
  ·cases h; exact tf140
  ·cases h; exact tf142
  ·cases h; exact tf143
  ·cases h; exact tf157
  ·cases h; exact tf181
  ·cases h; exact tf218
  ·cases h; exact tf219
  ·cases h; exact tf221
  ·cases h; exact tf222
  ·cases h
 tys := fun i x => by cases i <;> rfl
 of := fun i ls h => by
  cases i with
  | tagT =>
   obtain ⟨a0, l0, rfl, h0⟩ := leaves_cons h
   obtain ⟨a1, l1, rfl, h1⟩ := leaves_cons h0
   obtain ⟨a2, l2, rfl, h2⟩ := leaves_cons h1
   obtain ⟨a3, l3, rfl, h3⟩ := leaves_cons h2
   obtain ⟨a4, l4, rfl, h4⟩ := leaves_cons h3
   obtain rfl := leaves_nil h4
   exact ⟨_, rfl⟩
  | sizeT =>
   obtain ⟨a0, l0, rfl, h0⟩ := leaves_cons h
   obtain ⟨a1, l1, rfl, h1⟩ := leaves_cons h0
   obtain ⟨a2, l2, rfl, h2⟩ := leaves_cons h1
   obtain rfl := leaves_nil h2
   exact ⟨_, rfl⟩
  | readerT =>
   obtain ⟨a0, l0, rfl, h0⟩ := leaves_cons h
   obtain ⟨a1, l1, rfl, h1⟩ := leaves_cons h0
   obtain rfl := leaves_nil h1
   exact ⟨_, rfl⟩
  | mandrelref20ReaderT =>
   obtain ⟨a0, l0, rfl, h0⟩ := leaves_cons h
   obtain ⟨a1, l1, rfl, h1⟩ := leaves_cons h0
   obtain ⟨a2, l2, rfl, h2⟩ := leaves_cons h1
   obtain rfl := leaves_nil h2
   exact ⟨_, rfl⟩
  | acceptRangeT =>
   obtain ⟨a0, l0, rfl, h0⟩ := leaves_cons h
   obtain ⟨a1, l1, rfl, h1⟩ := leaves_cons h0
   obtain rfl := leaves_nil h1
   exact ⟨_, rfl⟩
  | errorStringT =>
   obtain ⟨a0, l0, rfl, h0⟩ := leaves_cons h
   obtain rfl := leaves_nil h0
   exact ⟨_, rfl⟩
end Go.Proofs.YtdmggfegkaiaiaaGreatDoor
end
section
namespace Go.Tx
open Go.Awp
variable [Inhabited GMem]
theorem FnOk.pure {P : Program} {f : FuncId} {args : List H} {r : H} (hc : callable P f = true)
  (h : ∀ (E : Env) (M : Mem) (w : World) (vs : Array Value), GOk M w → (∀ b o v, M b o = some v → w.cell? ⟨b, o, none⟩ = some v) → HReps E M vs args →
    Calls P f vs w fun e w' => ∃ v, e = .returned v ∧ HRep E M v r ∧ Go.RowKit.Below w.heap.size w w') : FnOk P f args [] r [] := by
 refine ⟨hc, fun E M w vs hgm hm _ hvs => (h E M w vs hgm hm hvs).mono ?_⟩
 rintro e w' ⟨v, rfl, hr, hb⟩
 refine ⟨v, E, M, rfl, { rep := hr, owns := ⟨fun n o hn => by simp [gt] at hn, fun n m o o' b _ hn => by simp [gt] at hn⟩, mle := Mem.le_refl _, mem := fun b o v hv => ?_, mnew := fun b o v hv => .inl hv, home := fun n o b hn => by simp [gt] at hn, frame := fun k hk _ => hb.block k hk, grows := hb.size, os := hb.os, tape := hb.tape, output := hb.output, env := fun _ _ => rfl }⟩
 have h1 := hm b o v hv
 have hlt := World.block_lt_of_cell? w (a := ⟨b, o, none⟩) h1
 rw [← h1]
 exact World.cell?_of_block (a := ⟨b, o, none⟩) (hb.block b hlt)
theorem hreps_one {E : Env} {M : Mem} {vs : Array Value} {a : H} (h : HReps E M vs [a]) : ∃ v, vs = #[v] ∧ HRep E M v a := by
 obtain ⟨h1, h2⟩ := h
 match vs, h1 with
 | ⟨[v]⟩, _ => exact ⟨v, rfl, h2 0 v a rfl rfl⟩
theorem hreps_two {E : Env} {M : Mem} {vs : Array Value} {a b : H} (h : HReps E M vs [a, b]) : ∃ v u, vs = #[v, u] ∧ HRep E M v a ∧ HRep E M u b := by
 obtain ⟨h1, h2⟩ := h
 match vs, h1 with
 | ⟨[v, u]⟩, _ => exact ⟨v, u, rfl, h2 0 v a rfl rfl, h2 1 u b rfl rfl⟩
theorem FnOk.copyCheck {P : Program} {f : FuncId} {T : TypeId} {rest : List D} (hc : callable P f = true)
  (fresh : ∀ (b : Nat) (w : World), w.cell? ⟨b, 0, none⟩ = some (.pointer none) → w.shape? b = some (T, rest.length + 2) → w.frozen? ⟨b, 0, none⟩ = false →
    Calls P f #[.pointer (some ⟨b, 0, none⟩)] w fun e w' => e = .returned (.tuple #[]) ∧ w' = w.setCell ⟨b, 0, none⟩ (.pointer (some ⟨b, 0, none⟩)))
  (used : ∀ (b : Nat) (w : World), w.cell? ⟨b, 0, none⟩ = some (.pointer (some ⟨b, 0, none⟩)) → 
    Calls P f #[.pointer (some ⟨b, 0, none⟩)] w fun e w' => e = .returned (.tuple #[]) ∧ w' = w)
  {g m c l : Nat} {bl : Bool} {e sz : Nat} {rows : List (List D)} (hgm : g ≠ m) (hgc : g ≠ c) (hcg : c < given) :
  FnOk P f [.bp g 0] [(g, .box (some T) (.np g bl :: .vh m l :: rest.map H.d)), (m, .vec e sz rows)] (.tup []) [(g, .box (some T) (.np g true :: .vh c l :: rest.map H.d)), (c, .vec e sz rows)] := by
 refine ⟨hc, fun E M w vs _ hm how hvs => ?_⟩
 obtain ⟨v, rfl, hv⟩ := hreps_one hvs
 have g1 : gt [(g, Own.box (some T) (H.np g bl :: H.vh m l :: rest.map H.d)), (m, Own.vec e sz rows)] g = some (.box (some T) (.np g bl :: .vh m l :: rest.map H.d)) := by simp [gt]
 have g2 : gt [(g, Own.box (some T) (H.np g bl :: H.vh m l :: rest.map H.d)), (m, Own.vec e sz rows)] m = some (.vec e sz rows) := by simp [gt, hgm]
 have o1 := how.ok g _ g1
 have o2 := how.ok m _ g2
 obtain ⟨b, cs, ty, k1, k2, k3, k4, k5, k6⟩ := o1
 have hty := k6 T rfl
 subst hty
 cases hv with
 | bp n off b' hE =>
 rw [hE] at k1; cases k1
 obtain ⟨p, q, rs, rfl⟩ : ∃ p q rs, cs = ⟨p :: q :: rs⟩ := by
  match cs, k3 with
  | ⟨p :: q :: rs⟩, _ => exact ⟨p, q, rs, rfl⟩
 have hrs : rs.length = rest.length := by simpa using k3
 have hp := k4 0 p (.np g bl) rfl rfl
 have hq := k4 1 q (.vh m l) rfl rfl
 have hcell : ∀ u, w.cell? ⟨b, 0, none⟩ = some u ↔ p = u := fun u => by simp [World.cell?, k2]
 have hsh : w.shape? b = some (ty, rest.length + 2) := by simp [World.shape?, k2, hrs]
 have hfz : w.frozen? ⟨b, 0, none⟩ = false := by simp [World.frozen?, k2]
 have hblt : b < w.heap.size := (Array.getElem?_eq_some_iff.1 k2).1
 have hapart : ∀ b', blockOf (E m) = some b' → b' ≠ b := fun b' hb' he => by
  subst he
  exact how.apart g m _ _ b' hgm g1 g2 (by rw [hE]; rfl) hb'
 let E' : Env := fun n => if n = c then E m else E n
 have hE' : ∀ n, n ≠ c → E' n = E n := fun n hn => by simp [E', hn]
 have hEc : E' c = E m := by simp [E']
 have hEg : E' g = .pointer (some ⟨b, 0, none⟩) := by rw [hE' g hgc]; exact hE
 have fin : ∀ w', w'.heap = w.heap.setIfInBounds b (.cells ⟨.pointer (some ⟨b, 0, none⟩) :: q :: rs⟩ ty (0, 0)) → w'.os = w.os → w'.tape = w.tape → w'.output = w.output →
   FnPost E M [(g, .box (some ty) (.np g bl :: .vh m l :: rest.map H.d)), (m, .vec e sz rows)] w (.tuple #[]) (.tup []) [(g, .box (some ty) (.np g true :: .vh c l :: rest.map H.d)), (c, .vec e sz rows)] E' M w' := by
  intro w' hh h1 h2 h3
  have hother : ∀ k, k ≠ b → w'.heap[k]? = w.heap[k]? := fun k hk => by
   rw [hh, Array.getElem?_setIfInBounds_ne (fun e => hk e.symm)]
  have hblk : ∀ n o bb, gt [(g, Own.box (some ty) (H.np g true :: H.vh c l :: rest.map H.d)), (c, Own.vec e sz rows)] n = some o → blockOf (E' n) = some bb → (n = g ∧ bb = b) ∨ (n = c ∧ blockOf (E m) = some bb) := by
   intro n o bb hn hb
   rw [gt_cons] at hn
   by_cases hgn : g = n
   ·subst hgn; rw [hEg] at hb; left; exact ⟨rfl, by simpa [blockOf] using hb.symm⟩
   ·rw [if_neg hgn, gt_cons] at hn
    by_cases hcn : c = n
    ·subst hcn; rw [hEc] at hb; right; exact ⟨rfl, hb⟩
    ·rw [if_neg hcn] at hn; simp [gt] at hn
  refine { rep := .tup #[] [] rfl (fun i c x hc => by simp at hc), owns := ⟨fun n o hn => ?_, fun n n' o o' bb hne hn hn' hb hb' => ?_⟩, mle := Mem.le_refl _, mem := fun bb o v hv => ?_, mnew := fun bb o v hv => .inl hv, home := fun n o bb hn hb => ?_, frame := fun k hk hx => ?_, grows := ?_, os := h1, tape := h2, output := h3, env := fun n hn => ?_ }
  ·rw [gt_cons] at hn
   by_cases hgn : g = n
   ·subst hgn
    rw [if_pos rfl] at hn; cases hn
    refine ⟨b, ⟨.pointer (some ⟨b, 0, none⟩) :: q :: rs⟩, ty, hEg, by rw [hh]; simp [hblt], by simp [hrs], fun i x y hx hy => ?_, k5, fun t ht => by cases ht; rfl⟩
    match i with
    | 0 => simp at hx hy; subst hx; subst hy; exact .np1 g b hEg
    | 1 =>
     simp at hx hy; subst hx; subst hy
     cases hq with
     | vh _ len l' cc ad hEm hl => exact HRep.vh c l l' cc ad (hEc.trans hEm) hl
    | i + 2 =>
     have hr := k4 (i + 2) x y (by simpa using hx) (by simpa using hy)
     have hy' : (rest.map H.d)[i]? = some y := by simpa using hy
     rw [List.getElem?_map, Option.map_eq_some_iff] at hy'
     obtain ⟨d, _, rfl⟩ := hy'
     cases hr with
     | d hd => exact .d hd
   ·rw [if_neg hgn, gt_cons] at hn
    by_cases hcn : c = n
    ·subst hcn
     rw [if_pos rfl] at hn; cases hn
     have := o2.keep (E' := E) (M' := M) (w' := w') rfl (fun b' hb' => hother b' (hapart b' hb')) (fun _ _ => rfl) (Mem.le_refl _) fun b' hb' => (o2.block hb').2
     obtain ⟨xs, y1, y2, y3, y4⟩ := this
     exact ⟨xs, by rw [hEc]; exact y1, y2, y3, by rw [hEc]; exact y4⟩
    ·rw [if_neg hcn] at hn; simp [gt] at hn
  ·rcases hblk n o bb hn hb with ⟨rfl, rfl⟩ | ⟨rfl, h4⟩
   ·rcases hblk n' o' bb hn' hb' with ⟨rfl, _⟩ | ⟨rfl, h5⟩
    ·exact hne rfl
    ·exact hapart bb h5 rfl
   ·rcases hblk n' o' bb hn' hb' with ⟨rfl, rfl⟩ | ⟨rfl, h5⟩
    ·exact hapart bb h4 rfl
    ·exact hne rfl
  ·have h4 := hm bb o v hv
   have hne : bb ≠ b := by rintro rfl; rw [k5 o] at hv; cases hv
   rw [← h4]
   exact World.cell?_of_block (a := ⟨bb, o, none⟩) (hother bb hne)
  ·rcases hblk n o bb hn hb with ⟨rfl, rfl⟩ | ⟨rfl, h4⟩
   ·exact .inl ⟨n, _, g1, by rw [hE]; rfl⟩
   ·exact .inl ⟨m, _, g2, h4⟩
  ·exact hother k fun e => hx ⟨g, _, g1, by rw [hE, e]; rfl⟩
  ·rw [hh]; simp
  ·exact hE' n (by omega)
 cases hp with
 | np0 =>
  refine (fresh b w ((hcell _).2 rfl) hsh hfz).mono ?_
  rintro e' w' ⟨rfl, rfl⟩
  refine ⟨_, E', M, rfl, fin _ ?_ rfl rfl rfl⟩
  simp only [World.setCell]
  apply Array.ext'
  rw [Array.toList_setIfInBounds]
  apply List.ext_getElem?
  intro k
  simp only [Array.toList_modify, List.getElem?_modify, List.getElem?_set, Array.getElem?_toList, Array.length_toList]
  by_cases hk : b = k
  ·subst hk
   have k2' : w.heap[b] = .cells ⟨.pointer none :: q :: rs⟩ ty (0, 0) := by rw [Array.getElem?_eq_getElem hblt] at k2; exact Option.some.inj k2
   simp [hblt, k2']
  ·simp [hk]
 | np1 _ b' hb' =>
  rw [hE] at hb'; cases hb'
  refine (used b w ((hcell _).2 rfl)).mono ?_
  rintro e' w' ⟨rfl, rfl⟩
  refine ⟨_, E', M, rfl, fin _ ?_ rfl rfl rfl⟩
  apply Array.ext'
  rw [Array.toList_setIfInBounds]
  apply List.ext_getElem?
  intro k
  simp only [List.getElem?_set, Array.getElem?_toList, Array.length_toList]
  by_cases hk : b = k
  ·subst hk
   rw [k2]; simp [hblt]
  ·simp [hk]
section
open Go.Shelf Go.RowKit Go.Proofs
set_option maxHeartbeats 1000000 in
set_option maxRecDepth 100000 in
theorem copyCheck_part {P : Program} {ρ : Ren} (L : Lays.n240 P ρ) (X : Builder.X72 P ρ) {T : TypeId} {n : Nat} (hlies : liesAt P P.depth T (n / P.cellsOf T) 0 (ρ.t 72) 1 = true) (hn : 0 < n) (b : Nat) (w : World) (h0 : w.cell? ⟨b, 0, none⟩ = some (.pointer none)) (hsh : w.shape? b = some (T, n)) (hfz : w.frozen? ⟨b, 0, none⟩ = false) :
  Calls P (ρ.f 240) #[.pointer (some ⟨b, 0, none⟩)] w fun e w' => e = .returned (.tuple #[]) ∧ w' = w.setCell ⟨b, 0, none⟩ (.pointer (some ⟨b, 0, none⟩)) := by
 obtain ⟨j, hj, hjs⟩ := Option.map_eq_some_iff.1 X.sizeBuilder
 have mixed := L.mixed
 have t72 := L.t72; have a72 := L.a72; have z72 := L.z72; have v72 := L.v72; have u72 := run_underlying L.t72
 have t70 := L.t70; have a70 := L.a70; have z70 := L.z70; have v70 := L.v70; have u70 := run_underlying L.t70
 have t9 := L.t9; have a9 := L.a9; have z9 := L.z9; have v9 := L.v9; have u9 := run_underlying L.t9
 have t4 := L.t4; have a4 := L.a4; have z4 := L.z4; have v4 := L.v4; have u4 := run_underlying L.t4
 have t164 := L.t164; have a164 := L.a164; have z164 := L.z164; have v164 := L.v164; have u164 := run_underlying L.t164
 go_enter L.f240, Body.n240_ntmps ρ
 go_wp2
 rw [Lib.run_to_unsafe w ⟨b, 0, none⟩ L.t70 L.t164 hj (by rw [hjs]; decide) hsh hn]
 simp only [Result.andThen]
 rw [Oper.upon_value]
 go_wp2
 rw [run_callFunc_extern L.f276 (by kernel_rfl) (by kernel_rfl) (by kernel_rfl) (e := Extern.AbiNoEscape.same) (by kernel_rfl)]
 rw [Lib.run_noEscape]
 simp only [Result.andThen]
 rw [Oper.upon_value]
 go_wp2
 rw [Lib.run_from_unsafe w ⟨b, 0, none⟩ L.t164 L.t70 hj hsh hlies]
 simp only [Result.andThen]
 rw [Oper.upon_value]
 go_wp2
 go_end0
 exact ⟨rfl, rfl⟩
end
end Go.Tx
end
