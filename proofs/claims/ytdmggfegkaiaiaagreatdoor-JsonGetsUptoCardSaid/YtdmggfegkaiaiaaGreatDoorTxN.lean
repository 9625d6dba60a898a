/-
  Typed states: calls that hand over what is owned.
-/
import Derived.Test.YtdmggfegkaiaiaaGreatDoorTxM
namespace Go.Tx
open Go.Awp
set_option linter.unusedSectionVars false
variable [Inhabited GMem]
set_option linter.unusedSimpArgs false

section
variable {ι : Type} {N : ι → Type}

mutual
def TV.ren (f : Nat → Nat) : TV N → TV N
  | .bp n o => .bp (f n) o
  | .vh n => .vh (f n)
  | .ep n s i o => .ep (f n) s i o
  | .mp n => .mp (f n)
  | .np n b => .np (f n) b
  | .sd n => .sd (f n)
  | .agg cs => .agg (TV.renL f cs)
  | .tup vs => .tup (TV.renL f vs)
  | .fn g a b => .fn g (TV.renL f a) (TV.renL f b)
  | .lf t x => .lf t x
  | .raw v => .raw v
  | .rp t x off => .rp t x off
  | .junk => .junk
def TV.renL (f : Nat → Nat) : List (TV N) → List (TV N)
  | [] => []
  | x :: r => TV.ren f x :: TV.renL f r
end

def TO.ren (f : Nat → Nat) : TO N → TO N
  | .box o cells => .box o (TV.renL f cells)
  | .bst i x => .bst i x
  | .vec te e xs => .vec te e xs
  | .map k v es => .map k v es
  | .iter s p => .iter s p
  | .gone l => .gone l

mutual
/-- All names in it are such. -/
def TV.allN (p : Nat → Bool) : TV N → Bool
  | .bp n _ => p n
  | .vh n => p n
  | .ep n _ _ _ => p n
  | .mp n => p n
  | .np n _ => p n
  | .sd n => p n
  | .agg cs => TV.allNL p cs
  | .tup vs => TV.allNL p vs
  | .fn _ a b => TV.allNL p a && TV.allNL p b
  | .lf .. => true
  | .raw _ => true
  | .rp .. => true
  | .junk => true
def TV.allNL (p : Nat → Bool) : List (TV N) → Bool
  | [] => true
  | x :: r => TV.allN p x && TV.allNL p r
end

def TO.allN (p : Nat → Bool) : TO N → Bool
  | .box _ cells => TV.allNL p cells
  | .bst .. => true
  | .vec .. => true
  | .map .. => true
  | .iter .. => true
  | .gone _ => false
end

section
variable {V : View}

mutual
theorem TV.allN_has {p : Nat → Bool} {n : Nat} : ∀ {x : TV V.N}, TV.allN p x = true → TV.has n x = true → p n = true
  | .bp m o, h, hn => by simp [TV.has] at hn; subst hn; simpa [TV.allN] using h
  | .vh m, h, hn => by simp [TV.has] at hn; subst hn; simpa [TV.allN] using h
  | .ep m s i o, h, hn => by simp [TV.has] at hn; subst hn; simpa [TV.allN] using h
  | .mp m, h, hn => by simp [TV.has] at hn; subst hn; simpa [TV.allN] using h
  | .np m b, h, hn => by simp [TV.has] at hn; subst hn; simpa [TV.allN] using h
  | .sd m, h, hn => by simp [TV.has] at hn; subst hn; simpa [TV.allN] using h
  | .agg cs, h, hn => by simp only [TV.allN] at h; simp only [TV.has] at hn; exact TV.allNL_has h hn
  | .tup cs, h, hn => by simp only [TV.allN] at h; simp only [TV.has] at hn; exact TV.allNL_has h hn
  | .fn f a b, h, hn => by
    simp only [TV.allN, Bool.and_eq_true] at h
    simp only [TV.has, Bool.or_eq_true] at hn
    rcases hn with hn | hn
    · exact TV.allNL_has h.1 hn
    · exact TV.allNL_has h.2 hn
  | .lf .., h, hn => by simp [TV.has] at hn
  | .raw _, h, hn => by simp [TV.has] at hn
  | .rp .., h, hn => by simp [TV.has] at hn
  | .junk, h, hn => by simp [TV.has] at hn
theorem TV.allNL_has {p : Nat → Bool} {n : Nat} : ∀ {l : List (TV V.N)}, TV.allNL p l = true → TV.hasL n l = true → p n = true
  | [], h, hn => by simp [TV.hasL] at hn
  | x :: r, h, hn => by
    simp only [TV.allNL, Bool.and_eq_true] at h
    simp only [TV.hasL, Bool.or_eq_true] at hn
    rcases hn with hn | hn
    · exact TV.allN_has h.1 hn
    · exact TV.allNL_has h.2 hn
end

theorem TO.allN_has {p : Nat → Bool} {n : Nat} {o : TO V.N} (h : TO.allN p o = true) (hn : TO.has n o = true) : p n = true := by
  cases o with
  | box oty cells => exact TV.allNL_has h hn
  | bst i x => simp [TO.has] at hn
  | vec te e xs => simp [TO.has] at hn
  | map k v es => simp [TO.has] at hn
  | iter s p => simp [TO.has] at hn
  | gone l => simp [TO.has] at hn

mutual
theorem H.allN_of {p : Nat → Bool} : ∀ {x : H}, (∀ n, H.has n x = true → p n = true) → H.allN p x = true
  | .bp m o, h => by simp only [H.allN]; exact h m (by simp [H.has])
  | .vh m l, h => by simp only [H.allN]; exact h m (by simp [H.has])
  | .ep m s i o, h => by simp only [H.allN]; exact h m (by simp [H.has])
  | .mp m, h => by simp only [H.allN]; exact h m (by simp [H.has])
  | .np m b, h => by simp only [H.allN]; exact h m (by simp [H.has])
  | .sd m, h => by simp only [H.allN]; exact h m (by simp [H.has])
  | .agg cs, h => by simp only [H.allN]; exact H.allNL_of fun n hn => h n (by simpa [H.has] using hn)
  | .tup cs, h => by simp only [H.allN]; exact H.allNL_of fun n hn => h n (by simpa [H.has] using hn)
  | .fn f a b, h => by
    simp only [H.allN, Bool.and_eq_true]
    exact ⟨H.allNL_of fun n hn => h n (by simp [H.has, hn]), H.allNL_of fun n hn => h n (by simp [H.has, hn])⟩
  | .d _, h => by simp [H.allN]
  | .junk, h => by simp [H.allN]
theorem H.allNL_of {p : Nat → Bool} : ∀ {l : List H}, (∀ n, H.hasL n l = true → p n = true) → H.allNL p l = true
  | [], h => by simp [H.allNL]
  | x :: r, h => by
    simp only [H.allNL, Bool.and_eq_true]
    exact ⟨H.allN_of fun n hn => h n (by simp [H.hasL, hn]), H.allNL_of fun n hn => h n (by simp [H.hasL, hn])⟩
end

theorem allD_ren (f : Nat → Nat) : ∀ l : List H, allD (H.renL f l) = allD l
  | [] => rfl
  | x :: r => by
    have ih := allD_ren f r
    cases x <;> simp [H.renL, H.ren, allD, ih]

theorem mkAgg_ren (f : Nat → Nat) (l : List H) : H.ren f (mkAgg l) = mkAgg (H.renL f l) := by
  unfold mkAgg
  rw [allD_ren]
  split <;> simp [H.ren]

theorem encRaw_ren (f : Nat → Nat) (v : Value) : H.ren f (encRaw v) = encRaw v := by cases v <;> simp [encRaw, H.ren]

mutual
theorem encV_ren {f : Nat → Nat} {ω ω' : Nat → Nat} : ∀ x : TV V.N, (∀ n, TV.has n x = true → ω' (f n) = ω n) → encV V ω' (TV.ren f x) = H.ren f (encV V ω x)
  | .bp m o, h => by simp [TV.ren, encV, H.ren]
  | .vh m, h => by simp [TV.ren, encV, H.ren, h m (by simp [TV.has])]
  | .ep m s i o, h => by simp [TV.ren, encV, H.ren]
  | .mp m, h => by simp [TV.ren, encV, H.ren]
  | .np m b, h => by simp [TV.ren, encV, H.ren]
  | .sd m, h => by simp [TV.ren, encV, H.ren]
  | .agg cs, h => by simp only [TV.ren, encV, mkAgg_ren]; rw [encL_ren cs fun n hn => h n (by simpa [TV.has] using hn)]
  | .tup cs, h => by simp only [TV.ren, encV, H.ren]; rw [encL_ren cs fun n hn => h n (by simpa [TV.has] using hn)]
  | .fn g a b, h => by
    simp only [TV.ren, encV, H.ren]
    rw [encL_ren a fun n hn => h n (by simp [TV.has, hn]), encL_ren b fun n hn => h n (by simp [TV.has, hn])]
  | .lf t x, h => by simp [TV.ren, encV, H.ren]
  | .raw v, h => by simp [TV.ren, encV, encRaw_ren]
  | .rp t x o, h => by simp [TV.ren, encV, H.ren]
  | .junk, h => by simp [TV.ren, encV, H.ren]
theorem encL_ren {f : Nat → Nat} {ω ω' : Nat → Nat} : ∀ l : List (TV V.N), (∀ n, TV.hasL n l = true → ω' (f n) = ω n) → encL V ω' (TV.renL f l) = H.renL f (encL V ω l)
  | [], h => rfl
  | x :: r, h => by
    simp only [TV.renL, encL, H.renL]
    rw [encV_ren x fun n hn => h n (by simp [TV.hasL, hn]), encL_ren r fun n hn => h n (by simp [TV.hasL, hn])]
end

theorem renL_ds (f : Nat → Nat) : ∀ l : List D, H.renL f (l.map .d) = l.map .d
  | [] => rfl
  | x :: r => by simp only [List.map_cons, H.renL, H.ren, renL_ds f r]

theorem encO_ren {f : Nat → Nat} {ω ω' : Nat → Nat} (o : TO V.N) (h : ∀ n, TO.has n o = true → ω' (f n) = ω n) : encO V ω' (TO.ren f o) = (encO V ω o).map (Own.ren f) := by
  cases o with
  | box oty cells => simp only [TO.ren, encO, Option.map_some, Own.ren]; rw [encL_ren cells h]
  | bst i x => simp only [TO.ren, encO, Option.map_some, Own.ren]; rw [renL_ds]
  | vec te e xs => simp [TO.ren, encO, Own.ren]
  | map k v es => simp [TO.ren, encO, Own.ren]
  | iter s p => simp [TO.ren, encO, Own.ren]
  | gone l => simp [TO.ren, encO]

/-- A contract for what stands for more. -/
theorem FnAt.weak {P : Program} {f : FuncId} {args args' : List H} {own own1 own' : List (Nat × Own)} {r : H} (h : FnAt P f args own r own')
    (ha : ∀ E M vs, HReps E M vs args' → HReps E M vs args) (ho : ∀ E M w, Owns E M w own1 → Owns E M w own) (hk : ∀ n, (∃ o, gt own n = some o) ↔ ∃ o, gt own1 n = some o) : FnAt P f args' own1 r own' := by
  have hin : ∀ E b, inExt E own b ↔ inExt E own1 b := fun E b => by
    constructor
    · rintro ⟨n, o, hn, hb⟩
      obtain ⟨o', ho'⟩ := (hk n).1 ⟨o, hn⟩
      exact ⟨n, o', ho', hb⟩
    · rintro ⟨n, o, hn, hb⟩
      obtain ⟨o', ho'⟩ := (hk n).2 ⟨o, hn⟩
      exact ⟨n, o', ho', hb⟩
  refine ⟨h.1, fun E M w vs hgm hm how hvs => (h.2 E M w vs hgm hm (ho E M w how) (ha E M vs hvs)).mono ?_⟩
  rintro e w' ⟨v, E', M', rfl, hp, hE⟩
  refine ⟨v, E', M', rfl, { hp with mnew := fun b o v hv => ?_, home := fun n o b hn hb => ?_, frame := fun k hk hx => hp.frame k hk fun h1 => hx ((hin E k).1 h1) }, fun n hn => hE n ?_⟩
  · rcases hp.mnew b o v hv with h1 | h1 | h1
    · exact .inl h1
    · exact .inr (.inl ((hin E b).1 h1))
    · exact .inr (.inr h1)
  · rcases hp.home n o b hn hb with h1 | h1
    · exact .inl ((hin E b).1 h1)
    · exact .inr h1
  · rcases hn with hn | hn
    · exact .inl hn
    · exact .inr ((hk n).2 hn)

end
end Go.Tx
