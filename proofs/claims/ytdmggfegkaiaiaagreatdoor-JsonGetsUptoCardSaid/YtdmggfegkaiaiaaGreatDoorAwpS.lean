/-
  The logic of abstract states: data that stands for more.
-/
import Derived.Test.YtdmggfegkaiaiaaGreatDoorAwpR
namespace Go.Awp
set_option linter.unusedSectionVars false
variable [Inhabited GMem]

/-- What the first stands for, the second stands for. -/
def D.le (a b : D) : Prop := ∀ (M : Mem) (v : Value), DRep M v a → DRep M v b
def H.le (a b : H) : Prop := ∀ (E : Env) (M : Mem) (v : Value), HRep E M v a → HRep E M v b

theorem D.le.refl (a : D) : D.le a a := fun _ _ h => h
theorem H.le.refl (a : H) : H.le a a := fun _ _ _ h => h
theorem H.le.d {a b : D} (h : D.le a b) : H.le (.d a) (.d b) := fun E M v hv => by
  cases hv with
  | d hd => exact .d (h M v hd)

theorem D.le.ern : D.le (.v .nilIface) (.er false) := fun M v hv => by
  cases hv
  exact .ern

theorem D.le.nil (sz : Nat) : D.le (.v (.slice none 0 0)) (.sl sz []) := fun M v hv => by
  cases hv with
  | v => exact .slnil sz

/-- One by one. -/
inductive D.Les : List D → List D → Prop
  | nil : D.Les [] []
  | cons {a b : D} {r s : List D} (h : D.le a b) (t : D.Les r s) : D.Les (a :: r) (b :: s)

theorem D.Les.len {a b : List D} (h : D.Les a b) : a.length = b.length := by
  induction h with
  | nil => rfl
  | cons h t ih => simp [ih]

theorem D.Les.get {a b : List D} (h : D.Les a b) : ∀ (i : Nat) (y : D), b[i]? = some y → ∃ x, a[i]? = some x ∧ D.le x y := by
  induction h with
  | nil => intro i y hy; simp at hy
  | cons h t ih =>
    intro i y hy
    cases i with
    | zero => simp at hy; subst hy; exact ⟨_, rfl, h⟩
    | succ i => exact ih i y (by simpa using hy)

theorem D.Les.refl : ∀ a : List D, D.Les a a
  | [] => .nil
  | x :: r => .cons (.refl x) (D.Les.refl r)

theorem D.le.agg {a b : List D} (h : D.Les a b) : D.le (.agg a) (.agg b) := fun M v hv => by
  cases hv with
  | agg cs l hl hh =>
    refine .agg cs b (hl.trans h.len) fun i c y hc hy => ?_
    obtain ⟨x, hx, hxy⟩ := h.get i y hy
    exact hxy M c (hh i c x hc hx)

/-- Rows one by one. -/
inductive D.Rows : List (List D) → List (List D) → Prop
  | nil : D.Rows [] []
  | cons {a b : List D} {r s : List (List D)} (h : D.Les a b) (t : D.Rows r s) : D.Rows (a :: r) (b :: s)

theorem D.Rows.len {a b : List (List D)} (h : D.Rows a b) : a.length = b.length := by
  induction h with
  | nil => rfl
  | cons h t ih => simp [ih]

theorem D.Rows.get {a b : List (List D)} (h : D.Rows a b) : ∀ (i : Nat) (y : List D), b[i]? = some y → ∃ x, a[i]? = some x ∧ D.Les x y := by
  induction h with
  | nil => intro i y hy; simp at hy
  | cons h t ih =>
    intro i y hy
    cases i with
    | zero => simp at hy; subst hy; exact ⟨_, rfl, h⟩
    | succ i => exact ih i y (by simpa using hy)

theorem D.le.sl {sz : Nat} {a b : List (List D)} (h : D.Rows a b) : D.le (.sl sz a) (.sl sz b) := fun M v hv => by
  cases hv with
  | slnil => cases h; exact .slnil sz
  | slmt a cap => cases h; exact .slmt a cap sz
  | sl bl off len cap _ _ c hlen hcap hsz hm hh =>
    refine .sl bl off len cap sz b c (hlen.trans h.len) hcap (fun r hr => ?_) hm fun i j r y hr hy => ?_
    · obtain ⟨i, hi, rfl⟩ := List.getElem_of_mem hr
      obtain ⟨x, hx, hxy⟩ := h.get i _ (List.getElem?_eq_getElem hi)
      rw [← hxy.len]; exact hsz x (List.mem_of_getElem? hx)
    · obtain ⟨x, hx, hxy⟩ := h.get i r hr
      obtain ⟨z, hz, hzy⟩ := hxy.get j y hy
      exact hzy M _ (hh i j x z hx hz)

theorem FnOk.weak {P : Program} {f : FuncId} {args args' : List H} {own own' : List (Nat × Own)} {r : H} (h : FnOk P f args own r own') (hl : args'.length = args.length)
    (hw : ∀ (i : Nat) (x' x : H), args'[i]? = some x' → args[i]? = some x → H.le x' x) : FnOk P f args' own r own' := by
  refine ⟨h.1, fun E M w vs hgm hm ho hv => h.2 E M w vs hgm hm ho ⟨hv.1.trans hl, fun i c x hc hx => ?_⟩⟩
  have hi : i < args'.length := by rw [hl]; exact (List.getElem?_eq_some_iff.1 hx).1
  exact hw i _ x (List.getElem?_eq_getElem hi) hx E M c (hv.2 i c _ hc (List.getElem?_eq_getElem hi))

theorem FnOk.weak1 {P : Program} {f : FuncId} {x x' : H} {rest : List H} {own own' : List (Nat × Own)} {r : H} (h : FnOk P f (x :: rest) own r own') (hw : H.le x' x) : FnOk P f (x' :: rest) own r own' :=
  h.weak rfl fun i a b ha hb => by
    cases i with
    | zero => simp at ha hb; subst ha; subst hb; exact hw
    | succ i => simp at ha hb; rw [ha] at hb; cases hb; exact H.le.refl _

end Go.Awp
