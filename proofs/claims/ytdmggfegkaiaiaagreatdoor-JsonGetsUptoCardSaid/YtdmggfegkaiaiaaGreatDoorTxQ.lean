/-
  Typed states: functions that ask whether a slice is nil: what they do is shown for each way in which a slice may stand there.
-/
import Derived.Test.YtdmggfegkaiaiaaGreatDoorTxP
namespace Go.Tx
open Go.Awp
set_option linter.unusedSectionVars false
variable [Inhabited GMem]
set_option linter.unusedSimpArgs false

section
variable {V : View}

/-- A FUNCTION OUT OF ITS TEXT, from any values on; nothing is owned. -/
theorem fn_okS {X : Xc V} {sig : Sig V} (hsh : X.sh.rcut = sig.rcut) {fid : FuncId} {fn : Func} {c : Code} (hf : X.P.funcs[fid]? = some fn) (hb : fn.body = some c) (hn : fn.ntmps = X.n) (hrs : fn.results.toList = sig.rvars)
    (hname : (fn.name != "runtime.NumGoroutine") = true) (hm : X.P.follows .mixedOrders = true) (hcall : CallerOk X.P X.call) (hdr : distinct (sig.rcut.objs.map (·.1)) = true)
    (hl : ∀ C : Ctx, C.P = X.P → C.N = X.n → LOk C X c) {xs : List (TV V.N)} (hlen : Nat.ble xs.length X.n = true) {r : HL V.N sig.rcut.tys}
    (h : ex X c _ { tmps := enumT 0 xs, own := [] } (fun S => extr V sig.rcut S) (fun _ _ => none) (fun r => some (hsh ▸ r)) = some r) :
    ∀ x, resV X.P sig r = some x → FnOk X.P fid (encL V (fun _ => 0) xs) [] (encV V (conc V sig.rcut r).len x) (encOs (conc V sig.rcut r).len (kept sig r)) := by
  obtain ⟨params, objs, rcut, rvars, keep⟩ := sig
  simp only at hsh
  subst hsh
  intro x hx
  have hargs : xs.length ≤ X.n := Nat.le_of_ble_eq_true hlen
  refine fn_of_awpL hf hb hname (by rw [encL_len, hn]; exact hargs) fun C hP hN => ?_
  have hent : Ent ⟨startT 0 (encL V (fun _ => 0) xs), startO []⟩ (encS V { tmps := enumT 0 xs, own := [] }) := by
    refine Ent.le (fun t y hy => ⟨y, ?_, H.le.refl _⟩) fun n o ho => ?_
    · rw [startT_enum]; exact hy
    · rw [encS_own?] at ho
      simp [TS.own?, gt] at ho
  have hend : ∀ e σ, (e = .normal ∨ e = .ret) → Ent σ (encS V (conc V X.sh.rcut r)) →
      FnEndL X.P fn.results.toList (encV V (conc V X.sh.rcut r).len x) (encOs (conc V X.sh.rcut r).len (kept ⟨params, objs, X.sh.rcut, rvars, keep⟩ r)) e σ := by
    intro e σ he hσ
    unfold resV at hx
    rw [Option.map_eq_some_iff] at hx
    obtain ⟨vs, hvs, hone⟩ := hx
    obtain ⟨hs, g1, g2, g3⟩ := resH_sound hvs
    have hh : ∃ y, resH X.P (encS V (conc V X.sh.rcut r)) fn.results.toList = some y ∧ H.le y (encV V (conc V X.sh.rcut r).len x) := by
      rw [hrs]
      unfold resH
      rw [g1]
      cases vs with
      | nil =>
        have : hs = [] := List.eq_nil_of_length_eq_zero (by simpa using g2)
        subst this; subst hone
        exact ⟨.tup [], rfl, by simp only [oneV, encV, encL]; exact H.le.refl _⟩
      | cons a l =>
        cases l with
        | nil =>
          cases hs with
          | nil => simp at g2
          | cons y l' =>
            have : l' = [] := List.eq_nil_of_length_eq_zero (by simpa using g2)
            subst this; subst hone
            obtain ⟨z, z1, z2⟩ := g3 0 a rfl
            simp at z1; subst z1
            exact ⟨y, rfl, z2⟩
        | cons b l =>
          cases hs with
          | nil => simp at g2
          | cons y l' =>
            cases l' with
            | nil => simp at g2
            | cons y2 l2 =>
              subst hone
              refine ⟨.tup (y :: y2 :: l2), rfl, ?_⟩
              simp only [oneV, encV]
              refine tup_le (by rw [encL_len]; exact g2) fun i w hw => ?_
              rw [encL_map, List.getElem?_map, Option.map_eq_some_iff] at hw
              obtain ⟨u, hu, rfl⟩ := hw
              exact g3 i u hu
    obtain ⟨y, hy1, hy2⟩ := hh
    refine ⟨he, _, hσ, y, hy1, hy2, fun n o ho => ?_⟩
    obtain ⟨o', h1, h2⟩ := gt_filterMap ho
    have h1 : (n, o') ∈ (conc V X.sh.rcut r).own := (List.mem_filter.1 h1).1
    have := gt_distinct (build_names X.sh.rcut _ hdr) h1
    rw [encS_own?]
    unfold TS.own?
    unfold conc at *
    rw [this]
    exact h2
  refine .ent hent (ex_sound hP (by rw [hN, hn]) hm hcall c _ _ _ _ _ r _ (hl C hP (by rw [hN, hn])) h ⟨fun S σ hk he => ?_, fun id S σ _ hk he => (by cases hk), fun l S σ hk he => (by cases hk), fun w σ hk he => ?_⟩)
  · exact hend _ σ (.inl rfl) (Ent.trans he (extr_ent hk))
  · have : w = r := by simpa using hk
    subst this
    exact hend _ σ (.inr rfl) he

/-- A slice that is given: nil, empty, or not empty. -/
theorem fn_split {P : Program} {f : FuncId} {sz : Nat} {rows : List (List D)} {r : H} {own' : List (Nat × Own)} (h1 : rows ≠ [] → FnOk P f [.d (.sl sz rows)] [] r own')
    (h2 : rows = [] → FnOk P f [.d (.v (.slice none 0 0))] [] r own') (h3 : rows = [] → ∀ a cap, FnOk P f [.d (.v (.slice (some a) 0 cap))] [] r own') : FnOk P f [.d (.sl sz rows)] [] r own' := by
  by_cases h0 : rows = []
  · refine ⟨(h2 h0).1, fun E M w vs hgm hm ho hvs => ?_⟩
    obtain ⟨hsz, hv⟩ := hvs
    obtain ⟨v, hv0⟩ : ∃ v, vs[0]? = some v := ⟨vs[0]'(by simp at hsz; omega), Array.getElem?_eq_getElem _⟩
    have hr := hv 0 v _ hv0 rfl
    have go : ∀ u : Value, v = u → HReps E M vs [.d (.v u)] := by
      rintro u rfl
      refine ⟨hsz, fun i c x hc hx => ?_⟩
      cases i with
      | zero => simp at hx; subst hx; rw [hv0] at hc; cases hc; exact .d (.v _)
      | succ i => simp at hx
    subst h0
    cases hr with
    | d hd =>
      generalize hq : D.sl sz [] = q at hd
      cases hd with
      | slnil => exact (h2 rfl).2 E M w vs hgm hm ho (go _ rfl)
      | slmt a cap => exact (h3 rfl a cap).2 E M w vs hgm hm ho (go _ rfl)
      | sl b off len cap sz' rows' c hlen hcap =>
        simp only [D.sl.injEq] at hq
        obtain ⟨_, rfl⟩ := hq
        simp at hlen
        subst hlen
        exact (h3 rfl _ cap).2 E M w vs hgm hm ho (go _ rfl)
      | _ => cases hq
  · exact h1 h0

end
end Go.Tx
