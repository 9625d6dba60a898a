/-
  Typed states: functions and calls.
-/
import Derived.Test.YtdmggfegkaiaiaaGreatDoorTxJ
namespace Go.Tx
open Go.Awp
set_option linter.unusedSectionVars false
variable [Inhabited GMem]
set_option linter.unusedSimpArgs false

/-- What must hold where a function ends. -/
def FnEndL (P : Program) (rs : List ResultVar) (r : H) (own' : List (Nat × Own)) (e : Exit) (S : AState) : Prop :=
  (e = .normal ∨ e = .ret) ∧ ∃ S', Ent S S' ∧ ∃ h, resH P S' rs = some h ∧ H.le h r ∧ ∀ n o, gt own' n = some o → S'.own? n = some o

theorem fn_of_awpL {P : Program} {f : FuncId} {fn : Func} {c : Code} {args : List H} {own own' : List (Nat × Own)} {r : H} (hf : P.funcs[f]? = some fn) (hb : fn.body = some c)
    (hname : (fn.name != "runtime.NumGoroutine") = true) (hn : args.length ≤ fn.ntmps)
    (h : ∀ C : Ctx, C.P = P → C.N = fn.ntmps → AWp C c ⟨startT 0 args, startO own⟩ (FnEndL P fn.results.toList r own')) : FnOk P f args own r own' := by
  refine ⟨by simp [callable, hf, hb, hname], fun E M w vs hgm hm how hvs => ?_⟩
  refine calls_of_wp hf hb ?_
  let C : Ctx := ⟨P, fn.ntmps, w, M, E, inExt E own, hgm, fun b ⟨n, o, hn, hb⟩ => ((how.ok n o hn).block hb).2⟩
  have hs : Sim C E M ⟨startT 0 args, startO own⟩ { tmps := vs ++ Array.replicate (fn.ntmps - vs.size) undef, defers := [] } w := by
    have hvs1 := hvs.1
    refine { size := by simp [C]; omega, defers := rfl, tmps := fun t x hx => ?_, mem := hm, own := fun n o ho => ?_, apart := fun n m o o' b hne ho ho' => ?_, home := fun n o b ho hb => ?_, m0 := Mem.le_refl M, mnew := fun b o v hv => .inl hv, frame := fun _ _ _ => rfl, grows := Nat.le_refl _, os := rfl, tape := rfl, output := rfl, env := fun _ _ => rfl }
    · obtain ⟨_, h2⟩ := gt_startT args 0 t x hx
      simp only [Nat.sub_zero] at h2
      have hlt : t < vs.size := by have := (List.getElem?_eq_some_iff.1 h2).1; omega
      exact ⟨vs[t], by simp [Array.getElem?_append_left hlt, hlt], hvs.2 t _ x (Array.getElem?_eq_getElem hlt) h2⟩
    · have ho' : gt own n = some o := by rw [← gt_startO]; exact ho
      exact how.ok n o ho'
    · have h1 : gt own n = some o := by rw [← gt_startO]; exact ho
      have h2 : gt own m = some o' := by rw [← gt_startO]; exact ho'
      exact how.apart n m o o' b hne h1 h2
    · have h1 : gt own n = some o := by rw [← gt_startO]; exact ho
      exact .inl ⟨n, o, h1, hb⟩
  refine wp_mono (h C rfl rfl E M _ w hs) ?_
  rintro e a' w' ⟨S', E', M', ⟨he, S'', hent, hh, hres, hle, hown⟩, hs'⟩
  obtain ⟨E2, M2, hs2⟩ := hent C E' M' a' w' hs'
  obtain ⟨v, hrun, hrep⟩ := run_resH (C := C) hs2 hres
  have hpost : FnPost E M own w v r own' E2 M2 w' :=
    { rep := hle _ _ _ hrep
      owns := ⟨fun n o ho => hs2.own n o (hown n o ho), fun n m o o' b hne h1 h2 => hs2.apart n m o o' b hne (hown n o h1) (hown m o' h2)⟩
      mle := hs2.m0
      mem := hs2.mem
      mnew := hs2.mnew
      home := fun n o b ho hb => hs2.home n o b (hown n o ho) hb
      frame := hs2.frame
      grows := hs2.grows
      os := hs2.os
      tape := hs2.tape
      output := hs2.output
      env := hs2.env }
  rcases he with rfl | rfl
  · exact ⟨hs2.defers, v, hrun, v, E2, M2, rfl, hpost⟩
  · exact ⟨hs2.defers, v, hrun, v, E2, M2, rfl, hpost⟩

section
variable (V : View)

/-- What a function takes and gives. -/
structure Sig where
  params : List (Pt V.ι)
  objs : List (Nat × OPt V.ι)
  rcut : Cut V.ι
  rvars : List ResultVar
  keep : List Nat

variable {V}

def Sig.tys (sig : Sig V) : List (Ty V.ι) := ptsTys sig.params ++ objTys sig.objs

def enumT {α : Type} : Nat → List α → List (Nat × α)
  | _, [] => []
  | i, x :: r => (i, x) :: enumT (i + 1) r

def startOs (sig : Sig V) (v : HL V.N sig.tys) : List (TV V.N) × List (Nat × TO V.N) := match bdL V sig.params (ofHL sig.tys v) with
  | some (xs, ls) => match bdO V sig.objs ls with
    | some os => (xs, os)
    | none => ([], [])
  | none => ([], [])

/-- The state as a function begins. -/
def startS (sig : Sig V) (v : HL V.N sig.tys) : TS V.N := { tmps := enumT 0 (startOs sig v).1, own := (startOs sig v).2 }

def resV1 (P : Program) (S : TS V.N) : ResultVar → Option (TV V.N)
  | .tmp t => gt S.tmps t
  | .cell a t => match gt S.tmps a with
    | some (.bp n off) => match tyLoad P t with
      | some (ag, sz) => match wholeV V ag off sz (V.ty t) (S.own? n) with
        | some v => some v
        | none => match boxC V (S.own? n) with
          | some cells => loadV V false ag sz (V.ty t) (cells.drop off)
          | none => none
      | none => none
    | _ => none

def resVL (P : Program) (S : TS V.N) : List ResultVar → Option (List (TV V.N))
  | [] => some []
  | x :: r => match resV1 P S x, resVL P S r with
    | some h, some l => some (h :: l)
    | _, _ => none

def oneV : List (TV V.N) → TV V.N
  | [x] => x
  | l => .tup l

/-- The result of a function. -/
def resV (P : Program) (sig : Sig V) (r : HL V.N sig.rcut.tys) : Option (TV V.N) := (resVL P (conc V sig.rcut r) sig.rvars).map oneV

def encOs (ω : Nat → Nat) (os : List (Nat × TO V.N)) : List (Nat × Own) := os.filterMap fun p => (encO V ω p.2).map fun o => (p.1, o)

/-- What is handed back. -/
def kept (sig : Sig V) (r : HL V.N sig.rcut.tys) : List (Nat × TO V.N) := (conc V sig.rcut r).own.filter fun p => sig.keep.contains p.1

/-- THE CONTRACT OF A FUNCTION AS A FUNCTION OF LEAN. -/
def SigOk (P : Program) (fid : FuncId) (sig : Sig V) (F : HL V.N sig.tys → Option (HL V.N sig.rcut.tys)) : Prop :=
  ∀ v r x, F v = some r → resV P sig r = some x →
    FnOk P fid (encL V (startS sig v).len (startOs sig v).1) (encOs (startS sig v).len (startS sig v).own) (encV V (conc V sig.rcut r).len x) (encOs (conc V sig.rcut r).len (kept sig r))

/-- A function's body. -/
noncomputable def exF (X : Xc V) (sig : Sig V) (h : X.sh.rcut = sig.rcut) (c : Code) (v : HL V.N sig.tys) : Option (HL V.N sig.rcut.tys) :=
  ex X c _ (startS sig v) (fun S => extr V sig.rcut S) (fun _ _ => none) (fun r => some (h ▸ r))

theorem gt_filterMap {α β : Type} {f : α → Option β} : ∀ {l : List (Nat × α)} {n : Nat} {y : β}, gt (l.filterMap fun p => (f p.2).map fun o => (p.1, o)) n = some y → ∃ x, (n, x) ∈ l ∧ f x = some y
  | [], n, y, h => by simp [gt] at h
  | (k, x) :: r, n, y, h => by
    rw [List.filterMap_cons] at h
    cases hx : f x with
    | none =>
      simp only [hx, Option.map_none] at h
      obtain ⟨z, h1, h2⟩ := gt_filterMap h
      exact ⟨z, List.mem_cons_of_mem _ h1, h2⟩
    | some z =>
      simp only [hx, Option.map_some, gt_cons] at h
      by_cases hk : k = n
      · rw [if_pos hk] at h; cases h; subst hk; exact ⟨x, List.mem_cons_self, hx⟩
      · rw [if_neg hk] at h
        obtain ⟨w, h1, h2⟩ := gt_filterMap h
        exact ⟨w, List.mem_cons_of_mem _ h1, h2⟩

/-- No name twice. -/
def distinct : List Nat → Bool
  | [] => true
  | x :: r => !r.contains x && distinct r

theorem gt_distinct {α : Type} : ∀ {l : List (Nat × α)} {n : Nat} {x : α}, distinct (l.map (·.1)) = true → (n, x) ∈ l → gt l n = some x
  | [], n, x, _, h => by cases h
  | (k, y) :: r, n, x, hd, h => by
    simp only [List.map_cons, distinct, Bool.and_eq_true] at hd
    rw [gt_cons]
    rcases List.mem_cons.1 h with he | h
    · simp only [Prod.mk.injEq] at he
      obtain ⟨rfl, rfl⟩ := he
      rw [if_pos rfl]
    · have : k ≠ n := by
        intro e; subst e
        have h1 := hd.1
        have : k ∈ r.map (·.1) := List.mem_map_of_mem h
        simp at h1
        simp at this
        exact h1 _ this.choose_spec
      rw [if_neg this]
      exact gt_distinct hd.2 h

theorem resH_sound {P : Program} {S : TS V.N} : ∀ {rs : List ResultVar} {vs : List (TV V.N)}, resVL P S rs = some vs →
    ∃ hs, resList P (encS V S) rs = some hs ∧ hs.length = vs.length ∧ ∀ (i : Nat) (v : TV V.N), vs[i]? = some v → ∃ h, hs[i]? = some h ∧ H.le h (encV V S.len v)
  | [], vs, h => by simp [resVL] at h; subst h; exact ⟨[], rfl, rfl, fun i v hv => by simp at hv⟩
  | x :: r, vs, h => by
    simp only [resVL] at h
    split at h
    · rename_i v l h1 h2
      simp at h; subst h
      obtain ⟨hs, g1, g2, g3⟩ := resH_sound h2
      have : ∃ y, resOne P (encS V S) x = some y ∧ H.le y (encV V S.len v) := by
        cases x with
        | tmp t =>
          simp only [resV1] at h1
          refine ⟨(encS V S).get t, rfl, ?_⟩
          unfold AState.get
          rw [encS_gt, h1]
          exact H.le.refl _
        | cell a t =>
          simp only [resV1] at h1
          split at h1
          · rename_i n off hn
            have hg : (encS V S).get a = .bp n off := by
              unfold AState.get
              rw [encS_gt, hn]; simp [encV]
            split at h1
            · rename_i ag sz ht
              split at h1
              · rename_i w hw
                simp only [Option.some.injEq] at h1; subst h1
                unfold wholeV at hw
                split at hw
                · rename_i i y hnn
                  have hw' := if_some hw; clear hw
                  obtain ⟨⟨e1, e2, e3, hot⟩, hw⟩ := hw'
                  subst e1; subst e2; subst e3
                  simp only [Option.some.injEq] at hw; subst hw
                  have hb : boxC V (S.own? n) = some ((V.cells i y).map fun l => .lf l.t l.x) := by rw [hnn]; rfl
                  have hl : (V.enc i y).length = V.sz i := by rw [V.enc_cells, List.length_map, V.len_cells]
                  refine ⟨encV V S.len (.lf (.st i) y), ?_, H.le.refl _⟩
                  simp only [resOne, hg, own_boxC hb, ht, bst_enc, loadC, List.drop_zero, encV_st, List.length_map]
                  rw [if_pos (by omega), List.take_of_length_le (by rw [List.length_map]; omega), mkAgg, allD_map]
                · cases hw
              · split at h1
                · rename_i cells hc
                  obtain ⟨y, k1, k2, _⟩ := loadV_sound (ω := S.len) h1
                  rw [encL_drop] at k1
                  refine ⟨y, ?_, k2⟩
                  simp only [resOne, hg, own_boxC hc, ht, k1]
                · cases h1
            · cases h1
          · cases h1
      obtain ⟨y, y1, y2⟩ := this
      refine ⟨y :: hs, by simp only [resList, y1, g1], by simp [g2], fun i w hw => ?_⟩
      cases i with
      | zero => simp at hw; subst hw; exact ⟨y, rfl, y2⟩
      | succ i => obtain ⟨z, z1, z2⟩ := g3 i w (by simpa using hw); exact ⟨z, by simpa using z1, z2⟩
    · cases h

theorem startT_enum {ω : Nat → Nat} : ∀ (l : List (TV V.N)) (i : Nat), startT i (encL V ω l) = (enumT i l).map fun p => (p.1, encV V ω p.2)
  | [], i => rfl
  | x :: r, i => by simp [encL, startT, enumT, startT_enum r (i + 1)]

theorem bdL_len : ∀ {ps : List (Pt V.ι)} {ls ls' : List (Leaf V.N)} {xs : List (TV V.N)}, bdL V ps ls = some (xs, ls') → xs.length = ps.length
  | [], ls, ls', xs, h => by simp [bdL] at h; rw [h.1]; rfl
  | p :: r, ls, ls', xs, h => by
    simp only [bdL] at h
    split at h
    · rename_i x l1 h1
      split at h
      · rename_i ys l2 h2
        simp at h
        rw [← h.1]
        simp [bdL_len h2]
      · cases h
    · cases h

theorem bdO_names : ∀ {objs : List (Nat × OPt V.ι)} {ls : List (Leaf V.N)} {os : List (Nat × TO V.N)}, bdO V objs ls = some os → os.map (·.1) = objs.map (·.1)
  | [], [], os, h => by simp [bdO] at h; subst h; rfl
  | [], _ :: _, os, h => by simp [bdO] at h
  | (c, .box oty ps) :: r, ls, os, h => by
    simp only [bdO] at h
    split at h
    · split at h
      · rename_i os' h2
        simp at h; subst h
        simp [bdO_names h2]
      · cases h
    · cases h
  | (c, .st i) :: r, [], os, h => by simp [bdO] at h
  | (c, .vec te e) :: r, [], os, h => by simp [bdO] at h
  | (c, .st i) :: r, ⟨t, x⟩ :: ls, os, h => by
    cases t <;> simp only [bdO] at h <;> first
      | (cases h; done)
      | (split at h
         · split at h
           · rename_i os' h2
             simp at h; subst h
             simp [bdO_names h2]
           · cases h
         · cases h)
  | (c, .vec te e) :: r, ⟨t, x⟩ :: ls, os, h => by
    cases t <;> simp only [bdO] at h <;> first
      | (cases h; done)
      | (split at h
         · split at h
           · rename_i os' h2
             simp at h; subst h
             simp [bdO_names h2]
           · cases h
         · cases h)
  | (c, .iter) :: r, [], os, h => by simp [bdO] at h
  | (c, .iter) :: r, [⟨t, x⟩], os, h => by
    cases t <;> simp [bdO] at h
  | (c, .iter) :: r, ⟨t, x⟩ :: ⟨t2, x2⟩ :: ls, os, h => by
    cases t <;> first
      | (simp [bdO] at h; done)
      | (cases t2 <;> first
        | (simp [bdO] at h; done)
        | (rename_i ki; cases ki <;> first
          | (simp [bdO] at h; done)
          | (simp only [bdO] at h
             split at h
             · rename_i os' h2
               simp at h; subst h
               simp [bdO_names h2]
             · cases h)))
  | (c, .map tk tv) :: r, [], os, h => by simp [bdO] at h
  | (c, .map tk tv) :: r, ⟨t, x⟩ :: ls, os, h => by
    cases t <;> simp only [bdO] at h <;> first
      | (cases h; done)
      | (split at h
         · split at h
           · rename_i os' h2
             simp at h; subst h
             simp [bdO_names h2]
           · cases h
         · cases h)

theorem build_names (c : Cut V.ι) (ls : List (Leaf V.N)) (h : distinct (c.objs.map (·.1)) = true) : distinct ((build V c ls).own.map (·.1)) = true := by
  unfold build
  split
  · split
    · rename_i os ho
      simp only
      rw [bdO_names ho]; exact h
    · rfl
  · rfl

theorem gt_encOs {ω : Nat → Nat} : ∀ {os : List (Nat × TO V.N)} {n : Nat} {x : TO V.N} {o : Own}, gt os n = some x → encO V ω x = some o → gt (encOs ω os) n = some o
  | [], n, x, o, h, _ => by simp [gt] at h
  | (k, y) :: r, n, x, o, h, ho => by
    rw [gt_cons] at h
    unfold encOs
    rw [List.filterMap_cons]
    by_cases hk : k = n
    · rw [if_pos hk] at h; cases h
      simp only [ho, Option.map_some, gt_cons]
      rw [if_pos hk]
    · rw [if_neg hk] at h
      have ih := gt_encOs (ω := ω) h ho
      unfold encOs at ih
      cases hy : encO V ω y with
      | none => simp only [hy, Option.map_none]; exact ih
      | some z =>
        simp only [hy, Option.map_some, gt_cons]
        rw [if_neg hk]; exact ih

/-- A FUNCTION OUT OF ITS TEXT. -/
theorem fn_ok {X : Xc V} {sig : Sig V} (hsh : X.sh.rcut = sig.rcut) {fid : FuncId} {fn : Func} {c : Code} (hf : X.P.funcs[fid]? = some fn) (hb : fn.body = some c) (hn : fn.ntmps = X.n) (hrs : fn.results.toList = sig.rvars)
    (hname : (fn.name != "runtime.NumGoroutine") = true) (hlen : Nat.ble sig.params.length X.n = true) (hm : X.P.follows .mixedOrders = true) (hcall : CallerOk X.P X.call)
    (hdr : distinct (sig.rcut.objs.map (·.1)) = true) (hl : ∀ C : Ctx, C.P = X.P → C.N = X.n → LOk C X c) {v : HL V.N sig.tys} {r : HL V.N sig.rcut.tys} (h : exF X sig hsh c v = some r) :
    ∀ x, resV X.P sig r = some x →
      FnOk X.P fid (encL V (startS sig v).len (startOs sig v).1) (encOs (startS sig v).len (startS sig v).own) (encV V (conc V sig.rcut r).len x) (encOs (conc V sig.rcut r).len (kept sig r)) := by
  obtain ⟨params, objs, rcut, rvars, keep⟩ := sig
  simp only at hsh
  subst hsh
  intro x hx
  have hargs : (startOs ⟨params, objs, X.sh.rcut, rvars, keep⟩ v).1.length ≤ X.n := by
    have hp : params.length ≤ X.n := Nat.le_of_ble_eq_true hlen
    unfold startOs
    split
    · rename_i xs ls h1
      split
      · simp only; rw [bdL_len h1]; exact hp
      · simp
    · simp
  refine fn_of_awpL hf hb hname (by rw [encL_len, hn]; exact hargs) fun C hP hN => ?_
  have hent : Ent ⟨startT 0 (encL V (startS ⟨params, objs, X.sh.rcut, rvars, keep⟩ v).len (startOs ⟨params, objs, X.sh.rcut, rvars, keep⟩ v).1), startO (encOs (startS ⟨params, objs, X.sh.rcut, rvars, keep⟩ v).len (startS ⟨params, objs, X.sh.rcut, rvars, keep⟩ v).own)⟩
      (encS V (startS ⟨params, objs, X.sh.rcut, rvars, keep⟩ v)) := by
    refine Ent.le (fun t y hy => ⟨y, ?_, H.le.refl _⟩) fun n o ho => ⟨o, ?_, OLe.refl _⟩
    · rw [startT_enum]; exact hy
    · rw [encS_own?, Option.bind_eq_some_iff] at ho
      obtain ⟨o', ho', hoo⟩ := ho
      have := gt_encOs (os := (startS ⟨params, objs, X.sh.rcut, rvars, keep⟩ v).own) ho' hoo
      unfold AState.own?
      rw [gt_startO]
      exact this
  have hend : ∀ e σ, (e = .normal ∨ e = .ret) → Ent σ (encS V (conc V X.sh.rcut r)) →
      FnEndL X.P fn.results.toList (encV V (conc V X.sh.rcut r).len x) (encOs (conc V X.sh.rcut r).len (kept ⟨params, objs, X.sh.rcut, rvars, keep⟩ r)) e σ := by
    intro e σ he hσ
    unfold resV at hx
    rw [Option.map_eq_some_iff] at hx
    obtain ⟨vs, hvs, hone⟩ := hx
    obtain ⟨hs, g1, g2, g3⟩ := resH_sound hvs
    have hh : ∃ y, resH X.P (encS V (conc V X.sh.rcut r)) fn.results.toList = some y ∧ H.le y (encV V (conc V X.sh.rcut r).len x) := by
      rw [hrs]
      unfold resH
      rw [g1]
      cases vs with
      | nil =>
        have : hs = [] := List.eq_nil_of_length_eq_zero (by simpa using g2)
        subst this; subst hone
        exact ⟨.tup [], rfl, by simp only [oneV, encV, encL]; exact H.le.refl _⟩
      | cons a l =>
        cases l with
        | nil =>
          cases hs with
          | nil => simp at g2
          | cons y l' =>
            have : l' = [] := List.eq_nil_of_length_eq_zero (by simpa using g2)
            subst this; subst hone
            obtain ⟨z, z1, z2⟩ := g3 0 a rfl
            simp at z1; subst z1
            exact ⟨y, rfl, z2⟩
        | cons b l =>
          cases hs with
          | nil => simp at g2
          | cons y l' =>
            cases l' with
            | nil => simp at g2
            | cons y2 l2 =>
              subst hone
              refine ⟨.tup (y :: y2 :: l2), rfl, ?_⟩
              simp only [oneV, encV]
              refine tup_le (by rw [encL_len]; exact g2) fun i w hw => ?_
              rw [encL_map, List.getElem?_map, Option.map_eq_some_iff] at hw
              obtain ⟨u, hu, rfl⟩ := hw
              exact g3 i u hu
    obtain ⟨y, hy1, hy2⟩ := hh
    refine ⟨he, _, hσ, y, hy1, hy2, fun n o ho => ?_⟩
    obtain ⟨o', h1, h2⟩ := gt_filterMap ho
    have h1 : (n, o') ∈ (conc V X.sh.rcut r).own := (List.mem_filter.1 h1).1
    have := gt_distinct (build_names X.sh.rcut _ hdr) h1
    rw [encS_own?]
    unfold TS.own?
    unfold conc at *
    rw [this]
    exact h2
  refine .ent hent (ex_sound hP (by rw [hN, hn]) hm hcall c _ _ _ _ _ r _ (hl C hP (by rw [hN, hn])) h ⟨fun S σ hk he => ?_, fun id S σ _ hk he => (by cases hk), fun l S σ hk he => (by cases hk), fun w σ hk he => ?_⟩)
  · exact hend _ σ (.inl rfl) (Ent.trans he (extr_ent hk))
  · have : w = r := by simpa using hk
    subst this
    exact hend _ σ (.inr rfl) he

end
end Go.Tx
