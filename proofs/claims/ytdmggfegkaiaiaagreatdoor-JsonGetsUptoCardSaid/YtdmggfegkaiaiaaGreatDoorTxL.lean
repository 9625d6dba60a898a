/-
  Typed states: calls of functions that own nothing; slices that are lent.
-/
import Derived.Test.YtdmggfegkaiaiaaGreatDoorTxK
namespace Go.Tx
open Go.Awp
set_option linter.unusedSectionVars false
variable [Inhabited GMem]
set_option linter.unusedSimpArgs false
set_option linter.unusedVariables false

section
variable {V : View}

mutual
def TV.plain : TV V.N → Bool
  | .lf .. => true
  | .raw _ => true
  | .rp .. => true
  | .junk => true
  | .agg cs => TV.plainL cs
  | .tup vs => TV.plainL vs
  | .fn _ a b => TV.plainL a && TV.plainL b
  | _ => false
def TV.plainL : List (TV V.N) → Bool
  | [] => true
  | x :: r => TV.plain x && TV.plainL r
end

mutual
theorem plain_has : ∀ {x : TV V.N}, TV.plain x = true → ∀ n, TV.has n x = false
  | .lf .., _, n => by simp [TV.has]
  | .raw _, _, n => by simp [TV.has]
  | .rp .., _, n => by simp [TV.has]
  | .junk, _, n => by simp [TV.has]
  | .agg cs, h, n => by simp only [TV.plain] at h; simp only [TV.has]; exact plainL_has h n
  | .tup cs, h, n => by simp only [TV.plain] at h; simp only [TV.has]; exact plainL_has h n
  | .fn f a b, h, n => by
    simp only [TV.plain, Bool.and_eq_true] at h
    simp only [TV.has, plainL_has h.1 n, plainL_has h.2 n]; rfl
  | .bp .., h, n => by simp [TV.plain] at h
  | .vh .., h, n => by simp [TV.plain] at h
  | .ep .., h, n => by simp [TV.plain] at h
  | .mp .., h, n => by simp [TV.plain] at h
  | .np .., h, n => by simp [TV.plain] at h
  | .sd .., h, n => by simp [TV.plain] at h
theorem plainL_has : ∀ {l : List (TV V.N)}, TV.plainL l = true → ∀ n, TV.hasL n l = false
  | [], _, n => by simp [TV.hasL]
  | x :: r, h, n => by
    simp only [TV.plainL, Bool.and_eq_true] at h
    simp only [TV.hasL, plain_has h.1 n, plainL_has h.2 n]; rfl
end

theorem plain_enc {x : TV V.N} (h : TV.plain x = true) (ω ω' : Nat → Nat) : encV V ω' x = encV V ω x := encV_congr x fun n hn => by rw [plain_has h n] at hn; cases hn

def Ty.flat {ι : Type} : Ty ι → Bool
  | .int _ => true
  | .bool => true
  | .str => true
  | _ => false

/-- No memory hangs on it. -/
def flat1 : TV V.N → Bool
  | .lf t x => (rcells V t x).all fun l => l.t.flat
  | _ => false

def flatV : TV V.N → Bool
  | .tup vs => vs.all flat1
  | x => flat1 x

theorem flat1_plain {x : TV V.N} (h : flat1 x = true) : TV.plain x = true := by
  cases x <;> first | rfl | (simp [flat1] at h; done)

theorem flat_plain {x : TV V.N} (h : flatV x = true) : TV.plain x = true := by
  cases x with
  | tup vs =>
    simp only [flatV, List.all_eq_true] at h
    simp only [TV.plain]
    have : ∀ l : List (TV V.N), (∀ x ∈ l, flat1 x = true) → TV.plainL l = true := by
      intro l
      induction l with
      | nil => intro _; rfl
      | cons y r ih => intro h; simp only [TV.plainL, Bool.and_eq_true]; exact ⟨flat1_plain (h y List.mem_cons_self), ih fun x hx => h x (List.mem_cons_of_mem _ hx)⟩
    exact this vs h
  | lf t x => rfl
  | raw _ => rfl
  | rp a b c => rfl
  | junk => rfl
  | agg cs => simp [flatV, flat1] at h
  | fn f a b => simp [flatV, flat1] at h
  | bp a b => simp [flatV, flat1] at h
  | vh a => simp [flatV, flat1] at h
  | ep a b c d => simp [flatV, flat1] at h
  | mp a => simp [flatV, flat1] at h
  | np a b => simp [flatV, flat1] at h
  | sd a => simp [flatV, flat1] at h

theorem encD_flat {l : Leaf V.N} (h : l.t.flat = true) {M M' : Mem} {v : Value} (hv : DRep M v (encD V.sz V.enc l.t l.x)) : DRep M' v (encD V.sz V.enc l.t l.x) := by
  obtain ⟨t, x⟩ := l
  cases t with
  | int k => simp only [encD] at hv ⊢; cases hv; exact .v _
  | bool => simp only [encD] at hv ⊢; cases hv; exact .v _
  | str => simp only [encD] at hv ⊢; cases hv; exact .v _
  | st i => simp [Ty.flat] at h
  | sl e => simp [Ty.flat] at h
  | mp k v => simp [Ty.flat] at h
  | er => simp [Ty.flat] at h

theorem flat1_any {x : TV V.N} (h : flat1 x = true) {ω : Nat → Nat} {E E' : Env} {M M' : Mem} {v : Value} (hv : HRep E M v (encV V ω x)) : HRep E' M' v (encV V ω x) := by
  cases x with
  | lf t x =>
    simp only [flat1, List.all_eq_true] at h
    simp only [encV] at hv ⊢
    cases hv with
    | d hd =>
      refine .d ?_
      cases t with
      | st i =>
        simp only [encD] at hd ⊢
        rw [V.enc_cells] at hd ⊢
        cases hd with
        | agg cs _ hl hh =>
          refine .agg cs _ hl fun k c y hc hy => ?_
          rw [List.getElem?_map] at hy
          cases hq : (V.cells i x)[k]? with
          | none => rw [hq] at hy; cases hy
          | some l =>
            rw [hq] at hy; simp at hy; subst hy
            exact encD_flat (h l (List.mem_of_getElem? hq)) (hh k c _ hc (by rw [List.getElem?_map, hq]; rfl))
      | int k => exact encD_flat (l := ⟨.int k, x⟩) rfl hd
      | bool => exact encD_flat (l := ⟨.bool, x⟩) rfl hd
      | str => exact encD_flat (l := ⟨.str, x⟩) rfl hd
      | sl e => simp [rcells, Ty.flat] at h
      | mp k v => simp [rcells, Ty.flat] at h
      | er => simp [rcells, Ty.flat] at h
  | _ => simp [flat1] at h

theorem flat_any {x : TV V.N} (h : flatV x = true) {ω : Nat → Nat} {E E' : Env} {M M' : Mem} {v : Value} (hv : HRep E M v (encV V ω x)) : HRep E' M' v (encV V ω x) := by
  cases x with
  | tup vs =>
    simp only [flatV, List.all_eq_true] at h
    simp only [encV] at hv ⊢
    obtain ⟨cs, rfl, h1, h2⟩ := hv.htup
    refine .tup cs _ h1 fun i c y hc hy => ?_
    rw [encL_map, List.getElem?_map] at hy
    cases hq : vs[i]? with
    | none => rw [hq] at hy; cases hy
    | some u =>
      rw [hq] at hy; simp at hy; subst hy
      exact flat1_any (h u (List.mem_of_getElem? hq)) (h2 i c _ hc (by rw [encL_map, List.getElem?_map, hq]; rfl))
  | lf t x => exact flat1_any (x := .lf t x) (by simpa [flatV] using h) hv
  | _ => simp [flatV, flat1] at h

/-- What stands for it while what is owned is lent. -/
def LentTo (own : List (Nat × Own)) (a a0 : H) : Prop := ∀ (E : Env) (M : Mem) (w : World) (v : Value), M.le (memOf w) → Owns E M w own → HRep E M v a → HRep E (memOf w) v a0

theorem LentTo.le {own : List (Nat × Own)} {a a0 : H} (h : H.le a a0) : LentTo own a a0 := fun E M w v hM _ hv => (h E M v hv).le hM

theorem LentTo.agg {own : List (Nat × Own)} {l l0 : List H} (hl : l0.length = l.length) (h : ∀ (i : Nat) (a a0 : H), l[i]? = some a → l0[i]? = some a0 → LentTo own a a0) : LentTo own (.agg l) (.agg l0) := fun E M w v hM ho hv => by
  obtain ⟨cs, rfl, h1, h2⟩ := hv.hagg
  refine .agg cs l0 (by omega) fun i c x hc hx => ?_
  have hi : i < l.length := by rw [← hl]; exact (List.getElem?_eq_some_iff.1 hx).1
  exact h i _ x (List.getElem?_eq_getElem hi) hx E M w c hM ho (h2 i c _ hc (List.getElem?_eq_getElem hi))

theorem LentTo.vh {own : List (Nat × Own)} {n e sz : Nat} {rows : List (List D)} (h1 : gt own n = some (.vec e sz rows)) : LentTo own (.vh n rows.length) (.d (.sl sz rows)) := fun E M w v hM ho hca => by
  obtain ⟨xs, g1, g2, g3, g4⟩ := ho.ok n _ h1
  refine .d ?_
  cases hca with
  | vh n len l cc a hE hle =>
    rcases g1.2 with ⟨hnil, hz⟩ | ⟨g, cap, cur, hE', hbg, hg, hnc, hcm, hcs, htake⟩
    · rw [hE] at hnil
      simp only [Value.slice.injEq] at hnil
      obtain ⟨rfl, rfl, rfl⟩ := hnil
      have : rows = [] := List.eq_nil_of_length_eq_zero hz
      subst this
      exact .slnil sz
    · rw [hE] at hE'
      simp only [Value.slice.injEq] at hE'
      obtain ⟨rfl, rfl, rfl⟩ := hE'
      refine .sl g 0 _ _ sz rows (fun k => xs.getD k undef) rfl hnc g2 (fun k hk => ?_) fun i j r x hr' hx => ?_
      · have hxk : k < xs.length := by rw [g1.1]; exact hk
        obtain ⟨u, hu⟩ : ∃ u, xs[k]? = some u := ⟨_, List.getElem?_eq_getElem hxk⟩
        have hq : w.cell? ⟨g, k, none⟩ = some u := by
          rw [cell_of_row w g k cur e (0, 0) hg]
          have hu' := hu
          rw [← htake, List.getElem?_take, if_pos hk] at hu'
          simpa using hu'
        simp [memOf, hq, hu]
      · have hlr := g2 r (List.mem_of_getElem? hr')
        have hir : i < rows.length := (List.getElem?_eq_some_iff.1 hr').1
        have hj : j < sz := by have := (List.getElem?_eq_some_iff.1 hx).1; omega
        have hmul : (i + 1) * sz ≤ rows.length * sz := Nat.mul_le_mul_right _ hir
        rw [Nat.succ_mul] at hmul
        have hxk : i * sz + j < xs.length := by rw [g1.1]; omega
        have := g3 i j r xs[i * sz + j] x hr' hx (List.getElem?_eq_getElem hxk)
        have hg' : xs.getD (i * sz + j) undef = xs[i * sz + j] := by simp [hxk]
        rw [hg']
        exact this.mono hM

/-- WHAT IS OWNED MAY BE LENT to a function that hands back no memory. -/
theorem lend {P : Program} {f : FuncId} {args0 args : List H} {r : H} {own : List (Nat × Own)} (h : FnOk P f args0 [] r []) (hl : args.length = args0.length)
    (ha : ∀ (i : Nat) (a a0 : H), args[i]? = some a → args0[i]? = some a0 → LentTo own a a0)
    (hvec : ∀ n o, gt own n = some o → ∃ e sz rows, o = .vec e sz rows) (hr : ∀ (E E' : Env) (M M' : Mem) (v : Value), HRep E M v r → HRep E' M' v r) : FnAt P f args own r own := by
  refine ⟨h.1, fun E M w vs hgm hm ho hvs => ?_⟩
  have hM : M.le (memOf w) := fun b o v hv => hm b o v hv
  have hrep : HReps E (memOf w) vs args0 := by
    refine ⟨hvs.1.trans hl, fun i c x hc hx => ?_⟩
    have hi : i < args.length := by rw [hl]; exact (List.getElem?_eq_some_iff.1 hx).1
    have hca := hvs.2 i c _ hc (List.getElem?_eq_getElem hi)
    exact ha i _ x (List.getElem?_eq_getElem hi) hx E M w c hM ho hca
  refine (h.2 E (memOf w) w vs (hgm.mono hM fun _ _ _ => rfl) (fun b o v hv => hv) ⟨fun n o hn => by simp [gt] at hn, fun n m o o' b _ hn => by simp [gt] at hn⟩ hrep).mono ?_
  rintro e w' ⟨v, E', M', rfl, hp⟩
  have hfr : ∀ b, b < w.heap.size → w'.heap[b]? = w.heap[b]? := fun b hb => hp.frame b hb fun ⟨n, o, hn, _⟩ => by simp [gt] at hn
  refine ⟨v, E, M, rfl, { rep := hr _ _ _ _ _ hp.rep, owns := ⟨fun n o hn => ?_, ho.apart⟩, mle := Mem.le_refl _, mem := fun b o v hv => hp.mem b o v (hp.mle b o v (hm b o v hv)), mnew := fun b o v hv => .inl hv, home := fun n o b hn hb => .inl ⟨n, o, hn, hb⟩, frame := fun k hk _ => hfr k hk, grows := hp.grows, os := hp.os, tape := hp.tape, output := hp.output, env := fun _ _ => rfl }, fun _ _ => rfl⟩
  have hok := ho.ok n o hn
  obtain ⟨e, sz, rows, rfl⟩ := hvec n o hn
  refine hok.keep rfl (fun b hb => hfr b (hok.block hb).1) (fun _ _ => rfl) (Mem.le_refl _) fun b hb => (hok.block hb).2

/-- The cells of a struct that is lent. -/
def argC (S : TS V.N) : List (Ty V.ι) → List (TV V.N) → Option (List (Nat × TO V.N) × List (Leaf V.N))
  | [], [] => some ([], [])
  | .sl e :: ts, .vh n :: xs => match S.own? n with
    | some (.vec te e' ys) => match argC S ts xs with
      | some (l, ls) => some ((n, .vec te e' ys) :: l, ⟨.sl e', ys⟩ :: ls)
      | none => none
    | _ => none
  | t :: ts, x :: xs => match leafOf V false t x with
    | some l0 => match argC S ts xs with
      | some (l, ls) => some (l, l0 :: ls)
      | none => none
    | none => none
  | _, _ => none

def hasVh : List (TV V.N) → Bool
  | [] => false
  | .vh _ :: _ => true
  | _ :: r => hasVh r

/-- Arguments: data, functions without memory, slices that are lent. -/
def arg1 (S : TS V.N) : Pt V.ι → TV V.N → Option (List (Nat × TO V.N) × List (Leaf V.N))
  | .dat (.sl e), .vh n => match S.own? n with
    | some (.vec te e' xs) => if e' = e then some ([(n, .vec te e' xs)], [⟨.sl e', xs⟩]) else none
    | _ => none
  | .dat (.st i), .agg vs => match hasVh vs with
    | true => match argC S (V.tys i) vs with
      | some (p :: l, ls) => match V.ofCells i ls with
        | some y => some (p :: l, [⟨.st i, y⟩])
        | none => none
      | _ => none
    | false => match mt1 V [] (.dat (.st i)) (.agg vs) with
      | some (_, ls) => some ([], ls)
      | none => none
  | .dat t, x => match mt1 V [] (.dat t) x with
    | some (_, ls) => some ([], ls)
    | none => none
  | .fn f [] [], .fn f' [] [] => if f = f' then some ([], []) else none
  | _, _ => none

def argsL (S : TS V.N) : List (Pt V.ι) → List (TV V.N) → Option (List (Nat × TO V.N) × List (Leaf V.N))
  | [], [] => some ([], [])
  | p :: ps, x :: xs => match arg1 S p x with
    | some (l, ls) => match argsL S ps xs with
      | some (l', ls') => some (l ++ l', ls ++ ls')
      | none => none
    | none => none
  | _, _ => none

/-- A call of a function that owns nothing. -/
def callPure (P : Program) (sig : Sig V) (F : HL V.N sig.tys → Option (HL V.N sig.rcut.tys)) (A : Type) (args : List (TV V.N)) (S : TS V.N) (k : TE V.N → Option A) : Option A :=
  match argsL S sig.params args with
  | some (lent, ls) => match toHL sig.tys ls with
    | some v => F v >>= fun r => match resV P sig r with
      | some x => match lent with
        | [] => match TV.plain x with
          | true => k { val := x }
          | false => none
        | p :: l => match flatV x with
          | true => k { val := x, acc := (p :: l).map (·.1), upd := (p :: l) ++ (p :: l).map fun q => (q.1, .gone (TO.len (some q.2))) }
          | false => none
      | none => none
    | none => none
  | none => none

theorem mt1_dat {σ σ' : Names} {t : Ty V.ι} {x : TV V.N} {ls : List (Leaf V.N)} (h : mt1 V σ (.dat t) x = some (σ', ls)) : σ' = σ := by
  cases x with
  | lf t' y =>
    simp only [mt1] at h
    have := (if_some h).2
    simp only [Option.some.injEq, Prod.mk.injEq] at this
    exact this.1.symm
  | raw v =>
    unfold mt1 at h
    split at h <;> first
      | (simp only [Option.some.injEq, Prod.mk.injEq] at h; exact h.1.symm)
      | (cases h; done)
      | contradiction
  | agg cs =>
    unfold mt1 at h
    split at h <;> first
      | (split at h
         · simp only [Option.some.injEq, Prod.mk.injEq] at h; exact h.1.symm
         · cases h)
      | (cases h; done)
      | contradiction
  | _ => simp [mt1] at h

theorem LentTo.pre {own : List (Nat × Own)} {a b c : H} (h : H.le a b) (k : LentTo own b c) : LentTo own a c := fun E M w v hM ho hv => k E M w v hM ho (h E M v hv)
theorem LentTo.post {own : List (Nat × Own)} {a b c : H} (h : LentTo own a b) (k : H.le b c) : LentTo own a c := fun E M w v hM ho hv => k E _ v (h E M w v hM ho hv)

/-- The lent slices are among what is owned. -/
def Among (own : List (Nat × Own)) (l : List (Nat × TO V.N)) : Prop := ∀ n te e ys, (n, TO.vec te e ys) ∈ l → gt own n = some (.vec te (tsz V.sz e) (ys.map fun x => encR V.sz V.enc e x))

theorem argC_sound {S : TS V.N} : ∀ {ts : List (Ty V.ι)} {xs : List (TV V.N)} {l : List (Nat × TO V.N)} {ls : List (Leaf V.N)}, argC S ts xs = some (l, ls) →
    xs.length = ls.length ∧ (∀ n o, (n, o) ∈ l → ∃ te e ys, o = .vec te e ys ∧ S.own? n = some (.vec te e ys)) ∧
      ∀ own : List (Nat × Own), Among own l → ∀ (i : Nat) (x : TV V.N) (l0 : Leaf V.N), xs[i]? = some x → ls[i]? = some l0 → LentTo own (encV V S.len x) (.d (encD V.sz V.enc l0.t l0.x))
  | [], [], l, ls, h => by
    simp [argC] at h; obtain ⟨rfl, rfl⟩ := h
    exact ⟨rfl, fun n o hm => by simp at hm, fun own _ i x l0 hx => by simp at hx⟩
  | [], _ :: _, l, ls, h => by simp [argC] at h
  | _ :: _, [], l, ls, h => by unfold argC at h; split at h <;> first | (cases h; done) | contradiction
  | t :: ts, x :: xs, l, ls, h => by
    unfold argC at h
    split at h
    · rename_i heq _; cases heq
    · rename_i e ts' n xs' heq1 heq2
      simp only [List.cons.injEq] at heq1 heq2
      obtain ⟨rfl, rfl⟩ := heq1
      obtain ⟨rfl, rfl⟩ := heq2
      split at h
      · rename_i te e' ys hn
        split at h
        · rename_i l' ls' h2
          simp at h; obtain ⟨rfl, rfl⟩ := h
          obtain ⟨b1, b2, b3⟩ := argC_sound h2
          refine ⟨by simp [b1], fun m o hm => ?_, fun own hown i y l0 hy hl => ?_⟩
          · rcases List.mem_cons.1 hm with he | hm
            · simp only [Prod.mk.injEq] at he
              obtain ⟨rfl, rfl⟩ := he
              exact ⟨te, e', ys, rfl, hn⟩
            · exact b2 m o hm
          · cases i with
            | zero =>
              simp at hy hl; subst hy; subst hl
              have := LentTo.vh (hown n te e' ys List.mem_cons_self)
              simp only [encV, encD, len_vec hn]
              rw [List.length_map] at this
              exact this
            | succ i => exact b3 own (fun m a b c hm => hown m a b c (List.mem_cons_of_mem _ hm)) i y l0 (by simpa using hy) (by simpa using hl)
        · cases h
      · cases h
    · rename_i t' ts' x' xs' _ heq1 heq2
      simp only [List.cons.injEq] at heq1 heq2
      obtain ⟨rfl, rfl⟩ := heq1
      obtain ⟨rfl, rfl⟩ := heq2
      split at h
      · rename_i l0 hl
        split at h
        · rename_i l' ls' h2
          simp at h; obtain ⟨rfl, rfl⟩ := h
          obtain ⟨b1, b2, b3⟩ := argC_sound h2
          refine ⟨by simp [b1], b2, fun own hown i y l1 hy hl1 => ?_⟩
          cases i with
          | zero =>
            simp at hy hl1; subst hy; subst hl1
            have hls : leavesOf V false [t] [x] = some [l0] := by simp [leavesOf, hl]
            obtain ⟨ds, e1, e2, _⟩ := leavesOf_sound (ω := S.len) hls
            simp only [encL] at e1
            obtain ⟨d, hd⟩ : ∃ d, ds = [d] := by
              match ds, e1 with
              | [d], _ => exact ⟨d, rfl⟩
              | [], e1 => simp at e1
              | _ :: _ :: _, e1 => simp at e1
            subst hd
            simp only [List.map_cons, List.map_nil, List.cons.injEq, and_true] at e1
            rw [e1]
            obtain ⟨d0, g1, g2⟩ := e2.get 0 (encD V.sz V.enc l0.t l0.x) rfl
            simp at g1; subst g1
            refine LentTo.le fun E M a hr => ?_
            cases hr with
            | d q => exact .d (g2 M a q)
          | succ i => exact b3 own hown i y l1 (by simpa using hy) (by simpa using hl1)
        · cases h
      · cases h
    · cases h

theorem arg1_sound {S : TS V.N} {p : Pt V.ι} {x : TV V.N} {l : List (Nat × TO V.N)} {ls : List (Leaf V.N)} (h : arg1 S p x = some (l, ls)) :
    (∃ x0, (∀ rest, bd1 V p (ls ++ rest) = some (x0, rest)) ∧ ∀ ω0 : Nat → Nat, (l = [] → H.le (encV V S.len x) (encV V ω0 x0)) ∧ ∀ own, Among own l → LentTo own (encV V S.len x) (encV V ω0 x0)) ∧
      ∀ n o, (n, o) ∈ l → ∃ te e xs, o = .vec te e xs ∧ S.own? n = some (.vec te e xs) := by
  unfold arg1 at h
  split at h
  · rename_i e n
    split at h
    · rename_i te e' xs hn
      have h' := if_some h; clear h
      obtain ⟨he, h⟩ := h'
      subst he
      simp at h; obtain ⟨rfl, rfl⟩ := h
      refine ⟨⟨.lf (.sl e') xs, fun rest => rfl, fun ω0 => ⟨fun hl => by simp at hl, fun own hown => ?_⟩⟩, fun m o hm => ?_⟩
      · have := LentTo.vh (hown n te e' xs List.mem_cons_self)
        simp only [encV, encD, len_vec hn]
        rw [List.length_map] at this
        exact this
      · simp at hm
        obtain ⟨rfl, rfl⟩ := hm
        exact ⟨te, e', xs, rfl, hn⟩
    · cases h
  · rename_i i vs
    split at h
    · split at h
      · rename_i p0 l0 ls0 hC
        split at h
        · rename_i y hy
          simp at h; obtain ⟨rfl, rfl⟩ := h
          obtain ⟨b1, b2, b3⟩ := argC_sound hC
          refine ⟨⟨.lf (.st i) y, fun rest => rfl, fun ω0 => ⟨fun hl => by simp at hl, fun own hown => ?_⟩⟩, b2⟩
          have hc := V.of_cells i ls0 y hy
          simp only [encV, encD]
          refine LentTo.pre (mkAgg_to _) (LentTo.post (LentTo.agg (l0 := ls0.map fun l => .d (encD V.sz V.enc l.t l.x)) (by rw [List.length_map, encL_len]; exact b1.symm) fun i a a0 ha ha0 => ?_) ?_)
          · rw [encL_map, List.getElem?_map, Option.map_eq_some_iff] at ha
            rw [List.getElem?_map, Option.map_eq_some_iff] at ha0
            obtain ⟨u, hu, rfl⟩ := ha
            obtain ⟨l1, hl1, rfl⟩ := ha0
            exact b3 own hown i u l1 hu hl1
          · have e1 : V.enc i y = ls0.map fun l => encD V.sz V.enc l.t l.x := by rw [V.enc_cells, hc]
            have := mkAgg_of ((ls0.map fun l => encD V.sz V.enc l.t l.x).map H.d)
            rw [mkAgg, allD_map] at this
            rw [e1]
            rw [List.map_map] at this
            exact this
        · cases h
      · cases h
    · split at h
      · rename_i σ ls' h1
        simp at h; obtain ⟨rfl, rfl⟩ := h
        obtain ⟨_, _, _, x0, a1, a2⟩ := mt1_sound h1
        have hσ := mt1_dat h1
        subst hσ
        have hle : ∀ ω0 : Nat → Nat, H.le (encV V S.len (.agg vs)) (encV V ω0 x0) := fun ω0 E M v hv => a2 [] [] E E M S.len ω0 v (Sub.refl _) rfl ⟨fun c n hc => by simp [gt] at hc, fun c n hc => by simp at hc⟩ hv
        exact ⟨⟨x0, a1, fun ω0 => ⟨fun _ => hle ω0, fun own _ => LentTo.le (hle ω0)⟩⟩, fun n o hm => by simp at hm⟩
      · cases h
  · rename_i t x' hne hne2
    split at h
    · rename_i σ ls' h1
      simp at h; obtain ⟨rfl, rfl⟩ := h
      obtain ⟨_, _, _, x0, a1, a2⟩ := mt1_sound h1
      have hσ := mt1_dat h1
      subst hσ
      have hle : ∀ ω0 : Nat → Nat, H.le (encV V S.len x) (encV V ω0 x0) := fun ω0 E M v hv => a2 [] [] E E M S.len ω0 v (Sub.refl _) rfl ⟨fun c n hc => by simp [gt] at hc, fun c n hc => by simp at hc⟩ hv
      exact ⟨⟨x0, a1, fun ω0 => ⟨fun _ => hle ω0, fun own _ => LentTo.le (hle ω0)⟩⟩, fun n o hm => by simp at hm⟩
    · cases h
  · rename_i f f'
    have h' := if_some h; clear h
    obtain ⟨he, h⟩ := h'
    subst he
    simp at h; obtain ⟨rfl, rfl⟩ := h
    have hle : ∀ ω0 : Nat → Nat, H.le (encV V S.len (.fn f [] [])) (encV V ω0 (.fn f [] [] : TV V.N)) := fun ω0 => by simp only [encV, encL]; exact H.le.refl _
    exact ⟨⟨.fn f [] [], fun rest => rfl, fun ω0 => ⟨fun _ => hle ω0, fun own _ => LentTo.le (hle ω0)⟩⟩, fun n o hm => by simp at hm⟩
  · cases h

theorem argsL_sound {S : TS V.N} : ∀ {ps : List (Pt V.ι)} {xs : List (TV V.N)} {l : List (Nat × TO V.N)} {ls : List (Leaf V.N)}, argsL S ps xs = some (l, ls) →
    ∃ xs0 : List (TV V.N), xs0.length = xs.length ∧ (∀ rest, bdL V ps (ls ++ rest) = some (xs0, rest)) ∧ (∀ (i : Nat) (x x0 : TV V.N), xs[i]? = some x → xs0[i]? = some x0 →
      ∀ ω0 : Nat → Nat, (l = [] → H.le (encV V S.len x) (encV V ω0 x0)) ∧ ∀ own, Among own l → LentTo own (encV V S.len x) (encV V ω0 x0)) ∧
      ∀ n o, (n, o) ∈ l → ∃ te e ys, o = .vec te e ys ∧ S.own? n = some (.vec te e ys)
  | [], [], l, ls, h => by
    simp [argsL] at h; obtain ⟨rfl, rfl⟩ := h
    exact ⟨[], rfl, fun rest => rfl, fun i x x0 hx => by simp at hx, fun n o hm => by simp at hm⟩
  | [], _ :: _, l, ls, h => by simp [argsL] at h
  | _ :: _, [], l, ls, h => by simp [argsL] at h
  | p :: ps, x :: xs, l, ls, h => by
    simp only [argsL] at h
    split at h
    · rename_i l1 ls1 h1
      split at h
      · rename_i l2 ls2 h2
        simp at h; obtain ⟨rfl, rfl⟩ := h
        obtain ⟨⟨x0, a1, a2⟩, a3⟩ := arg1_sound h1
        obtain ⟨xs0, b1, b2, b3, b4⟩ := argsL_sound h2
        refine ⟨x0 :: xs0, by simp [b1], fun rest => by simp only [bdL, List.append_assoc, a1, b2], fun i y y0 hy hy0 ω0 => ?_, fun n o hm => ?_⟩
        · cases i with
          | zero =>
            simp at hy hy0; subst hy; subst hy0
            exact ⟨fun hl => (a2 ω0).1 (List.append_eq_nil_iff.1 hl).1, fun own hown => (a2 ω0).2 own fun m a b c hm => hown m a b c (List.mem_append_left _ hm)⟩
          | succ i =>
            have := b3 i y y0 (by simpa using hy) (by simpa using hy0) ω0
            exact ⟨fun hl => this.1 (List.append_eq_nil_iff.1 hl).2, fun own hown => this.2 own fun m a b c hm => hown m a b c (List.mem_append_right _ hm)⟩
        · rcases List.mem_append.1 hm with hm | hm
          · exact a3 n o hm
          · exact b4 n o hm
      · cases h
    · cases h

theorem newNames_sub {own : List (Nat × Own)} : ∀ {l : List (Nat × Own)}, (∀ p ∈ l, ∃ o, gt own p.1 = some o) → newNames own l = []
  | [], _ => rfl
  | (n, o) :: r, h => by
    obtain ⟨o', ho⟩ := h (n, o) List.mem_cons_self
    simp only at ho
    simp only [newNames, ho]
    exact newNames_sub fun p hp => h p (List.mem_cons_of_mem _ hp)

theorem callPure_ok {P : Program} {fid : Nat} {sig : Sig V} {F : HL V.N sig.tys → Option (HL V.N sig.rcut.tys)} (hF : SigOk P fid sig F) (ho : sig.objs = []) (hk0 : sig.keep = []) {A : Type} {args : List (TV V.N)} {S : TS V.N} {dst : Option Tmp}
    {k : TE V.N → Option A} {r : A} (h : callPure P sig F A args S k = some r) :
    ∃ te, k te = some r ∧ good S te ∧ ACall P fid (encL V S.len args) (encS V S).own? fun e' => ELe true e' (encE (S.app dst te).len te) := by
  unfold callPure at h
  split at h
  · rename_i lent ls hargs
    split at h
    · rename_i v hv
      obtain ⟨y, hy, h⟩ := some_bind h
      split at h
      · rename_i x hx
        have hc := hF v y x hy hx
        have hkept : kept sig y = [] := by
          unfold kept
          rw [hk0, List.filter_eq_nil_iff]
          intro p _; simp
        rw [hkept] at hc
        obtain ⟨xs0, b1, b2, b3, b4⟩ := argsL_sound hargs
        have hls := toHL_of hv
        have hst : startOs sig v = (xs0, []) := by
          unfold startOs
          rw [hls]
          have := b2 []
          rw [List.append_nil] at this
          rw [this, ho]
          rfl
        have hown0 : (startS sig v).own = [] := by unfold startS; rw [hst]
        rw [hst, hown0] at hc
        simp only [encOs, List.filterMap_nil] at hc
        generalize (startS sig v).len = ω0 at hc
        cases lent with
        | nil =>
          simp only at h
          split at h
          · rename_i hpl
            refine ⟨_, h, good_val S x [], ?_⟩
            have hw := hc.weak (args' := encL V S.len args) (by rw [encL_len, encL_len]; exact b1.symm) fun i a a0 ha ha0 => by
              rw [encL_map, List.getElem?_map, Option.map_eq_some_iff] at ha ha0
              obtain ⟨u, hu, rfl⟩ := ha
              obtain ⟨u0, hu0, rfl⟩ := ha0
              exact (b3 i u u0 hu hu0 ω0).1 rfl
            have hplH : H.plain (encV V (conc V sig.rcut y).len x) = true := by
              have : ∀ z : H, (∀ n, H.has n z = false) → H.plain z = true := by
                intro z
                refine H.rec (motive_1 := fun z => (∀ n, H.has n z = false) → H.plain z = true) (motive_2 := fun l => (∀ n, H.hasL n l = false) → H.plainL l = true) ?_ ?_ ?_ ?_ ?_ ?_ ?_ ?_ ?_ ?_ ?_ ?_ ?_ z
                · intro _ _; rfl
                · intro _; rfl
                · intro m o hn; have := hn m; simp [H.has] at this
                · intro m o hn; have := hn m; simp [H.has] at this
                · intro m s i o hn; have := hn m; simp [H.has] at this
                · intro m hn; have := hn m; simp [H.has] at this
                · intro m b hn; have := hn m; simp [H.has] at this
                · intro m hn; have := hn m; simp [H.has] at this
                · intro cs ih hn; simp only [H.plain]; exact ih fun n => by have := hn n; simpa [H.has] using this
                · intro cs ih hn; simp only [H.plain]; exact ih fun n => by have := hn n; simpa [H.has] using this
                · intro f a b ih1 ih2 hn
                  simp only [H.plain, Bool.and_eq_true]
                  exact ⟨ih1 fun n => by have := hn n; simp only [H.has, Bool.or_eq_false_iff] at this; exact this.1, ih2 fun n => by have := hn n; simp only [H.has, Bool.or_eq_false_iff] at this; exact this.2⟩
                · intro _; rfl
                · intro x r ih1 ih2 hn
                  simp only [H.plainL, Bool.and_eq_true]
                  exact ⟨ih1 fun n => by have := hn n; simp only [H.hasL, Bool.or_eq_false_iff] at this; exact this.1, ih2 fun n => by have := hn n; simp only [H.hasL, Bool.or_eq_false_iff] at this; exact this.2⟩
              exact this _ fun n => by rw [encV_has]; exact plain_has hpl n
            refine acall_pure hw hplH ?_
            exact ele_eq (dst := dst) (l := []) (plain_enc hpl _ _)
          · cases h
        | cons p l =>
          simp only at h
          split at h
          · rename_i hfl
            generalize hL : p :: l = L at h hargs b3 b4
            have hpl := flat_plain hfl
            refine ⟨_, h, fun m o hm => ?_, ?_⟩
            · right
              simp only [gt_app] at hm
              cases hq : gt L m with
              | some o' =>
                rw [hq] at hm; simp at hm; subst hm
                obtain ⟨te, e, ys, rfl, h2⟩ := b4 m o' (gt_mem hq)
                rw [len_vec h2]; rfl
              | none =>
                rw [hq] at hm
                have hm' := gt_mem hm
                obtain ⟨q, hq1, hq2⟩ := List.mem_map.1 hm'
                simp only [Prod.mk.injEq] at hq2
                obtain ⟨rfl, rfl⟩ := hq2
                obtain ⟨te, e, ys, h1, h2⟩ := b4 q.1 q.2 hq1
                rw [len_vec h2, h1]; rfl
            · let own : List (Nat × Own) := L.filterMap fun q => (encO V S.len q.2).map fun o => (q.1, o)
              have hmap : ∀ l' : List (Nat × TO V.N), (∀ n o, (n, o) ∈ l' → ∃ te e ys, o = TO.vec te e ys ∧ S.own? n = some (.vec te e ys)) → ∀ ω : Nat → Nat,
                  l'.map (fun q => (q.1, encO V ω q.2)) = (l'.filterMap fun q => (encO V S.len q.2).map fun o => (q.1, o)).map (fun q => (q.1, some q.2)) ∧
                  (l'.map fun q : Nat × TO V.N => (q.1, TO.gone (N := V.N) (TO.len (some q.2)))).map (fun q => (q.1, encO V ω q.2)) = (l'.filterMap fun q => (encO V S.len q.2).map fun o => (q.1, o)).map (fun q => (q.1, none)) ∧
                  l'.map (·.1) = (l'.filterMap fun q => (encO V S.len q.2).map fun o => (q.1, o)).map (·.1) := by
                intro l'
                induction l' with
                | nil => intro _ ω; exact ⟨rfl, rfl, rfl⟩
                | cons q r ih =>
                  intro hq ω
                  obtain ⟨n, o⟩ := q
                  obtain ⟨te, e, ys, rfl, h2⟩ := hq n o List.mem_cons_self
                  obtain ⟨i1, i2, i3⟩ := ih (fun n o hm => hq n o (List.mem_cons_of_mem _ hm)) ω
                  have e0 : encO V S.len (.vec te e ys) = some (.vec te (tsz V.sz e) (ys.map fun x => encR V.sz V.enc e x)) := rfl
                  simp only [List.filterMap_cons, e0, Option.map_some, List.map_cons]
                  rw [i1, i2, i3]
                  exact ⟨rfl, rfl, rfl⟩
              have hgt : ∀ n o, gt own n = some o → ∃ te e ys, (n, TO.vec te e ys) ∈ L ∧ S.own? n = some (.vec te e ys) ∧ o = .vec te (tsz V.sz e) (ys.map fun x => encR V.sz V.enc e x) := by
                intro n o hn
                obtain ⟨z, h1, h2⟩ := gt_filterMap hn
                obtain ⟨te, e, ys, rfl, h3⟩ := b4 n z h1
                simp only [encO, Option.some.injEq] at h2
                exact ⟨te, e, ys, h1, h3, h2.symm⟩
              have hgt' : ∀ n te e ys, (n, TO.vec te e ys) ∈ L → gt own n = some (.vec te (tsz V.sz e) (ys.map fun x => encR V.sz V.enc e x)) := by
                intro n te e ys hn
                have hkey : n ∈ own.map (·.1) := by rw [← (hmap L b4 S.len).2.2]; exact List.mem_map_of_mem (f := (·.1)) hn
                obtain ⟨o, hoo⟩ := gt_some hkey
                obtain ⟨te', e', ys', h1, h2, h3⟩ := hgt n o hoo
                obtain ⟨te2, e2, ys2, h4, h5⟩ := b4 n _ hn
                cases h4
                rw [h2] at h5; cases h5
                rw [hoo, h3]
              have hat := lend (args := encL V S.len args) (own := own) hc (by rw [encL_len, encL_len]; exact b1.symm) (fun i a a0 ha ha0 => by
                rw [encL_map, List.getElem?_map, Option.map_eq_some_iff] at ha ha0
                obtain ⟨u, hu, rfl⟩ := ha
                obtain ⟨u0, hu0, rfl⟩ := ha0
                exact (b3 i u u0 hu hu0 ω0).2 own hgt') (fun n o hn => by
                obtain ⟨te, e, ys, _, _, rfl⟩ := hgt n o hn
                exact ⟨_, _, _, rfl⟩) (fun E E' M M' v hv => flat_any hfl hv)
              refine ⟨own, _, own, hat, fun q hq => ?_, ?_⟩
              · obtain ⟨z, hz1, hz2⟩ := List.mem_filterMap.1 hq
                obtain ⟨te, e, ys, h1, h2⟩ := b4 z.1 z.2 hz1
                rw [h1] at hz2
                simp only [encO, Option.map_some, Option.some.injEq] at hz2
                subst hz2
                exact own_vec h2
              · refine ele_upd ?_ ?_ ?_ ?_
                · exact plain_enc hpl _ _
                · simp only [callEff]
                  exact newNames_sub fun p hp => by
                    obtain ⟨o, hoo⟩ := gt_some (List.mem_map_of_mem (f := (·.1)) hp)
                    exact ⟨o, hoo⟩
                · simp only [callEff, List.map_append]
                  obtain ⟨i1, i2, _⟩ := hmap L b4 (S.app dst { val := x, acc := L.map (·.1), upd := L ++ L.map fun q => (q.1, .gone (TO.len (some q.2))) }).len
                  rw [i1, i2]
                · simp only [callEff]
                  exact (hmap L b4 S.len).2.2.symm
          · cases h
      · cases h
    · cases h
  · cases h

end
end Go.Tx
