/-
  Texts of this claim, joined by a program of mine: what the theorem uses.
-/
import Derived.Test.YtogoamfegaebgaaGreatDoorPkC
import Derived.KernelRfl
import Derived.Test.YtogoamfegaebgaaGreatDoorPkB
import Derived.WalkKit
import Derived.ProofKit
import Derived.OpenShut
import Derived.Test.YtogoamfegaebgaaGreatDoorRows
import Derived.Lib.LaidIn
import Derived.Lib.LaidU8T
import Derived.MakeChecks
import Derived.Test.YtogoamfegaebgaaGreatDoorProg
import Derived.Lib.ItoaNum
import Derived.Shelf.Strings.Builder1
set_option linter.unusedSectionVars false
set_option linter.unusedSimpArgs false
set_option linter.unusedVariables false
section
namespace Go.Tx
open Go.Awp
variable [Inhabited GMem]
section
variable {V : View}
mutual
def TV.plain : TV V.N → Bool
 | .lf .. => true
 | .raw _ => true
 | .rp .. => true
 | .junk => true
 | .agg cs => TV.plainL cs
 | .tup vs => TV.plainL vs
 | .fn _ a b => TV.plainL a && TV.plainL b
 | _ => false
def TV.plainL : List (TV V.N) → Bool
 | [] => true
 | x :: r => TV.plain x && TV.plainL r
end
mutual
theorem plain_has : ∀ {x : TV V.N}, TV.plain x = true → ∀ n, TV.has n x = false
 | .lf .., _, n => by simp [TV.has]
 | .raw _, _, n => by simp [TV.has]
 | .rp .., _, n => by simp [TV.has]
 | .junk, _, n => by simp [TV.has]
 | .agg cs, h, n => by simp only [TV.plain] at h; simp only [TV.has]; exact plainL_has h n
 | .tup cs, h, n => by simp only [TV.plain] at h; simp only [TV.has]; exact plainL_has h n
 | .fn f a b, h, n => by
  simp only [TV.plain, Bool.and_eq_true] at h
  simp only [TV.has, plainL_has h.1 n, plainL_has h.2 n]; rfl
 | .bp .., h, n => by simp [TV.plain] at h
 | .vh .., h, n => by simp [TV.plain] at h
 | .ep .., h, n => by simp [TV.plain] at h
 | .mp .., h, n => by simp [TV.plain] at h
 | .np .., h, n => by simp [TV.plain] at h
 | .sd .., h, n => by simp [TV.plain] at h
theorem plainL_has : ∀ {l : List (TV V.N)}, TV.plainL l = true → ∀ n, TV.hasL n l = false
 | [], _, n => by simp [TV.hasL]
 | x :: r, h, n => by
  simp only [TV.plainL, Bool.and_eq_true] at h
  simp only [TV.hasL, plain_has h.1 n, plainL_has h.2 n]; rfl
end
theorem plain_enc {x : TV V.N} (h : TV.plain x = true) (ω ω' : Nat → Nat) : encV V ω' x = encV V ω x := encV_congr x fun n hn => by rw [plain_has h n] at hn; cases hn
def Ty.flat {ι : Type} : Ty ι → Bool
 | .int _ => true
 | .bool => true
 | .str => true
 | _ => false
def flat1 : TV V.N → Bool
 | .lf t x => (rcells V t x).all fun l => l.t.flat
 | _ => false
def flatV : TV V.N → Bool
 | .tup vs => vs.all flat1
 | x => flat1 x
theorem flat1_plain {x : TV V.N} (h : flat1 x = true) : TV.plain x = true := by
 cases x <;> first | rfl | (simp [flat1] at h; done)
theorem flat_plain {x : TV V.N} (h : flatV x = true) : TV.plain x = true := by
 cases x with
 | tup vs =>
  simp only [flatV, List.all_eq_true] at h
  simp only [TV.plain]
  have : ∀ l : List (TV V.N), (∀ x ∈ l, flat1 x = true) → TV.plainL l = true := by
   intro l
   induction l with
   | nil => intro _; rfl
   | cons y r ih => intro h; simp only [TV.plainL, Bool.and_eq_true]; exact ⟨flat1_plain (h y List.mem_cons_self), ih fun x hx => h x (List.mem_cons_of_mem _ hx)⟩
  exact this vs h
 | lf t x => rfl
 | raw _ => rfl
 | rp a b c => rfl
 | junk => rfl
 | agg cs => simp [flatV, flat1] at h
 | fn f a b => simp [flatV, flat1] at h
 | bp a b => simp [flatV, flat1] at h
 | vh a => simp [flatV, flat1] at h
 | ep a b c d => simp [flatV, flat1] at h
 | mp a => simp [flatV, flat1] at h
 | np a b => simp [flatV, flat1] at h
 | sd a => simp [flatV, flat1] at h
theorem encD_flat {l : Leaf V.N} (h : l.t.flat = true) {M M' : Mem} {v : Value} (hv : DRep M v (encD V.sz V.enc l.t l.x)) : DRep M' v (encD V.sz V.enc l.t l.x) := by
 obtain ⟨t, x⟩ := l
 cases t with
 | int k => simp only [encD] at hv ⊢; cases hv; exact .v _
 | bool => simp only [encD] at hv ⊢; cases hv; exact .v _
 | str => simp only [encD] at hv ⊢; cases hv; exact .v _
 | st i => simp [Ty.flat] at h
 | sl e => simp [Ty.flat] at h
 | mp k v => simp [Ty.flat] at h
 | er => simp [Ty.flat] at h
theorem flat1_any {x : TV V.N} (h : flat1 x = true) {ω : Nat → Nat} {E E' : Env} {M M' : Mem} {v : Value} (hv : HRep E M v (encV V ω x)) : HRep E' M' v (encV V ω x) := by
 cases x with
 | lf t x =>
  simp only [flat1, List.all_eq_true] at h
  simp only [encV] at hv ⊢
  cases hv with
  | d hd =>
   refine .d ?_
   cases t with
   | st i =>
    simp only [encD] at hd ⊢
    rw [V.enc_cells] at hd ⊢
    cases hd with
    | agg cs _ hl hh =>
     refine .agg cs _ hl fun k c y hc hy => ?_
     rw [List.getElem?_map] at hy
     cases hq : (V.cells i x)[k]? with
     | none => rw [hq] at hy; cases hy
     | some l =>
      rw [hq] at hy; simp at hy; subst hy
      exact encD_flat (h l (List.mem_of_getElem? hq)) (hh k c _ hc (by rw [List.getElem?_map, hq]; rfl))
   | int k => exact encD_flat (l := ⟨.int k, x⟩) rfl hd
   | bool => exact encD_flat (l := ⟨.bool, x⟩) rfl hd
   | str => exact encD_flat (l := ⟨.str, x⟩) rfl hd
   | sl e => simp [rcells, Ty.flat] at h
   | mp k v => simp [rcells, Ty.flat] at h
   | er => simp [rcells, Ty.flat] at h
 | _ => simp [flat1] at h
theorem flat_any {x : TV V.N} (h : flatV x = true) {ω : Nat → Nat} {E E' : Env} {M M' : Mem} {v : Value} (hv : HRep E M v (encV V ω x)) : HRep E' M' v (encV V ω x) := by
 cases x with
 | tup vs =>
  simp only [flatV, List.all_eq_true] at h
  simp only [encV] at hv ⊢
  obtain ⟨cs, rfl, h1, h2⟩ := hv.htup
  refine .tup cs _ h1 fun i c y hc hy => ?_
  rw [encL_map, List.getElem?_map] at hy
  cases hq : vs[i]? with
  | none => rw [hq] at hy; cases hy
  | some u =>
   rw [hq] at hy; simp at hy; subst hy
   exact flat1_any (h u (List.mem_of_getElem? hq)) (h2 i c _ hc (by rw [encL_map, List.getElem?_map, hq]; rfl))
 | lf t x => exact flat1_any (x := .lf t x) (by simpa [flatV] using h) hv
 | _ => simp [flatV, flat1] at h
def LentTo (own : List (Nat × Own)) (a a0 : H) : Prop := ∀ (E : Env) (M : Mem) (w : World) (v : Value), M.le (memOf w) → Owns E M w own → HRep E M v a → HRep E (memOf w) v a0
theorem LentTo.le {own : List (Nat × Own)} {a a0 : H} (h : H.le a a0) : LentTo own a a0 := fun E M w v hM _ hv => (h E M v hv).le hM
theorem LentTo.agg {own : List (Nat × Own)} {l l0 : List H} (hl : l0.length = l.length) (h : ∀ (i : Nat) (a a0 : H), l[i]? = some a → l0[i]? = some a0 → LentTo own a a0) : LentTo own (.agg l) (.agg l0) := fun E M w v hM ho hv => by
 obtain ⟨cs, rfl, h1, h2⟩ := hv.hagg
 refine .agg cs l0 (by omega) fun i c x hc hx => ?_
 have hi : i < l.length := by rw [← hl]; exact (List.getElem?_eq_some_iff.1 hx).1
 exact h i _ x (List.getElem?_eq_getElem hi) hx E M w c hM ho (h2 i c _ hc (List.getElem?_eq_getElem hi))
theorem LentTo.vh {own : List (Nat × Own)} {n e sz : Nat} {rows : List (List D)} (h1 : gt own n = some (.vec e sz rows)) : LentTo own (.vh n rows.length) (.d (.sl sz rows)) := fun E M w v hM ho hca => by
 obtain ⟨xs, g1, g2, g3, g4⟩ := ho.ok n _ h1
 refine .d ?_
 cases hca with
 | vh n len l cc a hE hle =>
  rcases g1.2 with ⟨hnil, hz⟩ | ⟨g, cap, cur, hE', hbg, hg, hnc, hcm, hcs, htake⟩
  ·rw [hE] at hnil
   simp only [Value.slice.injEq] at hnil
   obtain ⟨rfl, rfl, rfl⟩ := hnil
   have : rows = [] := List.eq_nil_of_length_eq_zero hz
   subst this
   exact .slnil sz
  ·rw [hE] at hE'
   simp only [Value.slice.injEq] at hE'
   obtain ⟨rfl, rfl, rfl⟩ := hE'
   refine .sl g 0 _ _ sz rows (fun k => xs.getD k undef) rfl hnc g2 (fun k hk => ?_) fun i j r x hr' hx => ?_
   ·have hxk : k < xs.length := by rw [g1.1]; exact hk
    obtain ⟨u, hu⟩ : ∃ u, xs[k]? = some u := ⟨_, List.getElem?_eq_getElem hxk⟩
    have hq : w.cell? ⟨g, k, none⟩ = some u := by
     rw [cell_of_row w g k cur e (0, 0) hg]
     have hu' := hu
     rw [← htake, List.getElem?_take, if_pos hk] at hu'
     simpa using hu'
    simp [memOf, hq, hu]
   ·have hlr := g2 r (List.mem_of_getElem? hr')
    have hir : i < rows.length := (List.getElem?_eq_some_iff.1 hr').1
    have hj : j < sz := by have := (List.getElem?_eq_some_iff.1 hx).1; omega
    have hmul : (i + 1) * sz ≤ rows.length * sz := Nat.mul_le_mul_right _ hir
    rw [Nat.succ_mul] at hmul
    have hxk : i * sz + j < xs.length := by rw [g1.1]; omega
    have := g3 i j r xs[i * sz + j] x hr' hx (List.getElem?_eq_getElem hxk)
    have hg' : xs.getD (i * sz + j) undef = xs[i * sz + j] := by simp [hxk]
    rw [hg']
    exact this.mono hM
theorem lend {P : Program} {f : FuncId} {args0 args : List H} {r : H} {own : List (Nat × Own)} (h : FnOk P f args0 [] r []) (hl : args.length = args0.length)
  (ha : ∀ (i : Nat) (a a0 : H), args[i]? = some a → args0[i]? = some a0 → LentTo own a a0)
  (hvec : ∀ n o, gt own n = some o → ∃ e sz rows, o = .vec e sz rows) (hr : ∀ (E E' : Env) (M M' : Mem) (v : Value), HRep E M v r → HRep E' M' v r) : FnAt P f args own r own := by
 refine ⟨h.1, fun E M w vs hgm hm ho hvs => ?_⟩
 have hM : M.le (memOf w) := fun b o v hv => hm b o v hv
 have hrep : HReps E (memOf w) vs args0 := by
  refine ⟨hvs.1.trans hl, fun i c x hc hx => ?_⟩
  have hi : i < args.length := by rw [hl]; exact (List.getElem?_eq_some_iff.1 hx).1
  have hca := hvs.2 i c _ hc (List.getElem?_eq_getElem hi)
  exact ha i _ x (List.getElem?_eq_getElem hi) hx E M w c hM ho hca
 refine (h.2 E (memOf w) w vs (hgm.mono hM fun _ _ _ => rfl) (fun b o v hv => hv) ⟨fun n o hn => by simp [gt] at hn, fun n m o o' b _ hn => by simp [gt] at hn⟩ hrep).mono ?_
 rintro e w' ⟨v, E', M', rfl, hp⟩
 have hfr : ∀ b, b < w.heap.size → w'.heap[b]? = w.heap[b]? := fun b hb => hp.frame b hb fun ⟨n, o, hn, _⟩ => by simp [gt] at hn
 have hft : ∀ n o, gt own n = some o → ∀ b, o.foot w' (E n) b → o.foot w (E n) b := fun n o hn b hb => ((ho.ok n o hn).foot_keep (fun b hb => hfr b ((ho.ok n o hn).block hb).1) b).1 hb
 refine ⟨v, E, M, rfl, { rep := hr _ _ _ _ _ hp.rep, owns := ⟨fun n o hn => ?_, fun n m o o' b hne hn hm hb hb' => ho.apart n m o o' b hne hn hm (hft n o hn b hb) (hft m o' hm b hb')⟩, mle := Mem.le_refl _, mem := fun b o v hv => hp.mem b o v (hp.mle b o v (hm b o v hv)), mnew := fun b o v hv => .inl hv, home := fun n o b hn hb => .inl ⟨n, o, hn, hft n o hn b hb⟩, frame := fun k hk _ => hfr k hk, grows := hp.grows, os := hp.os, tape := hp.tape, output := hp.output, env := fun _ _ => rfl }, fun _ _ => rfl⟩
 have hok := ho.ok n o hn
 obtain ⟨e, sz, rows, rfl⟩ := hvec n o hn
 refine hok.keep rfl (fun b hb => hfr b (hok.block hb).1) (fun _ _ => rfl) (Mem.le_refl _) fun b hb => (hok.block hb).2
def argC (S : TS V.N) : List (Ty V.ι) → List (TV V.N) → Option (List (Nat × TO V.N) × List (Leaf V.N))
 | [], [] => some ([], [])
 | .sl e :: ts, .vh n :: xs => match S.own? n with
  | some (.vec te e' ys) => match argC S ts xs with
   | some (l, ls) => some ((n, .vec te e' ys) :: l, ⟨.sl e', ys⟩ :: ls)
   | none => none
  | _ => none
 | t :: ts, x :: xs => match leafOf V false t x with
  | some l0 => match argC S ts xs with
   | some (l, ls) => some (l, l0 :: ls)
   | none => none
  | none => none
 | _, _ => none
def hasVh : List (TV V.N) → Bool
 | [] => false
 | .vh _ :: _ => true
 | _ :: r => hasVh r
def arg1 (S : TS V.N) : Pt V.ι → TV V.N → Option (List (Nat × TO V.N) × List (Leaf V.N))
 | .dat (.sl e), .vh n => match S.own? n with
  | some (.vec te e' xs) => if e' = e then some ([(n, .vec te e' xs)], [⟨.sl e', xs⟩]) else none
  | _ => none
 | .dat (.st i), .agg vs => match hasVh vs with
  | true => match argC S (V.tys i) vs with
   | some (p :: l, ls) => match V.ofCells i ls with
    | some y => some (p :: l, [⟨.st i, y⟩])
    | none => none
   | _ => none
  | false => match mt1 V [] (.dat (.st i)) (.agg vs) with
   | some (_, ls) => some ([], ls)
   | none => none
 | .dat t, x => match mt1 V [] (.dat t) x with
  | some (_, ls) => some ([], ls)
  | none => none
 | .fn f [] [], .fn f' [] [] => if f = f' then some ([], []) else none
 | _, _ => none
def argsL (S : TS V.N) : List (Pt V.ι) → List (TV V.N) → Option (List (Nat × TO V.N) × List (Leaf V.N))
 | [], [] => some ([], [])
 | p :: ps, x :: xs => match arg1 S p x with
  | some (l, ls) => match argsL S ps xs with
   | some (l', ls') => some (l ++ l', ls ++ ls')
   | none => none
  | none => none
 | _, _ => none
def callPure (P : Program) (sig : Sig V) (F : HL V.N sig.tys → Option (HL V.N sig.rcut.tys)) (A : Type) (args : List (TV V.N)) (S : TS V.N) (k : TE V.N → Option A) : Option A :=
 match argsL S sig.params args with
 | some (lent, ls) => match toHL sig.tys ls with
  | some v => F v >>= fun r => match resV P sig r with
   | some x => match lent with
    | [] => match TV.plain x with
     | true => k { val := x }
     | false => none
    | p :: l => match flatV x with
     | true => k { val := x, acc := (p :: l).map (·.1), upd := (p :: l) ++ (p :: l).map fun q => (q.1, .gone (TO.len (some q.2))) }
     | false => none
   | none => none
  | none => none
 | none => none
theorem mt1_dat {σ σ' : Names} {t : Ty V.ι} {x : TV V.N} {ls : List (Leaf V.N)} (h : mt1 V σ (.dat t) x = some (σ', ls)) : σ' = σ := by
 cases x with
 | lf t' y =>
  simp only [mt1] at h
  have := (if_some h).2
  simp only [Option.some.injEq, Prod.mk.injEq] at this
  exact this.1.symm
 | raw v =>
  unfold mt1 at h
  split at h <;> first
   | (simp only [Option.some.injEq, Prod.mk.injEq] at h; exact h.1.symm)
   | (cases h; done)
   | contradiction
 | agg cs =>
  unfold mt1 at h
  split at h <;> first
   | (split at h
      ·simp only [Option.some.injEq, Prod.mk.injEq] at h; exact h.1.symm
      ·cases h)
   | (cases h; done)
   | contradiction
 | _ => simp [mt1] at h
theorem LentTo.pre {own : List (Nat × Own)} {a b c : H} (h : H.le a b) (k : LentTo own b c) : LentTo own a c := fun E M w v hM ho hv => k E M w v hM ho (h E M v hv)
theorem LentTo.post {own : List (Nat × Own)} {a b c : H} (h : LentTo own a b) (k : H.le b c) : LentTo own a c := fun E M w v hM ho hv => k E _ v (h E M w v hM ho hv)
def Among (own : List (Nat × Own)) (l : List (Nat × TO V.N)) : Prop := ∀ n te e ys, (n, TO.vec te e ys) ∈ l → gt own n = some (.vec te (tsz V.sz e) (ys.map fun x => encR V.sz V.enc e x))
theorem argC_sound {S : TS V.N} : ∀ {ts : List (Ty V.ι)} {xs : List (TV V.N)} {l : List (Nat × TO V.N)} {ls : List (Leaf V.N)}, argC S ts xs = some (l, ls) →
  xs.length = ls.length ∧ (∀ n o, (n, o) ∈ l → ∃ te e ys, o = .vec te e ys ∧ S.own? n = some (.vec te e ys)) ∧
   ∀ own : List (Nat × Own), Among own l → ∀ (i : Nat) (x : TV V.N) (l0 : Leaf V.N), xs[i]? = some x → ls[i]? = some l0 → LentTo own (encV V S.len x) (.d (encD V.sz V.enc l0.t l0.x))
 | [], [], l, ls, h => by
  simp [argC] at h; obtain ⟨rfl, rfl⟩ := h
  exact ⟨rfl, fun n o hm => by simp at hm, fun own _ i x l0 hx => by simp at hx⟩
 | [], _ :: _, l, ls, h => by simp [argC] at h
 | _ :: _, [], l, ls, h => by unfold argC at h; split at h <;> first | (cases h; done) | contradiction
 | t :: ts, x :: xs, l, ls, h => by
  unfold argC at h
  split at h
  ·rename_i heq _; cases heq
  ·rename_i e ts' n xs' heq1 heq2
   simp only [List.cons.injEq] at heq1 heq2
   obtain ⟨rfl, rfl⟩ := heq1
   obtain ⟨rfl, rfl⟩ := heq2
   split at h
   ·rename_i te e' ys hn
    split at h
    ·rename_i l' ls' h2
     simp at h; obtain ⟨rfl, rfl⟩ := h
     obtain ⟨b1, b2, b3⟩ := argC_sound h2
     refine ⟨by simp [b1], fun m o hm => ?_, fun own hown i y l0 hy hl => ?_⟩
     ·rcases List.mem_cons.1 hm with he | hm
      ·simp only [Prod.mk.injEq] at he
       obtain ⟨rfl, rfl⟩ := he
       exact ⟨te, e', ys, rfl, hn⟩
      ·exact b2 m o hm
     ·cases i with
      | zero =>
       simp at hy hl; subst hy; subst hl
       have := LentTo.vh (hown n te e' ys List.mem_cons_self)
       simp only [encV, encD, len_vec hn]
       rw [List.length_map] at this
       exact this
      | succ i => exact b3 own (fun m a b c hm => hown m a b c (List.mem_cons_of_mem _ hm)) i y l0 (by simpa using hy) (by simpa using hl)
    ·cases h
   ·cases h
  ·rename_i t' ts' x' xs' _ heq1 heq2
   simp only [List.cons.injEq] at heq1 heq2
   obtain ⟨rfl, rfl⟩ := heq1
   obtain ⟨rfl, rfl⟩ := heq2
   split at h
   ·rename_i l0 hl
    split at h
    ·rename_i l' ls' h2
     simp at h; obtain ⟨rfl, rfl⟩ := h
     obtain ⟨b1, b2, b3⟩ := argC_sound h2
     refine ⟨by simp [b1], b2, fun own hown i y l1 hy hl1 => ?_⟩
     cases i with
     | zero =>
      simp at hy hl1; subst hy; subst hl1
      have hls : leavesOf V false [t] [x] = some [l0] := by simp [leavesOf, hl]
      obtain ⟨ds, e1, e2, _⟩ := leavesOf_sound (ω := S.len) hls
      simp only [encL] at e1
      obtain ⟨d, hd⟩ : ∃ d, ds = [d] := by
       match ds, e1 with
       | [d], _ => exact ⟨d, rfl⟩
       | [], e1 => simp at e1
       | _ :: _ :: _, e1 => simp at e1
      subst hd
      simp only [List.map_cons, List.map_nil, List.cons.injEq, and_true] at e1
      rw [e1]
      obtain ⟨d0, g1, g2⟩ := e2.get 0 (encD V.sz V.enc l0.t l0.x) rfl
      simp at g1; subst g1
      refine LentTo.le fun E M a hr => ?_
      cases hr with
      | d q => exact .d (g2 M a q)
     | succ i => exact b3 own hown i y l1 (by simpa using hy) (by simpa using hl1)
    ·cases h
   ·cases h
  ·cases h
theorem arg1_sound {S : TS V.N} {p : Pt V.ι} {x : TV V.N} {l : List (Nat × TO V.N)} {ls : List (Leaf V.N)} (h : arg1 S p x = some (l, ls)) :
  (∃ x0, (∀ rest, bd1 V p (ls ++ rest) = some (x0, rest)) ∧ ∀ ω0 : Nat → Nat, (l = [] → H.le (encV V S.len x) (encV V ω0 x0)) ∧ ∀ own, Among own l → LentTo own (encV V S.len x) (encV V ω0 x0)) ∧
    ∀ n o, (n, o) ∈ l → ∃ te e xs, o = .vec te e xs ∧ S.own? n = some (.vec te e xs) := by
 unfold arg1 at h
 split at h
 ·rename_i e n
  split at h
  ·rename_i te e' xs hn
   have h' := if_some h; clear h
   obtain ⟨he, h⟩ := h'
   subst he
   simp at h; obtain ⟨rfl, rfl⟩ := h
   refine ⟨⟨.lf (.sl e') xs, fun rest => rfl, fun ω0 => ⟨fun hl => by simp at hl, fun own hown => ?_⟩⟩, fun m o hm => ?_⟩
   ·have := LentTo.vh (hown n te e' xs List.mem_cons_self)
    simp only [encV, encD, len_vec hn]
    rw [List.length_map] at this
    exact this
   ·simp at hm
    obtain ⟨rfl, rfl⟩ := hm
    exact ⟨te, e', xs, rfl, hn⟩
  ·cases h
 ·rename_i i vs
  split at h
  ·split at h
   ·rename_i p0 l0 ls0 hC
    split at h
    ·rename_i y hy
     simp at h; obtain ⟨rfl, rfl⟩ := h
     obtain ⟨b1, b2, b3⟩ := argC_sound hC
     refine ⟨⟨.lf (.st i) y, fun rest => rfl, fun ω0 => ⟨fun hl => by simp at hl, fun own hown => ?_⟩⟩, b2⟩
     have hc := V.of_cells i ls0 y hy
     simp only [encV, encD]
     refine LentTo.pre (mkAgg_to _) (LentTo.post (LentTo.agg (l0 := ls0.map fun l => .d (encD V.sz V.enc l.t l.x)) (by rw [List.length_map, encL_len]; exact b1.symm) fun i a a0 ha ha0 => ?_) ?_)
     ·rw [encL_map, List.getElem?_map, Option.map_eq_some_iff] at ha
      rw [List.getElem?_map, Option.map_eq_some_iff] at ha0
      obtain ⟨u, hu, rfl⟩ := ha
      obtain ⟨l1, hl1, rfl⟩ := ha0
      exact b3 own hown i u l1 hu hl1
     ·have e1 : V.enc i y = ls0.map fun l => encD V.sz V.enc l.t l.x := by rw [V.enc_cells, hc]
      have := mkAgg_of ((ls0.map fun l => encD V.sz V.enc l.t l.x).map H.d)
      rw [mkAgg, allD_map] at this
      rw [e1]
      rw [List.map_map] at this
      exact this
    ·cases h
   ·cases h
  ·split at h
   ·rename_i σ ls' h1
    simp at h; obtain ⟨rfl, rfl⟩ := h
    obtain ⟨_, _, _, x0, a1, a2⟩ := mt1_sound h1
    have hσ := mt1_dat h1
    subst hσ
    have hle : ∀ ω0 : Nat → Nat, H.le (encV V S.len (.agg vs)) (encV V ω0 x0) := fun ω0 E M v hv => a2 [] [] E E M S.len ω0 v (Sub.refl _) rfl ⟨fun c n hc => by simp [gt] at hc, fun c n hc => by simp at hc⟩ hv
    exact ⟨⟨x0, a1, fun ω0 => ⟨fun _ => hle ω0, fun own _ => LentTo.le (hle ω0)⟩⟩, fun n o hm => by simp at hm⟩
   ·cases h
 ·rename_i t x' hne hne2
  split at h
  ·rename_i σ ls' h1
   simp at h; obtain ⟨rfl, rfl⟩ := h
   obtain ⟨_, _, _, x0, a1, a2⟩ := mt1_sound h1
   have hσ := mt1_dat h1
   subst hσ
   have hle : ∀ ω0 : Nat → Nat, H.le (encV V S.len x) (encV V ω0 x0) := fun ω0 E M v hv => a2 [] [] E E M S.len ω0 v (Sub.refl _) rfl ⟨fun c n hc => by simp [gt] at hc, fun c n hc => by simp at hc⟩ hv
   exact ⟨⟨x0, a1, fun ω0 => ⟨fun _ => hle ω0, fun own _ => LentTo.le (hle ω0)⟩⟩, fun n o hm => by simp at hm⟩
  ·cases h
 ·rename_i f f'
  have h' := if_some h; clear h
  obtain ⟨he, h⟩ := h'
  subst he
  simp at h; obtain ⟨rfl, rfl⟩ := h
  have hle : ∀ ω0 : Nat → Nat, H.le (encV V S.len (.fn f [] [])) (encV V ω0 (.fn f [] [] : TV V.N)) := fun ω0 => by simp only [encV, encL]; exact H.le.refl _
  exact ⟨⟨.fn f [] [], fun rest => rfl, fun ω0 => ⟨fun _ => hle ω0, fun own _ => LentTo.le (hle ω0)⟩⟩, fun n o hm => by simp at hm⟩
 ·cases h
theorem argsL_sound {S : TS V.N} : ∀ {ps : List (Pt V.ι)} {xs : List (TV V.N)} {l : List (Nat × TO V.N)} {ls : List (Leaf V.N)}, argsL S ps xs = some (l, ls) →
  ∃ xs0 : List (TV V.N), xs0.length = xs.length ∧ (∀ rest, bdL V ps (ls ++ rest) = some (xs0, rest)) ∧ (∀ (i : Nat) (x x0 : TV V.N), xs[i]? = some x → xs0[i]? = some x0 →
   ∀ ω0 : Nat → Nat, (l = [] → H.le (encV V S.len x) (encV V ω0 x0)) ∧ ∀ own, Among own l → LentTo own (encV V S.len x) (encV V ω0 x0)) ∧
   ∀ n o, (n, o) ∈ l → ∃ te e ys, o = .vec te e ys ∧ S.own? n = some (.vec te e ys)
 | [], [], l, ls, h => by
  simp [argsL] at h; obtain ⟨rfl, rfl⟩ := h
  exact ⟨[], rfl, fun rest => rfl, fun i x x0 hx => by simp at hx, fun n o hm => by simp at hm⟩
 | [], _ :: _, l, ls, h => by simp [argsL] at h
 | _ :: _, [], l, ls, h => by simp [argsL] at h
 | p :: ps, x :: xs, l, ls, h => by
  simp only [argsL] at h
  split at h
  ·rename_i l1 ls1 h1
   split at h
   ·rename_i l2 ls2 h2
    simp at h; obtain ⟨rfl, rfl⟩ := h
    obtain ⟨⟨x0, a1, a2⟩, a3⟩ := arg1_sound h1
    obtain ⟨xs0, b1, b2, b3, b4⟩ := argsL_sound h2
    refine ⟨x0 :: xs0, by simp [b1], fun rest => by simp only [bdL, List.append_assoc, a1, b2], fun i y y0 hy hy0 ω0 => ?_, fun n o hm => ?_⟩
    ·cases i with
     | zero =>
      simp at hy hy0; subst hy; subst hy0
      exact ⟨fun hl => (a2 ω0).1 (List.append_eq_nil_iff.1 hl).1, fun own hown => (a2 ω0).2 own fun m a b c hm => hown m a b c (List.mem_append_left _ hm)⟩
     | succ i =>
      have := b3 i y y0 (by simpa using hy) (by simpa using hy0) ω0
      exact ⟨fun hl => this.1 (List.append_eq_nil_iff.1 hl).2, fun own hown => this.2 own fun m a b c hm => hown m a b c (List.mem_append_right _ hm)⟩
    ·rcases List.mem_append.1 hm with hm | hm
     ·exact a3 n o hm
     ·exact b4 n o hm
   ·cases h
  ·cases h
theorem newNames_sub {own : List (Nat × Own)} : ∀ {l : List (Nat × Own)}, (∀ p ∈ l, ∃ o, gt own p.1 = some o) → newNames own l = []
 | [], _ => rfl
 | (n, o) :: r, h => by
  obtain ⟨o', ho⟩ := h (n, o) List.mem_cons_self
  simp only at ho
  simp only [newNames, ho]
  exact newNames_sub fun p hp => h p (List.mem_cons_of_mem _ hp)
theorem callPure_ok {P : Program} {fid : Nat} {sig : Sig V} {F : HL V.N sig.tys → Option (HL V.N sig.rcut.tys)} (hF : SigOk P fid sig F) (ho : sig.objs = []) (hk0 : sig.keep = []) {A : Type} {args : List (TV V.N)} {S : TS V.N} {dst : Option Tmp}
  {k : TE V.N → Option A} {r : A} (h : callPure P sig F A args S k = some r) :
  ∃ te, k te = some r ∧ good S te ∧ ACall P fid (encL V S.len args) (encS V S).own? fun e' => ELe true e' (encE (S.app dst te).len te) := by
 unfold callPure at h
 split at h
 ·rename_i lent ls hargs
  split at h
  ·rename_i v hv
   obtain ⟨y, hy, h⟩ := some_bind h
   split at h
   ·rename_i x hx
    have hc := hF v y x hy hx
    have hkept : kept sig y = [] := by
     unfold kept
     rw [hk0, List.filter_eq_nil_iff]
     intro p _; simp
    rw [hkept] at hc
    obtain ⟨xs0, b1, b2, b3, b4⟩ := argsL_sound hargs
    have hls := toHL_of hv
    have hst : startOs sig v = (xs0, []) := by
     unfold startOs
     rw [hls]
     have := b2 []
     rw [List.append_nil] at this
     rw [this, ho]
     rfl
    have hown0 : (startS sig v).own = [] := by unfold startS; rw [hst]
    rw [hst, hown0] at hc
    simp only [encOs, List.filterMap_nil] at hc
    generalize (startS sig v).len = ω0 at hc
    cases lent with
    | nil =>
     simp only at h
     split at h
     ·rename_i hpl
      refine ⟨_, h, good_val S x [], ?_⟩
      have hw := hc.weak (args' := encL V S.len args) (by rw [encL_len, encL_len]; exact b1.symm) fun i a a0 ha ha0 => by
       rw [encL_map, List.getElem?_map, Option.map_eq_some_iff] at ha ha0
       obtain ⟨u, hu, rfl⟩ := ha
       obtain ⟨u0, hu0, rfl⟩ := ha0
       exact (b3 i u u0 hu hu0 ω0).1 rfl
      have hplH : H.plain (encV V (conc V sig.rcut y).len x) = true := by
       have : ∀ z : H, (∀ n, H.has n z = false) → H.plain z = true := by
        intro z
        refine H.rec (motive_1 := fun z => (∀ n, H.has n z = false) → H.plain z = true) (motive_2 := fun l => (∀ n, H.hasL n l = false) → H.plainL l = true) ?_ ?_ ?_ ?_ ?_ ?_ ?_ ?_ ?_ ?_ ?_ ?_ ?_ z
        ·intro _ _; rfl
        ·intro _; rfl
        ·intro m o hn; have := hn m; simp [H.has] at this
        ·intro m o hn; have := hn m; simp [H.has] at this
        ·intro m s i o hn; have := hn m; simp [H.has] at this
        ·intro m hn; have := hn m; simp [H.has] at this
        ·intro m b hn; have := hn m; simp [H.has] at this
        ·intro m hn; have := hn m; simp [H.has] at this
        ·intro cs ih hn; simp only [H.plain]; exact ih fun n => by have := hn n; simpa [H.has] using this
        ·intro cs ih hn; simp only [H.plain]; exact ih fun n => by have := hn n; simpa [H.has] using this
        ·intro f a b ih1 ih2 hn
         simp only [H.plain, Bool.and_eq_true]
         exact ⟨ih1 fun n => by have := hn n; simp only [H.has, Bool.or_eq_false_iff] at this; exact this.1, ih2 fun n => by have := hn n; simp only [H.has, Bool.or_eq_false_iff] at this; exact this.2⟩
        ·intro _; rfl
        ·intro x r ih1 ih2 hn
         simp only [H.plainL, Bool.and_eq_true]
         exact ⟨ih1 fun n => by have := hn n; simp only [H.hasL, Bool.or_eq_false_iff] at this; exact this.1, ih2 fun n => by have := hn n; simp only [H.hasL, Bool.or_eq_false_iff] at this; exact this.2⟩
       exact this _ fun n => by rw [encV_has]; exact plain_has hpl n
      refine acall_pure hw hplH ?_
      exact ele_eq (dst := dst) (l := []) (plain_enc hpl _ _)
     ·cases h
    | cons p l =>
     simp only at h
     split at h
     ·rename_i hfl
      generalize hL : p :: l = L at h hargs b3 b4
      have hpl := flat_plain hfl
      refine ⟨_, h, fun m o hm => ?_, ?_⟩
      ·right
       simp only [gt_app] at hm
       cases hq : gt L m with
       | some o' =>
        rw [hq] at hm; simp at hm; subst hm
        obtain ⟨te, e, ys, rfl, h2⟩ := b4 m o' (gt_mem hq)
        rw [len_vec h2]; rfl
       | none =>
        rw [hq] at hm
        have hm' := gt_mem hm
        obtain ⟨q, hq1, hq2⟩ := List.mem_map.1 hm'
        simp only [Prod.mk.injEq] at hq2
        obtain ⟨rfl, rfl⟩ := hq2
        obtain ⟨te, e, ys, h1, h2⟩ := b4 q.1 q.2 hq1
        rw [len_vec h2, h1]; rfl
      ·let own : List (Nat × Own) := L.filterMap fun q => (encO V S.len q.2).map fun o => (q.1, o)
       have hmap : ∀ l' : List (Nat × TO V.N), (∀ n o, (n, o) ∈ l' → ∃ te e ys, o = TO.vec te e ys ∧ S.own? n = some (.vec te e ys)) → ∀ ω : Nat → Nat,
         l'.map (fun q => (q.1, encO V ω q.2)) = (l'.filterMap fun q => (encO V S.len q.2).map fun o => (q.1, o)).map (fun q => (q.1, some q.2)) ∧
         (l'.map fun q : Nat × TO V.N => (q.1, TO.gone (N := V.N) (TO.len (some q.2)))).map (fun q => (q.1, encO V ω q.2)) = (l'.filterMap fun q => (encO V S.len q.2).map fun o => (q.1, o)).map (fun q => (q.1, none)) ∧
         l'.map (·.1) = (l'.filterMap fun q => (encO V S.len q.2).map fun o => (q.1, o)).map (·.1) := by
        intro l'
        induction l' with
        | nil => intro _ ω; exact ⟨rfl, rfl, rfl⟩
        | cons q r ih =>
         intro hq ω
         obtain ⟨n, o⟩ := q
         obtain ⟨te, e, ys, rfl, h2⟩ := hq n o List.mem_cons_self
         obtain ⟨i1, i2, i3⟩ := ih (fun n o hm => hq n o (List.mem_cons_of_mem _ hm)) ω
         have e0 : encO V S.len (.vec te e ys) = some (.vec te (tsz V.sz e) (ys.map fun x => encR V.sz V.enc e x)) := rfl
         simp only [List.filterMap_cons, e0, Option.map_some, List.map_cons]
         rw [i1, i2, i3]
         exact ⟨rfl, rfl, rfl⟩
       have hgt : ∀ n o, gt own n = some o → ∃ te e ys, (n, TO.vec te e ys) ∈ L ∧ S.own? n = some (.vec te e ys) ∧ o = .vec te (tsz V.sz e) (ys.map fun x => encR V.sz V.enc e x) := by
        intro n o hn
        obtain ⟨z, h1, h2⟩ := gt_filterMap hn
        obtain ⟨te, e, ys, rfl, h3⟩ := b4 n z h1
        simp only [encO, Option.some.injEq] at h2
        exact ⟨te, e, ys, h1, h3, h2.symm⟩
       have hgt' : ∀ n te e ys, (n, TO.vec te e ys) ∈ L → gt own n = some (.vec te (tsz V.sz e) (ys.map fun x => encR V.sz V.enc e x)) := by
        intro n te e ys hn
        have hkey : n ∈ own.map (·.1) := by rw [← (hmap L b4 S.len).2.2]; exact List.mem_map_of_mem (f := (·.1)) hn
        obtain ⟨o, hoo⟩ := gt_some hkey
        obtain ⟨te', e', ys', h1, h2, h3⟩ := hgt n o hoo
        obtain ⟨te2, e2, ys2, h4, h5⟩ := b4 n _ hn
        cases h4
        rw [h2] at h5; cases h5
        rw [hoo, h3]
       have hat := lend (args := encL V S.len args) (own := own) hc (by rw [encL_len, encL_len]; exact b1.symm) (fun i a a0 ha ha0 => by
        rw [encL_map, List.getElem?_map, Option.map_eq_some_iff] at ha ha0
        obtain ⟨u, hu, rfl⟩ := ha
        obtain ⟨u0, hu0, rfl⟩ := ha0
        exact (b3 i u u0 hu hu0 ω0).2 own hgt') (fun n o hn => by
        obtain ⟨te, e, ys, _, _, rfl⟩ := hgt n o hn
        exact ⟨_, _, _, rfl⟩) (fun E E' M M' v hv => flat_any hfl hv)
       refine ⟨own, _, own, hat, fun q hq => ?_, ?_⟩
       ·obtain ⟨z, hz1, hz2⟩ := List.mem_filterMap.1 hq
        obtain ⟨te, e, ys, h1, h2⟩ := b4 z.1 z.2 hz1
        rw [h1] at hz2
        simp only [encO, Option.map_some, Option.some.injEq] at hz2
        subst hz2
        exact own_vec h2
       ·refine ele_upd ?_ ?_ ?_ ?_
        ·exact plain_enc hpl _ _
        ·simp only [callEff]
         exact newNames_sub fun p hp => by
          obtain ⟨o, hoo⟩ := gt_some (List.mem_map_of_mem (f := (·.1)) hp)
          exact ⟨o, hoo⟩
        ·simp only [callEff, List.map_append]
         obtain ⟨i1, i2, _⟩ := hmap L b4 (S.app dst { val := x, acc := L.map (·.1), upd := L ++ L.map fun q => (q.1, .gone (TO.len (some q.2))) }).len
         rw [i1, i2]
        ·simp only [callEff]
         exact (hmap L b4 S.len).2.2.symm
     ·cases h
   ·cases h
  ·cases h
 ·cases h
end
end Go.Tx
end
section
namespace Go.Tx
open Go.Awp
variable [Inhabited GMem]
def bodyOf (f : Func) : Code := match f.body with
 | some c => c
 | none => .skip
def loopsIn : Code → List Code
 | .seq a b => loopsIn a ++ loopsIn b
 | .block _ x => loopsIn x
 | .cond _ a b => loopsIn a ++ loopsIn b
 | .loop b => [b]
 | .scope b => loopsIn b
 | _ => []
def loopNo (c : Code) (i : Nat) : Code := match (loopsIn c)[i]? with
 | some b => b
 | none => .skip
def jumpsIn : Code → List Code
 | .seq a b => jumpsIn a ++ jumpsIn b
 | .block _ x => jumpsIn x
 | .cond _ a b => jumpsIn a ++ jumpsIn b
 | .scope b => b :: jumpsIn b
 | _ => []
def AllB (p : Code → Prop) : List Code → Prop
 | [] => True
 | b :: r => p b ∧ AllB p r
theorem AllB_app {p : Code → Prop} : ∀ {l m : List Code}, AllB p (l ++ m) → AllB p l ∧ AllB p m
 | [], _, h => ⟨trivial, h⟩
 | _ :: _, _, h => ⟨⟨h.1, (AllB_app h.2).1⟩, (AllB_app h.2).2⟩
theorem kcast {a b : Prop} (h : a = b) (x : a) : b := h ▸ x
section
variable {V : View}
def LoopsP (C : Ctx) (X : Xc V) (b : Code) : Prop := ∀ la, X.loops (firstId b) = some la → LoopOk C b la
def JumpsP (C : Ctx) (X : Xc V) (x : Code) : Prop := ∀ l la, X.jumps (firstId x) = some (l, la) → JumpOk C x l la
theorem lok_all2 {C : Ctx} {X : Xc V} : ∀ {c : Code}, AllB (LoopsP C X) (loopsIn c) → AllB (JumpsP C X) (jumpsIn c) → LOk C X c := by
 intro c
 induction c with
 | seq a b iha ihb => intro h g; exact ⟨iha (AllB_app h).1 (AllB_app g).1, ihb (AllB_app h).2 (AllB_app g).2⟩
 | block id x ih => intro h g; exact ih h g
 | scope x ih => intro h g; exact ⟨ih h g.2, g.1⟩
 | cond c a b iha ihb => intro h g; exact ⟨iha (AllB_app h).1 (AllB_app g).1, ihb (AllB_app h).2 (AllB_app g).2⟩
 | loop b ih => intro h g; exact h.1
 | _ => intro _ _; trivial
theorem allB_of {p : Code → Prop} (h : ∀ b, p b) : ∀ l : List Code, AllB p l
 | [] => trivial
 | b :: r => ⟨h b, allB_of h r⟩
theorem lok_all {C : Ctx} {X : Xc V} {c : Code} (h : AllB (LoopsP C X) (loopsIn c)) (hj : ∀ k, X.jumps k = none := by intro k; rfl) : LOk C X c :=
 lok_all2 h (allB_of (fun x l la e => by rw [hj] at e; cases e) _)
theorem loop_at {C : Ctx} {X : Xc V} {b : Code} {la0 : LoopA V X.sh} (e : X.loops (firstId b) = some la0) (h : LoopOk C b la0) : LoopsP C X b := fun la hl => by
 rw [e] at hl
 cases hl
 exact h
theorem call_none {P : Program} : CallerOk P (fun (_ : Type) _ _ _ _ => none : Caller V) := fun A fid args S dst k r h => by cases h
end
end Go.Tx
end
section
namespace Go.Tx
open Go.Awp
variable [Inhabited GMem]
section
variable {ι : Type} {N : ι → Type}
mutual
def TV.ren (f : Nat → Nat) : TV N → TV N
 | .bp n o => .bp (f n) o
 | .vh n => .vh (f n)
 | .ep n s i o => .ep (f n) s i o
 | .mp n => .mp (f n)
 | .np n b => .np (f n) b
 | .sd n => .sd (f n)
 | .agg cs => .agg (TV.renL f cs)
 | .tup vs => .tup (TV.renL f vs)
 | .fn g a b => .fn g (TV.renL f a) (TV.renL f b)
 | .lf t x => .lf t x
 | .raw v => .raw v
 | .rp t x off => .rp t x off
 | .junk => .junk
def TV.renL (f : Nat → Nat) : List (TV N) → List (TV N)
 | [] => []
 | x :: r => TV.ren f x :: TV.renL f r
end
def TO.ren (f : Nat → Nat) : TO N → TO N
 | .box o cells => .box o (TV.renL f cells)
 | .bst i x => .bst i x
 | .vec te e xs => .vec te e xs
 | .map k v es => .map k v es
 | .iter s p => .iter s p
 | .miter m k v es rest cur => .miter (f m) k v es rest cur
 | .gone l => .gone l
mutual
def TV.allN (p : Nat → Bool) : TV N → Bool
 | .bp n _ => p n
 | .vh n => p n
 | .ep n _ _ _ => p n
 | .mp n => p n
 | .np n _ => p n
 | .sd n => p n
 | .agg cs => TV.allNL p cs
 | .tup vs => TV.allNL p vs
 | .fn _ a b => TV.allNL p a && TV.allNL p b
 | .lf .. => true
 | .raw _ => true
 | .rp .. => true
 | .junk => true
def TV.allNL (p : Nat → Bool) : List (TV N) → Bool
 | [] => true
 | x :: r => TV.allN p x && TV.allNL p r
end
def TO.allN (p : Nat → Bool) : TO N → Bool
 | .box _ cells => TV.allNL p cells
 | .bst .. => true
 | .vec .. => true
 | .map .. => true
 | .iter .. => true
 | .miter m _ _ _ _ _ => p m
 | .gone _ => false
end
section
variable {V : View}
mutual
theorem TV.allN_has {p : Nat → Bool} {n : Nat} : ∀ {x : TV V.N}, TV.allN p x = true → TV.has n x = true → p n = true
 | .bp m o, h, hn => by simp [TV.has] at hn; subst hn; simpa [TV.allN] using h
 | .vh m, h, hn => by simp [TV.has] at hn; subst hn; simpa [TV.allN] using h
 | .ep m s i o, h, hn => by simp [TV.has] at hn; subst hn; simpa [TV.allN] using h
 | .mp m, h, hn => by simp [TV.has] at hn; subst hn; simpa [TV.allN] using h
 | .np m b, h, hn => by simp [TV.has] at hn; subst hn; simpa [TV.allN] using h
 | .sd m, h, hn => by simp [TV.has] at hn; subst hn; simpa [TV.allN] using h
 | .agg cs, h, hn => by simp only [TV.allN] at h; simp only [TV.has] at hn; exact TV.allNL_has h hn
 | .tup cs, h, hn => by simp only [TV.allN] at h; simp only [TV.has] at hn; exact TV.allNL_has h hn
 | .fn f a b, h, hn => by
  simp only [TV.allN, Bool.and_eq_true] at h
  simp only [TV.has, Bool.or_eq_true] at hn
  rcases hn with hn | hn
  ·exact TV.allNL_has h.1 hn
  ·exact TV.allNL_has h.2 hn
 | .lf .., h, hn => by simp [TV.has] at hn
 | .raw _, h, hn => by simp [TV.has] at hn
 | .rp .., h, hn => by simp [TV.has] at hn
 | .junk, h, hn => by simp [TV.has] at hn
theorem TV.allNL_has {p : Nat → Bool} {n : Nat} : ∀ {l : List (TV V.N)}, TV.allNL p l = true → TV.hasL n l = true → p n = true
 | [], h, hn => by simp [TV.hasL] at hn
 | x :: r, h, hn => by
  simp only [TV.allNL, Bool.and_eq_true] at h
  simp only [TV.hasL, Bool.or_eq_true] at hn
  rcases hn with hn | hn
  ·exact TV.allN_has h.1 hn
  ·exact TV.allNL_has h.2 hn
end
theorem TO.allN_has {p : Nat → Bool} {n : Nat} {o : TO V.N} (h : TO.allN p o = true) (hn : TO.has n o = true) : p n = true := by
 cases o with
 | box oty cells => exact TV.allNL_has h hn
 | bst i x => simp [TO.has] at hn
 | vec te e xs => simp [TO.has] at hn
 | map k v es => simp [TO.has] at hn
 | iter s p => simp [TO.has] at hn
 | miter m k v es rest cur => simp [TO.has] at hn; subst hn; exact h
 | gone l => simp [TO.has] at hn
mutual
theorem H.allN_of {p : Nat → Bool} : ∀ {x : H}, (∀ n, H.has n x = true → p n = true) → H.allN p x = true
 | .bp m o, h => by simp only [H.allN]; exact h m (by simp [H.has])
 | .vh m l, h => by simp only [H.allN]; exact h m (by simp [H.has])
 | .ep m s i o, h => by simp only [H.allN]; exact h m (by simp [H.has])
 | .mp m, h => by simp only [H.allN]; exact h m (by simp [H.has])
 | .np m b, h => by simp only [H.allN]; exact h m (by simp [H.has])
 | .sd m, h => by simp only [H.allN]; exact h m (by simp [H.has])
 | .agg cs, h => by simp only [H.allN]; exact H.allNL_of fun n hn => h n (by simpa [H.has] using hn)
 | .tup cs, h => by simp only [H.allN]; exact H.allNL_of fun n hn => h n (by simpa [H.has] using hn)
 | .fn f a b, h => by
  simp only [H.allN, Bool.and_eq_true]
  exact ⟨H.allNL_of fun n hn => h n (by simp [H.has, hn]), H.allNL_of fun n hn => h n (by simp [H.has, hn])⟩
 | .d _, h => by simp [H.allN]
 | .junk, h => by simp [H.allN]
theorem H.allNL_of {p : Nat → Bool} : ∀ {l : List H}, (∀ n, H.hasL n l = true → p n = true) → H.allNL p l = true
 | [], h => by simp [H.allNL]
 | x :: r, h => by
  simp only [H.allNL, Bool.and_eq_true]
  exact ⟨H.allN_of fun n hn => h n (by simp [H.hasL, hn]), H.allNL_of fun n hn => h n (by simp [H.hasL, hn])⟩
end
theorem allD_ren (f : Nat → Nat) : ∀ l : List H, allD (H.renL f l) = allD l
 | [] => rfl
 | x :: r => by
  have ih := allD_ren f r
  cases x <;> simp [H.renL, H.ren, allD, ih]
theorem mkAgg_ren (f : Nat → Nat) (l : List H) : H.ren f (mkAgg l) = mkAgg (H.renL f l) := by
 unfold mkAgg
 rw [allD_ren]
 split <;> simp [H.ren]
theorem encRaw_ren (f : Nat → Nat) (v : Value) : H.ren f (encRaw v) = encRaw v := by cases v <;> simp [encRaw, H.ren]
mutual
theorem encV_ren {f : Nat → Nat} {ω ω' : Nat → Nat} : ∀ x : TV V.N, (∀ n, TV.has n x = true → ω' (f n) = ω n) → encV V ω' (TV.ren f x) = H.ren f (encV V ω x)
 | .bp m o, h => by simp [TV.ren, encV, H.ren]
 | .vh m, h => by simp [TV.ren, encV, H.ren, h m (by simp [TV.has])]
 | .ep m s i o, h => by simp [TV.ren, encV, H.ren]
 | .mp m, h => by simp [TV.ren, encV, H.ren]
 | .np m b, h => by simp [TV.ren, encV, H.ren]
 | .sd m, h => by simp [TV.ren, encV, H.ren]
 | .agg cs, h => by simp only [TV.ren, encV, mkAgg_ren]; rw [encL_ren cs fun n hn => h n (by simpa [TV.has] using hn)]
 | .tup cs, h => by simp only [TV.ren, encV, H.ren]; rw [encL_ren cs fun n hn => h n (by simpa [TV.has] using hn)]
 | .fn g a b, h => by
  simp only [TV.ren, encV, H.ren]
  rw [encL_ren a fun n hn => h n (by simp [TV.has, hn]), encL_ren b fun n hn => h n (by simp [TV.has, hn])]
 | .lf t x, h => by simp [TV.ren, encV, H.ren]
 | .raw v, h => by simp [TV.ren, encV, encRaw_ren]
 | .rp t x o, h => by simp [TV.ren, encV, H.ren]
 | .junk, h => by simp [TV.ren, encV, H.ren]
theorem encL_ren {f : Nat → Nat} {ω ω' : Nat → Nat} : ∀ l : List (TV V.N), (∀ n, TV.hasL n l = true → ω' (f n) = ω n) → encL V ω' (TV.renL f l) = H.renL f (encL V ω l)
 | [], h => rfl
 | x :: r, h => by
  simp only [TV.renL, encL, H.renL]
  rw [encV_ren x fun n hn => h n (by simp [TV.hasL, hn]), encL_ren r fun n hn => h n (by simp [TV.hasL, hn])]
end
theorem renL_ds (f : Nat → Nat) : ∀ l : List D, H.renL f (l.map .d) = l.map .d
 | [] => rfl
 | x :: r => by simp only [List.map_cons, H.renL, H.ren, renL_ds f r]
theorem encO_ren {f : Nat → Nat} {ω ω' : Nat → Nat} (o : TO V.N) (h : ∀ n, TO.has n o = true → ω' (f n) = ω n) : encO V ω' (TO.ren f o) = (encO V ω o).map (Own.ren f) := by
 cases o with
 | box oty cells => simp only [TO.ren, encO, Option.map_some, Own.ren]; rw [encL_ren cells h]
 | bst i x => simp only [TO.ren, encO, Option.map_some, Own.ren]; rw [renL_ds]
 | vec te e xs => simp [TO.ren, encO, Own.ren]
 | map k v es => simp [TO.ren, encO, Own.ren]
 | iter s p => simp [TO.ren, encO, Own.ren]
 | miter m k v es rest cur => simp [TO.ren, encO, Own.ren]
 | gone l => simp [TO.ren, encO]
theorem FnAt.weak {P : Program} {f : FuncId} {args args' : List H} {own own1 own' : List (Nat × Own)} {r : H} (h : FnAt P f args own r own')
  (ha : ∀ E M vs, HReps E M vs args' → HReps E M vs args) (ho : ∀ E M w, Owns E M w own1 → Owns E M w own) (hk : ∀ n, (∃ o, gt own n = some o) ↔ ∃ o, gt own1 n = some o)
  (hf : ∀ E M w, Owns E M w own1 → ∀ b, inExt E w own b → inExt E w own1 b) : FnAt P f args' own1 r own' := by
 refine ⟨h.1, fun E M w vs hgm hm how hvs => (h.2 E M w vs hgm hm (ho E M w how) (ha E M vs hvs)).mono ?_⟩
 have hin : ∀ b, inExt E w own b → inExt E w own1 b := hf E M w how
 rintro e w' ⟨v, E', M', rfl, hp, hE⟩
 refine ⟨v, E', M', rfl, { hp with mnew := fun b o v hv => ?_, home := fun n o b hn hb => ?_, frame := fun k hk hx => hp.frame k hk fun h1 => hx (hin k h1) }, fun n hn => hE n ?_⟩
 ·rcases hp.mnew b o v hv with h1 | h1 | h1
  ·exact .inl h1
  ·exact .inr (.inl (hin b h1))
  ·exact .inr (.inr h1)
 ·rcases hp.home n o b hn hb with h1 | h1
  ·exact .inl (hin b h1)
  ·exact .inr h1
 ·rcases hn with hn | hn
  ·exact .inl hn
  ·exact .inr ((hk n).2 hn)
end
end Go.Tx
end
section
namespace Go.Tx
open Go.Awp
variable [Inhabited GMem]
section
variable {V : View}
def isIn (n : Nat) : List Nat → Bool
 | [] => false
 | k :: r => Nat.beq k n || isIn n r
def newN (ks : List Nat) : List Nat → List Nat
 | [] => []
 | n :: r => match isIn n ks with
  | true => newN ks r
  | false => n :: newN ks r
def callNew : Nat → Names → List Nat → Names
 | _, σ, [] => σ
 | b, σ, c :: r => match gt σ c with
  | some _ => callNew b σ r
  | none => callNew (b + 1) ((c, b) :: σ) r
def callIn (sig : Sig V) : Bool := sig.params.all (vhIn V sig.objs) && sig.objs.all (fun p => match p.2 with
 | .box _ ps => ps.all (vhIn V sig.objs)
 | _ => true) && sig.objs.all (fun p => Nat.ble given p.1)
def stays (S : TS V.N) (n : Nat) : TO V.N → Bool
 | .box _ _ => Nat.beq (S.len n) 0
 | .bst _ _ => Nat.beq (S.len n) 0
 | .map _ _ _ => Nat.beq (S.len n) 0
 | .iter _ _ => Nat.beq (S.len n) 0
 | .vec _ _ _ => true
 | _ => false
def callOut (S : TS V.N) (sig : Sig V) (τ : Names) (x : TV V.N) (os : List (Nat × TO V.N)) : Bool :=
 σok τ && os.all (fun p => Nat.ble given p.1 || Nat.blt (σf τ p.1) given) && TV.allN (fun n => (gt os n).isSome) x && os.all (fun p => TO.allN (fun n => (gt os n).isSome) p.2) &&
  os.all (fun p => !isIn p.1 (sig.objs.map (·.1)) || stays S (σf τ p.1) p.2) && distinct (os.map (·.1))
def keepLens (S : TS V.N) (ks : List Nat) (τ : Names) : List (Nat × TO V.N) → List (Nat × Nat)
 | [] => []
 | (c, o) :: r => match o with
  | .vec _ _ xs => match isIn c ks with
   | true => (xs.length, S.len (σf τ c)) :: keepLens S ks τ r
   | false => keepLens S ks τ r
  | _ => keepLens S ks τ r
def lenIfs {A : Type} : List (Nat × Nat) → Option A → Option A
 | [], k => k
 | (a, b) :: r, k => if a = b then lenIfs r k else none
theorem lenIfs_some {A : Type} {x : A} : ∀ {l : List (Nat × Nat)} {k : Option A}, lenIfs l k = some x → k = some x ∧ ∀ p ∈ l, p.1 = p.2
 | [], k, h => ⟨h, fun p hp => by cases hp⟩
 | (a, b) :: r, k, h => by
  simp only [lenIfs] at h
  split at h
  ·rename_i hab
   obtain ⟨h1, h2⟩ := lenIfs_some h
   refine ⟨h1, fun p hp => ?_⟩
   rcases List.mem_cons.1 hp with rfl | hp
   ·exact hab
   ·exact h2 p hp
  ·cases h
theorem keepLens_mem {S : TS V.N} {ks : List Nat} {τ : Names} {c : Nat} {te : TypeId} {e : Ty V.ι} {xs : List (den V.N e)} (hi : isIn c ks = true) : ∀ {l : List (Nat × TO V.N)}, (c, TO.vec te e xs) ∈ l → (xs.length, S.len (σf τ c)) ∈ keepLens S ks τ l
 | (d, o) :: r, h => by
  rcases List.mem_cons.1 h with h | h
  ·simp only [Prod.mk.injEq] at h
   obtain ⟨rfl, rfl⟩ := h
   simp only [keepLens, hi]
   exact List.mem_cons_self
  ·have ih := keepLens_mem (S := S) (τ := τ) hi h
   unfold keepLens
   split
   ·split
    ·exact List.mem_cons_of_mem _ ih
    ·exact ih
   ·exact ih
def callObj (P : Program) (sig : Sig V) (F : HL V.N sig.tys → Option (HL V.N sig.rcut.tys)) (A : Type) (args : List (TV V.N)) (S : TS V.N) (k : TE V.N → Option A) : Option A :=
 match mtL V [] sig.params args with
 | some (σ0, l0) => match mtO V S σ0 sig.objs with
  | some (σ1, l1) => match callIn sig with
   | true => match toHL sig.tys (l0 ++ l1) with
    | some v => F v >>= fun r => match resV P sig r with
     | some x => match callOut S sig (callNew (80000 + S.own.length) σ1 ((kept sig r).map (·.1))) x (kept sig r) with
      | true => lenIfs (keepLens S (sig.objs.map (·.1)) (callNew (80000 + S.own.length) σ1 ((kept sig r).map (·.1))) (kept sig r)) (k
       { val := x.ren (σf (callNew (80000 + S.own.length) σ1 ((kept sig r).map (·.1))))
         acc := sig.objs.map fun p => σf σ1 p.1
         upd := ((kept sig r).map fun p => (σf (callNew (80000 + S.own.length) σ1 ((kept sig r).map (·.1))) p.1, p.2.ren (σf (callNew (80000 + S.own.length) σ1 ((kept sig r).map (·.1)))))) ++ sig.objs.map fun p => (σf σ1 p.1, .gone (S.len (σf σ1 p.1)))
         new := newN (sig.objs.map fun p => σf σ1 p.1) ((kept sig r).map fun p => σf (callNew (80000 + S.own.length) σ1 ((kept sig r).map (·.1))) p.1) })
      | false => none
     | none => none
    | none => none
   | false => none
  | none => none
 | none => none
theorem isIn_iff {n : Nat} : ∀ {l : List Nat}, isIn n l = true ↔ n ∈ l
 | [] => by simp [isIn]
 | k :: r => by
  simp only [isIn, Bool.or_eq_true, List.mem_cons, isIn_iff (l := r)]
  constructor
  ·rintro (h | h)
   ·exact .inl (Nat.eq_of_beq_eq_true h).symm
   ·exact .inr h
  ·rintro (rfl | h)
   ·exact .inl (by simp)
   ·exact .inr h
theorem gt_none_iff {α : Type} : ∀ {l : List (Nat × α)} {n : Nat}, gt l n = none ↔ n ∉ l.map (·.1)
 | [], n => by simp [gt]
 | (k, x) :: r, n => by
  rw [gt_cons]
  by_cases hk : k = n
  ·subst hk; simp
  ·rw [if_neg hk, gt_none_iff (l := r)]
   simp [Ne.symm hk]
theorem newNames_newN {own : List (Nat × Own)} : ∀ {l : List (Nat × Own)}, newNames own l = newN (own.map (·.1)) (l.map (·.1))
 | [] => rfl
 | (n, o) :: r => by
  simp only [newNames, List.map_cons, newN]
  cases hq : gt own n with
  | none =>
   have : isIn n (own.map (·.1)) = false := by
    rw [Bool.eq_false_iff]; intro h; exact gt_none_iff.1 hq (isIn_iff.1 h)
   simp only [this, newNames_newN (l := r)]
  | some y =>
   have : isIn n (own.map (·.1)) = true := isIn_iff.2 (List.mem_map_of_mem (f := (·.1)) (gt_mem hq))
   simp only [this, newNames_newN (l := r)]
theorem callNew_sub : ∀ {l : List Nat} {b : Nat} {σ : Names} {c n : Nat}, gt σ c = some n → gt (callNew b σ l) c = some n
 | [], b, σ, c, n, h => h
 | d :: r, b, σ, c, n, h => by
  simp only [callNew]
  split
  ·exact callNew_sub h
  ·rename_i hd
   refine callNew_sub ?_
   rw [gt_cons]
   by_cases hk : d = c
   ·subst hk; rw [hd] at h; cases h
   ·rw [if_neg hk]; exact h
theorem σf_some {σ : Names} {c n : Nat} (h : gt σ c = some n) : σf σ c = n := by unfold σf; rw [h]
end
end Go.Tx
end
section
namespace Go.Tx
open Go.Awp
variable [Inhabited GMem]
section
variable {V : View}
theorem gt_filter {α : Type} (q : Nat → Bool) : ∀ (l : List (Nat × α)) (n : Nat) (x : α), gt (l.filter fun p => q p.1) n = some x → gt l n = some x
 | [], n, x, h => by simp [gt] at h
 | (k, y) :: r, n, x, h => by
  rw [List.filter_cons] at h
  rw [gt_cons]
  by_cases hk : k = n
  ·subst hk
   rw [if_pos rfl]
   split at h
   ·rw [gt_cons, if_pos rfl] at h; exact h
   ·rename_i hq
    have := gt_mem h
    have := (List.mem_filter.1 this).2
    exact (hq this).elim
  ·rw [if_neg hk]
   split at h
   ·rw [gt_cons, if_neg hk] at h; exact gt_filter q r n x h
   ·exact gt_filter q r n x h
theorem gt_mapf {α β : Type} {f : Nat → Nat} {g : α → β} (hf : ∀ a b, f a = f b → a = b) : ∀ (l : List (Nat × α)) (n : Nat), gt (l.map fun p => (f p.1, g p.2)) (f n) = (gt l n).map g
 | [], n => by simp [gt]
 | (k, y) :: r, n => by
  rw [List.map_cons, gt_cons, gt_cons]
  by_cases hk : k = n
  ·subst hk; simp
  ·rw [if_neg hk, if_neg fun e => hk (hf _ _ e)]; exact gt_mapf hf r n
theorem newN_mem {ks : List Nat} {n : Nat} : ∀ {l : List Nat}, n ∈ l → n ∉ ks → n ∈ newN ks l
 | [], h, _ => by cases h
 | k :: r, h, hn => by
  simp only [newN]
  rcases List.mem_cons.1 h with rfl | h
  ·split
   ·rename_i hi; exact (hn (isIn_iff.1 hi)).elim
   ·exact List.mem_cons_self
  ·split
   ·exact newN_mem h hn
   ·exact List.mem_cons_of_mem _ (newN_mem h hn)
theorem len_ren (f : Nat → Nat) (o : TO V.N) : TO.len (some (TO.ren f o)) = TO.len (some o) := by cases o <;> rfl
theorem callObj_ok {P : Program} {fid : Nat} {sig : Sig V} {F : HL V.N sig.tys → Option (HL V.N sig.rcut.tys)} (hF : SigOk P fid sig F) {A : Type} {args : List (TV V.N)} {S : TS V.N} {dst : Option Tmp}
  {k : TE V.N → Option A} {r : A} (h : callObj P sig F A args S k = some r) :
  ∃ te, k te = some r ∧ good S te ∧ ACall P fid (encL V S.len args) (encS V S).own? fun e' => ELe true e' (encE (S.app dst te).len te) := by
 unfold callObj at h
 split at h
 ·rename_i σ0 l0 h0
  split at h
  ·rename_i σ1 l1 h1
   split at h
   ·rename_i hin
    split at h
    ·rename_i v hv
     obtain ⟨y, hy, h⟩ := some_bind h
     split at h
     ·rename_i x hx
      split at h
      ·rename_i hout
       obtain ⟨h, hlens⟩ := lenIfs_some h
       have hc := hF v y x hy hx
       have hls := toHL_of hv
       obtain ⟨a1, a2, a3, xs0, a4, a5, a6⟩ := mtL_sound h0
       obtain ⟨b1, b2, os0, b3, b4, b5, b6⟩ := mtO_sound h1
       have hst : startOs sig v = (xs0, os0) := by
        unfold startOs
        rw [hls, a5 l1]
        simp only [b4]
       have hS : (startS sig v).own = os0 := by unfold startS; rw [hst]
       rw [hst, hS] at hc
       have hlen0 : ∀ c o, gt os0 c = some o → (startS sig v).len c = TO.len (some o) := by
        intro c o ho
        unfold TS.len TS.own?
        rw [hS, ho]
       generalize (startS sig v).len = ω0 at hc hlen0
       generalize hos : kept sig y = os at h hout hc hlens
       have hlen1 : ∀ c o, gt os c = some o → (conc V sig.rcut y).len c = TO.len (some o) := by
        intro c o ho
        rw [← hos] at ho
        have := gt_filter (fun n => sig.keep.contains n) (conc V sig.rcut y).own c o ho
        unfold TS.len TS.own?
        rw [this]
       generalize (conc V sig.rcut y).len = ω1 at hc hlen1
       generalize hτ : callNew (80000 + S.own.length) σ1 (os.map (·.1)) = τ at h hout hlens
       have hsub : ∀ c n, gt σ1 c = some n → gt τ c = some n := fun c n hcn => by rw [← hτ]; exact callNew_sub hcn
       simp only [callOut, Bool.and_eq_true, List.all_eq_true] at hout
       obtain ⟨⟨⟨⟨⟨o1, o2⟩, o3⟩, o4⟩, o5⟩, o6⟩ := hout
       simp only [callIn, Bool.and_eq_true, List.all_eq_true] at hin
       obtain ⟨⟨i1, i2⟩, i3⟩ := hin
       have hfi := σf_inj o1
       have hbound : ∀ p ∈ sig.objs, ∃ n o, gt σ1 p.1 = some n ∧ S.own? n = some o ∧ ∃ z, encO V S.len o = some z := by
        intro p hp
        have : p.1 ∈ os0.map (·.1) := by rw [b6]; exact List.mem_map_of_mem hp
        obtain ⟨q, hq, hqe⟩ := List.mem_map.1 this
        obtain ⟨n, o, q1, q2, _, z, q3, _⟩ := b5 q.1 q.2 hq
        exact ⟨n, o, by rw [← hqe]; exact q1, q2, _, q3 S.len⟩
       have hTr : ∀ E : Env, Tr σ1 sig.objs E (fun c => E (σf τ c)) S.len ω0 := fun E => by
        refine ⟨fun c n hcn => by rw [σf_some (hsub c n hcn)], fun c n hc' hcn => ?_⟩
        rw [List.any_eq_true] at hc'
        obtain ⟨p, hp, hpn⟩ := hc'
        have hpn : p.1 = c := by simpa using hpn
        have hm : c ∈ os0.map (·.1) := by rw [b6, ← hpn]; exact List.mem_map_of_mem hp
        obtain ⟨o, ho⟩ := gt_some hm
        obtain ⟨n', o', q1, q2, q3, _⟩ := b5 c o (gt_mem ho)
        rw [hcn] at q1; cases q1
        rw [hlen0 c o ho, q3]; unfold TS.len; rw [q2]
       have hob' : ∀ p ∈ sig.objs, match p.2 with | .box _ ps => ps.all (vhIn V sig.objs) = true | _ => True := by
        intro p hp
        have := i2 p hp
        cases hq : p.2 with
        | box oty ps => rw [hq] at this; simpa using this
        | st i => trivial
        | vec te e => trivial
        | map tk tv => trivial
        | iter => trivial
        | miter m k v => trivial
       have hown : ∀ n o, gt (sig.objs.filterMap fun p => ((S.own? (σf σ1 p.1)).bind (encO V S.len)).map fun o => (σf σ1 p.1, o)) n = some o → (S.own? n).bind (encO V S.len) = some o := by
        intro n o hn
        obtain ⟨p, hp, hpe⟩ := List.mem_filterMap.1 (gt_mem hn)
        rw [Option.map_eq_some_iff] at hpe
        obtain ⟨o', h1, h2⟩ := hpe
        simp only [Prod.mk.injEq] at h2
        obtain ⟨rfl, rfl⟩ := h2
        exact h1
       have hkeys : ∀ n, n ∈ (sig.objs.filterMap fun p => ((S.own? (σf σ1 p.1)).bind (encO V S.len)).map fun o => (σf σ1 p.1, o)).map (·.1) ↔ n ∈ sig.objs.map fun p => σf σ1 p.1 := by
        intro n
        constructor
        ·intro hn
         obtain ⟨q, hq, rfl⟩ := List.mem_map.1 hn
         obtain ⟨p, hp, hpe⟩ := List.mem_filterMap.1 hq
         rw [Option.map_eq_some_iff] at hpe
         obtain ⟨o', h1, h2⟩ := hpe
         rw [← h2]
         exact List.mem_map_of_mem (f := fun p => σf σ1 p.1) hp
        ·intro hn
         obtain ⟨p, hp, rfl⟩ := List.mem_map.1 hn
         obtain ⟨n, o, q1, q2, z, q3⟩ := hbound p hp
         refine List.mem_map.2 ⟨(σf σ1 p.1, z), List.mem_filterMap.2 ⟨p, hp, ?_⟩, rfl⟩
         rw [σf_some q1, q2]
         simp [q3]
       have hex : ∀ n o, gt (renO (σf τ) (encOs ω0 os0)) n = some o → ∃ z, (gt (sig.objs.filterMap fun p => ((S.own? (σf σ1 p.1)).bind (encO V S.len)).map fun o => (σf σ1 p.1, o)) n = some z) ∧ (∀ E M w, OwnOk E M w n z → OwnOk E M w n o) ∧ ∀ (E : Env) w b, o.foot w (E n) b → z.foot w (E n) b := by
        intro n o hn
        obtain ⟨c, o1, rfl, hg, rfl⟩ := gt_renO_some hfi hn
        obtain ⟨t, ht, hto⟩ := gt_filterMap hg
        obtain ⟨n', oS, q1, q2, _, x4, q4, x', q5, q6, q7⟩ := b5 c t ht
        rw [q5] at hto
        simp only [Option.some.injEq] at hto; subst hto
        have e : σf τ c = n' := σf_some (hsub _ _ q1)
        have hck : c ∈ sig.objs.map (·.1) := by rw [← b6]; exact List.mem_map_of_mem (f := (·.1)) ht
        obtain ⟨p, hp, hpc⟩ := List.mem_map.1 hck
        have hk' := (hkeys n').2 (List.mem_map.2 ⟨p, hp, by rw [hpc]; exact σf_some q1⟩)
        obtain ⟨z, hz⟩ := gt_some hk'
        have hz' := hown _ _ hz
        rw [q2] at hz'
        simp only [Option.bind_some, q4, Option.some.injEq] at hz'
        rw [e]
        refine ⟨z, hz, fun E M w hw => ?_, fun E w b hb => ?_⟩
        ·rw [← hz'] at hw
         have := (q6 σ1 sig.objs E _ M w S.len ω0 (Sub.refl _) hob' (hTr E) hw).ren (E' := E) (f := σf τ) rfl fun m _ => rfl
         rw [e] at this
         exact this
        ·rw [Own.ren_foot] at hb
         rw [← hz']
         exact q7 E (fun _ => E n') w S.len ω0 b rfl hb
       have hsome : ∀ p ∈ os, ∃ o, encO V ω1 p.2 = some o := by
        intro p hp
        have := o4 p hp
        cases hq : p.2 with
        | box oty cells => exact ⟨_, rfl⟩
        | bst i x => exact ⟨_, rfl⟩
        | vec te e xs => exact ⟨_, rfl⟩
        | map tk tv es => exact ⟨_, rfl⟩
        | iter s p => exact ⟨_, rfl⟩
        | miter m k v es rest cur => exact ⟨_, rfl⟩
        | gone l => rw [hq] at this; simp [TO.allN] at this
       have hgos : ∀ n, (gt os n).isSome = true → (gt (encOs ω1 os) n).isSome = true := by
        intro n hn
        obtain ⟨o, ho⟩ := Option.isSome_iff_exists.1 hn
        obtain ⟨z, hz⟩ := hsome _ (gt_mem ho)
        rw [gt_encOs ho hz]; rfl
       refine ⟨_, h, ?_, ?_⟩
       ·intro m o hm
        simp only [gt_app] at hm
        split at hm
        ·rename_i o' hq
         simp only [Option.some.injEq] at hm; subst hm
         obtain ⟨p, hp, hpe⟩ := List.mem_map.1 (gt_mem hq)
         simp only [Prod.mk.injEq] at hpe
         obtain ⟨rfl, rfl⟩ := hpe
         have h5 := o5 p hp
         rw [Bool.or_eq_true] at h5
         by_cases hpk : isIn p.1 (sig.objs.map (·.1)) = true
         ·right
          rcases h5 with h5 | h5
          ·rw [hpk] at h5; cases h5
          ·rw [len_ren]
           cases hpp : p.2 with
           | box oty cells => rw [hpp] at h5; simp only [stays] at h5; exact (Nat.eq_of_beq_eq_true h5).symm
           | bst i x => rw [hpp] at h5; simp only [stays] at h5; exact (Nat.eq_of_beq_eq_true h5).symm
           | vec te e xs =>
            have := hlens _ (keepLens_mem hpk (te := te) (e := e) (xs := xs) (by rw [← hpp]; exact hp))
            exact this
           | map tk tv es => rw [hpp] at h5; simp only [stays] at h5; exact (Nat.eq_of_beq_eq_true h5).symm
           | iter s p => rw [hpp] at h5; simp only [stays] at h5; exact (Nat.eq_of_beq_eq_true h5).symm
           | miter m k v es rest cur => rw [hpp] at h5; cases h5
           | gone l => rw [hpp] at h5; cases h5
         ·left
          refine newN_mem (List.mem_map.2 ⟨p, hp, rfl⟩) fun hmem => hpk (isIn_iff.2 ?_)
          obtain ⟨q, hq', hqe⟩ := List.mem_map.1 hmem
          obtain ⟨n, o, q1, _⟩ := hbound q hq'
          rw [σf_some q1, ← σf_some (hsub _ _ q1)] at hqe
          rw [← hfi _ _ hqe]
          exact List.mem_map_of_mem (f := (·.1)) hq'
        ·right
         obtain ⟨q, hq', hqe⟩ := List.mem_map.1 (gt_mem hm)
         simp only [Prod.mk.injEq] at hqe
         obtain ⟨rfl, rfl⟩ := hqe
         rfl
       ·have hat := hc.ren τ (by
         simp only [renOk, Bool.and_eq_true, List.all_eq_true]
         refine ⟨⟨⟨⟨o1, fun p hp => ?_⟩, fun p hp => ?_⟩, ?_⟩, fun p hp => ?_⟩
         ·obtain ⟨z, hz, hz2⟩ := List.mem_filterMap.1 hp
          rw [Option.map_eq_some_iff] at hz2
          obtain ⟨o', _, rfl⟩ := hz2
          have : z.1 ∈ sig.objs.map (·.1) := by rw [← b6]; exact List.mem_map_of_mem (f := (·.1)) hz
          obtain ⟨q, hq, hqe⟩ := List.mem_map.1 this
          have := i3 q hq
          rw [hqe] at this
          exact this
         ·obtain ⟨z, hz, hz2⟩ := List.mem_filterMap.1 hp
          rw [Option.map_eq_some_iff] at hz2
          obtain ⟨o', _, rfl⟩ := hz2
          exact o2 z hz
         ·refine H.allN_of fun n hn => ?_
          rw [encV_has] at hn
          have := TV.allN_has o3 hn
          rw [Bool.or_eq_true]; exact .inr (hgos n this)
         ·obtain ⟨z, hz, hz2⟩ := List.mem_filterMap.1 hp
          rw [Option.map_eq_some_iff] at hz2
          obtain ⟨o', ho', rfl⟩ := hz2
          have h4 := o4 z hz
          cases o' with
          | box oty cells =>
           simp only [Own.allN]
           refine H.allNL_of fun n hn => ?_
           have : TO.has n z.2 = true := by rw [← encO_has ω1 n ho']; exact hn
           have := TO.allN_has h4 this
           rw [Bool.or_eq_true]; exact .inr (hgos n this)
          | vec e sz rows => rfl
          | map es => rfl
          | iter s p => rfl
          | dvec e sz rows => rfl
          | miter m es rest cur =>
           simp only [Own.allN]
           have : TO.has m z.2 = true := by rw [← encO_has ω1 m ho']; exact Nat.beq_refl m
           have := TO.allN_has h4 this
           rw [Bool.or_eq_true]; exact .inr (hgos m this))
        generalize hownE : (sig.objs.filterMap fun p => ((S.own? (σf σ1 p.1)).bind (encO V S.len)).map fun o => (σf σ1 p.1, o)) = own at hown hkeys hex
        refine ⟨own, _, _, FnAt.weak (args' := encL V S.len args) (own1 := own) hat (fun E M vs hvs => ?_) (fun E M w hw => ?_) (fun n => ?_) (fun E M w hw b hb => ?_), fun p hp => ?_, ?_⟩
        ·refine ⟨by rw [hvs.1, H.renL_len, encL_len, encL_len, a4], fun i c z hcz hz => ?_⟩
         rw [H.renL_get, encL_map, List.getElem?_map, Option.map_map, Option.map_eq_some_iff] at hz
         obtain ⟨u0, hu0, rfl⟩ := hz
         have hi : i < args.length := by rw [← a4]; exact (List.getElem?_eq_some_iff.1 hu0).1
         have hu := List.getElem?_eq_getElem hi
         obtain ⟨_, k2⟩ := a6 i _ u0 hu hu0
         have hr := hvs.2 i c (encV V S.len args[i]) hcz (by rw [encL_map, List.getElem?_map, hu]; rfl)
         exact (k2 σ1 sig.objs E _ M S.len ω0 c b1 (List.all_eq_true.2 i1) (hTr E) hr).ren fun n _ => rfl
        ·refine ⟨fun n o hn => ?_, fun n m o o' b hne hn hm hb => ?_⟩
         ·obtain ⟨z, hz, hz', _⟩ := hex n o hn
          exact hz' E M w (hw.ok n z hz)
         ·obtain ⟨z, hz, _, f1⟩ := hex n o hn
          obtain ⟨z', hz', _, f2⟩ := hex m o' hm
          exact fun hb' => hw.apart n m z z' b hne hz hz' (f1 E w b hb) (f2 E w b hb')
        ·constructor
         ·rintro ⟨o, ho⟩
          obtain ⟨z, hz, _⟩ := hex n o ho
          exact ⟨z, hz⟩
         ·rintro ⟨o, ho⟩
          have := (hkeys n).1 (List.mem_map_of_mem (f := (·.1)) (gt_mem ho))
          obtain ⟨p, hp, rfl⟩ := List.mem_map.1 this
          have hm : p.1 ∈ os0.map (·.1) := by rw [b6]; exact List.mem_map_of_mem hp
          obtain ⟨t, ht⟩ := gt_some hm
          obtain ⟨n', oS, q1, q2, _, x4, q4, x', q5, q6⟩ := b5 p.1 t (gt_mem ht)
          refine ⟨(x' ω0).ren (σf τ), ?_⟩
          rw [σf_some q1, ← σf_some (hsub _ _ q1), gt_renO hfi, gt_encOs ht (q5 ω0)]
          rfl
        ·obtain ⟨n, o, hn, hb⟩ := hb
         obtain ⟨z, hz, _, f1⟩ := hex n o hn
         exact ⟨n, z, hz, f1 E w b hb⟩
        ·rw [← hownE] at hp
         obtain ⟨q, hq, hqe⟩ := List.mem_filterMap.1 hp
         rw [Option.map_eq_some_iff] at hqe
         obtain ⟨o', h1, rfl⟩ := hqe
         rw [encS_own?]; exact h1
        ·have hω : ∀ te : TE V.N, (∀ c o, gt os c = some o → gt te.upd (σf τ c) = some (o.ren (σf τ))) → ∀ c, (gt os c).isSome = true → (S.app dst te).len (σf τ c) = ω1 c := by
          intro te hte c hcs
          obtain ⟨o, ho⟩ := Option.isSome_iff_exists.1 hcs
          rw [app_len, hte c o ho, hlen1 c o ho]
          exact len_ren _ o
         have hkl : own.map (·.1) = sig.objs.map fun p => σf σ1 p.1 := by
          rw [← hownE]
          have : ∀ l : List (Nat × OPt V.ι), (∀ p ∈ l, ∃ n o, gt σ1 p.1 = some n ∧ S.own? n = some o ∧ ∃ z, encO V S.len o = some z) →
            (l.filterMap fun p => ((S.own? (σf σ1 p.1)).bind (encO V S.len)).map fun o => (σf σ1 p.1, o)).map (·.1) = l.map fun p => σf σ1 p.1 := by
           intro l
           induction l with
           | nil => intro _; rfl
           | cons p r ih =>
            intro hl
            obtain ⟨n, o, q1, q2, z, q3⟩ := hl p List.mem_cons_self
            have e : (S.own? (σf σ1 p.1)).bind (encO V S.len) = some z := by rw [σf_some q1, q2]; exact q3
            simp only [List.filterMap_cons, e, Option.map_some, List.map_cons]
            rw [ih fun q hq => hl q (List.mem_cons_of_mem _ hq)]
          exact this sig.objs hbound
         have hml : (renO (σf τ) (encOs ω1 os)).map (·.1) = os.map fun p => σf τ p.1 := by
          have : ∀ l : List (Nat × TO V.N), (∀ p ∈ l, ∃ o, encO V ω1 p.2 = some o) → (renO (σf τ) (encOs ω1 l)).map (·.1) = l.map fun p => σf τ p.1 := by
           intro l
           induction l with
           | nil => intro _; rfl
           | cons p r ih =>
            intro hl
            obtain ⟨o, ho⟩ := hl p List.mem_cons_self
            have := ih fun q hq => hl q (List.mem_cons_of_mem _ hq)
            unfold renO encOs at this ⊢
            simp only [List.filterMap_cons, ho, Option.map_some, List.map_cons]
            rw [this]
          exact this os hsome
         refine ele_upd ?_ ?_ ?_ ?_
         ·simp only [callEff]
          refine (encV_ren x fun n hn => hω _ (fun c o ho => ?_) n (TV.allN_has o3 hn)).symm
          simp only [gt_app, gt_mapf hfi, ho, Option.map_some]
         ·simp only [callEff]
          rw [newNames_newN, hkl]
          rw [hml]
         ·simp only [callEff, List.map_append]
          refine congr (congrArg _ ?_) ?_
          ·have : ∀ (ω2 : Nat → Nat) (l : List (Nat × TO V.N)), (∀ p ∈ l, ∃ o, encO V ω1 p.2 = some o) → (∀ p ∈ l, encO V ω2 (TO.ren (σf τ) p.2) = (encO V ω1 p.2).map (Own.ren (σf τ))) →
             (renO (σf τ) (encOs ω1 l)).map (fun p => (p.1, some p.2)) = (l.map fun p => (σf τ p.1, TO.ren (σf τ) p.2)).map fun p => (p.1, encO V ω2 p.2) := by
            intro ω2 l
            induction l with
            | nil => intro _ _; rfl
            | cons p r ih =>
             intro hl hl2
             obtain ⟨o, ho⟩ := hl p List.mem_cons_self
             have h2 := hl2 p List.mem_cons_self
             have := ih (fun q hq => hl q (List.mem_cons_of_mem _ hq)) fun q hq => hl2 q (List.mem_cons_of_mem _ hq)
             unfold renO encOs at this ⊢
             simp only [List.filterMap_cons, ho, Option.map_some, List.map_cons, h2]
             rw [this]
           refine this _ os hsome fun p hp => encO_ren p.2 fun n hn => hω _ (fun c o ho => ?_) n (TO.allN_has (o4 p hp) hn)
           simp only [gt_app, gt_mapf hfi, ho, Option.map_some]
          ·have e : own.map (fun p : Nat × Own => (p.1, (none : Option Own))) = (own.map (·.1)).map fun n => (n, none) := by rw [List.map_map]; rfl
           rw [e, hkl, List.map_map, List.map_map]
           rfl
         ·simp only [callEff]
          exact hkl
      ·cases h
     ·cases h
    ·cases h
   ·cases h
  ·cases h
 ·cases h
end
end Go.Tx
end
section
namespace Go.Tx
open Go.Awp
variable [Inhabited GMem]
section
variable (V : View)
mutual
def dbulk {H : Type} : DataW H → Nat
 | .lit (.string bs) => bs.length + 1
 | .lit _ => 1
 | .nil => 1
 | .ptr d => dbulk d + 1
 | .slice elems spare => dbulkL elems + dbulkL spare + 1
 | .agg parts => dbulkL parts + 1
 | .iface _ d => dbulk d + 1
 | .map _ => 1
 | .held _ => 1
def dbulkL {H : Type} : List (DataW H) → Nat
 | [] => 0
 | d :: r => dbulk d + dbulkL r
end
theorem dbulkL_sum {H : Type} : ∀ l : List (DataW H), dbulkL l = (l.map dbulk).sum
 | [] => by simp [dbulkL]
 | d :: r => by simp [dbulkL, dbulkL_sum r]
inductive Ok : (t : Ty V.ι) → den V.N t → Prop
 | int {k : IntKind} {n : Int} : (Lit.int k n).wf = true → Ok (.int k) n
 | bool (b : Bool) : Ok .bool b
 | str {s : ByteArray} : s.size ≤ maxLen → Ok .str s
 | sl {e : Ty V.ι} {xs : List (den V.N e)} : xs.length ≤ maxLen → (∀ x ∈ xs, Ok e x) → Ok (.sl e) xs
 | st {i : V.ι} {x : V.N i} : (∀ l ∈ V.cells i x, Ok l.t l.x) → Ok (.st i) x
inductive Bk : (t : Ty V.ι) → den V.N t → Nat → Prop
 | int {k : IntKind} {n : Int} {m : Nat} : 1 ≤ m → Bk (.int k) n m
 | bool {b : Bool} {m : Nat} : 1 ≤ m → Bk .bool b m
 | str {s : ByteArray} {m : Nat} : s.size + 1 ≤ m → Bk .str s m
 | sl {e : Ty V.ι} {xs : List (den V.N e)} {m : Nat} (ns : List Nat) : ns.length = xs.length → (∀ (i : Nat) (x : den V.N e) (n : Nat), xs[i]? = some x → ns[i]? = some n → Bk e x n) → ns.sum + 1 ≤ m → Bk (.sl e) xs m
 | st {i : V.ι} {x : V.N i} {m : Nat} (ns : List Nat) : ns.length = (V.cells i x).length → (∀ (j : Nat) (l : Leaf V.N) (n : Nat), (V.cells i x)[j]? = some l → ns[j]? = some n → Bk l.t l.x n) → ns.sum + 1 ≤ m → Bk (.st i) x m
def Bks (ls : List (Leaf V.N)) (m : Nat) : Prop :=
 ∃ ns : List Nat, ns.length = ls.length ∧ (∀ (j : Nat) (l : Leaf V.N) (n : Nat), ls[j]? = some l → ns[j]? = some n → Bk V l.t l.x n) ∧ ns.sum ≤ m
def flatTy : Ty V.ι → List (Ty V.ι)
 | .st i => V.tys i
 | t => [t]
def flds (P : Program) : Nat → List Field → Option (List (Ty V.ι))
 | _, [] => some []
 | off, f :: fs => match V.ty f.type with
  | some τ => if f.offset = off ∧ P.cellsOf f.type = tsz V.sz τ then match flds P (off + tsz V.sz τ) fs with
    | some l => some (flatTy V τ ++ l)
    | none => none
   else none
  | none => none
def tyFact (P : Program) (t : TypeId) : Ty V.ι → Prop
 | .int k => P.underlying t = some (.int k)
 | .bool => P.underlying t = some .bool
 | .str => P.underlying t = some .string
 | .sl e => ∃ te, P.underlying t = some (.slice te) ∧ V.ty te = some e ∧ P.cellsOf te = tsz V.sz e ∧ Nat.blt 0 (tsz V.sz e) = true
 | .mp _ _ => False
 | .er => False
 | .st i => ∃ fs : Array Field, P.underlying t = some (.struct fs) ∧ P.cellsOf t = V.sz i ∧ flds V P 0 fs.toList = some (V.tys i)
structure Facts (P : Program) : Prop where
 ty : ∀ t τ, V.ty t = some τ → tyFact V P t τ
 tys : ∀ i x, (V.cells i x).map (·.t) = V.tys i
 of : ∀ i ls, ls.map (·.t) = V.tys i → ∃ y, V.ofCells i ls = some y
end
section
variable {V : View} {H0 : Type} {enc : TypeId × Value → H0} {P : Program} {W : World} {spare : Nat → Bool} {held : Bool} {base : Nat}
theorem read_string {t : TypeId} (hu : P.underlying t = some .string) {fuel : Nat} {cs : List Value} {x : DataW H0 × List MemPlace} (h : DataW.trod enc P W base spare held fuel t cs = some x) :
  ∃ s, cs = [.string s] ∧ s.size ≤ maxLen := by
 cases fuel with
 | zero => cases h
 | succ fuel =>
  unfold DataW.trod at h
  rw [hu] at h
  simp only [] at h
  split at h <;> try (rename_i h1 _; cases h1)
  all_goals try (cases h; done)
  all_goals simp_all
def LeafRep (M : Mem) (cs : List Value) (ls : List (Leaf V.N)) : Prop :=
 cs.length = ls.length ∧ ∀ (i : Nat) (c : Value) (l : Leaf V.N), cs[i]? = some c → ls[i]? = some l → DRep M c (encD V.sz V.enc l.t l.x)
theorem LeafRep.app {M : Mem} {cs cs' : List Value} {ls ls' : List (Leaf V.N)} (h : LeafRep M cs ls) (h' : LeafRep M cs' ls') : LeafRep M (cs ++ cs') (ls ++ ls') := by
 refine ⟨by simp [h.1, h'.1], fun i c l hc hl => ?_⟩
 by_cases hi : i < cs.length
 ·rw [List.getElem?_append_left hi] at hc
  rw [List.getElem?_append_left (by rw [← h.1]; exact hi)] at hl
  exact h.2 i c l hc hl
 ·rw [List.getElem?_append_right (by omega)] at hc
  rw [List.getElem?_append_right (by rw [← h.1]; omega), ← h.1] at hl
  exact h'.2 _ c l hc hl
theorem Bks.app {ls ls' : List (Leaf V.N)} {m m' : Nat} (h : Bks V ls m) (h' : Bks V ls' m') : Bks V (ls ++ ls') (m + m') := by
 obtain ⟨ns, h1, h2, h3⟩ := h
 obtain ⟨ns', h1', h2', h3'⟩ := h'
 refine ⟨ns ++ ns', by simp [h1, h1'], fun j l n hl hn => ?_, by simp; omega⟩
 by_cases hj : j < ls.length
 ·rw [List.getElem?_append_left hj] at hl
  rw [List.getElem?_append_left (by omega)] at hn
  exact h2 j l n hl hn
 ·rw [List.getElem?_append_right (by omega)] at hl
  rw [List.getElem?_append_right (by omega), h1] at hn
  exact h2' _ l n hl hn
theorem Bks.one {t : Ty V.ι} {x : den V.N t} {m : Nat} (h : Bk V t x m) : Bks V [⟨t, x⟩] m :=
 ⟨[m], rfl, fun j l n hl hn => by
  cases j with
  | zero => simp at hl hn; subst hl; subst hn; exact h
  | succ j => simp at hl, by simp⟩
def Rd (M : Mem) (τ : Ty V.ι) (cs : List Value) (m : Nat) : Prop :=
 ∃ y : den V.N τ, Ok V τ y ∧ LeafRep M cs (rcells V τ y) ∧ (rcells V τ y).map (·.t) = flatTy V τ ∧ (∀ l ∈ rcells V τ y, Ok V l.t l.x) ∧ Bk V τ y m ∧ Bks V (rcells V τ y) m
theorem read_fields (F : Facts V P) {M : Mem} {rd : TypeId → List Value → Nat → Prop} (hrd : ∀ t τ cs m, V.ty t = some τ → rd t cs m → Rd (V := V) M τ cs m) {cs : List Value} : ∀ (fs : List Field) (ms : List Nat) (off : Nat) (l : List (Ty V.ι)),
  flds V P off fs = some l → ms.length = fs.length → (∀ (j : Nat) (f : Field) (m : Nat), fs[j]? = some f → ms[j]? = some m → rd f.type ((cs.drop f.offset).take (P.cellsOf f.type)) m) →
  ∃ (n : Nat) (ls : List (Leaf V.N)), ls.map (·.t) = l ∧ LeafRep M ((cs.drop off).take n) ls ∧ (∀ x ∈ ls, Ok V x.t x.x) ∧ n = ls.length ∧ Bks V ls ms.sum
 | [], ms, off, l, h, hm, _ => by
  simp [flds] at h; subst h
  exact ⟨0, [], rfl, ⟨rfl, fun i c l hc => by simp at hc⟩, (fun x hx => nomatch hx), rfl, [], rfl, fun j l n hl => by simp at hl, by simp⟩
 | f :: fs, [], off, l, h, hm, _ => by simp at hm
 | f :: fs, m :: ms, off, l, h, hm, hf => by
  simp only [flds] at h
  split at h
  ·rename_i τ hτ
   split at h
   ·rename_i hc
    obtain ⟨ho, hsz⟩ := hc
    split at h
    ·rename_i l' hl'
     simp at h; subst h
     obtain ⟨n, ls, a1, a2, a3, a4, a5⟩ := read_fields F hrd fs ms _ l' hl' (by simpa using hm) fun j g m hg hm => hf (j + 1) g m (by simpa using hg) (by simpa using hm)
     obtain ⟨y, b1, b2, b3, b4, b5, b6⟩ := hrd f.type τ _ m hτ (hf 0 f m rfl rfl)
     rw [ho, hsz] at b2
     refine ⟨tsz V.sz τ + n, rcells V τ y ++ ls, by simp [a1, b3], ?_, fun x hx => ?_, by simp [rcells_len, a4], by rw [List.sum_cons]; exact b6.app a5⟩
     ·have e : (cs.drop off).take (tsz V.sz τ + n) = (cs.drop off).take (tsz V.sz τ) ++ (cs.drop (off + tsz V.sz τ)).take n := by
       rw [List.take_add, List.drop_drop]
      rw [e]
      exact b2.app a2
     ·rcases List.mem_append.1 hx with hx | hx
      ·exact b4 x hx
      ·exact a3 x hx
    ·cases h
   ·cases h
  ·cases h
theorem read_structB {t : TypeId} {fs : Array Field} (hu : P.underlying t = some (.struct fs)) {fuel : Nat} {cs : List Value} {x : DataW H0 × List MemPlace} (h : DataW.trod enc P W base spare held (fuel + 1) t cs = some x) :
  cs.length = P.cellsOf t ∧ ∃ ds : List (DataW H0), x.1 = .agg ds ∧ ds.length = fs.toList.length ∧ ∀ (i : Nat) (f : Field), fs.toList[i]? = some f → ∃ y, ds[i]? = some y.1 ∧ DataW.trod enc P W base spare held fuel f.type ((cs.drop f.offset).take (P.cellsOf f.type)) = some y := by
 unfold DataW.trod at h
 rw [hu] at h
 simp only [] at h
 split at h
 ·rename_i hl
  rw [Option.map_eq_some_iff] at h
  obtain ⟨ys, hm, hx⟩ := h
  subst hx
  refine ⟨hl, ys.map (·.1), rfl, by rw [List.length_map, (mapM_some hm).1], fun i f hf => ?_⟩
  obtain ⟨y, hy1, hy⟩ := (mapM_some hm).2 i f hf
  exact ⟨y, by rw [List.getElem?_map, hy1]; rfl, hy⟩
 ·cases h
theorem read_sliceB {t e : TypeId} (hu : P.underlying t = some (.slice e)) {fuel : Nat} {cs : List Value} {x : DataW H0 × List MemPlace} (h : DataW.trod enc P W base spare held (fuel + 1) t cs = some x) :
  (cs = [.slice none 0 0] ∧ x.1 = .nil) ∨ ∃ a len cap, cs = [.slice (some a) len cap] ∧ len ≤ cap ∧ cap ≤ maxLen ∧ ∃ ds sp : List (DataW H0), x.1 = .slice ds sp ∧ ds.length = len ∧
    ∀ i, i < len → ∃ row y, W.cells? base (a.add (i * P.cellsOf e)) (P.cellsOf e) = some row ∧ DataW.trod enc P W base spare held fuel e row = some y ∧ ds[i]? = some y.1 := by
 unfold DataW.trod at h
 rw [hu] at h
 simp only [] at h
 split at h
 all_goals first
  | (simp only [Option.some.injEq, reduceCtorEq] at *; done)
  | (left; simp only [Option.some.injEq] at h; exact ⟨rfl, by rw [← h]⟩)
  | (rename_i a len cap hx
     simp only [Option.some.injEq, TypeDesc.slice.injEq] at hx
     subst hx
     right
     split at h
     ·rename_i hc
      rw [Option.bind_eq_some_iff] at h
      obtain ⟨ys, hm, h⟩ := h
      rw [Option.map_eq_some_iff] at h
      obtain ⟨rest, _, h⟩ := h
      subst h
      refine ⟨a, len, cap, rfl, hc.2.1, hc.2.2, ys.map (·.1), rest.map (·.1), rfl, by rw [List.length_map, (mapM_some hm).1, List.length_range], fun i hi => ?_⟩
      obtain ⟨y, hy1, hy⟩ := (mapM_some hm).2 i i (by rw [List.getElem?_range hi])
      rw [Option.bind_eq_some_iff] at hy
      obtain ⟨row, h1, h2⟩ := hy
      exact ⟨row, y, h1, h2, by rw [List.getElem?_map, hy1]; rfl⟩
     ·cases h)
  | skip
theorem dbulk_pos {H : Type} (d : DataW H) : 1 ≤ dbulk d := by
 cases d with
 | lit l => cases l <;> simp [dbulk]
 | _ => simp [dbulk]
theorem read_stringB {t : TypeId} (hu : P.underlying t = some .string) {fuel : Nat} {cs : List Value} {x : DataW H0 × List MemPlace} (h : DataW.trod enc P W base spare held fuel t cs = some x) :
  ∃ s, cs = [.string s] ∧ s.size ≤ maxLen ∧ dbulk x.1 = s.size + 1 := by
 cases fuel with
 | zero => cases h
 | succ fuel =>
  obtain ⟨s, rfl, hs⟩ := read_string hu h
  refine ⟨s, rfl, hs, ?_⟩
  unfold DataW.trod at h
  rw [hu] at h
  simp only [] at h
  rw [if_pos hs] at h
  cases h
  show dbulk (.lit (.string s.data.toList)) = s.data.size + 1
  rw [dbulk, Array.length_toList]
theorem encR_rcells (τ : Ty V.ι) (y : den V.N τ) : encR V.sz V.enc τ y = (rcells V τ y).map fun l => encD V.sz V.enc l.t l.x := by
 cases τ <;> first | rfl | (simp only [encR, rcells]; exact V.enc_cells _ _) | simp [encR, rcells, encD]
theorem read_all (F : Facts V P) : ∀ (fuel : Nat) (t : TypeId) (τ : Ty V.ι) (cs : List Value) (x : DataW H0 × List MemPlace), V.ty t = some τ → DataW.trod enc P W base spare held fuel t cs = some x → Rd (memOf W) τ cs (dbulk x.1) := by
 intro fuel
 induction fuel using Nat.strongRecOn with
 | ind fuel ih =>
 intro t τ cs x hty h
 have hf := F.ty t τ hty
 cases τ with
 | mp k v => exact hf.elim
 | er => exact hf.elim
 | int k =>
  obtain ⟨n, rfl, hw⟩ := read_int hf h
  refine ⟨n, .int hw, ⟨rfl, fun i c l hc hl => ?_⟩, rfl, fun l hl => ?_, .int (dbulk_pos _), .one (.int (dbulk_pos _))⟩
  ·cases i with
   | zero => simp [rcells] at hc hl; subst hc; subst hl; exact .v _
   | succ i => simp at hc
  ·simp [rcells] at hl; subst hl; exact .int hw
 | bool =>
  obtain ⟨b, rfl⟩ := read_bool hf h
  refine ⟨b, .bool b, ⟨rfl, fun i c l hc hl => ?_⟩, rfl, fun l hl => ?_, .bool (dbulk_pos _), .one (.bool (dbulk_pos _))⟩
  ·cases i with
   | zero => simp [rcells] at hc hl; subst hc; subst hl; exact .v _
   | succ i => simp at hc
  ·simp [rcells] at hl; subst hl; exact .bool b
 | str =>
  obtain ⟨s, rfl, hs, hb⟩ := read_stringB hf h
  refine ⟨s, .str hs, ⟨rfl, fun i c l hc hl => ?_⟩, rfl, fun l hl => ?_, .str (Nat.le_of_eq hb.symm), .one (.str (Nat.le_of_eq hb.symm))⟩
  ·cases i with
   | zero => simp [rcells] at hc hl; subst hc; subst hl; exact .v _
   | succ i => simp at hc
  ·simp [rcells] at hl; subst hl; exact .str hs
 | st i =>
  obtain ⟨fs, hu, hsz, hfl⟩ := hf
  cases fuel with
  | zero => cases h
  | succ fuel =>
   obtain ⟨hl, ds, hx, hdl, hr⟩ := read_structB hu h
   obtain ⟨n, ls, a1, a2, a3, a4, a5⟩ := read_fields F (M := memOf W) (rd := fun t cs m => ∃ y, DataW.trod enc P W base spare held fuel t cs = some y ∧ m = dbulk y.1) (fun t τ cs m hτ ⟨y, hy, hm⟩ => hm ▸ ih fuel (by omega) t τ cs y hτ hy) fs.toList (ds.map dbulk) 0 _ hfl
    (by rw [List.length_map, hdl])
    (fun j f m hf hm => by
      obtain ⟨y, hy1, hy⟩ := hr j f hf
      rw [List.getElem?_map, hy1] at hm
      exact ⟨y, hy, by simpa using hm.symm⟩)
   obtain ⟨y, hy⟩ := F.of i ls a1
   have hc := V.of_cells i ls y hy
   have hn : n = cs.length := by rw [a4, ← hc, V.len_cells, hl, hsz]
   rw [List.drop_zero, List.take_of_length_le (by omega)] at a2
   have hdb : dbulk x.1 = (ds.map dbulk).sum + 1 := by rw [hx, dbulk, dbulkL_sum]
   obtain ⟨ns, c1, c2, c3⟩ := a5
   refine ⟨y, .st (by rw [hc]; exact a3), by simpa only [rcells, hc] using a2, by simpa only [rcells, hc, flatTy] using a1, by simpa only [rcells, hc] using a3, .st ns (by rw [hc]; exact c1) (by rw [hc]; exact c2) (by omega), ns, by simpa only [rcells, hc] using c1, by simpa only [rcells, hc] using c2, by omega⟩
 | sl e =>
  obtain ⟨te, hu, hte, hsz, hpos⟩ := hf
  have hpos : 0 < tsz V.sz e := by simpa [Nat.blt_eq] using hpos
  cases fuel with
  | zero => cases h
  | succ fuel =>
   have fin : ∀ (c3 : Value) (ys : List (den V.N e)), ys.length ≤ maxLen → (∀ y ∈ ys, Ok V e y) → DRep (memOf W) c3 (encD V.sz V.enc (.sl e) ys) → Bk V (.sl e) ys (dbulk x.1) → Rd (V := V) (memOf W) (.sl e) [c3] (dbulk x.1) := by
    intro c3 ys h1 h2 h3 h4
    refine ⟨ys, .sl h1 h2, ⟨rfl, fun i c l hc hl => ?_⟩, rfl, fun l hl => ?_, h4, .one h4⟩
    ·cases i with
     | zero => simp [rcells] at hc hl; subst hc; subst hl; exact h3
     | succ i => simp at hc
    ·simp [rcells] at hl; subst hl; exact .sl h1 h2
   rcases read_sliceB hu h with ⟨h4, hx⟩ | ⟨a, len, cap, h4, hlc, hcm, ds, sp, hx, hdl, hr⟩
   ·subst h4
    exact fin _ [] (by simp) (fun y hy => by cases hy) (.slnil _) (.sl [] rfl (fun i x n hx => by simp at hx) (by rw [hx]; simp [dbulk]))
   ·subst h4
    rw [hsz] at hr
    obtain ⟨ys, hyl, hys⟩ := list_of (α := den V.N e) (R := fun i y => ∃ row d, W.cells? base (a.add (i * tsz V.sz e)) (tsz V.sz e) = some row ∧ Ok V e y ∧ LeafRep (memOf W) row (rcells V e y) ∧ ds[i]? = some d ∧ Bk V e y (dbulk d)) len
     fun i hi => by
      obtain ⟨row, z, g1, g2, g3⟩ := hr i hi
      obtain ⟨y, b1, b2, _, _, b5, _⟩ := ih fuel (by omega) te e row z hte g2
      exact ⟨y, row, z.1, g1, b1, b2, g3, b5⟩
    have hdb : dbulk x.1 = (ds.map dbulk).sum + dbulkL sp + 1 := by rw [hx, dbulk, dbulkL_sum]
    refine fin _ ys (by omega) (fun y hy => ?_) (DRep.of_slice (b := base) hpos hlc (by rw [List.length_map, hyl]) (fun r hr' => ?_) fun i hi => ?_) (.sl (ds.map dbulk) (by rw [List.length_map, hdl, hyl]) (fun i y n hy hn => ?_) (by omega))
    ·obtain ⟨i, hi, rfl⟩ := List.getElem_of_mem hy
     obtain ⟨row, _, _, e1, _⟩ := hys i _ (List.getElem?_eq_getElem hi)
     exact e1
    ·obtain ⟨y, _, rfl⟩ := List.mem_map.1 hr'
     rw [encR_rcells, List.length_map, rcells_len]
    ·obtain ⟨row, _, e0, _, e2, _⟩ := hys i (ys[i]'(by omega)) (List.getElem?_eq_getElem (by omega))
     refine ⟨row, e0, fun r hr' j c y hc hy => ?_⟩
     rw [List.getElem?_map, List.getElem?_eq_getElem (by omega : i < ys.length)] at hr'
     simp at hr'
     subst hr'
     rw [encR_rcells, List.getElem?_map, Option.map_eq_some_iff] at hy
     obtain ⟨l, hl, rfl⟩ := hy
     exact e2.2 j c l hc hl
    ·obtain ⟨row, d, _, _, _, e3, e4⟩ := hys i y hy
     rw [List.getElem?_map, e3] at hn
     simp at hn
     subst hn
     exact e4
theorem cell_not_agg {r : Reach} {t : TypeId} {cs : Array Value} (h : (∃ k, P.underlying t = some (.int k)) ∨ P.underlying t = some .bool ∨ P.underlying t = some .string ∨ ∃ e, P.underlying t = some (.slice e)) :
  ¬ Value.okWide P W r base t (.agg cs) := by
 intro hv
 unfold Value.okWide at hv
 rcases h with ⟨k, h⟩ | h | h | ⟨e, h⟩ <;> rw [h] at hv <;> simp only [Cell.okWide, Cell.ok, h] at hv
theorem open_valB (F : Facts V P) {r : Reach} {b0 : Nat} {t : TypeId} {τ : Ty V.ι} {v : Value} {d : DataW H0} {p : List MemPlace} (hty : V.ty t = some τ) (hok : Value.okWide P W r b0 t v) (h : DataW.Trod enc P W base spare held t v d p) :
  ∃ y : den V.N τ, Ok V τ y ∧ DRep (memOf W) v (encD V.sz V.enc τ y) ∧ Bk V τ y (dbulk d) := by
 obtain ⟨fuel, h⟩ := h
 obtain ⟨y, h1, h2, _, _, h5, _⟩ := read_all F fuel t τ _ _ hty h
 refine ⟨y, h1, ?_, h5⟩
 have hf := F.ty t τ hty
 have cell : (∀ cs, v ≠ .agg cs) → rcells V τ y = [⟨τ, y⟩] → DRep (memOf W) v (encD V.sz V.enc τ y) := by
  intro hn hr
  rw [hr] at h2
  have hc : v.cells.toList = [v] := by cases v <;> first | rfl | exact (hn _ rfl).elim
  rw [hc] at h2
  exact h2.2 0 v ⟨τ, y⟩ rfl rfl
 cases τ with
 | mp k v => exact hf.elim
 | er => exact hf.elim
 | int k => exact cell (fun cs e => by subst e; exact cell_not_agg (.inl ⟨k, hf⟩) hok) rfl
 | bool => exact cell (fun cs e => by subst e; exact cell_not_agg (.inr (.inl hf)) hok) rfl
 | str => exact cell (fun cs e => by subst e; exact cell_not_agg (.inr (.inr (.inl hf))) hok) rfl
 | sl e =>
  obtain ⟨te, hu, _⟩ := hf
  exact cell (fun cs e => by subst e; exact cell_not_agg (.inr (.inr (.inr ⟨te, hu⟩))) hok) rfl
 | st i =>
  obtain ⟨fs, hu, _, _⟩ := hf
  unfold Value.okWide at hok
  rw [hu] at hok
  obtain ⟨cs, rfl, _⟩ := hok
  simp only [Value.cells] at h2
  simp only [encD]
  rw [V.enc_cells]
  refine .agg cs _ (by rw [List.length_map]; have := h2.1; simpa [rcells] using this) fun k c x hc hx => ?_
  rw [List.getElem?_map, Option.map_eq_some_iff] at hx
  obtain ⟨l, hl, rfl⟩ := hx
  exact h2.2 k c l (by simpa using hc) hl
theorem open_val (F : Facts V P) {r : Reach} {b0 : Nat} {t : TypeId} {τ : Ty V.ι} {v : Value} {d : DataW H0} {p : List MemPlace} (hty : V.ty t = some τ) (hok : Value.okWide P W r b0 t v) (h : DataW.Trod enc P W base spare held t v d p) :
  ∃ y : den V.N τ, Ok V τ y ∧ DRep (memOf W) v (encD V.sz V.enc τ y) :=
 let ⟨y, h1, h2, _⟩ := open_valB F hty hok h
 ⟨y, h1, h2⟩
end
end Go.Tx
end
section
namespace Go.Proofs.YtogoamfegaebgaaGreatDoor
open Go.Awp Go.Shelf
open Go.Proofs.Tryz (prog)
set_option maxRecDepth 100000
theorem pow8 : (Rows.laid_internal_strconv_uint64pow10 : DataW Unit) = Lib.tabData .u64 Lib.pow10Tab := by kernel_rfl
def laid8 : List (String × DataW Unit) := [("math/bits.deBruijn32tab", Rows.laid_math_bits_deBruijn32tab), ("math/bits.deBruijn64tab", Rows.laid_math_bits_deBruijn64tab), ("internal/strconv.uint64pow10", Rows.laid_internal_strconv_uint64pow10), ("unicode/utf8.acceptRanges", Rows.laid_unicode_utf8_acceptRanges), ("strconv.ErrRange", Rows.laid_strconv_ErrRange), ("strconv.ErrSyntax", Rows.laid_strconv_ErrSyntax), ("unicode/utf8.first", Rows.laid_unicode_utf8_first)]
theorem tab_of_reads {P : Program} {w : World} {name : String} {k : IntKind} {zs : List Int} {g : Nat} {t e : TypeId} {n : Nat} (hg : P.globalNamed name = some g) (hty : (P.globals[g]?).map (·.type) = some t) (ht : P.underlying t = some (.array n e)) (he : P.underlying e = some (.int k)) (hce : P.cellsOf e = 1) (hct : P.cellsOf t = n)
  (h : Lib.VarReads P w name (Lib.tabData k zs)) : Lib.TabIs P w name k zs := by
 obtain ⟨g', t', cs, fuel, p, hg', ht', hvar, hd⟩ := h
 obtain rfl := Option.some.inj (hg.symm.trans hg')
 obtain rfl := Option.some.inj (hty.symm.trans ht')
 unfold Lib.TabIs
 rw [hvar, ← Lib.cells_of_tab ht he hce hct hd]
theorem iface_of_reads {P : Program} {w : World} {name nm : String} {d : DataW Unit} {g : Nat} {t : TypeId} {ms : TypeDesc} (hg : P.globalNamed name = some g) (hty : (P.globals[g]?).map (·.type) = some t) (ht : P.underlying t = some ms) (hms : ∃ l, ms = .interface l)
  (h : Lib.VarReads P w name (.iface nm d)) : ∃ u v, w.cell? ⟨g, 0, none⟩ = some (.iface u v) := by
 obtain ⟨l, rfl⟩ := hms
 obtain ⟨g', t', cs, fuel, p, hg', ht', hvar, hd⟩ := h
 obtain rfl := Option.some.inj (hg.symm.trans hg')
 obtain rfl := Option.some.inj (hty.symm.trans ht')
 have hc : ∃ u v, cs.toList = [.iface u v] := by
  cases fuel with
  | zero => cases hd
  | succ fuel =>
   unfold DataW.trod at hd
   rw [ht] at hd
   simp only [] at hd
   split at hd <;> try (rename_i h1 _; cases h1)
   all_goals try (cases hd; done)
   all_goals first
    | (rename_i u v _; exact ⟨u, v, by assumption⟩)
    | (simp_all; done)
 obtain ⟨u, v, hc⟩ := hc
 refine ⟨u, v, ?_⟩
 unfold World.var? at hvar
 rw [hg] at hvar
 simp only [Option.bind_some] at hvar
 split at hvar
 ·rename_i cs' _ _ hw
  cases hvar
  have : cs[0]? = some (.iface u v) := by rw [← Array.getElem?_toList, hc]; rfl
  simpa [World.cell?, hw] using this
 ·cases hvar
theorem gmem_laid {W : World} (h : laidMetH prog laid8 W) : GOk (memOf W) W := by
 rw [MakeChecks.laidMetH_plain _ _ _ (by kernel_rfl)] at h
 have h3 : Lib.VarReads prog W "internal/strconv.uint64pow10" (Lib.tabData .u64 Lib.pow10Tab) := pow8 ▸ Lib.laidMet.reads h (.tail _ (.tail _ (.head _)))
 have h4 := iface_of_reads (P := prog) (g := 3) (t := 90) (by kernel_rfl) (by kernel_rfl) Tryz.underlying90 ⟨_, rfl⟩ (Lib.laidMet.reads h (.tail _ (.tail _ (.tail _ (.tail _ (.head _))))))
 have h5 := iface_of_reads (P := prog) (g := 2) (t := 90) (by kernel_rfl) (by kernel_rfl) Tryz.underlying90 ⟨_, rfl⟩ (Lib.laidMet.reads h (.tail _ (.tail _ (.tail _ (.tail _ (.tail _ (.head _)))))))
 have h6 : Lib.TabIs prog W "internal/strconv.uint64pow10" .u64 Lib.pow10Tab := by
  obtain ⟨g, t, cs, fuel, p, hg, ht, _, _⟩ := id h3
  exact tab_of_reads (g := 0) (t := 131) (e := 111) (n := 20) (by kernel_rfl) (by kernel_rfl) (by kernel_rfl) (by kernel_rfl) (by kernel_rfl) (by kernel_rfl) h3
 refine ⟨tabs_le h6, fun b hb => ?_, fun p hp => ?_⟩
 ·have hb : b ∈ [2, 3] := hb
  simp only [List.mem_cons, List.not_mem_nil, or_false] at hb
  rcases hb with rfl | rfl
  ·exact h5
  ·exact h4
 ·have hp : p ∈ [(0, 20)] := hp
  simp only [List.mem_cons, List.not_mem_nil, or_false] at hp
  subst hp
  have hn : prog.globalNamed "internal/strconv.uint64pow10" = some 0 := by kernel_rfl
  refine ⟨⟨_, h6.cell hn 0 (by rw [pow10_len]; decide)⟩, ?_⟩
  unfold Lib.TabIs World.var? at h6
  rw [hn] at h6
  simp only [Option.bind_some] at h6
  split at h6
  ·rename_i cs t fr hw
   cases h6
   exact ⟨_, _, _, hw, by simp [pow10_len]⟩
  ·cases h6
end Go.Proofs.YtogoamfegaebgaaGreatDoor
end
section
namespace Go.Tx
open Go.Awp
variable [Inhabited GMem]
section
variable {V : View}
end
end Go.Tx
end
section
namespace Go.Proofs.YtogoamfegaebgaaGreatDoor.Ty
open Go.Awp
theorem mixed : Tryz.prog.follows .mixedOrders = true := by kernel_rfl
end Go.Proofs.YtogoamfegaebgaaGreatDoor.Ty
end
section
namespace Go.Proofs.YtogoamfegaebgaaGreatDoor
open Go.Awp Go.Tx
structure Layout where
 kind : Int
 n : Int
 flag : Bool
 parts : (List Layout)
mutual
noncomputable def Layout.enc : Layout → List D
 | ⟨a0, a1, a2, a3⟩ => [.v (.int .i64 a0)] ++ [.v (.int .i64 a1)] ++ [.v (.bool a2)] ++ [.sl 4 (Layout.encL a3)]
noncomputable def Layout.encL : List Layout → List (List D)
 | [] => []
 | x :: r => Layout.enc x :: Layout.encL r
end
theorem Layout.encL_map : ∀ l : List Layout, Layout.encL l = l.map Layout.enc
 | [] => by simp [Layout.encL]
 | x :: r => by simp [Layout.encL, Layout.encL_map r]
structure Target where
 word : Int
 big : Bool
 deriving DecidableEq
noncomputable def Target.enc (x : Target) : List D := [.v (.int .i64 x.word)] ++ [.v (.bool x.big)]
structure Reader where
 s : ByteArray
 bad : Bool
noncomputable def Reader.enc (x : Reader) : List D := [.v (.string x.s)] ++ [.v (.bool x.bad)]
structure Room where
 size : Int
 align : Int
 deriving DecidableEq
noncomputable def Room.enc (x : Room) : List D := [.v (.int .i64 x.size)] ++ [.v (.int .i64 x.align)]
structure Counted where
 count : Int
 deep : Int
 large : Bool
 deriving DecidableEq
noncomputable def Counted.enc (x : Counted) : List D := [.v (.int .i64 x.count)] ++ [.v (.int .i64 x.deep)] ++ [.v (.bool x.large)]
structure AcceptRange where
 lo : Int
 hi : Int
 deriving DecidableEq
noncomputable def AcceptRange.enc (x : AcceptRange) : List D := [.v (.int .u8 x.lo)] ++ [.v (.int .u8 x.hi)]
structure ErrorString where
 s : ByteArray
noncomputable def ErrorString.enc (x : ErrorString) : List D := [.v (.string x.s)]
inductive SN where
 | layoutT
 | targetT
 | readerT
 | roomT
 | countedT
 | acceptRangeT
 | errorStringT
 deriving DecidableEq
abbrev NN : SN → Type
 | .layoutT => Layout
 | .targetT => Target
 | .readerT => Reader
 | .roomT => Room
 | .countedT => Counted
 | .acceptRangeT => AcceptRange
 | .errorStringT => ErrorString
noncomputable def szN : SN → Nat
 | .layoutT => 4
 | .targetT => 2
 | .readerT => 2
 | .roomT => 2
 | .countedT => 3
 | .acceptRangeT => 2
 | .errorStringT => 1
noncomputable def tysN : SN → List (Ty SN)
 | .layoutT => [(.int .i64), (.int .i64), .bool, (.sl (.st .layoutT))]
 | .targetT => [(.int .i64), .bool]
 | .readerT => [.str, .bool]
 | .roomT => [(.int .i64), (.int .i64)]
 | .countedT => [(.int .i64), (.int .i64), .bool]
 | .acceptRangeT => [(.int .u8), (.int .u8)]
 | .errorStringT => [.str]
noncomputable def cellsN : (i : SN) → NN i → List (Leaf NN)
 | .layoutT, x => [⟨(.int .i64), x.kind⟩, ⟨(.int .i64), x.n⟩, ⟨.bool, x.flag⟩, ⟨(.sl (.st .layoutT)), x.parts⟩]
 | .targetT, x => [⟨(.int .i64), x.word⟩, ⟨.bool, x.big⟩]
 | .readerT, x => [⟨.str, x.s⟩, ⟨.bool, x.bad⟩]
 | .roomT, x => [⟨(.int .i64), x.size⟩, ⟨(.int .i64), x.align⟩]
 | .countedT, x => [⟨(.int .i64), x.count⟩, ⟨(.int .i64), x.deep⟩, ⟨.bool, x.large⟩]
 | .acceptRangeT, x => [⟨(.int .u8), x.lo⟩, ⟨(.int .u8), x.hi⟩]
 | .errorStringT, x => [⟨.str, x.s⟩]
noncomputable def encN : (i : SN) → NN i → List D
 | .layoutT, x => Layout.enc x
 | .targetT, x => Target.enc x
 | .readerT, x => Reader.enc x
 | .roomT, x => Room.enc x
 | .countedT, x => Counted.enc x
 | .acceptRangeT, x => AcceptRange.enc x
 | .errorStringT, x => ErrorString.enc x
noncomputable def ofN : (i : SN) → List (Leaf NN) → Option (NN i)
 | .layoutT, [⟨(.int .i64), a0⟩, ⟨(.int .i64), a1⟩, ⟨.bool, a2⟩, ⟨(.sl (.st .layoutT)), a3⟩] => some ⟨a0, a1, a2, a3⟩
 | .targetT, [⟨(.int .i64), a0⟩, ⟨.bool, a1⟩] => some ⟨a0, a1⟩
 | .readerT, [⟨.str, a0⟩, ⟨.bool, a1⟩] => some ⟨a0, a1⟩
 | .roomT, [⟨(.int .i64), a0⟩, ⟨(.int .i64), a1⟩] => some ⟨a0, a1⟩
 | .countedT, [⟨(.int .i64), a0⟩, ⟨(.int .i64), a1⟩, ⟨.bool, a2⟩] => some ⟨a0, a1, a2⟩
 | .acceptRangeT, [⟨(.int .u8), a0⟩, ⟨(.int .u8), a1⟩] => some ⟨a0, a1⟩
 | .errorStringT, [⟨.str, a0⟩] => some ⟨a0⟩
 | _, _ => none
noncomputable def tyN : TypeId → Option (Ty SN)
 | 2 => some (.int .i64)
 | 3 => some (.int .i64)
 | 4 => some .bool
 | 5 => some (.int .u8)
 | 6 => some (.int .u8)
 | 9 => some .str
 | 10 => some .str
 | 11 => some .str
 | 12 => some (.int .u64)
 | 21 => some (.int .i32)
 | 22 => some (.sl (.st .layoutT))
 | 24 => some (.st .layoutT)
 | 27 => some (.int .i64)
 | 35 => some (.sl (.int .i64))
 | 39 => some (.st .targetT)
 | 47 => some (.st .readerT)
 | 53 => some (.st .roomT)
 | 59 => some (.st .countedT)
 | 63 => some (.sl .str)
 | 85 => some (.sl (.int .u8))
 | 111 => some (.int .u64)
 | 124 => some (.int .i64)
 | 132 => some (.int .u32)
 | 135 => some (.int .u64)
 | 147 => some (.st .acceptRangeT)
 | 155 => some (.st .errorStringT)
 | 163 => some (.int .u8)
 | 164 => some (.int .u8)
 | 166 => some (.int .i32)
 | 167 => some (.int .i32)
 | _ => none
theorem enc_cellsN (i : SN) (x : NN i) : encN i x = (cellsN i x).map fun l => encD szN encN l.t l.x := by
 cases i <;> cases x <;> simp [encN, cellsN, encD, encR, tsz, szN, Layout.enc, Target.enc, Reader.enc, Room.enc, Counted.enc, AcceptRange.enc, ErrorString.enc, Layout.encL_map]
theorem of_cellsN (i : SN) (ls : List (Leaf NN)) (x : NN i) (h : ofN i ls = some x) : cellsN i x = ls := by
 unfold ofN at h
 split at h <;> first
  | (cases h; rfl)
  | (cases h; done)
theorem len_cellsN (i : SN) (x : NN i) : (cellsN i x).length = szN i := by cases i <;> rfl
theorem one_cellsN (i : SN) (x : NN i) : ∀ l ∈ cellsN i x, l.t.cell = true := by
 have h : (cellsN i x).all (fun l => l.t.cell) = true := by cases i <;> rfl
 exact List.all_eq_true.1 h
noncomputable def vw : View where
 ι := SN
 dec := inferInstance
 N := NN
 sz := szN
 tys := tysN
 cells := cellsN
 ofCells := ofN
 enc := encN
 ty := tyN
 enc_cells := enc_cellsN
 of_cells := of_cellsN
 len_cells := len_cellsN
 one_cells := one_cellsN
end Go.Proofs.YtogoamfegaebgaaGreatDoor
end
section
namespace Go.Proofs.YtogoamfegaebgaaGreatDoor
open Go.Awp Go.Tx
open Go.Proofs.Tryz (prog)
set_option maxRecDepth 100000
def structOf (P : Program) (t : TypeId) : Array Field := match P.underlying t with
 | some (.struct fs) => fs
 | _ => #[]
theorem tf2 : tyFact vw prog 2 (.int .i64) := (by kernel_rfl : prog.underlying 2 = some (.int .i64))
theorem tf3 : tyFact vw prog 3 (.int .i64) := (by kernel_rfl : prog.underlying 3 = some (.int .i64))
theorem tf4 : tyFact vw prog 4 .bool := (by kernel_rfl : prog.underlying 4 = some .bool)
theorem tf5 : tyFact vw prog 5 (.int .u8) := (by kernel_rfl : prog.underlying 5 = some (.int .u8))
theorem tf6 : tyFact vw prog 6 (.int .u8) := (by kernel_rfl : prog.underlying 6 = some (.int .u8))
theorem tf9 : tyFact vw prog 9 .str := (by kernel_rfl : prog.underlying 9 = some .string)
theorem tf10 : tyFact vw prog 10 .str := (by kernel_rfl : prog.underlying 10 = some .string)
theorem tf11 : tyFact vw prog 11 .str := (by kernel_rfl : prog.underlying 11 = some .string)
theorem tf12 : tyFact vw prog 12 (.int .u64) := (by kernel_rfl : prog.underlying 12 = some (.int .u64))
theorem tf21 : tyFact vw prog 21 (.int .i32) := (by kernel_rfl : prog.underlying 21 = some (.int .i32))
theorem tf22 : tyFact vw prog 22 (.sl (.st .layoutT)) := ⟨24, by kernel_rfl, by kernel_rfl, by kernel_rfl, by kernel_rfl⟩
theorem tf24 : tyFact vw prog 24 (.st .layoutT) := ⟨structOf prog 24, by kernel_rfl, by kernel_rfl, by kernel_rfl⟩
theorem tf27 : tyFact vw prog 27 (.int .i64) := (by kernel_rfl : prog.underlying 27 = some (.int .i64))
theorem tf35 : tyFact vw prog 35 (.sl (.int .i64)) := ⟨3, by kernel_rfl, by kernel_rfl, by kernel_rfl, by kernel_rfl⟩
theorem tf39 : tyFact vw prog 39 (.st .targetT) := ⟨structOf prog 39, by kernel_rfl, by kernel_rfl, by kernel_rfl⟩
theorem tf47 : tyFact vw prog 47 (.st .readerT) := ⟨structOf prog 47, by kernel_rfl, by kernel_rfl, by kernel_rfl⟩
theorem tf53 : tyFact vw prog 53 (.st .roomT) := ⟨structOf prog 53, by kernel_rfl, by kernel_rfl, by kernel_rfl⟩
theorem tf59 : tyFact vw prog 59 (.st .countedT) := ⟨structOf prog 59, by kernel_rfl, by kernel_rfl, by kernel_rfl⟩
theorem tf63 : tyFact vw prog 63 (.sl .str) := ⟨9, by kernel_rfl, by kernel_rfl, by kernel_rfl, by kernel_rfl⟩
theorem tf85 : tyFact vw prog 85 (.sl (.int .u8)) := ⟨5, by kernel_rfl, by kernel_rfl, by kernel_rfl, by kernel_rfl⟩
theorem tf111 : tyFact vw prog 111 (.int .u64) := (by kernel_rfl : prog.underlying 111 = some (.int .u64))
theorem tf124 : tyFact vw prog 124 (.int .i64) := (by kernel_rfl : prog.underlying 124 = some (.int .i64))
theorem tf132 : tyFact vw prog 132 (.int .u32) := (by kernel_rfl : prog.underlying 132 = some (.int .u32))
theorem tf135 : tyFact vw prog 135 (.int .u64) := (by kernel_rfl : prog.underlying 135 = some (.int .u64))
theorem tf147 : tyFact vw prog 147 (.st .acceptRangeT) := ⟨structOf prog 147, by kernel_rfl, by kernel_rfl, by kernel_rfl⟩
theorem tf155 : tyFact vw prog 155 (.st .errorStringT) := ⟨structOf prog 155, by kernel_rfl, by kernel_rfl, by kernel_rfl⟩
theorem tf163 : tyFact vw prog 163 (.int .u8) := (by kernel_rfl : prog.underlying 163 = some (.int .u8))
theorem tf164 : tyFact vw prog 164 (.int .u8) := (by kernel_rfl : prog.underlying 164 = some (.int .u8))
theorem tf166 : tyFact vw prog 166 (.int .i32) := (by kernel_rfl : prog.underlying 166 = some (.int .i32))
theorem tf167 : tyFact vw prog 167 (.int .i32) := (by kernel_rfl : prog.underlying 167 = some (.int .i32))
theorem leaves_cons {ls : List (Leaf NN)} {t : Ty SN} {ts : List (Ty SN)} (h : ls.map (·.t) = t :: ts) : ∃ (x : den NN t) (ls' : List (Leaf NN)), ls = ⟨t, x⟩ :: ls' ∧ ls'.map (·.t) = ts := by
 match ls, h with
 | ⟨t', x⟩ :: r, h =>
  simp only [List.map_cons, List.cons.injEq] at h
  obtain ⟨h1, h2⟩ := h
  subst h1
  exact ⟨x, r, rfl, h2⟩
theorem leaves_nil {ls : List (Leaf NN)} (h : ls.map (·.t) = []) : ls = [] := by simpa using h
theorem facts : Facts vw prog where
 ty := fun t τ h => by
  have h : tyN t = some τ := h
  unfold tyN at h
  split at h
  ·cases h; exact tf2
  ·cases h; exact tf3
  ·cases h; exact tf4
  ·cases h; exact tf5
  ·cases h; exact tf6
  ·cases h; exact tf9
  ·cases h; exact tf10
  ·cases h; exact tf11
  ·cases h; exact tf12
  ·cases h; exact tf21
  ·cases h; exact tf22
  ·cases h; exact tf24
  ·cases h; exact tf27
  ·cases h; exact tf35
  ·cases h; exact tf39
  ·cases h; exact tf47
  ·cases h; exact tf53
  ·cases h; exact tf59
  ·cases h; exact tf63
  ·cases h; exact tf85
  ·cases h; exact tf111
  ·cases h; exact tf124
  ·cases h; exact tf132
  ·cases h; exact tf135
  ·cases h; exact tf147
  ·cases h; exact tf155
  ·cases h; exact tf163
  ·cases h; exact tf164
  ·cases h; exact tf166
  ·cases h; exact tf167
  ·cases h
 tys := fun i x => by cases i <;> rfl
 of := fun i ls h => by
  cases i with
  | layoutT =>
   obtain ⟨a0, l0, rfl, h0⟩ := leaves_cons h
   obtain ⟨a1, l1, rfl, h1⟩ := leaves_cons h0
   obtain ⟨a2, l2, rfl, h2⟩ := leaves_cons h1
   obtain ⟨a3, l3, rfl, h3⟩ := leaves_cons h2
   obtain rfl := leaves_nil h3
   exact ⟨_, rfl⟩
  | targetT =>
   obtain ⟨a0, l0, rfl, h0⟩ := leaves_cons h
   obtain ⟨a1, l1, rfl, h1⟩ := leaves_cons h0
   obtain rfl := leaves_nil h1
   exact ⟨_, rfl⟩
  | readerT =>
   obtain ⟨a0, l0, rfl, h0⟩ := leaves_cons h
   obtain ⟨a1, l1, rfl, h1⟩ := leaves_cons h0
   obtain rfl := leaves_nil h1
   exact ⟨_, rfl⟩
  | roomT =>
   obtain ⟨a0, l0, rfl, h0⟩ := leaves_cons h
   obtain ⟨a1, l1, rfl, h1⟩ := leaves_cons h0
   obtain rfl := leaves_nil h1
   exact ⟨_, rfl⟩
  | countedT =>
   obtain ⟨a0, l0, rfl, h0⟩ := leaves_cons h
   obtain ⟨a1, l1, rfl, h1⟩ := leaves_cons h0
   obtain ⟨a2, l2, rfl, h2⟩ := leaves_cons h1
   obtain rfl := leaves_nil h2
   exact ⟨_, rfl⟩
  | acceptRangeT =>
   obtain ⟨a0, l0, rfl, h0⟩ := leaves_cons h
   obtain ⟨a1, l1, rfl, h1⟩ := leaves_cons h0
   obtain rfl := leaves_nil h1
   exact ⟨_, rfl⟩
  | errorStringT =>
   obtain ⟨a0, l0, rfl, h0⟩ := leaves_cons h
   obtain rfl := leaves_nil h0
   exact ⟨_, rfl⟩
end Go.Proofs.YtogoamfegaebgaaGreatDoor
end
section
namespace Go.Proofs.YtogoamfegaebgaaGreatDoor
set_option maxRecDepth 20000
mutual
def Layout.depth : Layout → Nat
 | .mk _ _ _ ps => Layout.depthL ps + 1
def Layout.depthL : List Layout → Nat
 | [] => 0
 | p :: r => max (Layout.depth p) (Layout.depthL r)
end
mutual
def Layout.all : Layout → List Layout
 | .mk k n f ps => .mk k n f ps :: Layout.allL ps
def Layout.allL : List Layout → List Layout
 | [] => []
 | p :: r => Layout.all p ++ Layout.allL r
end
theorem Layout.depth_eq (l : Layout) : l.depth = Layout.depthL l.parts + 1 := by cases l; rfl
theorem Layout.all_eq (l : Layout) : l.all = l :: Layout.allL l.parts := by cases l; rfl
theorem Layout.depthL_mem : ∀ {ps : List Layout} {p : Layout}, p ∈ ps → p.depth ≤ Layout.depthL ps
 | q :: r, p, h => by
  rw [Layout.depthL]
  rcases List.mem_cons.1 h with rfl | h
  ·omega
  ·have := Layout.depthL_mem h; omega
theorem Layout.depth_mem {l p : Layout} (h : p ∈ l.parts) : p.depth < l.depth := by
 rw [l.depth_eq]; have := Layout.depthL_mem h; omega
theorem Layout.allL_mem {q : Layout} : ∀ {ps : List Layout} {p : Layout}, p ∈ ps → q ∈ p.all → q ∈ Layout.allL ps
 | p' :: r, p, h, hq => by
  rw [Layout.allL, List.mem_append]
  rcases List.mem_cons.1 h with rfl | h
  ·exact .inl hq
  ·exact .inr (Layout.allL_mem h hq)
def Layout.fit (l : Layout) : Prop := (-9223372036854775808 ≤ l.kind ∧ l.kind ≤ 9223372036854775807) ∧ (-9223372036854775808 ≤ l.n ∧ l.n ≤ 9223372036854775807) ∧ l.parts.length ≤ 9223372036854775807
def Layout.Fits (l : Layout) : Prop := ∀ q ∈ l.all, q.fit
theorem Layout.Fits.self {l : Layout} (h : l.Fits) : l.fit := h l (by rw [l.all_eq]; exact List.mem_cons_self)
theorem Layout.Fits.len {l : Layout} (h : l.Fits) : l.parts.length ≤ 9223372036854775807 := h.self.2.2
theorem Layout.Fits.part {l p : Layout} (h : l.Fits) (hp : p ∈ l.parts) : p.Fits := fun q hq => h q (by rw [l.all_eq]; exact List.mem_cons_of_mem _ (Layout.allL_mem hp hq))
theorem wrap64 {x : Int} (h1 : -9223372036854775808 ≤ x) (h2 : x ≤ 9223372036854775807) : IntKind.i64.wrap x = x := by
 unfold IntKind.wrap
 simp only [IntKind.bits, IntKind.signed, Bool.true_and]
 split <;> rename_i h <;> simp at h <;> omega
theorem drop_step {α : Type} {l : List α} {k : Nat} (h : k < l.length) : ∃ p, l[k]? = some p ∧ p ∈ l ∧ l.drop k = p :: l.drop (k + 1) :=
 ⟨l[k], List.getElem?_eq_getElem h, List.getElem_mem h, List.drop_eq_getElem_cons h⟩
theorem drop_end {α : Type} {l : List α} {k : Nat} (h : ¬ k < l.length) : l.drop k = [] := List.drop_eq_nil_of_le (by omega)
theorem wrap_succ {k n : Nat} (h : k < n) (hn : n ≤ 9223372036854775807) : IntKind.i64.wrap ((k : Int) + 1) = ((k + 1 : Nat) : Int) := by rw [wrap64 (by omega) (by omega)]; omega
def depthS : Nat → Layout → Int
 | 0, _ => 1
 | n + 1, l => l.parts.foldl (fun a p => max a (depthS n p)) 0 + 1
theorem foldl_max_le {α : Type} {f : α → Int} {l : List α} {b : Int} : ∀ {a : Int}, 0 ≤ a → a ≤ b → (∀ x ∈ l, f x ≤ b) → 0 ≤ l.foldl (fun a p => max a (f p)) a ∧ l.foldl (fun a p => max a (f p)) a ≤ b := by
 induction l with
 | nil => intro a h0 h1 _; exact ⟨h0, h1⟩
 | cons x r ih =>
  intro a h0 h1 h2
  exact ih (by simp only []; omega) (by have := h2 x List.mem_cons_self; simp only []; omega) fun y hy => h2 y (List.mem_cons_of_mem _ hy)
theorem depthS_le : ∀ (n : Nat) (l : Layout), 1 ≤ depthS n l ∧ depthS n l ≤ n + 1
 | 0, l => by simp [depthS]
 | n + 1, l => by
  have := foldl_max_le (f := depthS n) (l := l.parts) (a := 0) (b := n + 1) (by omega) (by omega) fun p _ => (depthS_le n p).2
  simp only [depthS]; omega
def bitsS (l : Layout) : Int := if l.kind = 1 then 1 else if l.kind = 2 then max l.n 0 else 0
def upS (n m : Int) : Int := (n + m - 1).tdiv m * m
theorem Layout.ind {P : Layout → Prop} (h : ∀ l : Layout, (∀ p ∈ l.parts, P p) → P l) : ∀ l, P l := by
 have : ∀ (d : Nat) (l : Layout), l.depth ≤ d → P l := by
  intro d
  induction d with
  | zero => intro l hl; rw [l.depth_eq] at hl; omega
  | succ d ih => intro l hl; exact h l fun p hp => ih p (by have := Layout.depth_mem hp; omega)
 exact fun l => this l.depth l (Nat.le_refl _)
def wholeS (n : Int) : Int := if n = 0 then 0 else if n ≤ 8 then 1 else if n ≤ 16 then 2 else if n ≤ 32 then 4 else 8
def far : Int := 1099511627776
def sumS (xs : List Int) : Int := xs.foldl (fun n x => min far (n + min x far)) 0
theorem sumS2 (a b : Int) (ha : 0 ≤ a) (hb : 0 ≤ b) : sumS [a, b] = min far (a + b) := by simp [sumS, far]; omega
def sumBits : List Layout → Int
 | [] => 0
 | p :: r => bitsS p + sumBits r
theorem bitsS_nonneg (p : Layout) : 0 ≤ bitsS p := by unfold bitsS; repeat' split <;> omega
theorem sumBits_nonneg : ∀ ps : List Layout, 0 ≤ sumBits ps
 | [] => by simp [sumBits]
 | p :: r => by have := bitsS_nonneg p; have := sumBits_nonneg r; simp only [sumBits]; omega
def satBits (ps : List Layout) : Int := ps.foldl (fun n p => min (n + min (bitsS p) 1000) 100000) 0
theorem satBits_of : ∀ (ps : List Layout) (a b : Int), 0 ≤ a → (a = b ∧ a ≤ 64 ∨ 64 < a ∧ 64 < b) →
  (let x := ps.foldl (fun n p => min (n + min (bitsS p) 1000) 100000) a; let y := b + sumBits ps; x = y ∧ x ≤ 64 ∨ 64 < x ∧ 64 < y)
 | [], a, b, ha, h => by simpa [sumBits] using h
 | p :: r, a, b, ha, h => by
  have b1 := bitsS_nonneg p
  have := satBits_of r (min (a + min (bitsS p) 1000) 100000) (b + bitsS p) (by omega) (by omega)
  simp only [List.foldl_cons, sumBits] at this ⊢
  rw [← Int.add_assoc]; exact this
theorem satBits_eq (ps : List Layout) : satBits ps = sumBits ps ∧ satBits ps ≤ 64 ∨ 64 < satBits ps ∧ 64 < sumBits ps := by
 have := satBits_of ps 0 0 (by omega) (by omega)
 simpa [satBits] using this
mutual
def Layout.cells : Layout → Int
 | .mk k n _ ps => (if k = 5 then max 0 n * Layout.cellsL ps else Layout.cellsL ps) + 1
def Layout.cellsL : List Layout → Int
 | [] => 0
 | p :: r => Layout.cells p + Layout.cellsL r
end
theorem Layout.cells_eq (l : Layout) : l.cells = (if l.kind = 5 then max 0 l.n * Layout.cellsL l.parts else Layout.cellsL l.parts) + 1 := by cases l; rfl
theorem Layout.cellsL_of {ps : List Layout} (h : ∀ p ∈ ps, 1 ≤ p.cells) : 0 ≤ Layout.cellsL ps := by
 induction ps with
 | nil => simp [Layout.cellsL]
 | cons p r ih =>
  have := h p List.mem_cons_self
  have := ih fun q hq => h q (List.mem_cons_of_mem _ hq)
  simp only [Layout.cellsL]; omega
theorem Layout.cells_pos : ∀ l : Layout, 1 ≤ l.cells := by
 refine Layout.ind fun l ih => ?_
 have h := Layout.cellsL_of ih
 rw [l.cells_eq]
 split
 ·have := Int.mul_nonneg (a := max 0 l.n) (by omega) h
  omega
 ·omega
theorem Layout.cellsL_nonneg (ps : List Layout) : 0 ≤ Layout.cellsL ps := Layout.cellsL_of fun p _ => p.cells_pos
def Layout.arr (l : Layout) : Prop := ∀ q ∈ l.all, q.kind = 5 → q.n ≤ 1000000
theorem Layout.arr.part {l p : Layout} (h : l.arr) (hp : p ∈ l.parts) : p.arr := fun q hq => h q (by rw [l.all_eq]; exact List.mem_cons_of_mem _ (Layout.allL_mem hp hq))
theorem Layout.arr.self {l : Layout} (h : l.arr) : l.kind = 5 → l.n ≤ 1000000 := h l (by rw [l.all_eq]; exact List.mem_cons_self)
theorem sat_mul {a n m : Int} (hn : 0 ≤ n) (h : 0 ≤ m) (ha : 1 ≤ a) : min a (1 + n * min a m) = min a (n * m + 1) := by
 by_cases hm : m ≤ a
 ·have e : min a m = m := by omega
  rw [e, Int.add_comm]
 ·have e : min a m = a := by omega
  rw [e]
  by_cases h0 : n = 0
  ·subst h0; simp
  ·have h1 : 1 ≤ n := by omega
   have h2 : a ≤ n * a := by have := Int.mul_le_mul_of_nonneg_right h1 (show 0 ≤ a by omega); omega
   have h3 : m ≤ n * m := by have := Int.mul_le_mul_of_nonneg_right h1 h; omega
   omega
theorem sat_mul' {a n m : Int} (hn : 0 ≤ n) (h : 0 ≤ m) (ha : 1 ≤ a) : min (min n a * min a m + 1) a = min a (n * m + 1) := by
 by_cases h0 : m = 0
 ·subst h0
  have : min a 0 = 0 := by omega
  rw [this]; simp; omega
 by_cases hn' : n ≤ a
 ·rw [Int.min_eq_left hn', ← sat_mul hn h ha]; omega
 ·have e : min n a = a := by omega
  rw [e]
  have h1 : 1 ≤ min a m := by omega
  have h2 : a ≤ a * min a m := by have := Int.mul_le_mul_of_nonneg_left h1 (show 0 ≤ a by omega); omega
  have h3 : n ≤ n * m := by have := Int.mul_le_mul_of_nonneg_left (show 1 ≤ m by omega) hn; omega
  omega
mutual
def Layout.count : Layout → Int → Int
 | .mk _ _ _ ps, n => Layout.countL ps n 1
def Layout.countL : List Layout → Int → Int → Int
 | [], _, out => out
 | p :: r, n, out => if out < n then Layout.countL r n (out + Layout.count p (n - out)) else out
end
theorem Layout.count_eq (l : Layout) (n : Int) : l.count n = Layout.countL l.parts n 1 := by cases l; rfl
theorem Layout.countL_le {ps : List Layout} (h : ∀ p ∈ ps, ∀ n, 1 ≤ p.count n ∧ p.count n ≤ max 1 n) (n : Int) : ∀ out, 1 ≤ out → out ≤ Layout.countL ps n out ∧ Layout.countL ps n out ≤ max out n := by
 induction ps with
 | nil => intro out h1; simp only [Layout.countL]; omega
 | cons p r ih =>
  intro out h1
  simp only [Layout.countL]
  split
  ·have h2 := h p List.mem_cons_self (n - out)
   have := ih (fun q hq => h q (List.mem_cons_of_mem _ hq)) (out + p.count (n - out)) (by omega)
   omega
  ·omega
theorem Layout.count_le : ∀ (l : Layout) (n : Int), 1 ≤ l.count n ∧ l.count n ≤ max 1 n := by
 refine Layout.ind fun l ih n => ?_
 rw [l.count_eq]
 have := Layout.countL_le ih n 1 (by omega)
 omega
theorem Layout.countL_full {ps : List Layout} (h : ∀ p ∈ ps, ∀ n, p.count n < n → p.count n = p.all.length) (n : Int) : ∀ out, 1 ≤ out → Layout.countL ps n out < n → Layout.countL ps n out = out + (Layout.allL ps).length := by
 induction ps with
 | nil => intro out h1 _; simp [Layout.countL, Layout.allL]
 | cons p r ih =>
  intro out h1 h2
  simp only [Layout.countL] at h2 ⊢
  split at h2
  ·rename_i hlt
   rw [if_pos hlt]
   have b := p.count_le (n - out)
   have b2 := Layout.countL_le (fun q _ => q.count_le) n (out + p.count (n - out)) (by omega) (ps := r)
   have e1 := h p List.mem_cons_self (n - out) (by omega)
   rw [ih (fun q hq => h q (List.mem_cons_of_mem _ hq)) _ (by omega) h2, e1, Layout.allL, List.length_append]
   omega
  ·rename_i hlt; omega
theorem Layout.count_full : ∀ (l : Layout) (n : Int), l.count n < n → l.count n = l.all.length := by
 refine Layout.ind fun l ih n h => ?_
 rw [l.count_eq] at h ⊢
 rw [Layout.countL_full ih n 1 (by omega) h, l.all_eq, List.length_cons]; omega
def Layout.big1 (l : Layout) : Bool := l.kind == 2 && decide (l.n > 64) || l.kind == 5 && decide (l.n > 1000) || l.kind == 7 && decide (l.n > 65536) || l.kind == 9 && decide (min far (sumBits l.parts) > 64)
mutual
def Layout.look : Layout → Int → Int → Int → Bool → Int × Int × Bool
 | .mk k n f ps, dep, c, d, g =>
  if (g || decide (c + 1 > 60) || decide (dep > 5) || decide ((ps.length : Int) > 12) || Layout.big1 (.mk k n f ps)) = true then (c + 1, max d dep, true)
  else Layout.lookL ps (dep + 1) (c + 1, max d dep, false)
def Layout.lookL : List Layout → Int → Int × Int × Bool → Int × Int × Bool
 | [], _, s => s
 | p :: r, dep, s => Layout.lookL r dep (Layout.look p dep s.1 s.2.1 s.2.2)
end
theorem Layout.look_eq (l : Layout) (dep c d : Int) (g : Bool) : l.look dep c d g = if (g || decide (c + 1 > 60) || decide (dep > 5) || decide ((l.parts.length : Int) > 12) || l.big1) = true then (c + 1, max d dep, true)
  else Layout.lookL l.parts (dep + 1) (c + 1, max d dep, false) := by cases l; rfl
theorem Layout.lookL_cnt {ps : List Layout} (h : ∀ p ∈ ps, ∀ dep c d g, c ≤ (p.look dep c d g).1 ∧ (p.look dep c d g).1 ≤ c + p.all.length) (dep : Int) : ∀ s : Int × Int × Bool, s.1 ≤ (Layout.lookL ps dep s).1 ∧ (Layout.lookL ps dep s).1 ≤ s.1 + (Layout.allL ps).length := by
 induction ps with
 | nil => intro s; simp [Layout.lookL, Layout.allL]
 | cons p r ih =>
  intro s
  have h1 := h p List.mem_cons_self dep s.1 s.2.1 s.2.2
  have h2 := ih (fun q hq => h q (List.mem_cons_of_mem _ hq)) (p.look dep s.1 s.2.1 s.2.2)
  simp only [Layout.lookL, Layout.allL, List.length_append]; omega
theorem Layout.look_cnt : ∀ (l : Layout) (dep c d : Int) (g : Bool), c ≤ (l.look dep c d g).1 ∧ (l.look dep c d g).1 ≤ c + l.all.length := by
 refine Layout.ind fun l ih dep c d g => ?_
 have := Layout.lookL_cnt ih (dep + 1) (c + 1, max d dep, false)
 rw [l.look_eq, l.all_eq, List.length_cons]
 split
 ·simp only []; omega
 ·simp only [] at this; omega
def partsS (l : Layout) : Bool :=
 if l.kind = 4 ∨ l.kind = 5 then (l.parts.length : Int) == 1 else if l.kind = 6 ∨ l.kind = 9 then true else if l.kind = 8 then decide ((l.parts.length : Int) ≥ 1) else (l.parts.length : Int) == 0
def greatS (k : Int) : Int := if k = 2 then 64 else if k = 5 then 1000 else if k = 7 then 65536 else 9223372036854775807
def bitty (p : Layout) : Bool := p.kind == 1 || p.kind == 2
def numS (l : Layout) : Bool :=
 if l.kind = 2 ∨ l.kind = 7 then decide (l.n ≥ 1) else if l.kind = 5 then decide (l.n ≥ 0) else if l.kind = 9 then l.parts.all bitty && l.n == 0 else l.n == 0
def Layout.isS (l : Layout) : Bool := decide (0 ≤ l.kind ∧ l.kind ≤ 9) && partsS l && !(l.flag && l.kind != 2) && numS l
def idxS (pred : Layout → Bool) : List Layout → Int → Int
 | [], _ => -1
 | p :: r, k => if pred p = true then k else idxS pred r (k + 1)
theorem idxS_any (pred : Layout → Bool) : ∀ (ps : List Layout) (k : Int), 0 ≤ k → decide (idxS pred ps k ≥ 0) = ps.any pred
 | [], k, hk => rfl
 | p :: r, k, hk => by
  rw [idxS, List.any_cons]
  cases hp : pred p
  ·rw [if_neg (by decide), Bool.false_or]; exact idxS_any pred r (k + 1) (by omega)
  ·rw [if_pos rfl, Bool.true_or]; simpa using hk
def Layout.right (l : Layout) : Bool := l.all.all Layout.isS
theorem allL_all (f : Layout → Bool) : ∀ ps : List Layout, (Layout.allL ps).all f = ps.all fun p => p.all.all f
 | [] => rfl
 | p :: r => by simp [Layout.allL, allL_all f r]
theorem Layout.right_eq (l : Layout) : l.right = (l.isS && l.parts.all Layout.right) := by
 unfold Layout.right
 rw [l.all_eq, List.all_cons, allL_all]
def pcS (l : Layout) : Int := if l.kind = 5 ∨ l.kind = 4 then 1 else if l.kind = 8 ∨ l.kind = 6 ∨ l.kind = 9 then l.parts.length else 0
def nbS (l : Layout) : Bool := if l.kind = 2 ∨ l.kind = 7 then decide (l.n ≥ 1) else if l.kind = 5 then decide (l.n ≥ 0) else if l.kind = 8 then l.n == 0 && decide ((l.parts.length : Int) ≥ 1) else l.n == 0
theorem isS_eq (l : Layout) (h : 0 ≤ l.kind ∧ l.kind ≤ 9) : l.isS = (nbS l && !((l.parts.length : Int) != pcS l) && !(l.flag && l.kind != 2) && !(l.kind == 9 && l.parts.any fun p => !bitty p)) := by
 have e : (l.parts.any fun p => !bitty p) = !l.parts.all bitty := by rw [List.not_all_eq_any_not]
 rw [e]
 unfold Layout.isS partsS numS nbS pcS
 have hk : l.kind = 0 ∨ l.kind = 1 ∨ l.kind = 2 ∨ l.kind = 3 ∨ l.kind = 4 ∨ l.kind = 5 ∨ l.kind = 6 ∨ l.kind = 7 ∨ l.kind = 8 ∨ l.kind = 9 := by omega
 generalize l.kind = kind at h hk ⊢
 generalize (l.parts.length : Int) = len
 generalize l.parts.all bitty = ab
 generalize l.flag = fl
 generalize l.n = n
 rw [Bool.eq_iff_iff]
 rcases hk with rfl | rfl | rfl | rfl | rfl | rfl | rfl | rfl | rfl | rfl <;> cases ab <;> cases fl <;> simp <;> omega
def Layout.big (l : Layout) : Bool := decide ((l.parts.length : Int) > 12) || l.big1
theorem look_true (l : Layout) (dep c d : Int) : (l.look dep c d true).2.2 = true := by rw [l.look_eq]; simp
theorem lookL_true : ∀ (ps : List Layout) (dep : Int) (s : Int × Int × Bool), s.2.2 = true → (Layout.lookL ps dep s).2.2 = true
 | [], dep, s, h => h
 | p :: r, dep, s, h => by
  rw [Layout.lookL]
  refine lookL_true r dep _ ?_
  rw [h]; exact look_true p dep _ _
def LookOk (l : Layout) : Prop := ∀ (dep c d : Int), 0 ≤ c →
 ((l.look dep c d false).2.2 = false ↔ c + l.all.length ≤ 60 ∧ dep - 1 + l.depth ≤ 5 ∧ l.all.any Layout.big = false) ∧
 ((l.look dep c d false).2.2 = false → (l.look dep c d false).1 = c + l.all.length ∧ (l.look dep c d false).2.1 = max d (dep - 1 + l.depth))
theorem lookL_ok : ∀ (ps : List Layout), (∀ p ∈ ps, LookOk p) → ∀ (dep : Int) (s : Int × Int × Bool), s.2.2 = false → 0 ≤ s.1 → s.1 ≤ 60 → dep - 1 ≤ 5 → dep - 1 ≤ s.2.1 →
  ((Layout.lookL ps dep s).2.2 = false ↔ s.1 + (Layout.allL ps).length ≤ 60 ∧ dep - 1 + Layout.depthL ps ≤ 5 ∧ (Layout.allL ps).any Layout.big = false) ∧
  ((Layout.lookL ps dep s).2.2 = false → (Layout.lookL ps dep s).1 = s.1 + (Layout.allL ps).length ∧ (Layout.lookL ps dep s).2.1 = max s.2.1 (dep - 1 + Layout.depthL ps))
 | [], _, dep, s, hg, h0, h1, h2, h3 => by
  simp only [Layout.lookL, Layout.allL, Layout.depthL, List.length_nil, List.any_nil]
  refine ⟨⟨fun _ => ⟨by omega, by omega, trivial⟩, fun _ => hg⟩, fun _ => ⟨by omega, by omega⟩⟩
 | p :: r, hp, dep, s, hg, h0, h1, h2, h3 => by
  have hl := hp p List.mem_cons_self dep s.1 s.2.1 h0
  simp only [Layout.lookL, Layout.allL, Layout.depthL, List.length_append, List.any_append, hg]
  cases hb : (p.look dep s.1 s.2.1 false).2.2 with
  | true =>
   have hne : ¬ (s.1 + (p.all.length : Int) ≤ 60 ∧ dep - 1 + (p.depth : Int) ≤ 5 ∧ p.all.any Layout.big = false) := fun h => by
    have := hl.1.2 h; rw [hb] at this; cases this
   rw [lookL_true r dep _ hb]
   refine ⟨⟨(fun h => by cases h), fun h => (hne ⟨by omega, by omega, ?_⟩).elim⟩, (fun h => by cases h)⟩
   have := h.2.2
   rw [Bool.or_eq_false_iff] at this
   exact this.1
  | false =>
   obtain ⟨a1, a2, a3⟩ := hl.1.1 hb
   obtain ⟨b1, b2⟩ := hl.2 hb
   have hr := lookL_ok r (fun q hq => hp q (List.mem_cons_of_mem _ hq)) dep (p.look dep s.1 s.2.1 false) hb (by omega) (by omega) h2 (by omega)
   rw [b1, b2] at hr
   refine ⟨⟨fun h => ?_, fun h => hr.1.2 ⟨by omega, by omega, ?_⟩⟩, fun h => ?_⟩
   ·obtain ⟨c1, c2, c3⟩ := hr.1.1 h
    exact ⟨by omega, by omega, by rw [a3, c3]; rfl⟩
   ·have := h.2.2
    rw [Bool.or_eq_false_iff] at this
    exact this.2
   ·obtain ⟨c1, c2⟩ := hr.2 h
    exact ⟨by omega, by omega⟩
theorem look_fine : ∀ l : Layout, LookOk l := by
 refine Layout.ind fun l ih dep c d hc => ?_
 rw [l.look_eq, l.all_eq, l.depth_eq, List.length_cons, List.any_cons]
 by_cases h : (false || decide (c + 1 > 60) || decide (dep > 5) || decide ((l.parts.length : Int) > 12) || l.big1) = true
 ·rw [if_pos h]
  refine ⟨⟨(fun h => by cases h), fun h' => ?_⟩, (fun h => by cases h)⟩
  obtain ⟨c1, c2, c3⟩ := h'
  rw [Bool.or_eq_false_iff] at c3
  have c4 := c3.1
  unfold Layout.big at c4
  rw [Bool.or_eq_false_iff] at c4
  simp only [Bool.false_or, Bool.or_eq_true, decide_eq_true_eq, c4.2] at h
  have c5 : ¬ ((l.parts.length : Int) > 12) := of_decide_eq_false c4.1
  rcases h with ((h | h) | h) | h
  ·omega
  ·omega
  ·omega
  ·cases h
 ·rw [if_neg h]
  simp only [Bool.false_or, Bool.or_eq_true, decide_eq_true_eq, not_or] at h
  obtain ⟨⟨⟨h1, h2⟩, h3⟩, h4⟩ := h
  have hbig : l.big = false := by unfold Layout.big; simp only [Bool.or_eq_false_iff, decide_eq_false_iff_not]; exact ⟨h3, by simpa using h4⟩
  have := lookL_ok l.parts ih (dep + 1) (c + 1, max d dep, false) rfl (by simp only []; omega) (by simp only []; omega) (by omega) (by simp only []; omega)
  simp only [] at this
  rw [hbig, Bool.false_or]
  refine ⟨⟨fun h => ?_, fun h => this.1.2 ⟨by omega, by omega, h.2.2⟩⟩, fun h => ?_⟩
  ·obtain ⟨c1, c2, c3⟩ := this.1.1 h
   exact ⟨by omega, by omega, c3⟩
  ·obtain ⟨c1, c2⟩ := this.2 h
   exact ⟨by omega, by omega⟩
def Layout.large (l : Layout) : Bool := decide (l.all.length > 60) || decide (l.depth > 5) || l.all.any Layout.big
def valS (l : Layout) : Int := if (l.large || decide (l.cells > 4096)) = true then 3 else if l.right = true then 0 else 1
theorem look_large (l : Layout) : (l.look 1 0 0 false).2.2 = l.large := by
 have := (look_fine l 1 0 0 (by omega)).1
 cases hb : (l.look 1 0 0 false).2.2 with
 | false =>
  obtain ⟨a1, a2, a3⟩ := this.1 hb
  unfold Layout.large
  rw [a3, decide_eq_false (by omega), decide_eq_false (by omega)]; rfl
 | true =>
  cases hl : l.large with
  | true => rfl
  | false =>
   unfold Layout.large at hl
   simp only [Bool.or_eq_false_iff, decide_eq_false_iff_not] at hl
   have := this.2 ⟨by omega, by omega, hl.2⟩
   rw [hb] at this; cases this
theorem arr_of_large {l : Layout} (h : l.large = false) : l.arr := by
 unfold Layout.large at h
 simp only [Bool.or_eq_false_iff] at h
 intro q hq hk
 have h1 := List.any_eq_false.1 h.2 q hq
 unfold Layout.big Layout.big1 at h1
 simp [hk] at h1
 omega
def bigR (p : Layout) : Bool := decide ((p.parts.length : Int) > 12) || decide (p.n > greatS p.kind) || (p.kind == 9 && decide (satBits p.parts > 64))
theorem bigR_eq (p : Layout) (hp : p.fit) : bigR p = p.big := by
 unfold bigR Layout.big
 rw [Bool.or_assoc]
 congr 1
 unfold Layout.big1 greatS
 have h1 := hp.2.1.2
 have h2 := satBits_eq p.parts
 have h3 : far = 1099511627776 := rfl
 have h4 := sumBits_nonneg p.parts
 by_cases k2 : p.kind = 2
 ·simp [k2]
 by_cases k5 : p.kind = 5
 ·simp [k5]
 by_cases k7 : p.kind = 7
 ·simp [k7]
 by_cases k9 : p.kind = 9
 ·simp [k9]
  rw [Bool.eq_iff_iff]; simp; omega
 ·rw [beq_eq_false_iff_ne.2 k2, beq_eq_false_iff_ne.2 k5, beq_eq_false_iff_ne.2 k7, beq_eq_false_iff_ne.2 k9]
  simp [k2, k5, k7]; omega
theorem Layout.all_all : ∀ l q : Layout, q ∈ l.all → ∀ r ∈ q.all, r ∈ l.all := by
 refine Layout.ind fun l ih q hq r hr => ?_
 rw [l.all_eq] at hq ⊢
 rcases List.mem_cons.1 hq with rfl | hq
 ·rw [q.all_eq] at hr; exact hr
 ·refine List.mem_cons_of_mem _ ?_
  have : ∀ ps : List Layout, (∀ p ∈ ps, ∀ q ∈ p.all, ∀ r ∈ q.all, r ∈ p.all) → q ∈ Layout.allL ps → r ∈ Layout.allL ps := by
   intro ps
   induction ps with
   | nil => intro _ h; simp [Layout.allL] at h
   | cons p rr ih2 =>
    intro hp h
    rw [Layout.allL, List.mem_append] at h ⊢
    rcases h with h | h
    ·exact .inl (hp p List.mem_cons_self q h r hr)
    ·exact .inr (ih2 (fun p' hp' => hp p' (List.mem_cons_of_mem _ hp')) h)
  exact this l.parts ih hq
theorem Layout.Fits.mem {l q : Layout} (hl : l.Fits) (hq : q ∈ l.all) : q.Fits := fun r hr => hl r (Layout.all_all l q hq r hr)
def standF (s : List Int × Int × Int) (q : Int × Int) : List Int × Int × Int := (s.1 ++ [upS s.2.1 q.2], upS s.2.1 q.2 + q.1, max s.2.2 q.2)
def standS (qs : List (Int × Int)) : List Int × Int × Int :=
 ((qs.foldl standF ([], 0, 1)).1, upS (qs.foldl standF ([], 0, 1)).2.1 (qs.foldl standF ([], 0, 1)).2.2, (qs.foldl standF ([], 0, 1)).2.2)
def unionF (o p : Int × Int) : Int × Int := (max o.1 p.1, max o.2 p.2)
def unionS (qs : List (Int × Int)) : Int × Int := qs.foldl unionF (0, 1)
def ofS (w k n : Int) (ps : List Layout) (qs : List (Int × Int)) : Int × Int :=
 if k = 0 then (0, 1) else if k = 1 then (1, 1) else if k = 2 then (max 1 (wholeS n), min (max 1 (wholeS n)) w) else if k = 3 then (w, w)
 else if k = 4 then (upS ((qs.headD (0, 1)).1 + 1) (qs.headD (0, 1)).2, (qs.headD (0, 1)).2)
 else if k = 5 then (n * (qs.headD (0, 1)).1, (qs.headD (0, 1)).2)
 else if k = 6 then (standS qs).2
 else if k = 7 then (if n ≤ 256 then (1, 1) else (2, min 2 w))
 else if k = 8 then (upS ((unionS qs).1 + 1) (unionS qs).2, (unionS qs).2)
 else (wholeS (sumBits ps), max 1 (min (wholeS (sumBits ps)) w))
mutual
def Layout.of (w : Int) : Layout → Int × Int
 | .mk k n _ ps => ofS w k n ps (Layout.ofL w ps)
def Layout.ofL (w : Int) : List Layout → List (Int × Int)
 | [] => []
 | p :: r => Layout.of w p :: Layout.ofL w r
end
structure Layout.Val (w : Int) (l : Layout) : Prop where
 fits : l.Fits
 right : l.right = true
 big : l.all.any Layout.big = false
 size : ∀ q ∈ l.all, (q.of w).1 ≤ 100000000000
structure Layout.Fine (l : Layout) : Prop where
 fits : l.Fits
 count : l.all.length ≤ 10000
 deep : l.depth ≤ 10000
def overS (l : Layout) : Bool := decide (depthS 30 l > 20) || decide (l.count 600 > 500)
theorem depth_le_all : ∀ l : Layout, l.depth ≤ l.all.length := by
 refine Layout.ind fun l ih => ?_
 rw [l.depth_eq, l.all_eq, List.length_cons]
 have : ∀ ps : List Layout, (∀ p ∈ ps, p.depth ≤ p.all.length) → Layout.depthL ps ≤ (Layout.allL ps).length := by
  intro ps
  induction ps with
  | nil => intro _; simp [Layout.depthL]
  | cons p r ih2 =>
   intro h
   have h1 := h p List.mem_cons_self
   have h2 := ih2 fun q hq => h q (List.mem_cons_of_mem _ hq)
   simp only [Layout.depthL, Layout.allL, List.length_append]; omega
 have := this l.parts ih
 omega
theorem fine_of {l : Layout} (hl : l.Fits) (h : overS l = false) : l.Fine := by
 unfold overS at h
 simp only [Bool.or_eq_false_iff, decide_eq_false_iff_not] at h
 have h1 := l.count_full 600 (by omega)
 have h2 := depth_le_all l
 exact ⟨hl, by omega, by omega⟩
end Go.Proofs.YtogoamfegaebgaaGreatDoor
end
section
namespace Go.Proofs.YtogoamfegaebgaaGreatDoor
open Go.Lib (decDigits)
set_option maxRecDepth 20000
def isDig (c : UInt8) : Bool := decide (48 ≤ c.toNat) && decide (c.toNat ≤ 57)
def valD (l : List UInt8) : Nat := l.foldl (fun n c => 10 * n + (c.toNat - 48)) 0
def noDig (r : List UInt8) : Prop := ∀ c t, r = c :: t → isDig c = false
theorem valD_snoc (l : List UInt8) (c : UInt8) : valD (l ++ [c]) = 10 * valD l + (c.toNat - 48) := by simp [valD, List.foldl_append]
theorem dec_small {n : Nat} (h : n < 10) : decDigits n = [UInt8.ofNat (48 + n)] := by rw [decDigits, dif_pos h]
theorem dec_big {n : Nat} (h : ¬ n < 10) : decDigits n = decDigits (n / 10) ++ [UInt8.ofNat (48 + n % 10)] := by rw [decDigits, dif_neg h]
theorem ofNat_dig {k : Nat} (h : k < 10) : (UInt8.ofNat (48 + k)).toNat = 48 + k := by
 rw [UInt8.toNat_ofNat']; omega
theorem dec_dig : ∀ n : Nat, ∀ c ∈ decDigits n, isDig c = true := by
 intro n
 induction n using Nat.strongRecOn with
 | ind n ih =>
  intro c hc
  have key : ∀ k, k < 10 → isDig (UInt8.ofNat (48 + k)) = true := fun k hk => by
   unfold isDig
   rw [ofNat_dig hk, decide_eq_true (by omega), decide_eq_true (by omega)]; rfl
  by_cases h : n < 10
  ·rw [dec_small h, List.mem_singleton] at hc
   subst hc; exact key n h
  ·rw [dec_big h, List.mem_append, List.mem_singleton] at hc
   rcases hc with hc | rfl
   ·exact ih (n / 10) (by omega) c hc
   ·exact key _ (by omega)
theorem dec_val : ∀ n : Nat, valD (decDigits n) = n := by
 intro n
 induction n using Nat.strongRecOn with
 | ind n ih =>
  by_cases h : n < 10
  ·rw [dec_small h]
   show 10 * 0 + ((UInt8.ofNat (48 + n)).toNat - 48) = n
   rw [ofNat_dig h]; omega
  ·rw [dec_big h, valD_snoc, ih (n / 10) (by omega), ofNat_dig (by omega)]; omega
theorem dec_ne (n : Nat) : decDigits n ≠ [] := by
 by_cases h : n < 10
 ·rw [dec_small h]; simp
 ·rw [dec_big h]; simp
theorem dec_len : ∀ (k n : Nat), (decDigits n).length ≤ k + 1 ↔ n < 10 ^ (k + 1)
 | 0, n => by
  have e : (10 : Nat) ^ (0 + 1) = 10 := by decide
  rw [e]
  by_cases h : n < 10
  ·rw [dec_small h]
   exact ⟨fun _ => h, fun _ => Nat.le_refl _⟩
  ·rw [dec_big h, List.length_append, List.length_singleton]
   have := List.length_pos_iff.2 (dec_ne (n / 10))
   exact ⟨fun h' => by omega, fun h' => by omega⟩
 | k + 1, n => by
  by_cases h : n < 10
  ·rw [dec_small h]
   have : 10 ^ 1 ≤ 10 ^ (k + 1 + 1) := Nat.pow_le_pow_right (by omega) (by omega)
   simp only [List.length_singleton]; omega
  ·rw [dec_big h, List.length_append, List.length_singleton]
   have h1 := dec_len k (n / 10)
   rw [Nat.div_lt_iff_lt_mul (by omega), ← Nat.pow_succ] at h1
   omega
theorem tw_app : ∀ {d r : List UInt8}, (∀ c ∈ d, isDig c = true) → noDig r → (d ++ r).takeWhile isDig = d ∧ (d ++ r).dropWhile isDig = r
 | [], [], _, _ => ⟨rfl, rfl⟩
 | [], c :: t, _, hr => by
  have := hr c t rfl
  simp [List.takeWhile_cons, List.dropWhile_cons, this]
 | c :: d, r, hd, hr => by
  have h1 := hd c List.mem_cons_self
  obtain ⟨h2, h3⟩ := tw_app (fun x hx => hd x (List.mem_cons_of_mem _ hx)) hr (d := d)
  simp [List.takeWhile_cons, List.dropWhile_cons, h1, h2, h3]
theorem noDig_drop : ∀ s : List UInt8, noDig (s.dropWhile isDig)
 | [] => fun c t h => by simp at h
 | c :: s => by
  by_cases h : isDig c = true
  ·rw [List.dropWhile_cons, if_pos h]; exact noDig_drop s
  ·rw [List.dropWhile_cons, if_neg h]
   intro c' t' e
   cases e
   simpa using h
theorem tw_dig : ∀ (s : List UInt8), ∀ c ∈ s.takeWhile isDig, isDig c = true
 | [], c, h => by simp at h
 | a :: s, c, h => by
  by_cases ha : isDig a = true
  ·rw [List.takeWhile_cons, if_pos ha] at h
   rcases List.mem_cons.1 h with rfl | h
   ·exact ha
   ·exact tw_dig s c h
  ·rw [List.takeWhile_cons, if_neg ha] at h; simp at h
theorem dw_drop (s : List UInt8) : s.dropWhile isDig = s.drop (s.takeWhile isDig).length := by
 conv => rhs; rw [← List.takeWhile_append_dropWhile (p := isDig) (l := s)]
 rw [List.takeWhile_append_dropWhile, ]
 conv => rhs; arg 2; rw [← List.takeWhile_append_dropWhile (p := isDig) (l := s)]
 exact List.drop_left.symm
def num (s : List UInt8) : Option (Nat × List UInt8) :=
 if decDigits (valD (s.takeWhile isDig)) = s.takeWhile isDig ∧ valD (s.takeWhile isDig) < 9223372036854775808 then some (valD (s.takeWhile isDig), s.dropWhile isDig) else none
def num6 (s : List UInt8) : Option (Nat × List UInt8) :=
 if decDigits (valD ((s.takeWhile isDig).take 6)) = (s.takeWhile isDig).take 6 then some (valD ((s.takeWhile isDig).take 6), s.drop ((s.takeWhile isDig).take 6).length) else none
theorem num_dec {n : Nat} {r : List UInt8} (hn : n < 9223372036854775808) (hr : noDig r) : num (decDigits n ++ r) = some (n, r) := by
 obtain ⟨h1, h2⟩ := tw_app (dec_dig n) hr
 unfold num
 rw [h1, h2, dec_val, if_pos ⟨rfl, hn⟩]
theorem num_eq {s : List UInt8} {n : Nat} {r : List UInt8} (h : num s = some (n, r)) : s = decDigits n ++ r ∧ noDig r ∧ n < 9223372036854775808 ∧ decDigits n = s.takeWhile isDig := by
 unfold num at h
 split at h
 ·rename_i hc
  simp only [Option.some.injEq, Prod.mk.injEq] at h
  obtain ⟨rfl, rfl⟩ := h
  refine ⟨?_, noDig_drop s, hc.2, hc.1⟩
  rw [hc.1, List.takeWhile_append_dropWhile]
 ·cases h
theorem num6_of {s : List UInt8} {n : Nat} {r : List UInt8} (h : num s = some (n, r)) (hn : n < 1000000) : num6 s = some (n, r) := by
 obtain ⟨h1, h2, h3, h4⟩ := num_eq h
 have hl : (s.takeWhile isDig).length ≤ 6 := by rw [← h4]; exact (dec_len 5 n).2 hn
 unfold num6
 rw [List.take_of_length_le hl, ← dw_drop]
 unfold num at h
 split at h
 ·rename_i hc
  rw [if_pos hc.1]; exact h
 ·cases h
theorem num_of6 {s : List UInt8} {n : Nat} {r : List UInt8} (h : num6 s = some (n, r)) (hr : noDig r) : num s = some (n, r) ∧ n < 1000000 := by
 unfold num6 at h
 split at h
 ·rename_i hc
  simp only [Option.some.injEq, Prod.mk.injEq] at h
  obtain ⟨rfl, rfl⟩ := h
  have hs := List.takeWhile_append_dropWhile (p := isDig) (l := s)
  have hl : (s.takeWhile isDig).length ≤ 6 := by
   apply Nat.le_of_not_lt
   intro hlt
   have h6 : ((s.takeWhile isDig).take 6).length = 6 := by rw [List.length_take]; omega
   rw [h6] at hr
   have e : s.drop 6 = (s.takeWhile isDig).drop 6 ++ s.dropWhile isDig := by
    conv => lhs; rw [← hs]
    rw [List.drop_append_of_le_length (by omega)]
   obtain ⟨c, t, ht⟩ : ∃ c t, (s.takeWhile isDig).drop 6 = c :: t := by
    cases hq : (s.takeWhile isDig).drop 6 with
    | nil => have := congrArg List.length hq; rw [List.length_drop, List.length_nil] at this; omega
    | cons c t => exact ⟨c, t, rfl⟩
   have h1 := hr c (t ++ s.dropWhile isDig) (by rw [e, ht]; rfl)
   have h2 := tw_dig s c (List.mem_of_mem_drop (i := 6) (by rw [ht]; exact List.mem_cons_self))
   rw [h1] at h2; cases h2
  rw [List.take_of_length_le hl] at hc ⊢
  have hn : valD (s.takeWhile isDig) < 1000000 := (dec_len 5 _).1 (by rw [hc]; exact hl)
  refine ⟨?_, hn⟩
  unfold num
  rw [if_pos ⟨hc, by omega⟩, dw_drop]
 ·cases h
def strip : List UInt8 → List UInt8 → Option (List UInt8)
 | [], s => some s
 | p :: ps, c :: s => if p = c then strip ps s else none
 | _ :: _, [] => none
theorem strip_some : ∀ {p s r : List UInt8}, strip p s = some r ↔ s = p ++ r
 | [], s, r => by simp [strip]
 | p :: ps, [], r => by simp [strip]
 | p :: ps, c :: s, r => by
  rw [strip]
  by_cases h : p = c
  ·subst h
   rw [if_pos rfl, strip_some]; simp
  ·rw [if_neg h]
   constructor
   ·intro h; cases h
   ·intro e; simp at e; exact (h e.1.symm).elim
theorem strip_app (p r : List UInt8) : strip p (p ++ r) = some r := strip_some.2 rfl
abbrev wVoid : List UInt8 := [118, 111, 105, 100]
abbrev wBool : List UInt8 := [98, 111, 111, 108]
abbrev wWord : List UInt8 := [119, 111, 114, 100]
abbrev wEnum : List UInt8 := [101, 110, 117, 109, 40]
abbrev wStruct : List UInt8 := [115, 116, 114, 117, 99, 116, 40]
abbrev wUnion : List UInt8 := [117, 110, 105, 111, 110, 40]
abbrev wPacked : List UInt8 := [112, 97, 99, 107, 101, 100, 40]
mutual
def Layout.spell : Layout → List UInt8
 | .mk k n f ps =>
  if k = 0 then wVoid else if k = 1 then wBool else if k = 3 then wWord
  else if k = 2 then (if f = true then 105 else 117) :: decDigits n.toNat
  else if k = 4 then 63 :: Layout.spellH ps
  else if k = 5 then 91 :: (decDigits n.toNat ++ 93 :: Layout.spellH ps)
  else if k = 7 then wEnum ++ (decDigits n.toNat ++ [41])
  else if k = 6 then wStruct ++ (Layout.spellL ps ++ [41])
  else if k = 8 then wUnion ++ (Layout.spellL ps ++ [41])
  else wPacked ++ (Layout.spellL ps ++ [41])
def Layout.spellH : List Layout → List UInt8
 | [] => []
 | p :: _ => Layout.spell p
def Layout.spellL : List Layout → List UInt8
 | [] => []
 | p :: r => Layout.spell p ++ Layout.spellR r
def Layout.spellR : List Layout → List UInt8
 | [] => []
 | p :: r => 44 :: (Layout.spell p ++ Layout.spellR r)
end
theorem spell_head (l : Layout) : ∃ c t, l.spell = c :: t ∧ c ≠ 41 := by
 obtain ⟨k, n, f, ps⟩ := l
 rw [Layout.spell]
 split
 ·exact ⟨_, _, rfl, by decide⟩
 split
 ·exact ⟨_, _, rfl, by decide⟩
 split
 ·exact ⟨_, _, rfl, by decide⟩
 split
 ·refine ⟨_, _, rfl, ?_⟩
  split <;> decide
 split
 ·exact ⟨_, _, rfl, by decide⟩
 split
 ·exact ⟨_, _, rfl, by decide⟩
 split
 ·exact ⟨_, _, rfl, by decide⟩
 split
 ·exact ⟨_, _, rfl, by decide⟩
 split
 ·exact ⟨_, _, rfl, by decide⟩
 ·exact ⟨_, _, rfl, by decide⟩
def partsP (f : List UInt8 → Option (Layout × List UInt8)) : Nat → List UInt8 → Option (List Layout × List UInt8)
 | 0, _ => none
 | m + 1, s => (f s).bind fun q =>
  match strip [41] q.2 with
  | some r => some ([q.1], r)
  | none => (strip [44] q.2).bind fun r => (partsP f m r).map fun y => (q.1 :: y.1, y.2)
def listP (f : List UInt8 → Option (Layout × List UInt8)) (m : Nat) (s : List UInt8) : Option (List Layout × List UInt8) :=
 match strip [41] s with
 | some r => some ([], r)
 | none => partsP f m s
def plP (nm : List UInt8 → Option (Nat × List UInt8)) (m : Nat) : Nat → List UInt8 → Option (Layout × List UInt8)
 | 0, _ => none
 | d + 1, s =>
  match strip wVoid s with
  | some r => some (.mk 0 0 false [], r)
  | none =>
  match strip wBool s with
  | some r => some (.mk 1 0 false [], r)
  | none =>
  match strip wWord s with
  | some r => some (.mk 3 0 false [], r)
  | none =>
  match strip [63] s with
  | some r => (plP nm m d r).map fun q => (.mk 4 0 false [q.1], q.2)
  | none =>
  match strip [91] s with
  | some r => (nm r).bind fun a => (strip [93] a.2).bind fun r' => (plP nm m d r').map fun q => (.mk 5 a.1 false [q.1], q.2)
  | none =>
  match strip wEnum s with
  | some r => (nm r).bind fun a => (strip [41] a.2).map fun r' => (.mk 7 a.1 false [], r')
  | none =>
  match strip wStruct s with
  | some r => (listP (plP nm m d) m r).map fun q => (.mk 6 0 false q.1, q.2)
  | none =>
  match strip wUnion s with
  | some r => (listP (plP nm m d) m r).map fun q => (.mk 8 0 false q.1, q.2)
  | none =>
  match strip wPacked s with
  | some r => (listP (plP nm m d) m r).map fun q => (.mk 9 0 false q.1, q.2)
  | none =>
  match strip [117] s with
  | some r => (nm r).map fun a => (.mk 2 a.1 false [], a.2)
  | none =>
  match strip [105] s with
  | some r => (nm r).map fun a => (.mk 2 a.1 true [], a.2)
  | none => none
end Go.Proofs.YtogoamfegaebgaaGreatDoor
end
section
namespace Go.Proofs.YtogoamfegaebgaaGreatDoor
open Go.Lib (decDigits)
set_option maxRecDepth 20000
theorem noDig_cons {c : UInt8} {t : List UInt8} (h : isDig c = false) : noDig (c :: t) := fun c' t' e => by cases e; exact h
def Layout.Good (l : Layout) : Prop := ∀ q ∈ l.all, q.isS = true ∧ q.big = false
theorem Layout.Good.part {l p : Layout} (h : l.Good) (hp : p ∈ l.parts) : p.Good := fun q hq => h q (by rw [l.all_eq]; exact List.mem_cons_of_mem _ (Layout.allL_mem hp hq))
theorem Layout.Good.self {l : Layout} (h : l.Good) : l.isS = true ∧ l.big = false := h l (by rw [l.all_eq]; exact List.mem_cons_self)
theorem big_n {k n : Int} {f : Bool} {ps : List Layout} (h : (Layout.mk k n f ps).big = false) : ps.length ≤ 12 ∧ (k = 2 → n ≤ 64) ∧ (k = 5 → n ≤ 1000) ∧ (k = 7 → n ≤ 65536) := by
 simp only [Layout.big, Layout.big1, Bool.or_eq_false_iff, Bool.and_eq_false_iff, decide_eq_false_iff_not, beq_eq_false_iff_ne, ne_eq] at h
 omega
theorem isS_cases {k n : Int} {f : Bool} {ps : List Layout} (h : (Layout.mk k n f ps).isS = true) :
  (k = 0 ∧ n = 0 ∧ f = false ∧ ps = []) ∨ (k = 1 ∧ n = 0 ∧ f = false ∧ ps = []) ∨ (k = 3 ∧ n = 0 ∧ f = false ∧ ps = []) ∨ (k = 2 ∧ 1 ≤ n ∧ ps = []) ∨
  (k = 4 ∧ n = 0 ∧ f = false ∧ ∃ p, ps = [p]) ∨ (k = 5 ∧ 0 ≤ n ∧ f = false ∧ ∃ p, ps = [p]) ∨ (k = 7 ∧ 1 ≤ n ∧ f = false ∧ ps = []) ∨
  (k = 6 ∧ n = 0 ∧ f = false) ∨ (k = 8 ∧ n = 0 ∧ f = false) ∨ (k = 9 ∧ n = 0 ∧ f = false) := by
 have one : ∀ {ps : List Layout}, (ps.length : Int) = 1 → ∃ p, ps = [p] := by
  intro ps h
  match ps, h with
  | [p], _ => exact ⟨p, rfl⟩
  | [], h => simp at h
  | _ :: _ :: _, h => simp only [List.length_cons] at h; omega
 have none' : ∀ {ps : List Layout}, (ps.length : Int) = 0 → ps = [] := by
  intro ps h
  match ps, h with
  | [], _ => rfl
  | _ :: _, h => simp only [List.length_cons] at h; omega
 unfold Layout.isS at h
 simp only [Bool.and_eq_true, decide_eq_true_eq, Bool.not_eq_true', Bool.and_eq_false_iff] at h
 obtain ⟨⟨⟨⟨h0, h9⟩, hp⟩, hf⟩, hn⟩ := h
 have hk : k = 0 ∨ k = 1 ∨ k = 2 ∨ k = 3 ∨ k = 4 ∨ k = 5 ∨ k = 6 ∨ k = 7 ∨ k = 8 ∨ k = 9 := by omega
 rcases hk with rfl | rfl | rfl | rfl | rfl | rfl | rfl | rfl | rfl | rfl <;> simp [partsS, numS] at hp hf hn
 ·exact .inl ⟨rfl, hn, hf, hp⟩
 ·exact .inr (.inl ⟨rfl, hn, hf, hp⟩)
 ·exact .inr (.inr (.inr (.inl ⟨rfl, hn, hp⟩)))
 ·exact .inr (.inr (.inl ⟨rfl, hn, hf, hp⟩))
 ·exact .inr (.inr (.inr (.inr (.inl ⟨rfl, hn, hf, one (by omega)⟩))))
 ·exact .inr (.inr (.inr (.inr (.inr (.inl ⟨rfl, hn, hf, one (by omega)⟩)))))
 ·exact .inr (.inr (.inr (.inr (.inr (.inr (.inr (.inl ⟨rfl, hn, hf⟩)))))))
 ·exact .inr (.inr (.inr (.inr (.inr (.inr (.inl ⟨rfl, hn, hf, hp⟩))))))
 ·exact .inr (.inr (.inr (.inr (.inr (.inr (.inr (.inr (.inl ⟨rfl, hn, hf⟩))))))))
 ·exact .inr (.inr (.inr (.inr (.inr (.inr (.inr (.inr (.inr ⟨rfl, hn.2, hf⟩))))))))
theorem dec_strip (n : Nat) (r : List UInt8) (c : UInt8) (p : List UInt8) (hc : isDig c = false) : strip (c :: p) (decDigits n ++ r) = none := by
 cases h : decDigits n with
 | nil => exact (dec_ne n h).elim
 | cons a t =>
  have ha := dec_dig n a (by rw [h]; exact List.mem_cons_self)
  rw [List.cons_append, strip, if_neg]
  intro e
  rw [e, ha] at hc; cases hc
theorem parts_spell {f : List UInt8 → Option (Layout × List UInt8)} : ∀ (ps : List Layout) (m : Nat) (r : List UInt8), ps ≠ [] → ps.length ≤ m →
  (∀ p ∈ ps, ∀ r, noDig r → f (p.spell ++ r) = some (p, r)) → partsP f m (Layout.spellL ps ++ 41 :: r) = some (ps, r)
 | [], m, r, h, _, _ => (h rfl).elim
 | p :: t, 0, r, _, h, _ => by simp at h
 | [p], m + 1, r, _, _, hf => by
  have h1 := hf p List.mem_cons_self (41 :: r) (noDig_cons (by decide))
  rw [partsP, Layout.spellL, Layout.spellR, List.append_nil, h1]
  rfl
 | p :: q :: t, m + 1, r, _, hm, hf => by
  have h1 := hf p List.mem_cons_self (44 :: (Layout.spellL (q :: t) ++ 41 :: r)) (noDig_cons (by decide))
  have h2 := parts_spell (q :: t) m r (by simp) (by simp only [List.length_cons] at hm ⊢; omega) (fun x hx => hf x (List.mem_cons_of_mem _ hx))
  have e : Layout.spellL (p :: q :: t) ++ 41 :: r = p.spell ++ 44 :: (Layout.spellL (q :: t) ++ 41 :: r) := by
   simp [Layout.spellL, Layout.spellR]
  rw [partsP, e, h1]
  show ((strip [44] (44 :: (Layout.spellL (q :: t) ++ 41 :: r))).bind fun r => (partsP f m r).map fun y => (p :: y.1, y.2)) = _
  rw [show strip [44] (44 :: (Layout.spellL (q :: t) ++ 41 :: r)) = some (Layout.spellL (q :: t) ++ 41 :: r) from strip_app [44] _]
  simp only [Option.bind_some, h2, Option.map_some]
theorem list_spell {f : List UInt8 → Option (Layout × List UInt8)} (ps : List Layout) (m : Nat) (r : List UInt8) (hm : ps.length ≤ m)
  (hf : ∀ p ∈ ps, ∀ r, noDig r → f (p.spell ++ r) = some (p, r)) : listP f m (Layout.spellL ps ++ 41 :: r) = some (ps, r) := by
 unfold listP
 match ps, hm, hf with
 | [], _, _ => rfl
 | p :: t, hm, hf =>
  obtain ⟨c, u, e, hc⟩ := spell_head p
  have h1 : strip [41] (Layout.spellL (p :: t) ++ 41 :: r) = none := by
   rw [Layout.spellL, e]
   simp [strip, Ne.symm hc]
  rw [h1]
  exact parts_spell (p :: t) m r (by simp) hm hf
theorem pl_spell (M : Nat) (hM : 12 ≤ M) : ∀ (d : Nat) (l : Layout), l.depth ≤ d → l.Good → ∀ r, noDig r → plP num M d (l.spell ++ r) = some (l, r)
 | 0, l, h, _, _, _ => by rw [l.depth_eq] at h; omega
 | d + 1, .mk k n f ps, hd, hg, r, hr => by
  rw [Layout.depth_eq] at hd
  have ih : ∀ p ∈ ps, ∀ r, noDig r → plP num M d (p.spell ++ r) = some (p, r) := fun p hp r hr =>
   pl_spell M hM d p (by have := Layout.depthL_mem hp; simp only at hd; omega) (hg.part hp) r hr
  have hb := big_n hg.self.2
  have hn9 : k = 2 ∨ k = 5 ∨ k = 7 → n.toNat < 9223372036854775808 := by omega
  rw [plP, Layout.spell]
  rcases isS_cases hg.self.1 with ⟨rfl, rfl, rfl, rfl⟩ | ⟨rfl, rfl, rfl, rfl⟩ | ⟨rfl, rfl, rfl, rfl⟩ | ⟨rfl, h1, rfl⟩ | ⟨rfl, rfl, rfl, p, rfl⟩ | ⟨rfl, h1, rfl, p, rfl⟩ | ⟨rfl, h1, rfl, rfl⟩ | ⟨rfl, rfl, rfl⟩ | ⟨rfl, rfl, rfl⟩ | ⟨rfl, rfl, rfl⟩
  ·rfl
  ·rfl
  ·rfl
  ·have h2 := num_dec (n := n.toNat) (hn9 (by omega)) hr
   have h3 : (n.toNat : Int) = n := by omega
   have h4 := dec_strip n.toNat r 110 [105, 111, 110, 40] (by decide)
   cases f <;> simp [strip, h2, h3, h4]
  ·have h2 := ih p List.mem_cons_self r hr
   simp [strip, Layout.spellH, h2]
  ·have h2 := ih p List.mem_cons_self r hr
   have h3 := num_dec (n := n.toNat) (r := 93 :: (p.spell ++ r)) (hn9 (by omega)) (noDig_cons (by decide))
   have h4 : (n.toNat : Int) = n := by omega
   simp [strip, Layout.spellH, h2, h3, h4]
  ·have h3 := num_dec (n := n.toNat) (r := 41 :: r) (hn9 (by omega)) (noDig_cons (by decide))
   have h4 : (n.toNat : Int) = n := by omega
   simp [strip, h3, h4]
  ·have h2 := list_spell ps M r (by omega) ih
   simp [strip, h2]
  ·have h2 := list_spell ps M r (by omega) ih
   simp [strip, h2]
  ·have h2 := list_spell ps M r (by omega) ih
   simp [strip, h2]
structure Out (d : Nat) (s : List UInt8) (l : Layout) (r : List UInt8) : Prop where
 txt : s = l.spell ++ r
 dep : l.depth ≤ d
 len : l.all.length + r.length ≤ s.length
 fit : ∀ q ∈ l.all, (0 ≤ q.kind ∧ q.kind ≤ 9) ∧ 0 ≤ q.n ∧ q.n < 9223372036854775808
theorem parts_out {f : List UInt8 → Option (Layout × List UInt8)} {d : Nat} (hf : ∀ s l r, f s = some (l, r) → Out d s l r) : ∀ (m : Nat) (s : List UInt8) (ps : List Layout) (r : List UInt8),
  partsP f m s = some (ps, r) → s = Layout.spellL ps ++ 41 :: r ∧ Layout.depthL ps ≤ d ∧ (Layout.allL ps).length + r.length ≤ s.length ∧ ∀ q ∈ Layout.allL ps, (0 ≤ q.kind ∧ q.kind ≤ 9) ∧ 0 ≤ q.n ∧ q.n < 9223372036854775808
 | 0, s, ps, r, h => by simp [partsP] at h
 | m + 1, s, ps, r, h => by
  rw [partsP] at h
  cases hs : f s with
  | none => rw [hs] at h; cases h
  | some q =>
   obtain ⟨p, r1⟩ := q
   rw [hs] at h
   simp only [Option.bind_some] at h
   obtain ⟨o1, o2, o3, o4⟩ := hf s p r1 hs
   cases h41 : strip [41] r1 with
   | some r2 =>
    rw [h41] at h
    simp only [Option.some.injEq, Prod.mk.injEq] at h
    obtain ⟨rfl, rfl⟩ := h
    have e := strip_some.1 h41
    subst e
    refine ⟨?_, ?_, ?_, ?_⟩
    ·rw [o1]; simp [Layout.spellL, Layout.spellR]
    ·simp only [Layout.depthL]; omega
    ·simp only [Layout.allL, List.length_append, List.length_nil, List.length_cons] at o3 ⊢; omega
    ·intro q hq
     simp only [Layout.allL, List.append_nil] at hq
     exact o4 q hq
   | none =>
    rw [h41] at h
    simp only at h
    cases h44 : strip [44] r1 with
    | none => rw [h44] at h; cases h
    | some r2 =>
     rw [h44] at h
     simp only [Option.bind_some] at h
     have e := strip_some.1 h44
     subst e
     cases hp : partsP f m r2 with
     | none => rw [hp] at h; cases h
     | some y =>
      obtain ⟨ps', r3⟩ := y
      rw [hp] at h
      simp only [Option.map_some, Option.some.injEq, Prod.mk.injEq] at h
      obtain ⟨rfl, rfl⟩ := h
      obtain ⟨i1, i2, i3, i4⟩ := parts_out hf m r2 ps' r3 hp
      refine ⟨?_, ?_, ?_, ?_⟩
      ·rw [o1, i1]
       cases ps' with
       | nil =>
        cases m with
        | zero => simp [partsP] at hp
        | succ m =>
         rw [partsP] at hp
         cases hq : f r2 with
         | none => rw [hq] at hp; cases hp
         | some z =>
          rw [hq] at hp
          simp only [Option.bind_some] at hp
          split at hp
          ·simp at hp
          ·cases hz : strip [44] z.2 with
           | none => rw [hz] at hp; cases hp
           | some r5 =>
            rw [hz] at hp
            simp only [Option.bind_some] at hp
            cases hy : partsP f m r5 <;> rw [hy] at hp <;> simp at hp
       | cons p' t => simp [Layout.spellL, Layout.spellR]
      ·simp only [Layout.depthL]; omega
      ·simp only [Layout.allL, List.length_append, List.length_nil, List.length_cons, List.singleton_append] at o3 i3 ⊢; omega
      ·intro q hq
       simp only [Layout.allL, List.mem_append] at hq
       rcases hq with hq | hq
       ·exact o4 q hq
       ·exact i4 q hq
theorem list_out {f : List UInt8 → Option (Layout × List UInt8)} {d : Nat} (hf : ∀ s l r, f s = some (l, r) → Out d s l r) (m : Nat) (s : List UInt8) (ps : List Layout) (r : List UInt8)
  (h : listP f m s = some (ps, r)) : s = Layout.spellL ps ++ 41 :: r ∧ Layout.depthL ps ≤ d ∧ (Layout.allL ps).length + r.length ≤ s.length ∧ ∀ q ∈ Layout.allL ps, (0 ≤ q.kind ∧ q.kind ≤ 9) ∧ 0 ≤ q.n ∧ q.n < 9223372036854775808 := by
 unfold listP at h
 split at h
 ·rename_i r' h41
  simp only [Option.some.injEq, Prod.mk.injEq] at h
  obtain ⟨rfl, rfl⟩ := h
  have e := strip_some.1 h41
  subst e
  refine ⟨rfl, by simp [Layout.depthL], by simp [Layout.allL], fun q hq => by simp [Layout.allL] at hq⟩
 ·exact parts_out hf m s ps r h
theorem out_mk {d : Nat} {s r : List UInt8} {k n : Int} {f : Bool} {ps : List Layout} (w : List UInt8) (hw : 1 ≤ w.length) (e : s = w ++ r) (hs : (Layout.mk k n f ps).spell = w)
  (hd : Layout.depthL ps ≤ d) (hl : (Layout.allL ps).length + 1 ≤ w.length) (hk : 0 ≤ k ∧ k ≤ 9) (hn : 0 ≤ n ∧ n < 9223372036854775808)
  (hq : ∀ q ∈ Layout.allL ps, (0 ≤ q.kind ∧ q.kind ≤ 9) ∧ 0 ≤ q.n ∧ q.n < 9223372036854775808) : Out (d + 1) s (.mk k n f ps) r := by
 refine ⟨by rw [hs]; exact e, ?_, ?_, ?_⟩
 ·rw [Layout.depth_eq]; simp only; omega
 ·rw [Layout.all_eq, e, List.length_cons, List.length_append]; simp only; omega
 ·intro q hqq
  rw [Layout.all_eq] at hqq
  rcases List.mem_cons.1 hqq with rfl | hqq
  ·exact ⟨hk, hn⟩
  ·exact hq q hqq
theorem pl_out (M : Nat) : ∀ (d : Nat) (s : List UInt8) (l : Layout) (r : List UInt8), plP num M d s = some (l, r) → Out d s l r
 | 0, s, l, r, h => by simp [plP] at h
 | d + 1, s, l, r, h => by
  have ih := pl_out M d
  have leaf : ∀ {k : Int} {w : List UInt8}, 1 ≤ w.length → s = w ++ r → (Layout.mk k 0 false []).spell = w → 0 ≤ k ∧ k ≤ 9 → Out (d + 1) s (.mk k 0 false []) r := fun h1 h2 h3 h4 =>
   out_mk _ h1 h2 h3 (by simp [Layout.depthL]) (by simpa [Layout.allL] using h1) h4 (by omega) (fun q hq => by simp [Layout.allL] at hq)
  have many : ∀ {k : Int} {w r' : List UInt8} {ps : List Layout}, 1 ≤ w.length → s = w ++ r' → (Layout.mk k 0 false ps).spell = w ++ (Layout.spellL ps ++ [41]) → 0 ≤ k ∧ k ≤ 9 → listP (plP num M d) M r' = some (ps, r) → Out (d + 1) s (.mk k 0 false ps) r := by
   intro k w r' ps h1 h2 h3 h4 h5
   obtain ⟨i1, i2, i3, i4⟩ := list_out ih M r' ps r h5
   have i5 := congrArg List.length i1
   refine out_mk (w ++ (Layout.spellL ps ++ [41])) (by simp only [List.length_append]; omega) (by rw [h2, i1]; simp) h3 i2 ?_ h4 (by omega) i4
   simp only [List.length_append, List.length_cons, List.length_nil] at i3 i5 ⊢
   omega
  rw [plP] at h
  split at h
  ·rename_i r' hs
   simp only [Option.some.injEq, Prod.mk.injEq] at h; obtain ⟨rfl, rfl⟩ := h
   exact leaf (by decide) (strip_some.1 hs) (by simp [Layout.spell]) (by omega)
  split at h
  ·rename_i r' hs
   simp only [Option.some.injEq, Prod.mk.injEq] at h; obtain ⟨rfl, rfl⟩ := h
   exact leaf (by decide) (strip_some.1 hs) (by simp [Layout.spell]) (by omega)
  split at h
  ·rename_i r' hs
   simp only [Option.some.injEq, Prod.mk.injEq] at h; obtain ⟨rfl, rfl⟩ := h
   exact leaf (by decide) (strip_some.1 hs) (by simp [Layout.spell]) (by omega)
  split at h
  ·rename_i r' hs
   cases hp : plP num M d r' with
   | none => rw [hp] at h; cases h
   | some y =>
    obtain ⟨p, r2⟩ := y
    rw [hp] at h
    simp only [Option.map_some, Option.some.injEq, Prod.mk.injEq] at h; obtain ⟨rfl, rfl⟩ := h
    obtain ⟨o1, o2, o3, o4⟩ := ih r' p r2 hp
    have e1 := strip_some.1 hs
    have o5 := congrArg List.length o1
    refine out_mk (63 :: p.spell) (by simp) (by rw [e1, o1]; simp) (by simp [Layout.spell, Layout.spellH]) (by simp only [Layout.depthL]; omega) ?_ (by omega) (by omega) (fun q hq => o4 q (by simpa [Layout.allL] using hq))
    simp only [Layout.allL, List.append_nil, List.length_cons, List.length_append] at o3 o5 ⊢; omega
  split at h
  ·rename_i r' hs
   cases hn : num r' with
   | none => rw [hn] at h; cases h
   | some a =>
    obtain ⟨n, r1⟩ := a
    rw [hn] at h
    simp only [Option.bind_some] at h
    cases h93 : strip [93] r1 with
    | none => rw [h93] at h; cases h
    | some r2 =>
     rw [h93] at h
     simp only [Option.bind_some] at h
     cases hp : plP num M d r2 with
     | none => rw [hp] at h; cases h
     | some y =>
      obtain ⟨p, r3⟩ := y
      rw [hp] at h
      simp only [Option.map_some, Option.some.injEq, Prod.mk.injEq] at h; obtain ⟨rfl, rfl⟩ := h
      obtain ⟨o1, o2, o3, o4⟩ := ih r2 p r3 hp
      have e1 := strip_some.1 hs
      have e2 := strip_some.1 h93
      obtain ⟨n1, n2, n3, n4⟩ := num_eq hn
      have o5 := congrArg List.length o1
      have ht : ((n : Int)).toNat = n := by omega
      refine out_mk (91 :: (decDigits n ++ 93 :: p.spell)) (by simp) (by rw [e1, n1, e2, o1]; simp) (by simp [Layout.spell, Layout.spellH]) (by simp only [Layout.depthL]; omega) ?_ (by omega) (by omega) (fun q hq => o4 q (by simpa [Layout.allL] using hq))
      simp only [Layout.allL, List.append_nil, List.length_cons, List.length_append] at o3 o5 ⊢; omega
  split at h
  ·rename_i r' hs
   cases hn : num r' with
   | none => rw [hn] at h; cases h
   | some a =>
    obtain ⟨n, r1⟩ := a
    rw [hn] at h
    simp only [Option.bind_some] at h
    cases h41 : strip [41] r1 with
    | none => rw [h41] at h; cases h
    | some r2 =>
     rw [h41] at h
     simp only [Option.map_some, Option.some.injEq, Prod.mk.injEq] at h; obtain ⟨rfl, rfl⟩ := h
     have e1 := strip_some.1 hs
     have e2 := strip_some.1 h41
     obtain ⟨n1, n2, n3, n4⟩ := num_eq hn
     refine out_mk (wEnum ++ (decDigits n ++ [41])) (by simp) (by rw [e1, n1, e2]; simp) (by simp [Layout.spell]) (by simp [Layout.depthL]) (by simp [Layout.allL]) (by omega) (by omega) (fun q hq => by simp [Layout.allL] at hq)
  split at h
  ·rename_i r' hs
   cases hp : listP (plP num M d) M r' with
   | none => rw [hp] at h; cases h
   | some y =>
    rw [hp] at h
    simp only [Option.map_some, Option.some.injEq, Prod.mk.injEq] at h; obtain ⟨rfl, rfl⟩ := h
    exact many (by decide) (strip_some.1 hs) (by simp [Layout.spell]) (by omega) hp
  split at h
  ·rename_i r' hs
   cases hp : listP (plP num M d) M r' with
   | none => rw [hp] at h; cases h
   | some y =>
    rw [hp] at h
    simp only [Option.map_some, Option.some.injEq, Prod.mk.injEq] at h; obtain ⟨rfl, rfl⟩ := h
    exact many (by decide) (strip_some.1 hs) (by simp [Layout.spell]) (by omega) hp
  split at h
  ·rename_i r' hs
   cases hp : listP (plP num M d) M r' with
   | none => rw [hp] at h; cases h
   | some y =>
    rw [hp] at h
    simp only [Option.map_some, Option.some.injEq, Prod.mk.injEq] at h; obtain ⟨rfl, rfl⟩ := h
    exact many (by decide) (strip_some.1 hs) (by simp [Layout.spell]) (by omega) hp
  split at h
  ·rename_i r' hs
   cases hn : num r' with
   | none => rw [hn] at h; cases h
   | some a =>
    obtain ⟨n, r1⟩ := a
    rw [hn] at h
    simp only [Option.map_some, Option.some.injEq, Prod.mk.injEq] at h; obtain ⟨rfl, rfl⟩ := h
    have e1 := strip_some.1 hs
    obtain ⟨n1, n2, n3, n4⟩ := num_eq hn
    refine out_mk (117 :: decDigits n) (by simp) (by rw [e1, n1]; simp) (by simp [Layout.spell]) (by simp [Layout.depthL]) (by simp [Layout.allL]) (by omega) (by omega) (fun q hq => by simp [Layout.allL] at hq)
  split at h
  ·rename_i r' hs
   cases hn : num r' with
   | none => rw [hn] at h; cases h
   | some a =>
    obtain ⟨n, r1⟩ := a
    rw [hn] at h
    simp only [Option.map_some, Option.some.injEq, Prod.mk.injEq] at h; obtain ⟨rfl, rfl⟩ := h
    have e1 := strip_some.1 hs
    obtain ⟨n1, n2, n3, n4⟩ := num_eq hn
    refine out_mk (105 :: decDigits n) (by simp) (by rw [e1, n1]; simp) (by simp [Layout.spell]) (by simp [Layout.depthL]) (by simp [Layout.allL]) (by omega) (by omega) (fun q hq => by simp [Layout.allL] at hq)
  ·cases h
theorem parts_mono {f g : List UInt8 → Option (Layout × List UInt8)} : ∀ (m : Nat) (s : List UInt8) (ps : List Layout) (r : List UInt8), partsP f m s = some (ps, r) →
  (∀ p ∈ ps, ∀ s r, f s = some (p, r) → noDig r → g s = some (p, r)) → ∀ m', ps.length ≤ m' → partsP g m' s = some (ps, r)
 | 0, s, ps, r, h, _, _, _ => by simp [partsP] at h
 | m + 1, s, ps, r, h, hg, m', hm => by
  rw [partsP] at h
  cases hs : f s with
  | none => rw [hs] at h; cases h
  | some q =>
   obtain ⟨p, r1⟩ := q
   rw [hs] at h
   simp only [Option.bind_some] at h
   cases h41 : strip [41] r1 with
   | some r2 =>
    rw [h41] at h
    simp only [Option.some.injEq, Prod.mk.injEq] at h
    obtain ⟨rfl, rfl⟩ := h
    have e := strip_some.1 h41
    have h1 := hg p List.mem_cons_self s r1 hs (by rw [e]; exact noDig_cons (by decide))
    match m', hm with
    | k + 1, _ => rw [partsP, h1]; simp only [Option.bind_some, h41]
   | none =>
    rw [h41] at h
    simp only at h
    cases h44 : strip [44] r1 with
    | none => rw [h44] at h; cases h
    | some r2 =>
     rw [h44] at h
     simp only [Option.bind_some] at h
     have e := strip_some.1 h44
     cases hp : partsP f m r2 with
     | none => rw [hp] at h; cases h
     | some y =>
      obtain ⟨ps', r3⟩ := y
      rw [hp] at h
      simp only [Option.map_some, Option.some.injEq, Prod.mk.injEq] at h
      obtain ⟨rfl, rfl⟩ := h
      have h1 := hg p List.mem_cons_self s r1 hs (by rw [e]; exact noDig_cons (by decide))
      match m', hm with
      | k + 1, hm =>
       have h2 := parts_mono m r2 ps' r3 hp (fun x hx => hg x (List.mem_cons_of_mem _ hx)) k (by simp only [List.length_cons] at hm; omega)
       rw [partsP, h1]; simp only [Option.bind_some, h41, h44, h2, Option.map_some]
theorem list_mono {f g : List UInt8 → Option (Layout × List UInt8)} {m : Nat} {s : List UInt8} {ps : List Layout} {r : List UInt8} (h : listP f m s = some (ps, r))
  (hg : ∀ p ∈ ps, ∀ s r, f s = some (p, r) → noDig r → g s = some (p, r)) {m' : Nat} (hm : ps.length ≤ m') : listP g m' s = some (ps, r) := by
 unfold listP at h ⊢
 split at h
 ·rename_i r' h41
  exact h
 ·rename_i h41
  exact parts_mono m s ps r h hg m' hm
theorem parts_len {f : List UInt8 → Option (Layout × List UInt8)} : ∀ (m : Nat) (s : List UInt8) (ps : List Layout) (r : List UInt8), partsP f m s = some (ps, r) → ps.length ≤ m
 | 0, s, ps, r, h => by simp [partsP] at h
 | m + 1, s, ps, r, h => by
  rw [partsP] at h
  cases hs : f s with
  | none => rw [hs] at h; cases h
  | some q =>
   rw [hs] at h
   simp only [Option.bind_some] at h
   split at h
   ·simp only [Option.some.injEq, Prod.mk.injEq] at h
    obtain ⟨rfl, rfl⟩ := h
    simp
   ·cases h44 : strip [44] q.2 with
    | none => rw [h44] at h; cases h
    | some r2 =>
     rw [h44] at h
     simp only [Option.bind_some] at h
     cases hp : partsP f m r2 with
     | none => rw [hp] at h; cases h
     | some y =>
      rw [hp] at h
      simp only [Option.map_some, Option.some.injEq, Prod.mk.injEq] at h
      obtain ⟨rfl, rfl⟩ := h
      have := parts_len m r2 y.1 y.2 hp
      simp only [List.length_cons]; omega
theorem list_len {f : List UInt8 → Option (Layout × List UInt8)} {m : Nat} {s : List UInt8} {ps : List Layout} {r : List UInt8} (h : listP f m s = some (ps, r)) : ps.length ≤ m := by
 unfold listP at h
 split at h
 ·simp only [Option.some.injEq, Prod.mk.injEq] at h
  obtain ⟨rfl, rfl⟩ := h
  simp
 ·exact parts_len m s ps r h
def Layout.small (l : Layout) : Prop := ∀ q ∈ l.all, q.big = false
theorem Layout.small.part {l p : Layout} (h : l.small) (hp : p ∈ l.parts) : p.small := fun q hq => h q (by rw [l.all_eq]; exact List.mem_cons_of_mem _ (Layout.allL_mem hp hq))
theorem Layout.small.self {l : Layout} (h : l.small) : l.big = false := h l (by rw [l.all_eq]; exact List.mem_cons_self)
theorem pl_map {nm nm' : List UInt8 → Option (Nat × List UInt8)} {m m' : Nat} (S : Layout → Prop) (hpart : ∀ l p, S l → p ∈ l.parts → S p)
  (hnm : ∀ {k : Int} {f : Bool} {ps : List Layout} {s : List UInt8} {n : Nat} {r : List UInt8}, k = 2 ∨ k = 5 ∨ k = 7 → S (.mk k n f ps) → nm s = some (n, r) → noDig r → nm' s = some (n, r))
  (hlen : ∀ {k n : Int} {f : Bool} {ps : List Layout}, S (.mk k n f ps) → ps.length ≤ m → ps.length ≤ m') : ∀ (d : Nat) (s : List UInt8) (l : Layout) (r : List UInt8), plP nm m d s = some (l, r) → noDig r → S l → plP nm' m' d s = some (l, r)
 | 0, s, l, r, h, _, _ => by simp [plP] at h
 | d + 1, s, l, r, h, hr, hS => by
  have ih := @pl_map nm nm' m m' S hpart @hnm @hlen d
  have many : ∀ {k : Int} {r' : List UInt8} {ps : List Layout}, S (.mk k 0 false ps) → listP (plP nm m d) m r' = some (ps, r) → listP (plP nm' m' d) m' r' = some (ps, r) := fun h1 h2 =>
   list_mono h2 (fun p hp s r h3 h4 => ih s p r h3 h4 (hpart _ p h1 hp)) (hlen h1 (list_len h2))
  rw [plP] at h ⊢
  split at h
  ·rename_i r' hs
   exact h
  rename_i h1
  split at h
  ·rename_i r' hs
   exact h
  rename_i h2
  split at h
  ·rename_i r' hs
   exact h
  rename_i h3
  split at h
  ·rename_i r' hs
   cases hp : plP nm m d r' with
   | none => rw [hp] at h; cases h
   | some y =>
    rw [hp] at h
    simp only [Option.map_some, Option.some.injEq, Prod.mk.injEq] at h; obtain ⟨rfl, rfl⟩ := h
    rw [ih r' y.1 y.2 hp hr (hpart _ y.1 hS List.mem_cons_self)]; rfl
  rename_i h4
  split at h
  ·rename_i r' hs
   cases hn : nm r' with
   | none => rw [hn] at h; cases h
   | some a =>
    obtain ⟨n, r1⟩ := a
    rw [hn] at h
    simp only [Option.bind_some] at h
    cases h93 : strip [93] r1 with
    | none => rw [h93] at h; cases h
    | some r2 =>
     rw [h93] at h
     simp only [Option.bind_some] at h
     cases hp : plP nm m d r2 with
     | none => rw [hp] at h; cases h
     | some y =>
      rw [hp] at h
      simp only [Option.map_some, Option.some.injEq, Prod.mk.injEq] at h; obtain ⟨rfl, rfl⟩ := h
      rw [hnm (.inr (.inl rfl)) hS hn (by rw [strip_some.1 h93]; exact noDig_cons (by decide))]
      simp only [Option.bind_some, h93]
      rw [ih r2 y.1 y.2 hp hr (hpart _ y.1 hS List.mem_cons_self)]; rfl
  rename_i h5
  split at h
  ·rename_i r' hs
   cases hn : nm r' with
   | none => rw [hn] at h; cases h
   | some a =>
    obtain ⟨n, r1⟩ := a
    rw [hn] at h
    simp only [Option.bind_some] at h
    cases h41 : strip [41] r1 with
    | none => rw [h41] at h; cases h
    | some r2 =>
     rw [h41] at h
     simp only [Option.map_some, Option.some.injEq, Prod.mk.injEq] at h; obtain ⟨rfl, rfl⟩ := h
     rw [hnm (.inr (.inr rfl)) hS hn (by rw [strip_some.1 h41]; exact noDig_cons (by decide))]
     simp only [Option.bind_some, h41]; rfl
  rename_i h6
  split at h
  ·rename_i r' hs
   cases hp : listP (plP nm m d) m r' with
   | none => rw [hp] at h; cases h
   | some y =>
    rw [hp] at h
    simp only [Option.map_some, Option.some.injEq, Prod.mk.injEq] at h; obtain ⟨rfl, rfl⟩ := h
    rw [many hS hp]; rfl
  rename_i h7
  split at h
  ·rename_i r' hs
   cases hp : listP (plP nm m d) m r' with
   | none => rw [hp] at h; cases h
   | some y =>
    rw [hp] at h
    simp only [Option.map_some, Option.some.injEq, Prod.mk.injEq] at h; obtain ⟨rfl, rfl⟩ := h
    rw [many hS hp]; rfl
  rename_i h8
  split at h
  ·rename_i r' hs
   cases hp : listP (plP nm m d) m r' with
   | none => rw [hp] at h; cases h
   | some y =>
    rw [hp] at h
    simp only [Option.map_some, Option.some.injEq, Prod.mk.injEq] at h; obtain ⟨rfl, rfl⟩ := h
    rw [many hS hp]; rfl
  rename_i h9
  split at h
  ·rename_i r' hs
   cases hn : nm r' with
   | none => rw [hn] at h; cases h
   | some a =>
    obtain ⟨n, r1⟩ := a
    rw [hn] at h
    simp only [Option.map_some, Option.some.injEq, Prod.mk.injEq] at h; obtain ⟨rfl, rfl⟩ := h
    rw [hnm (.inl rfl) hS hn hr]; rfl
  rename_i h10
  split at h
  ·rename_i r' hs
   cases hn : nm r' with
   | none => rw [hn] at h; cases h
   | some a =>
    obtain ⟨n, r1⟩ := a
    rw [hn] at h
    simp only [Option.map_some, Option.some.injEq, Prod.mk.injEq] at h; obtain ⟨rfl, rfl⟩ := h
    rw [hnm (.inl rfl) hS hn hr]; rfl
  ·cases h
theorem pl_six {M d : Nat} {s : List UInt8} {l : Layout} {r : List UInt8} (h : plP num M d s = some (l, r)) (hr : noDig r) (hS : l.small) : plP num6 13 d s = some (l, r) := by
 refine pl_map Layout.small (fun l p h hp => h.part hp) (fun hk hS hn hr => num6_of hn ?_) (fun hS _ => ?_) d s l r h hr hS
 ·have := big_n hS.self
  omega
 ·have := big_n hS.self
  omega
theorem pl_any {M d : Nat} (hM : 13 ≤ M) {s : List UInt8} {l : Layout} {r : List UInt8} (h : plP num6 13 d s = some (l, r)) (hr : noDig r) : plP num M d s = some (l, r) :=
 pl_map (fun _ => True) (fun _ _ _ _ => trivial) (fun _ _ hn hr => (num_of6 hn hr).1) (fun _ h => by omega) d s l r h hr trivial
end Go.Proofs.YtogoamfegaebgaaGreatDoor
end
section
namespace Go.Tx
open Go.Awp
variable [Inhabited GMem]
theorem FnOk.pure {P : Program} {f : FuncId} {args : List H} {r : H} (hc : callable P f = true)
  (h : ∀ (E : Env) (M : Mem) (w : World) (vs : Array Value), GOk M w → (∀ b o v, M b o = some v → w.cell? ⟨b, o, none⟩ = some v) → HReps E M vs args →
    Calls P f vs w fun e w' => ∃ v, e = .returned v ∧ HRep E M v r ∧ Go.RowKit.Below w.heap.size w w') : FnOk P f args [] r [] := by
 refine ⟨hc, fun E M w vs hgm hm _ hvs => (h E M w vs hgm hm hvs).mono ?_⟩
 rintro e w' ⟨v, rfl, hr, hb⟩
 refine ⟨v, E, M, rfl, { rep := hr, owns := ⟨fun n o hn => by simp [gt] at hn, fun n m o o' b _ hn => by simp [gt] at hn⟩, mle := Mem.le_refl _, mem := fun b o v hv => ?_, mnew := fun b o v hv => .inl hv, home := fun n o b hn => by simp [gt] at hn, frame := fun k hk _ => hb.block k hk, grows := hb.size, os := hb.os, tape := hb.tape, output := hb.output, env := fun _ _ => rfl }⟩
 have h1 := hm b o v hv
 have hlt := World.block_lt_of_cell? w (a := ⟨b, o, none⟩) h1
 rw [← h1]
 exact World.cell?_of_block (a := ⟨b, o, none⟩) (hb.block b hlt)
theorem hreps_one {E : Env} {M : Mem} {vs : Array Value} {a : H} (h : HReps E M vs [a]) : ∃ v, vs = #[v] ∧ HRep E M v a := by
 obtain ⟨h1, h2⟩ := h
 match vs, h1 with
 | ⟨[v]⟩, _ => exact ⟨v, rfl, h2 0 v a rfl rfl⟩
theorem hreps_two {E : Env} {M : Mem} {vs : Array Value} {a b : H} (h : HReps E M vs [a, b]) : ∃ v u, vs = #[v, u] ∧ HRep E M v a ∧ HRep E M u b := by
 obtain ⟨h1, h2⟩ := h
 match vs, h1 with
 | ⟨[v, u]⟩, _ => exact ⟨v, u, rfl, h2 0 v a rfl rfl, h2 1 u b rfl rfl⟩
theorem strs_rep {E : Env} {M : Mem} {v : Value} {xs : List ByteArray} (h : HRep E M v (.d (.sl 1 (xs.map fun y => [D.v (.string y)])))) :
  (xs = [] ∧ ∃ a c, v = .slice a 0 c) ∨ ∃ b off c, xs ≠ [] ∧ v = .slice (some ⟨b, off, none⟩) xs.length c ∧ xs.length ≤ c ∧ ∀ (j : Nat) x, xs[j]? = some x → M b (off + j) = some (.string x) := by
 cases h with
 | d h =>
  generalize hr : (xs.map fun y => [D.v (.string y)]) = rows at h
  cases h with
  | slnil => exact .inl ⟨by simpa using hr, none, 0, rfl⟩
  | slmt a cap => exact .inl ⟨by simpa using hr, some a, cap, rfl⟩
  | sl b off len cap _ _ c hlen hcap hsz hm hh =>
   subst hr
   rw [List.length_map] at hlen
   subst hlen
   by_cases he : xs = []
   ·subst he; exact .inl ⟨rfl, _, cap, rfl⟩
   ·refine .inr ⟨b, off, cap, he, rfl, hcap, fun j x hj => ?_⟩
    have hlt : j < xs.length := (List.getElem?_eq_some_iff.1 hj).1
    have h1 := hm j (by omega)
    have h2 := hh j 0 [D.v (.string x)] (.v (.string x)) (by simp [hj]) rfl
    simp only [Nat.mul_one, Nat.add_zero] at h2
    rw [h1]
    generalize hq : c j = q at h2
    cases h2
    rfl
section
open Go.Shelf Go.RowKit Go.Proofs
set_option maxHeartbeats 1000000 in
set_option maxRecDepth 100000 in
end
end Go.Tx
end
