/-
  Texts of this claim, joined by a program of mine: what the theorem uses.
-/
import Derived.Test.YtpndmanbfleadaaGreatDoorPkD
import Derived.KernelRfl
import Derived.Test.YtpndmanbfleadaaGreatDoorPkC
import Derived.WalkKit
import Derived.ProofKit
import Derived.OpenShut
import Derived.Test.YtpndmanbfleadaaGreatDoorRows
import Derived.Lib.LaidIn
import Derived.Lib.LaidU8T
import Derived.MakeChecks
import Derived.Test.YtpndmanbfleadaaGreatDoorProg
import Derived.Shelf.Strings.Builder1
import Derived.Deep.RegionLaw
import Derived.Deep.LoopGhost
import Derived.Lib.SliceRun
import Derived.Lib.SlicesDelete
import Derived.Sort.WalkB12
import Derived.Shelf.RegionOpenPlain
set_option linter.unusedSectionVars false
set_option linter.unusedSimpArgs false
set_option linter.unusedVariables false
section
namespace Go.Tx
open Go.Awp
variable [Inhabited GMem]
section
variable {V : View}
mutual
def TV.plain : TV V.N → Bool
 | .lf .. => true
 | .raw _ => true
 | .rp .. => true
 | .junk => true
 | .agg cs => TV.plainL cs
 | .tup vs => TV.plainL vs
 | .fn _ a b => TV.plainL a && TV.plainL b
 | _ => false
def TV.plainL : List (TV V.N) → Bool
 | [] => true
 | x :: r => TV.plain x && TV.plainL r
end
mutual
theorem plain_has : ∀ {x : TV V.N}, TV.plain x = true → ∀ n, TV.has n x = false
 | .lf .., _, n => by simp [TV.has]
 | .raw _, _, n => by simp [TV.has]
 | .rp .., _, n => by simp [TV.has]
 | .junk, _, n => by simp [TV.has]
 | .agg cs, h, n => by simp only [TV.plain] at h; simp only [TV.has]; exact plainL_has h n
 | .tup cs, h, n => by simp only [TV.plain] at h; simp only [TV.has]; exact plainL_has h n
 | .fn f a b, h, n => by
  simp only [TV.plain, Bool.and_eq_true] at h
  simp only [TV.has, plainL_has h.1 n, plainL_has h.2 n]; rfl
 | .bp .., h, n => by simp [TV.plain] at h
 | .vh .., h, n => by simp [TV.plain] at h
 | .ep .., h, n => by simp [TV.plain] at h
 | .sv .., h, n => by simp [TV.plain] at h
 | .mp .., h, n => by simp [TV.plain] at h
 | .np .., h, n => by simp [TV.plain] at h
 | .sd .., h, n => by simp [TV.plain] at h
theorem plainL_has : ∀ {l : List (TV V.N)}, TV.plainL l = true → ∀ n, TV.hasL n l = false
 | [], _, n => by simp [TV.hasL]
 | x :: r, h, n => by
  simp only [TV.plainL, Bool.and_eq_true] at h
  simp only [TV.hasL, plain_has h.1 n, plainL_has h.2 n]; rfl
end
theorem plain_enc {x : TV V.N} (h : TV.plain x = true) (ω ω' : Nat → Nat) : encV V ω' x = encV V ω x := encV_congr x fun n hn => by rw [plain_has h n] at hn; cases hn
def Ty.flat {ι : Type} : Ty ι → Bool
 | .int _ => true
 | .bool => true
 | .str => true
 | _ => false
def flat1 : TV V.N → Bool
 | .lf t x => (rcells V t x).all fun l => l.t.flat
 | _ => false
def flatV : TV V.N → Bool
 | .tup vs => vs.all flat1
 | x => flat1 x
theorem flat1_plain {x : TV V.N} (h : flat1 x = true) : TV.plain x = true := by
 cases x <;> first | rfl | (simp [flat1] at h; done)
theorem flat_plain {x : TV V.N} (h : flatV x = true) : TV.plain x = true := by
 cases x with
 | tup vs =>
  simp only [flatV, List.all_eq_true] at h
  simp only [TV.plain]
  have : ∀ l : List (TV V.N), (∀ x ∈ l, flat1 x = true) → TV.plainL l = true := by
   intro l
   induction l with
   | nil => intro _; rfl
   | cons y r ih => intro h; simp only [TV.plainL, Bool.and_eq_true]; exact ⟨flat1_plain (h y List.mem_cons_self), ih fun x hx => h x (List.mem_cons_of_mem _ hx)⟩
  exact this vs h
 | lf t x => rfl
 | raw _ => rfl
 | rp a b c => rfl
 | junk => rfl
 | agg cs => simp [flatV, flat1] at h
 | fn f a b => simp [flatV, flat1] at h
 | bp a b => simp [flatV, flat1] at h
 | vh a => simp [flatV, flat1] at h
 | ep a b c d => simp [flatV, flat1] at h
 | sv a b c d => simp [flatV, flat1] at h
 | mp a => simp [flatV, flat1] at h
 | np a b => simp [flatV, flat1] at h
 | sd a => simp [flatV, flat1] at h
theorem encD_flat {l : Leaf V.N} (h : l.t.flat = true) {M M' : Mem} {v : Value} (hv : DRep M v (encD V.sz V.enc l.t l.x)) : DRep M' v (encD V.sz V.enc l.t l.x) := by
 obtain ⟨t, x⟩ := l
 cases t with
 | int k => simp only [encD] at hv ⊢; cases hv; exact .v _
 | bool => simp only [encD] at hv ⊢; cases hv; exact .v _
 | str => simp only [encD] at hv ⊢; cases hv; exact .v _
 | st i => simp [Ty.flat] at h
 | sl e => simp [Ty.flat] at h
 | mp k v => simp [Ty.flat] at h
 | er => simp [Ty.flat] at h
 | op e => simp [Ty.flat] at h
theorem flat1_any {x : TV V.N} (h : flat1 x = true) {ω : Nat → Nat} {E E' : Env} {M M' : Mem} {v : Value} (hv : HRep E M v (encV V ω x)) : HRep E' M' v (encV V ω x) := by
 cases x with
 | lf t x =>
  simp only [flat1, List.all_eq_true] at h
  simp only [encV] at hv ⊢
  cases hv with
  | d hd =>
   refine .d ?_
   cases t with
   | st i =>
    simp only [encD] at hd ⊢
    rw [V.enc_cells] at hd ⊢
    cases hd with
    | agg cs _ hl hh =>
     refine .agg cs _ hl fun k c y hc hy => ?_
     rw [List.getElem?_map] at hy
     cases hq : (V.cells i x)[k]? with
     | none => rw [hq] at hy; cases hy
     | some l =>
      rw [hq] at hy; simp at hy; subst hy
      exact encD_flat (h l (List.mem_of_getElem? hq)) (hh k c _ hc (by rw [List.getElem?_map, hq]; rfl))
   | int k => exact encD_flat (l := ⟨.int k, x⟩) rfl hd
   | bool => exact encD_flat (l := ⟨.bool, x⟩) rfl hd
   | str => exact encD_flat (l := ⟨.str, x⟩) rfl hd
   | sl e => simp [rcells, Ty.flat] at h
   | mp k v => simp [rcells, Ty.flat] at h
   | er => simp [rcells, Ty.flat] at h
   | op e => simp [rcells, Ty.flat] at h
 | _ => simp [flat1] at h
theorem flat_any {x : TV V.N} (h : flatV x = true) {ω : Nat → Nat} {E E' : Env} {M M' : Mem} {v : Value} (hv : HRep E M v (encV V ω x)) : HRep E' M' v (encV V ω x) := by
 cases x with
 | tup vs =>
  simp only [flatV, List.all_eq_true] at h
  simp only [encV] at hv ⊢
  obtain ⟨cs, rfl, h1, h2⟩ := hv.htup
  refine .tup cs _ h1 fun i c y hc hy => ?_
  rw [encL_map, List.getElem?_map] at hy
  cases hq : vs[i]? with
  | none => rw [hq] at hy; cases hy
  | some u =>
   rw [hq] at hy; simp at hy; subst hy
   exact flat1_any (h u (List.mem_of_getElem? hq)) (h2 i c _ hc (by rw [encL_map, List.getElem?_map, hq]; rfl))
 | lf t x => exact flat1_any (x := .lf t x) (by simpa [flatV] using h) hv
 | _ => simp [flatV, flat1] at h
def LentTo (own : List (Nat × Own)) (a a0 : H) : Prop := ∀ (E : Env) (M : Mem) (w : World) (v : Value), M.le (memOf w) → Owns E M w own → HRep E M v a → HRep E (memOf w) v a0
theorem LentTo.le {own : List (Nat × Own)} {a a0 : H} (h : H.le a a0) : LentTo own a a0 := fun E M w v hM _ hv => (h E M v hv).le hM
theorem LentTo.agg {own : List (Nat × Own)} {l l0 : List H} (hl : l0.length = l.length) (h : ∀ (i : Nat) (a a0 : H), l[i]? = some a → l0[i]? = some a0 → LentTo own a a0) : LentTo own (.agg l) (.agg l0) := fun E M w v hM ho hv => by
 obtain ⟨cs, rfl, h1, h2⟩ := hv.hagg
 refine .agg cs l0 (by omega) fun i c x hc hx => ?_
 have hi : i < l.length := by rw [← hl]; exact (List.getElem?_eq_some_iff.1 hx).1
 exact h i _ x (List.getElem?_eq_getElem hi) hx E M w c hM ho (h2 i c _ hc (List.getElem?_eq_getElem hi))
theorem LentTo.vh {own : List (Nat × Own)} {n e sz : Nat} {rows : List (List D)} (h1 : gt own n = some (.vec e sz rows)) : LentTo own (.vh n rows.length) (.d (.sl sz rows)) := fun E M w v hM ho hca => by
 obtain ⟨xs, g1, g2, g3, g4⟩ := ho.ok n _ h1
 refine .d ?_
 cases hca with
 | vh n len l cc a hE hle =>
  rcases g1.2 with ⟨hnil, hz⟩ | ⟨g, cap, cur, hE', hbg, hg, hnc, hcm, hcs, htake⟩
  ·rw [hE] at hnil
   simp only [Value.slice.injEq] at hnil
   obtain ⟨rfl, rfl, rfl⟩ := hnil
   have : rows = [] := List.eq_nil_of_length_eq_zero hz
   subst this
   exact .slnil sz
  ·rw [hE] at hE'
   simp only [Value.slice.injEq] at hE'
   obtain ⟨rfl, rfl, rfl⟩ := hE'
   refine .sl g 0 _ _ sz rows (fun k => xs.getD k undef) rfl hnc g2 (fun k hk => ?_) fun i j r x hr' hx => ?_
   ·have hxk : k < xs.length := by rw [g1.1]; exact hk
    obtain ⟨u, hu⟩ : ∃ u, xs[k]? = some u := ⟨_, List.getElem?_eq_getElem hxk⟩
    have hq : w.cell? ⟨g, k, none⟩ = some u := by
     rw [cell_of_row w g k cur e (0, 0) hg]
     have hu' := hu
     rw [← htake, List.getElem?_take, if_pos hk] at hu'
     simpa using hu'
    simp [memOf, hq, hu]
   ·have hlr := g2 r (List.mem_of_getElem? hr')
    have hir : i < rows.length := (List.getElem?_eq_some_iff.1 hr').1
    have hj : j < sz := by have := (List.getElem?_eq_some_iff.1 hx).1; omega
    have hmul : (i + 1) * sz ≤ rows.length * sz := Nat.mul_le_mul_right _ hir
    rw [Nat.succ_mul] at hmul
    have hxk : i * sz + j < xs.length := by rw [g1.1]; omega
    have := g3 i j r xs[i * sz + j] x hr' hx (List.getElem?_eq_getElem hxk)
    have hg' : xs.getD (i * sz + j) undef = xs[i * sz + j] := by simp [hxk]
    rw [hg']
    exact this.mono hM
theorem LentTo.dvh {own : List (Nat × Own)} {n e sz : Nat} {rows : List (List DD)} {ds : List (List D)} (h1 : gt own n = some (.dvec e sz rows)) (hd : DD.toR rows = some ds) : LentTo own (.vh n rows.length) (.d (.sl sz ds)) := fun E M w v hM ho hca => by
 have hok := ho.ok n _ h1
 obtain ⟨ad, cap, hE⟩ := hok.dlen
 have hv := vh_val hca hE
 subst hv
 obtain ⟨B, g1, g2, g3⟩ := hok
 exact .d (g1.frozen hM (fun b _ o v hv => hv) (xs := [.sl sz ds]) (by simp [DD.toL, DD.toD, hd]) 0 _ _ rfl rfl)
def lentO : TO V.N → Option (Leaf V.N)
 | .vec _ e xs => some ⟨.sl e, xs⟩
 | .dvec _ e ys => some ⟨.sl e, ys⟩
 | _ => none
theorem lentO_enc {o : TO V.N} {l0 : Leaf V.N} (h : lentO o = some l0) : ∃ x : Own, (∀ ω, encO V ω o = some x) ∧ ∀ (own : List (Nat × Own)) (n : Nat), gt own n = some x → LentTo own (.vh n (TO.len (some o))) (.d (encD V.sz V.enc l0.t l0.x)) := by
 unfold lentO at h
 split at h
 ·rename_i te e xs
  cases h
  refine ⟨_, fun ω => rfl, fun own n hn => ?_⟩
  have := LentTo.vh hn
  rw [List.length_map] at this
  exact this
 ·rename_i te e ys
  cases h
  refine ⟨_, fun ω => rfl, fun own n hn => ?_⟩
  have := LentTo.dvh hn (rows_toR ys)
  rw [List.length_map] at this
  simpa [TO.len, encD] using this
 ·cases h
theorem lend {P : Program} {f : FuncId} {args0 args : List H} {r : H} {own : List (Nat × Own)} (h : FnOk P f args0 [] r []) (hl : args.length = args0.length)
  (ha : ∀ (i : Nat) (a a0 : H), args[i]? = some a → args0[i]? = some a0 → LentTo own a a0)
  (hr : ∀ (E E' : Env) (M M' : Mem) (v : Value), HRep E M v r → HRep E' M' v r) : FnAt P f args own r own := by
 refine ⟨h.1, fun E M w vs hgm hm ho hvs => ?_⟩
 have hM : M.le (memOf w) := fun b o v hv => hm b o v hv
 have hrep : HReps E (memOf w) vs args0 := by
  refine ⟨hvs.1.trans hl, fun i c x hc hx => ?_⟩
  have hi : i < args.length := by rw [hl]; exact (List.getElem?_eq_some_iff.1 hx).1
  have hca := hvs.2 i c _ hc (List.getElem?_eq_getElem hi)
  exact ha i _ x (List.getElem?_eq_getElem hi) hx E M w c hM ho hca
 refine (h.2 E (memOf w) w vs (hgm.mono hM fun _ _ _ => rfl) (fun b o v hv => hv) ⟨fun n o hn => by simp [gt] at hn, fun n m o o' b _ hn => by simp [gt] at hn⟩ hrep).mono ?_
 rintro e w' ⟨v, E', M', rfl, hp⟩
 have hfr : ∀ b, b < w.heap.size → w'.heap[b]? = w.heap[b]? := fun b hb => hp.frame b hb fun ⟨n, o, hn, _⟩ => by simp [gt] at hn
 have hft : ∀ n o, gt own n = some o → ∀ b, o.foot w' (E n) b → o.foot w (E n) b := fun n o hn b hb => ((ho.ok n o hn).foot_keep (fun b hb => hfr b ((ho.ok n o hn).block hb).1) b).1 hb
 refine ⟨v, E, M, rfl, { rep := hr _ _ _ _ _ hp.rep, owns := ⟨fun n o hn => ?_, fun n m o o' b hne hn hm hb hb' => ho.apart n m o o' b hne hn hm (hft n o hn b hb) (hft m o' hm b hb')⟩, mle := Mem.le_refl _, mem := fun b o v hv => hp.mem b o v (hp.mle b o v (hm b o v hv)), mnew := fun b o v hv => .inl hv, home := fun n o b hn hb => .inl ⟨n, o, hn, hft n o hn b hb⟩, frame := fun k hk _ => hfr k hk, grows := hp.grows, os := hp.os, tape := hp.tape, output := hp.output, env := fun _ _ => rfl }, fun _ _ => rfl⟩
 have hok := ho.ok n o hn
 refine hok.keep rfl (fun b hb => hfr b (hok.block hb).1) (fun _ _ => rfl) (Mem.le_refl _) fun b hb => (hok.block hb).2
def argC (S : TS V.N) : List (Ty V.ι) → List (TV V.N) → Option (List (Nat × TO V.N) × List (Leaf V.N))
 | [], [] => some ([], [])
 | .sl _ :: ts, .vh n :: xs => match S.own? n with
  | some o => match lentO o with
   | some l0 => match argC S ts xs with
    | some (l, ls) => some ((n, o) :: l, l0 :: ls)
    | none => none
   | none => none
  | _ => none
 | t :: ts, x :: xs => match leafOf V false t x with
  | some l0 => match argC S ts xs with
   | some (l, ls) => some (l, l0 :: ls)
   | none => none
  | none => none
 | _, _ => none
def hasVh : List (TV V.N) → Bool
 | [] => false
 | .vh _ :: _ => true
 | _ :: r => hasVh r
def arg1 (S : TS V.N) : Pt V.ι → TV V.N → Option (List (Nat × TO V.N) × List (Leaf V.N))
 | .dat (.sl e), .vh n => match S.own? n with
  | some o => match lentO o with
   | some l0 => if l0.t = .sl e then some ([(n, o)], [l0]) else none
   | none => none
  | _ => none
 | .dat (.st i), .agg vs => match hasVh vs with
  | true => match argC S (V.tys i) vs with
   | some (p :: l, ls) => match V.ofCells i ls with
    | some y => some (p :: l, [⟨.st i, y⟩])
    | none => none
   | _ => none
  | false => match mt1 V [] (.dat (.st i)) (.agg vs) with
   | some (_, ls) => some ([], ls)
   | none => none
 | .dat t, x => match mt1 V [] (.dat t) x with
  | some (_, ls) => some ([], ls)
  | none => none
 | .fn f [] [], .fn f' [] [] => if f = f' then some ([], []) else none
 | _, _ => none
def argsL (S : TS V.N) : List (Pt V.ι) → List (TV V.N) → Option (List (Nat × TO V.N) × List (Leaf V.N))
 | [], [] => some ([], [])
 | p :: ps, x :: xs => match arg1 S p x with
  | some (l, ls) => match argsL S ps xs with
   | some (l', ls') => some (l ++ l', ls ++ ls')
   | none => none
  | none => none
 | _, _ => none
def callPure (P : Program) (sig : Sig V) (F : HL V.N sig.tys → Option (HL V.N sig.rcut.tys)) (A : Type) (args : List (TV V.N)) (S : TS V.N) (k : TE V.N → Option A) : Option A :=
 match argsL S sig.params args with
 | some (lent, ls) => match toHL sig.tys ls with
  | some v => F v >>= fun r => match resV P sig r with
   | some x => match lent with
    | [] => match TV.plain x with
     | true => k { val := x }
     | false => none
    | p :: l => match flatV x with
     | true => k { val := x, acc := (p :: l).map (·.1), upd := (p :: l) ++ (p :: l).map fun q => (q.1, .gone (TO.len (some q.2))) }
     | false => none
   | none => none
  | none => none
 | none => none
theorem mt1_dat {σ σ' : Names} {t : Ty V.ι} {x : TV V.N} {ls : List (Leaf V.N)} (h : mt1 V σ (.dat t) x = some (σ', ls)) : σ' = σ := by
 cases x with
 | lf t' y =>
  simp only [mt1] at h
  have := (if_some h).2
  simp only [Option.some.injEq, Prod.mk.injEq] at this
  exact this.1.symm
 | raw v =>
  unfold mt1 at h
  split at h <;> first
   | (simp only [Option.some.injEq, Prod.mk.injEq] at h; exact h.1.symm)
   | (cases h; done)
   | contradiction
 | agg cs =>
  unfold mt1 at h
  split at h <;> first
   | (split at h
      ·simp only [Option.some.injEq, Prod.mk.injEq] at h; exact h.1.symm
      ·cases h)
   | (cases h; done)
   | contradiction
 | _ => simp [mt1] at h
theorem LentTo.pre {own : List (Nat × Own)} {a b c : H} (h : H.le a b) (k : LentTo own b c) : LentTo own a c := fun E M w v hM ho hv => k E M w v hM ho (h E M v hv)
theorem LentTo.post {own : List (Nat × Own)} {a b c : H} (h : LentTo own a b) (k : H.le b c) : LentTo own a c := fun E M w v hM ho hv => k E _ v (h E M w v hM ho hv)
def Among (own : List (Nat × Own)) (l : List (Nat × TO V.N)) : Prop := ∀ n o, (n, o) ∈ l → ∀ x, (∀ ω, encO V ω o = some x) → gt own n = some x
theorem argC_sound {S : TS V.N} : ∀ {ts : List (Ty V.ι)} {xs : List (TV V.N)} {l : List (Nat × TO V.N)} {ls : List (Leaf V.N)}, argC S ts xs = some (l, ls) →
  xs.length = ls.length ∧ (∀ n o, (n, o) ∈ l → S.own? n = some o ∧ ∃ l0, lentO o = some l0) ∧
   ∀ own : List (Nat × Own), Among own l → ∀ (i : Nat) (x : TV V.N) (l0 : Leaf V.N), xs[i]? = some x → ls[i]? = some l0 → LentTo own (encV V S.len x) (.d (encD V.sz V.enc l0.t l0.x))
 | [], [], l, ls, h => by
  simp [argC] at h; obtain ⟨rfl, rfl⟩ := h
  exact ⟨rfl, fun n o hm => by simp at hm, fun own _ i x l0 hx => by simp at hx⟩
 | [], _ :: _, l, ls, h => by simp [argC] at h
 | _ :: _, [], l, ls, h => by unfold argC at h; split at h <;> first | (cases h; done) | contradiction
 | t :: ts, x :: xs, l, ls, h => by
  unfold argC at h
  split at h
  ·rename_i heq _; cases heq
  ·rename_i e ts' n xs' heq1 heq2
   simp only [List.cons.injEq] at heq1 heq2
   obtain ⟨rfl, rfl⟩ := heq1
   obtain ⟨rfl, rfl⟩ := heq2
   split at h
   ·rename_i o hn
    split at h
    ·rename_i l00 hl0
     split at h
     ·rename_i l' ls' h2
      simp at h; obtain ⟨rfl, rfl⟩ := h
      obtain ⟨b1, b2, b3⟩ := argC_sound h2
      refine ⟨by simp [b1], fun m o hm => ?_, fun own hown i y l0 hy hl => ?_⟩
      ·rcases List.mem_cons.1 hm with he | hm
       ·simp only [Prod.mk.injEq] at he
        obtain ⟨rfl, rfl⟩ := he
        exact ⟨hn, _, hl0⟩
       ·exact b2 m o hm
      ·cases i with
       | zero =>
        simp at hy hl; subst hy; subst hl
        obtain ⟨x, x1, x2⟩ := lentO_enc hl0
        have := x2 own n (hown n o List.mem_cons_self x x1)
        simp only [encV]
        unfold TS.len
        rw [hn]; exact this
       | succ i => exact b3 own (fun m a hm => hown m a (List.mem_cons_of_mem _ hm)) i y l0 (by simpa using hy) (by simpa using hl)
     ·cases h
    ·cases h
   ·cases h
  ·rename_i t' ts' x' xs' _ heq1 heq2
   simp only [List.cons.injEq] at heq1 heq2
   obtain ⟨rfl, rfl⟩ := heq1
   obtain ⟨rfl, rfl⟩ := heq2
   split at h
   ·rename_i l0 hl
    split at h
    ·rename_i l' ls' h2
     simp at h; obtain ⟨rfl, rfl⟩ := h
     obtain ⟨b1, b2, b3⟩ := argC_sound h2
     refine ⟨by simp [b1], b2, fun own hown i y l1 hy hl1 => ?_⟩
     cases i with
     | zero =>
      simp at hy hl1; subst hy; subst hl1
      have hls : leavesOf V false [t] [x] = some [l0] := by simp [leavesOf, hl]
      obtain ⟨ds, e1, e2, _⟩ := leavesOf_sound (ω := S.len) hls
      simp only [encL] at e1
      obtain ⟨d, hd⟩ : ∃ d, ds = [d] := by
       match ds, e1 with
       | [d], _ => exact ⟨d, rfl⟩
       | [], e1 => simp at e1
       | _ :: _ :: _, e1 => simp at e1
      subst hd
      simp only [List.map_cons, List.map_nil, List.cons.injEq, and_true] at e1
      rw [e1]
      obtain ⟨d0, g1, g2⟩ := e2.get 0 (encD V.sz V.enc l0.t l0.x) rfl
      simp at g1; subst g1
      refine LentTo.le fun E M a hr => ?_
      cases hr with
      | d q => exact .d (g2 M a q)
     | succ i => exact b3 own hown i y l1 (by simpa using hy) (by simpa using hl1)
    ·cases h
   ·cases h
  ·cases h
theorem arg1_sound {S : TS V.N} {p : Pt V.ι} {x : TV V.N} {l : List (Nat × TO V.N)} {ls : List (Leaf V.N)} (h : arg1 S p x = some (l, ls)) :
  (∃ x0, (∀ rest, bd1 V p (ls ++ rest) = some (x0, rest)) ∧ ∀ ω0 : Nat → Nat, (l = [] → H.le (encV V S.len x) (encV V ω0 x0)) ∧ ∀ own, Among own l → LentTo own (encV V S.len x) (encV V ω0 x0)) ∧
    ∀ n o, (n, o) ∈ l → S.own? n = some o ∧ ∃ l0, lentO o = some l0 := by
 unfold arg1 at h
 split at h
 ·rename_i e n
  split at h
  ·rename_i o hn
   split at h
   ·rename_i l0 hl0
    have h' := if_some h; clear h
    obtain ⟨he, h⟩ := h'
    simp at h; obtain ⟨rfl, rfl⟩ := h
    refine ⟨⟨.lf l0.t l0.x, fun rest => rfl, fun ω0 => ⟨fun hl => by simp at hl, fun own hown => ?_⟩⟩, fun m o' hm => ?_⟩
    ·obtain ⟨x, x1, x2⟩ := lentO_enc hl0
     have := x2 own n (hown n o List.mem_cons_self x x1)
     simp only [encV]
     unfold TS.len
     rw [hn]; exact this
    ·simp at hm
     obtain ⟨rfl, rfl⟩ := hm
     exact ⟨hn, l0, hl0⟩
   ·cases h
  ·cases h
 ·rename_i i vs
  split at h
  ·split at h
   ·rename_i p0 l0 ls0 hC
    split at h
    ·rename_i y hy
     simp at h; obtain ⟨rfl, rfl⟩ := h
     obtain ⟨b1, b2, b3⟩ := argC_sound hC
     refine ⟨⟨.lf (.st i) y, fun rest => rfl, fun ω0 => ⟨fun hl => by simp at hl, fun own hown => ?_⟩⟩, b2⟩
     have hc := V.of_cells i ls0 y hy
     simp only [encV, encD]
     refine LentTo.pre (mkAgg_to _) (LentTo.post (LentTo.agg (l0 := ls0.map fun l => .d (encD V.sz V.enc l.t l.x)) (by rw [List.length_map, encL_len]; exact b1.symm) fun i a a0 ha ha0 => ?_) ?_)
     ·rw [encL_map, List.getElem?_map, Option.map_eq_some_iff] at ha
      rw [List.getElem?_map, Option.map_eq_some_iff] at ha0
      obtain ⟨u, hu, rfl⟩ := ha
      obtain ⟨l1, hl1, rfl⟩ := ha0
      exact b3 own hown i u l1 hu hl1
     ·have e1 : V.enc i y = ls0.map fun l => encD V.sz V.enc l.t l.x := by rw [V.enc_cells, hc]
      have := mkAgg_of ((ls0.map fun l => encD V.sz V.enc l.t l.x).map H.d)
      rw [mkAgg, allD_map] at this
      rw [e1]
      rw [List.map_map] at this
      exact this
    ·cases h
   ·cases h
  ·split at h
   ·rename_i σ ls' h1
    simp at h; obtain ⟨rfl, rfl⟩ := h
    obtain ⟨_, _, _, x0, a1, a2⟩ := mt1_sound h1
    have hσ := mt1_dat h1
    subst hσ
    have hle : ∀ ω0 : Nat → Nat, H.le (encV V S.len (.agg vs)) (encV V ω0 x0) := fun ω0 E M v hv => a2 [] [] E E M S.len ω0 v (Sub.refl _) rfl ⟨fun c n hc => by simp [gt] at hc, fun c n hc => by simp at hc⟩ hv
    exact ⟨⟨x0, a1, fun ω0 => ⟨fun _ => hle ω0, fun own _ => LentTo.le (hle ω0)⟩⟩, fun n o hm => by simp at hm⟩
   ·cases h
 ·rename_i t x' hne hne2
  split at h
  ·rename_i σ ls' h1
   simp at h; obtain ⟨rfl, rfl⟩ := h
   obtain ⟨_, _, _, x0, a1, a2⟩ := mt1_sound h1
   have hσ := mt1_dat h1
   subst hσ
   have hle : ∀ ω0 : Nat → Nat, H.le (encV V S.len x) (encV V ω0 x0) := fun ω0 E M v hv => a2 [] [] E E M S.len ω0 v (Sub.refl _) rfl ⟨fun c n hc => by simp [gt] at hc, fun c n hc => by simp at hc⟩ hv
   exact ⟨⟨x0, a1, fun ω0 => ⟨fun _ => hle ω0, fun own _ => LentTo.le (hle ω0)⟩⟩, fun n o hm => by simp at hm⟩
  ·cases h
 ·rename_i f f'
  have h' := if_some h; clear h
  obtain ⟨he, h⟩ := h'
  subst he
  simp at h; obtain ⟨rfl, rfl⟩ := h
  have hle : ∀ ω0 : Nat → Nat, H.le (encV V S.len (.fn f [] [])) (encV V ω0 (.fn f [] [] : TV V.N)) := fun ω0 => by simp only [encV, encL]; exact H.le.refl _
  exact ⟨⟨.fn f [] [], fun rest => rfl, fun ω0 => ⟨fun _ => hle ω0, fun own _ => LentTo.le (hle ω0)⟩⟩, fun n o hm => by simp at hm⟩
 ·cases h
theorem argsL_sound {S : TS V.N} : ∀ {ps : List (Pt V.ι)} {xs : List (TV V.N)} {l : List (Nat × TO V.N)} {ls : List (Leaf V.N)}, argsL S ps xs = some (l, ls) →
  ∃ xs0 : List (TV V.N), xs0.length = xs.length ∧ (∀ rest, bdL V ps (ls ++ rest) = some (xs0, rest)) ∧ (∀ (i : Nat) (x x0 : TV V.N), xs[i]? = some x → xs0[i]? = some x0 →
   ∀ ω0 : Nat → Nat, (l = [] → H.le (encV V S.len x) (encV V ω0 x0)) ∧ ∀ own, Among own l → LentTo own (encV V S.len x) (encV V ω0 x0)) ∧
   ∀ n o, (n, o) ∈ l → S.own? n = some o ∧ ∃ l0, lentO o = some l0
 | [], [], l, ls, h => by
  simp [argsL] at h; obtain ⟨rfl, rfl⟩ := h
  exact ⟨[], rfl, fun rest => rfl, fun i x x0 hx => by simp at hx, fun n o hm => by simp at hm⟩
 | [], _ :: _, l, ls, h => by simp [argsL] at h
 | _ :: _, [], l, ls, h => by simp [argsL] at h
 | p :: ps, x :: xs, l, ls, h => by
  simp only [argsL] at h
  split at h
  ·rename_i l1 ls1 h1
   split at h
   ·rename_i l2 ls2 h2
    simp at h; obtain ⟨rfl, rfl⟩ := h
    obtain ⟨⟨x0, a1, a2⟩, a3⟩ := arg1_sound h1
    obtain ⟨xs0, b1, b2, b3, b4⟩ := argsL_sound h2
    refine ⟨x0 :: xs0, by simp [b1], fun rest => by simp only [bdL, List.append_assoc, a1, b2], fun i y y0 hy hy0 ω0 => ?_, fun n o hm => ?_⟩
    ·cases i with
     | zero =>
      simp at hy hy0; subst hy; subst hy0
      exact ⟨fun hl => (a2 ω0).1 (List.append_eq_nil_iff.1 hl).1, fun own hown => (a2 ω0).2 own fun m a hm => hown m a (List.mem_append_left _ hm)⟩
     | succ i =>
      have := b3 i y y0 (by simpa using hy) (by simpa using hy0) ω0
      exact ⟨fun hl => this.1 (List.append_eq_nil_iff.1 hl).2, fun own hown => this.2 own fun m a hm => hown m a (List.mem_append_right _ hm)⟩
    ·rcases List.mem_append.1 hm with hm | hm
     ·exact a3 n o hm
     ·exact b4 n o hm
   ·cases h
  ·cases h
theorem newNames_sub {own : List (Nat × Own)} : ∀ {l : List (Nat × Own)}, (∀ p ∈ l, ∃ o, gt own p.1 = some o) → newNames own l = []
 | [], _ => rfl
 | (n, o) :: r, h => by
  obtain ⟨o', ho⟩ := h (n, o) List.mem_cons_self
  simp only at ho
  simp only [newNames, ho]
  exact newNames_sub fun p hp => h p (List.mem_cons_of_mem _ hp)
theorem callPure_ok {P : Program} {fid : Nat} {sig : Sig V} {F : HL V.N sig.tys → Option (HL V.N sig.rcut.tys)} (hF : SigOk P fid sig F) (ho : sig.objs = []) (hk0 : sig.keep = []) {A : Type} {args : List (TV V.N)} {S : TS V.N} {dst : Option Tmp}
  {k : TE V.N → Option A} {r : A} (h : callPure P sig F A args S k = some r) :
  ∃ te, k te = some r ∧ good S te ∧ ACall P fid (encL V S.len args) (encS V S).own? fun e' => ELe true e' (encE (S.app dst te).len te) := by
 unfold callPure at h
 split at h
 ·rename_i lent ls hargs
  split at h
  ·rename_i v hv
   obtain ⟨y, hy, h⟩ := some_bind h
   split at h
   ·rename_i x hx
    have hc := hF v y x hy hx
    have hkept : kept sig y = [] := by
     unfold kept
     rw [hk0, List.filter_eq_nil_iff]
     intro p _; simp
    rw [hkept] at hc
    obtain ⟨xs0, b1, b2, b3, b4⟩ := argsL_sound hargs
    have hls := toHL_of hv
    have hst : startOs sig v = (xs0, []) := by
     unfold startOs
     rw [hls]
     have := b2 []
     rw [List.append_nil] at this
     rw [this, ho]
     rfl
    have hown0 : (startS sig v).own = [] := by unfold startS; rw [hst]
    rw [hst, hown0] at hc
    simp only [encOs, List.filterMap_nil] at hc
    generalize (startS sig v).len = ω0 at hc
    cases lent with
    | nil =>
     simp only at h
     split at h
     ·rename_i hpl
      refine ⟨_, h, good_val S x [], ?_⟩
      have hw := hc.weak (args' := encL V S.len args) (by rw [encL_len, encL_len]; exact b1.symm) fun i a a0 ha ha0 => by
       rw [encL_map, List.getElem?_map, Option.map_eq_some_iff] at ha ha0
       obtain ⟨u, hu, rfl⟩ := ha
       obtain ⟨u0, hu0, rfl⟩ := ha0
       exact (b3 i u u0 hu hu0 ω0).1 rfl
      have hplH : H.plain (encV V (conc V sig.rcut y).len x) = true := by
       have : ∀ z : H, (∀ n, H.has n z = false) → H.plain z = true := by
        intro z
        refine H.rec (motive_1 := fun z => (∀ n, H.has n z = false) → H.plain z = true) (motive_2 := fun l => (∀ n, H.hasL n l = false) → H.plainL l = true) ?_ ?_ ?_ ?_ ?_ ?_ ?_ ?_ ?_ ?_ ?_ ?_ ?_ ?_ z
        ·intro _ _; rfl
        ·intro _; rfl
        ·intro m o hn; have := hn m; simp [H.has] at this
        ·intro m o hn; have := hn m; simp [H.has] at this
        ·intro m s i o hn; have := hn m; simp [H.has] at this
        ·intro m s i o hn; have := hn m; simp [H.has] at this
        ·intro m hn; have := hn m; simp [H.has] at this
        ·intro m b hn; have := hn m; simp [H.has] at this
        ·intro m hn; have := hn m; simp [H.has] at this
        ·intro cs ih hn; simp only [H.plain]; exact ih fun n => by have := hn n; simpa [H.has] using this
        ·intro cs ih hn; simp only [H.plain]; exact ih fun n => by have := hn n; simpa [H.has] using this
        ·intro f a b ih1 ih2 hn
         simp only [H.plain, Bool.and_eq_true]
         exact ⟨ih1 fun n => by have := hn n; simp only [H.has, Bool.or_eq_false_iff] at this; exact this.1, ih2 fun n => by have := hn n; simp only [H.has, Bool.or_eq_false_iff] at this; exact this.2⟩
        ·intro _; rfl
        ·intro x r ih1 ih2 hn
         simp only [H.plainL, Bool.and_eq_true]
         exact ⟨ih1 fun n => by have := hn n; simp only [H.hasL, Bool.or_eq_false_iff] at this; exact this.1, ih2 fun n => by have := hn n; simp only [H.hasL, Bool.or_eq_false_iff] at this; exact this.2⟩
       exact this _ fun n => by rw [encV_has]; exact plain_has hpl n
      refine acall_pure hw hplH ?_
      exact ele_eq (dst := dst) (l := []) (plain_enc hpl _ _)
     ·cases h
    | cons p l =>
     simp only at h
     split at h
     ·rename_i hfl
      generalize hL : p :: l = L at h hargs b3 b4
      have hpl := flat_plain hfl
      refine ⟨_, h, fun m o hm => ?_, ?_⟩
      ·right
       simp only [gt_app] at hm
       cases hq : gt L m with
       | some o' =>
        rw [hq] at hm; simp at hm; subst hm
        obtain ⟨h2, _⟩ := b4 m o' (gt_mem hq)
        unfold TS.len; rw [h2]
       | none =>
        rw [hq] at hm
        have hm' := gt_mem hm
        obtain ⟨q, hq1, hq2⟩ := List.mem_map.1 hm'
        simp only [Prod.mk.injEq] at hq2
        obtain ⟨rfl, rfl⟩ := hq2
        obtain ⟨h2, _⟩ := b4 q.1 q.2 hq1
        unfold TS.len; rw [h2]; rfl
      ·let own : List (Nat × Own) := L.filterMap fun q => (encO V S.len q.2).map fun o => (q.1, o)
       have hmap : ∀ l' : List (Nat × TO V.N), (∀ n o, (n, o) ∈ l' → S.own? n = some o ∧ ∃ l0, lentO o = some l0) → ∀ ω : Nat → Nat,
         l'.map (fun q => (q.1, encO V ω q.2)) = (l'.filterMap fun q => (encO V S.len q.2).map fun o => (q.1, o)).map (fun q => (q.1, some q.2)) ∧
         (l'.map fun q : Nat × TO V.N => (q.1, TO.gone (N := V.N) (TO.len (some q.2)))).map (fun q => (q.1, encO V ω q.2)) = (l'.filterMap fun q => (encO V S.len q.2).map fun o => (q.1, o)).map (fun q => (q.1, none)) ∧
         l'.map (·.1) = (l'.filterMap fun q => (encO V S.len q.2).map fun o => (q.1, o)).map (·.1) := by
        intro l'
        induction l' with
        | nil => intro _ ω; exact ⟨rfl, rfl, rfl⟩
        | cons q r ih =>
         intro hq ω
         obtain ⟨n, o⟩ := q
         obtain ⟨h2, l00, hl0⟩ := hq n o List.mem_cons_self
         obtain ⟨i1, i2, i3⟩ := ih (fun n o hm => hq n o (List.mem_cons_of_mem _ hm)) ω
         obtain ⟨x0, e0, _⟩ := lentO_enc hl0
         simp only [List.filterMap_cons, e0, Option.map_some, List.map_cons]
         rw [i1, i2, i3]
         exact ⟨rfl, rfl, rfl⟩
       have hgt : ∀ n x, gt own n = some x → ∃ o, (n, o) ∈ L ∧ S.own? n = some o ∧ encO V S.len o = some x := by
        intro n x hn
        obtain ⟨z, h1, h2⟩ := gt_filterMap hn
        exact ⟨z, h1, (b4 n z h1).1, h2⟩
       have hgt' : ∀ n o, (n, o) ∈ L → ∀ x, (∀ ω, encO V ω o = some x) → gt own n = some x := by
        intro n o hn x hx
        have hkey : n ∈ own.map (·.1) := by rw [← (hmap L b4 S.len).2.2]; exact List.mem_map_of_mem (f := (·.1)) hn
        obtain ⟨x', hxx⟩ := gt_some hkey
        obtain ⟨o', h1, h2, h3⟩ := hgt n x' hxx
        rw [(b4 n o hn).1] at h2; cases h2
        rw [hx] at h3; cases h3
        exact hxx
       have hat := lend (args := encL V S.len args) (own := own) hc (by rw [encL_len, encL_len]; exact b1.symm) (fun i a a0 ha ha0 => by
        rw [encL_map, List.getElem?_map, Option.map_eq_some_iff] at ha ha0
        obtain ⟨u, hu, rfl⟩ := ha
        obtain ⟨u0, hu0, rfl⟩ := ha0
        exact (b3 i u u0 hu hu0 ω0).2 own hgt') (fun E E' M M' v hv => flat_any hfl hv)
       refine ⟨own, _, own, hat, fun q hq => ?_, ?_⟩
       ·obtain ⟨z, hz1, hz2⟩ := List.mem_filterMap.1 hq
        obtain ⟨h2, l00, hl0⟩ := b4 z.1 z.2 hz1
        obtain ⟨x0, e0, _⟩ := lentO_enc hl0
        rw [e0] at hz2
        simp only [Option.map_some, Option.some.injEq] at hz2
        subst hz2
        rw [encS_own?, h2]; exact e0 _
       ·refine ele_upd ?_ ?_ ?_ ?_
        ·exact plain_enc hpl _ _
        ·simp only [callEff]
         exact newNames_sub fun p hp => by
          obtain ⟨o, hoo⟩ := gt_some (List.mem_map_of_mem (f := (·.1)) hp)
          exact ⟨o, hoo⟩
        ·simp only [callEff, List.map_append]
         obtain ⟨i1, i2, _⟩ := hmap L b4 (S.app dst { val := x, acc := L.map (·.1), upd := L ++ L.map fun q => (q.1, .gone (TO.len (some q.2))) }).len
         rw [i1, i2]
        ·simp only [callEff]
         exact (hmap L b4 S.len).2.2.symm
     ·cases h
   ·cases h
  ·cases h
 ·cases h
end
end Go.Tx
end
section
namespace Go.Tx
open Go.Awp
variable [Inhabited GMem]
def bodyOf (f : Func) : Code := match f.body with
 | some c => c
 | none => .skip
def loopsIn : Code → List Code
 | .seq a b => loopsIn a ++ loopsIn b
 | .block _ x => loopsIn x
 | .cond _ a b => loopsIn a ++ loopsIn b
 | .loop b => [b]
 | .scope b => loopsIn b
 | _ => []
def loopNo (c : Code) (i : Nat) : Code := match (loopsIn c)[i]? with
 | some b => b
 | none => .skip
def jumpsIn : Code → List Code
 | .seq a b => jumpsIn a ++ jumpsIn b
 | .block _ x => jumpsIn x
 | .cond _ a b => jumpsIn a ++ jumpsIn b
 | .scope b => b :: jumpsIn b
 | _ => []
def scopeNo (c : Code) (i : Nat) : Code := match (jumpsIn c)[i]? with
 | some b => b
 | none => .skip
def restOf (c : Code) (l : Nat) : Code := match findLabel c l with
 | some b => b
 | none => .skip
def AllB (p : Code → Prop) : List Code → Prop
 | [] => True
 | b :: r => p b ∧ AllB p r
theorem AllB_app {p : Code → Prop} : ∀ {l m : List Code}, AllB p (l ++ m) → AllB p l ∧ AllB p m
 | [], _, h => ⟨trivial, h⟩
 | _ :: _, _, h => ⟨⟨h.1, (AllB_app h.2).1⟩, (AllB_app h.2).2⟩
theorem kcast {a b : Prop} (h : a = b) (x : a) : b := h ▸ x
section
variable {V : View}
def LoopsP (C : Ctx) (X : Xc V) (b : Code) : Prop := ∀ la, X.loops (firstId b) = some la → LoopOk C b la
def JumpsP (C : Ctx) (X : Xc V) (x : Code) : Prop := ∀ l la, X.jumps (firstId x) = some (l, la) → JumpOk C x l la
theorem lok_all2 {C : Ctx} {X : Xc V} : ∀ {c : Code}, AllB (LoopsP C X) (loopsIn c) → AllB (JumpsP C X) (jumpsIn c) → LOk C X c := by
 intro c
 induction c with
 | seq a b iha ihb => intro h g; exact ⟨iha (AllB_app h).1 (AllB_app g).1, ihb (AllB_app h).2 (AllB_app g).2⟩
 | block id x ih => intro h g; exact ih h g
 | scope x ih => intro h g; exact ⟨ih h g.2, g.1⟩
 | cond c a b iha ihb => intro h g; exact ⟨iha (AllB_app h).1 (AllB_app g).1, ihb (AllB_app h).2 (AllB_app g).2⟩
 | loop b ih => intro h g; exact h.1
 | _ => intro _ _; trivial
theorem allB_of {p : Code → Prop} (h : ∀ b, p b) : ∀ l : List Code, AllB p l
 | [] => trivial
 | b :: r => ⟨h b, allB_of h r⟩
theorem lok_all {C : Ctx} {X : Xc V} {c : Code} (h : AllB (LoopsP C X) (loopsIn c)) (hj : ∀ k, X.jumps k = none := by intro k; rfl) : LOk C X c :=
 lok_all2 h (allB_of (fun x l la e => by rw [hj] at e; cases e) _)
theorem jump_at {C : Ctx} {X : Xc V} {x : Code} {l : Nat} {la0 : LoopA V X.sh} (e : X.jumps (firstId x) = some (l, la0)) (h : JumpOk C x l la0) : JumpsP C X x := fun l' la hl => by
 rw [e] at hl
 cases hl
 exact h
theorem loop_at {C : Ctx} {X : Xc V} {b : Code} {la0 : LoopA V X.sh} (e : X.loops (firstId b) = some la0) (h : LoopOk C b la0) : LoopsP C X b := fun la hl => by
 rw [e] at hl
 cases hl
 exact h
theorem call_none {P : Program} : CallerOk P (fun (_ : Type) _ _ _ _ => none : Caller V) := fun A fid args S dst k r h => by cases h
end
end Go.Tx
end
section
namespace Go.Tx
open Go.Awp
variable [Inhabited GMem]
section
variable {ι : Type} {N : ι → Type}
mutual
def TV.ren (f : Nat → Nat) : TV N → TV N
 | .bp n o => .bp (f n) o
 | .vh n => .vh (f n)
 | .ep n s i o => .ep (f n) s i o
 | .sv n s i o => .sv (f n) s i o
 | .mp n => .mp (f n)
 | .np n b => .np (f n) b
 | .sd n => .sd (f n)
 | .agg cs => .agg (TV.renL f cs)
 | .tup vs => .tup (TV.renL f vs)
 | .fn g a b => .fn g (TV.renL f a) (TV.renL f b)
 | .lf t x => .lf t x
 | .raw v => .raw v
 | .rp t x off => .rp t x off
 | .junk => .junk
def TV.renL (f : Nat → Nat) : List (TV N) → List (TV N)
 | [] => []
 | x :: r => TV.ren f x :: TV.renL f r
end
def TO.ren (f : Nat → Nat) : TO N → TO N
 | .box o cells => .box o (TV.renL f cells)
 | .bst i x => .bst i x
 | .vec te e xs => .vec te e xs
 | .dvec te e xs => .dvec te e xs
 | .pvec te e xs => .pvec te e xs
 | .map k v es => .map k v es
 | .iter s p => .iter s p
 | .miter m k v es rest cur => .miter (f m) k v es rest cur
 | .gone l => .gone l
mutual
def TV.allN (p : Nat → Bool) : TV N → Bool
 | .bp n _ => p n
 | .vh n => p n
 | .ep n _ _ _ => p n
 | .sv n _ _ _ => p n
 | .mp n => p n
 | .np n _ => p n
 | .sd n => p n
 | .agg cs => TV.allNL p cs
 | .tup vs => TV.allNL p vs
 | .fn _ a b => TV.allNL p a && TV.allNL p b
 | .lf .. => true
 | .raw _ => true
 | .rp .. => true
 | .junk => true
def TV.allNL (p : Nat → Bool) : List (TV N) → Bool
 | [] => true
 | x :: r => TV.allN p x && TV.allNL p r
end
def TO.allN (p : Nat → Bool) : TO N → Bool
 | .box _ cells => TV.allNL p cells
 | .bst .. => true
 | .vec .. => true
 | .dvec .. => true
 | .pvec .. => true
 | .map .. => true
 | .iter .. => true
 | .miter m _ _ _ _ _ => p m
 | .gone _ => false
end
section
variable {V : View}
mutual
theorem TV.allN_has {p : Nat → Bool} {n : Nat} : ∀ {x : TV V.N}, TV.allN p x = true → TV.has n x = true → p n = true
 | .bp m o, h, hn => by simp [TV.has] at hn; subst hn; simpa [TV.allN] using h
 | .vh m, h, hn => by simp [TV.has] at hn; subst hn; simpa [TV.allN] using h
 | .ep m s i o, h, hn => by simp [TV.has] at hn; subst hn; simpa [TV.allN] using h
 | .sv m s i o, h, hn => by simp [TV.has] at hn; subst hn; simpa [TV.allN] using h
 | .mp m, h, hn => by simp [TV.has] at hn; subst hn; simpa [TV.allN] using h
 | .np m b, h, hn => by simp [TV.has] at hn; subst hn; simpa [TV.allN] using h
 | .sd m, h, hn => by simp [TV.has] at hn; subst hn; simpa [TV.allN] using h
 | .agg cs, h, hn => by simp only [TV.allN] at h; simp only [TV.has] at hn; exact TV.allNL_has h hn
 | .tup cs, h, hn => by simp only [TV.allN] at h; simp only [TV.has] at hn; exact TV.allNL_has h hn
 | .fn f a b, h, hn => by
  simp only [TV.allN, Bool.and_eq_true] at h
  simp only [TV.has, Bool.or_eq_true] at hn
  rcases hn with hn | hn
  ·exact TV.allNL_has h.1 hn
  ·exact TV.allNL_has h.2 hn
 | .lf .., h, hn => by simp [TV.has] at hn
 | .raw _, h, hn => by simp [TV.has] at hn
 | .rp .., h, hn => by simp [TV.has] at hn
 | .junk, h, hn => by simp [TV.has] at hn
theorem TV.allNL_has {p : Nat → Bool} {n : Nat} : ∀ {l : List (TV V.N)}, TV.allNL p l = true → TV.hasL n l = true → p n = true
 | [], h, hn => by simp [TV.hasL] at hn
 | x :: r, h, hn => by
  simp only [TV.allNL, Bool.and_eq_true] at h
  simp only [TV.hasL, Bool.or_eq_true] at hn
  rcases hn with hn | hn
  ·exact TV.allN_has h.1 hn
  ·exact TV.allNL_has h.2 hn
end
theorem TO.allN_has {p : Nat → Bool} {n : Nat} {o : TO V.N} (h : TO.allN p o = true) (hn : TO.has n o = true) : p n = true := by
 cases o with
 | box oty cells => exact TV.allNL_has h hn
 | bst i x => simp [TO.has] at hn
 | vec te e xs => simp [TO.has] at hn
 | dvec te e xs => simp [TO.has] at hn
 | pvec te e xs => simp [TO.has] at hn
 | map k v es => simp [TO.has] at hn
 | iter s p => simp [TO.has] at hn
 | miter m k v es rest cur => simp [TO.has] at hn; subst hn; exact h
 | gone l => simp [TO.has] at hn
mutual
theorem H.allN_of {p : Nat → Bool} : ∀ {x : H}, (∀ n, H.has n x = true → p n = true) → H.allN p x = true
 | .bp m o, h => by simp only [H.allN]; exact h m (by simp [H.has])
 | .vh m l, h => by simp only [H.allN]; exact h m (by simp [H.has])
 | .ep m s i o, h => by simp only [H.allN]; exact h m (by simp [H.has])
 | .sv m s i o, h => by simp only [H.allN]; exact h m (by simp [H.has])
 | .mp m, h => by simp only [H.allN]; exact h m (by simp [H.has])
 | .np m b, h => by simp only [H.allN]; exact h m (by simp [H.has])
 | .sd m, h => by simp only [H.allN]; exact h m (by simp [H.has])
 | .agg cs, h => by simp only [H.allN]; exact H.allNL_of fun n hn => h n (by simpa [H.has] using hn)
 | .tup cs, h => by simp only [H.allN]; exact H.allNL_of fun n hn => h n (by simpa [H.has] using hn)
 | .fn f a b, h => by
  simp only [H.allN, Bool.and_eq_true]
  exact ⟨H.allNL_of fun n hn => h n (by simp [H.has, hn]), H.allNL_of fun n hn => h n (by simp [H.has, hn])⟩
 | .d _, h => by simp [H.allN]
 | .junk, h => by simp [H.allN]
theorem H.allNL_of {p : Nat → Bool} : ∀ {l : List H}, (∀ n, H.hasL n l = true → p n = true) → H.allNL p l = true
 | [], h => by simp [H.allNL]
 | x :: r, h => by
  simp only [H.allNL, Bool.and_eq_true]
  exact ⟨H.allN_of fun n hn => h n (by simp [H.hasL, hn]), H.allNL_of fun n hn => h n (by simp [H.hasL, hn])⟩
end
theorem allD_ren (f : Nat → Nat) : ∀ l : List H, allD (H.renL f l) = allD l
 | [] => rfl
 | x :: r => by
  have ih := allD_ren f r
  cases x <;> simp [H.renL, H.ren, allD, ih]
theorem mkAgg_ren (f : Nat → Nat) (l : List H) : H.ren f (mkAgg l) = mkAgg (H.renL f l) := by
 unfold mkAgg
 rw [allD_ren]
 split <;> simp [H.ren]
theorem encRaw_ren (f : Nat → Nat) (v : Value) : H.ren f (encRaw v) = encRaw v := by cases v <;> simp [encRaw, H.ren]
mutual
theorem encV_ren {f : Nat → Nat} {ω ω' : Nat → Nat} : ∀ x : TV V.N, (∀ n, TV.has n x = true → ω' (f n) = ω n) → encV V ω' (TV.ren f x) = H.ren f (encV V ω x)
 | .bp m o, h => by simp [TV.ren, encV, H.ren]
 | .vh m, h => by simp [TV.ren, encV, H.ren, h m (by simp [TV.has])]
 | .ep m s i o, h => by simp [TV.ren, encV, H.ren]
 | .sv m s i o, h => by simp [TV.ren, encV, H.ren]
 | .mp m, h => by simp [TV.ren, encV, H.ren]
 | .np m b, h => by simp [TV.ren, encV, H.ren]
 | .sd m, h => by simp [TV.ren, encV, H.ren]
 | .agg cs, h => by simp only [TV.ren, encV, mkAgg_ren]; rw [encL_ren cs fun n hn => h n (by simpa [TV.has] using hn)]
 | .tup cs, h => by simp only [TV.ren, encV, H.ren]; rw [encL_ren cs fun n hn => h n (by simpa [TV.has] using hn)]
 | .fn g a b, h => by
  simp only [TV.ren, encV, H.ren]
  rw [encL_ren a fun n hn => h n (by simp [TV.has, hn]), encL_ren b fun n hn => h n (by simp [TV.has, hn])]
 | .lf t x, h => by simp [TV.ren, encV, H.ren]
 | .raw v, h => by simp [TV.ren, encV, encRaw_ren]
 | .rp t x o, h => by simp [TV.ren, encV, H.ren]
 | .junk, h => by simp [TV.ren, encV, H.ren]
theorem encL_ren {f : Nat → Nat} {ω ω' : Nat → Nat} : ∀ l : List (TV V.N), (∀ n, TV.hasL n l = true → ω' (f n) = ω n) → encL V ω' (TV.renL f l) = H.renL f (encL V ω l)
 | [], h => rfl
 | x :: r, h => by
  simp only [TV.renL, encL, H.renL]
  rw [encV_ren x fun n hn => h n (by simp [TV.hasL, hn]), encL_ren r fun n hn => h n (by simp [TV.hasL, hn])]
end
theorem renL_ds (f : Nat → Nat) : ∀ l : List D, H.renL f (l.map .d) = l.map .d
 | [] => rfl
 | x :: r => by simp only [List.map_cons, H.renL, H.ren, renL_ds f r]
theorem encO_ren {f : Nat → Nat} {ω ω' : Nat → Nat} (o : TO V.N) (h : ∀ n, TO.has n o = true → ω' (f n) = ω n) : encO V ω' (TO.ren f o) = (encO V ω o).map (Own.ren f) := by
 cases o with
 | box oty cells => simp only [TO.ren, encO, Option.map_some, Own.ren]; rw [encL_ren cells h]
 | bst i x => simp only [TO.ren, encO, Option.map_some, Own.ren]; rw [renL_ds]
 | vec te e xs => simp [TO.ren, encO, Own.ren]
 | dvec te e xs => simp [TO.ren, encO, Own.ren]
 | pvec te e xs => simp [TO.ren, encO, Own.ren]
 | map k v es => simp [TO.ren, encO, Own.ren]
 | iter s p => simp [TO.ren, encO, Own.ren]
 | miter m k v es rest cur => simp [TO.ren, encO, Own.ren]
 | gone l => simp [TO.ren, encO]
theorem FnAt.weak {P : Program} {f : FuncId} {args args' : List H} {own own1 own' : List (Nat × Own)} {r : H} (h : FnAt P f args own r own')
  (ha : ∀ E M vs, HReps E M vs args' → HReps E M vs args) (ho : ∀ E M w, Owns E M w own1 → Owns E M w own) (hk : ∀ n, (∃ o, gt own n = some o) ↔ ∃ o, gt own1 n = some o)
  (hf : ∀ E M w, Owns E M w own1 → ∀ b, inExt E w own b → inExt E w own1 b) : FnAt P f args' own1 r own' := by
 refine ⟨h.1, fun E M w vs hgm hm how hvs => (h.2 E M w vs hgm hm (ho E M w how) (ha E M vs hvs)).mono ?_⟩
 have hin : ∀ b, inExt E w own b → inExt E w own1 b := hf E M w how
 rintro e w' ⟨v, E', M', rfl, hp, hE⟩
 refine ⟨v, E', M', rfl, { hp with mnew := fun b o v hv => ?_, home := fun n o b hn hb => ?_, frame := fun k hk hx => hp.frame k hk fun h1 => hx (hin k h1) }, fun n hn => hE n ?_⟩
 ·rcases hp.mnew b o v hv with h1 | h1 | h1
  ·exact .inl h1
  ·exact .inr (.inl (hin b h1))
  ·exact .inr (.inr h1)
 ·rcases hp.home n o b hn hb with h1 | h1
  ·exact .inl (hin b h1)
  ·exact .inr h1
 ·rcases hn with hn | hn
  ·exact .inl hn
  ·exact .inr ((hk n).2 hn)
end
end Go.Tx
end
section
namespace Go.Tx
open Go.Awp
variable [Inhabited GMem]
section
variable {V : View}
def isIn (n : Nat) : List Nat → Bool
 | [] => false
 | k :: r => Nat.beq k n || isIn n r
def newN (ks : List Nat) : List Nat → List Nat
 | [] => []
 | n :: r => match isIn n ks with
  | true => newN ks r
  | false => n :: newN ks r
def callNew : Nat → Names → List Nat → Names
 | _, σ, [] => σ
 | b, σ, c :: r => match gt σ c with
  | some _ => callNew b σ r
  | none => callNew (b + 1) ((c, b) :: σ) r
def callIn (sig : Sig V) : Bool := sig.params.all (vhIn V sig.objs) && sig.objs.all (fun p => match p.2 with
 | .box _ ps => ps.all (vhIn V sig.objs)
 | _ => true) && sig.objs.all (fun p => Nat.ble given p.1)
def stays (S : TS V.N) (n : Nat) : TO V.N → Bool
 | .box _ _ => Nat.beq (S.len n) 0
 | .bst _ _ => Nat.beq (S.len n) 0
 | .map _ _ _ => Nat.beq (S.len n) 0
 | .iter _ _ => Nat.beq (S.len n) 0
 | .vec _ _ _ => true
 | .dvec _ _ _ => true
 | .pvec _ _ _ => true
 | _ => false
def callOut (S : TS V.N) (sig : Sig V) (τ : Names) (x : TV V.N) (os : List (Nat × TO V.N)) : Bool :=
 σok τ && os.all (fun p => Nat.ble given p.1 || Nat.blt (σf τ p.1) given) && TV.allN (fun n => (gt os n).isSome) x && os.all (fun p => TO.allN (fun n => (gt os n).isSome) p.2) &&
  os.all (fun p => !isIn p.1 (sig.objs.map (·.1)) || stays S (σf τ p.1) p.2) && distinct (os.map (·.1))
def keepLens (S : TS V.N) (ks : List Nat) (τ : Names) : List (Nat × TO V.N) → List (Nat × Nat)
 | [] => []
 | (c, o) :: r => match o with
  | .vec _ _ xs => match isIn c ks with
   | true => (xs.length, S.len (σf τ c)) :: keepLens S ks τ r
   | false => keepLens S ks τ r
  | .dvec _ _ xs => match isIn c ks with
   | true => (xs.length, S.len (σf τ c)) :: keepLens S ks τ r
   | false => keepLens S ks τ r
  | .pvec _ _ xs => match isIn c ks with
   | true => (xs.length, S.len (σf τ c)) :: keepLens S ks τ r
   | false => keepLens S ks τ r
  | _ => keepLens S ks τ r
def lenIfs {A : Type} : List (Nat × Nat) → Option A → Option A
 | [], k => k
 | (a, b) :: r, k => if a = b then lenIfs r k else none
theorem lenIfs_some {A : Type} {x : A} : ∀ {l : List (Nat × Nat)} {k : Option A}, lenIfs l k = some x → k = some x ∧ ∀ p ∈ l, p.1 = p.2
 | [], k, h => ⟨h, fun p hp => by cases hp⟩
 | (a, b) :: r, k, h => by
  simp only [lenIfs] at h
  split at h
  ·rename_i hab
   obtain ⟨h1, h2⟩ := lenIfs_some h
   refine ⟨h1, fun p hp => ?_⟩
   rcases List.mem_cons.1 hp with rfl | hp
   ·exact hab
   ·exact h2 p hp
  ·cases h
theorem keepLens_mem {S : TS V.N} {ks : List Nat} {τ : Names} {c : Nat} {x : TO V.N} (hx : (∃ te e ys, x = .vec te e ys) ∨ (∃ te e ys, x = .dvec te e ys) ∨ ∃ te e ys, x = .pvec te e ys) (hi : isIn c ks = true) : ∀ {l : List (Nat × TO V.N)}, (c, x) ∈ l → (TO.len (some x), S.len (σf τ c)) ∈ keepLens S ks τ l
 | (d, o) :: r, h => by
  rcases List.mem_cons.1 h with h | h
  ·simp only [Prod.mk.injEq] at h
   obtain ⟨rfl, rfl⟩ := h
   rcases hx with ⟨te, e, ys, rfl⟩ | ⟨te, e, ys, rfl⟩ | ⟨te, e, ys, rfl⟩
   ·simp only [keepLens, hi]
    exact List.mem_cons_self
   ·simp only [keepLens, hi]
    exact List.mem_cons_self
   ·simp only [keepLens, hi]
    exact List.mem_cons_self
  ·have ih := keepLens_mem (S := S) (τ := τ) hx hi h
   unfold keepLens
   split
   ·split
    ·exact List.mem_cons_of_mem _ ih
    ·exact ih
   ·split
    ·exact List.mem_cons_of_mem _ ih
    ·exact ih
   ·split
    ·exact List.mem_cons_of_mem _ ih
    ·exact ih
   ·exact ih
def callObj (P : Program) (sig : Sig V) (F : HL V.N sig.tys → Option (HL V.N sig.rcut.tys)) (A : Type) (args : List (TV V.N)) (S : TS V.N) (k : TE V.N → Option A) : Option A :=
 match mtL V [] sig.params args with
 | some (σ0, l0) => match mtO V S σ0 sig.objs with
  | some (σ1, l1) => match callIn sig with
   | true => match toHL sig.tys (l0 ++ l1) with
    | some v => F v >>= fun r => match resV P sig r with
     | some x => match callOut S sig (callNew (80000 + S.own.length) σ1 ((kept sig r).map (·.1))) x (kept sig r) with
      | true => lenIfs (keepLens S (sig.objs.map (·.1)) (callNew (80000 + S.own.length) σ1 ((kept sig r).map (·.1))) (kept sig r)) (k
       { val := x.ren (σf (callNew (80000 + S.own.length) σ1 ((kept sig r).map (·.1))))
         acc := sig.objs.map fun p => σf σ1 p.1
         upd := ((kept sig r).map fun p => (σf (callNew (80000 + S.own.length) σ1 ((kept sig r).map (·.1))) p.1, p.2.ren (σf (callNew (80000 + S.own.length) σ1 ((kept sig r).map (·.1)))))) ++ sig.objs.map fun p => (σf σ1 p.1, .gone (S.len (σf σ1 p.1)))
         new := newN (sig.objs.map fun p => σf σ1 p.1) ((kept sig r).map fun p => σf (callNew (80000 + S.own.length) σ1 ((kept sig r).map (·.1))) p.1) })
      | false => none
     | none => none
    | none => none
   | false => none
  | none => none
 | none => none
theorem isIn_iff {n : Nat} : ∀ {l : List Nat}, isIn n l = true ↔ n ∈ l
 | [] => by simp [isIn]
 | k :: r => by
  simp only [isIn, Bool.or_eq_true, List.mem_cons, isIn_iff (l := r)]
  constructor
  ·rintro (h | h)
   ·exact .inl (Nat.eq_of_beq_eq_true h).symm
   ·exact .inr h
  ·rintro (rfl | h)
   ·exact .inl (by simp)
   ·exact .inr h
theorem gt_none_iff {α : Type} : ∀ {l : List (Nat × α)} {n : Nat}, gt l n = none ↔ n ∉ l.map (·.1)
 | [], n => by simp [gt]
 | (k, x) :: r, n => by
  rw [gt_cons]
  by_cases hk : k = n
  ·subst hk; simp
  ·rw [if_neg hk, gt_none_iff (l := r)]
   simp [Ne.symm hk]
theorem newNames_newN {own : List (Nat × Own)} : ∀ {l : List (Nat × Own)}, newNames own l = newN (own.map (·.1)) (l.map (·.1))
 | [] => rfl
 | (n, o) :: r => by
  simp only [newNames, List.map_cons, newN]
  cases hq : gt own n with
  | none =>
   have : isIn n (own.map (·.1)) = false := by
    rw [Bool.eq_false_iff]; intro h; exact gt_none_iff.1 hq (isIn_iff.1 h)
   simp only [this, newNames_newN (l := r)]
  | some y =>
   have : isIn n (own.map (·.1)) = true := isIn_iff.2 (List.mem_map_of_mem (f := (·.1)) (gt_mem hq))
   simp only [this, newNames_newN (l := r)]
theorem callNew_sub : ∀ {l : List Nat} {b : Nat} {σ : Names} {c n : Nat}, gt σ c = some n → gt (callNew b σ l) c = some n
 | [], b, σ, c, n, h => h
 | d :: r, b, σ, c, n, h => by
  simp only [callNew]
  split
  ·exact callNew_sub h
  ·rename_i hd
   refine callNew_sub ?_
   rw [gt_cons]
   by_cases hk : d = c
   ·subst hk; rw [hd] at h; cases h
   ·rw [if_neg hk]; exact h
theorem σf_some {σ : Names} {c n : Nat} (h : gt σ c = some n) : σf σ c = n := by unfold σf; rw [h]
end
end Go.Tx
end
section
namespace Go.Tx
open Go.Awp
variable [Inhabited GMem]
section
variable {V : View}
theorem gt_filter {α : Type} (q : Nat → Bool) : ∀ (l : List (Nat × α)) (n : Nat) (x : α), gt (l.filter fun p => q p.1) n = some x → gt l n = some x
 | [], n, x, h => by simp [gt] at h
 | (k, y) :: r, n, x, h => by
  rw [List.filter_cons] at h
  rw [gt_cons]
  by_cases hk : k = n
  ·subst hk
   rw [if_pos rfl]
   split at h
   ·rw [gt_cons, if_pos rfl] at h; exact h
   ·rename_i hq
    have := gt_mem h
    have := (List.mem_filter.1 this).2
    exact (hq this).elim
  ·rw [if_neg hk]
   split at h
   ·rw [gt_cons, if_neg hk] at h; exact gt_filter q r n x h
   ·exact gt_filter q r n x h
theorem gt_mapf {α β : Type} {f : Nat → Nat} {g : α → β} (hf : ∀ a b, f a = f b → a = b) : ∀ (l : List (Nat × α)) (n : Nat), gt (l.map fun p => (f p.1, g p.2)) (f n) = (gt l n).map g
 | [], n => by simp [gt]
 | (k, y) :: r, n => by
  rw [List.map_cons, gt_cons, gt_cons]
  by_cases hk : k = n
  ·subst hk; simp
  ·rw [if_neg hk, if_neg fun e => hk (hf _ _ e)]; exact gt_mapf hf r n
theorem newN_mem {ks : List Nat} {n : Nat} : ∀ {l : List Nat}, n ∈ l → n ∉ ks → n ∈ newN ks l
 | [], h, _ => by cases h
 | k :: r, h, hn => by
  simp only [newN]
  rcases List.mem_cons.1 h with rfl | h
  ·split
   ·rename_i hi; exact (hn (isIn_iff.1 hi)).elim
   ·exact List.mem_cons_self
  ·split
   ·exact newN_mem h hn
   ·exact List.mem_cons_of_mem _ (newN_mem h hn)
theorem len_ren (f : Nat → Nat) (o : TO V.N) : TO.len (some (TO.ren f o)) = TO.len (some o) := by cases o <;> rfl
theorem callObj_ok {P : Program} {fid : Nat} {sig : Sig V} {F : HL V.N sig.tys → Option (HL V.N sig.rcut.tys)} (hF : SigOk P fid sig F) {A : Type} {args : List (TV V.N)} {S : TS V.N} {dst : Option Tmp}
  {k : TE V.N → Option A} {r : A} (h : callObj P sig F A args S k = some r) :
  ∃ te, k te = some r ∧ good S te ∧ ACall P fid (encL V S.len args) (encS V S).own? fun e' => ELe true e' (encE (S.app dst te).len te) := by
 unfold callObj at h
 split at h
 ·rename_i σ0 l0 h0
  split at h
  ·rename_i σ1 l1 h1
   split at h
   ·rename_i hin
    split at h
    ·rename_i v hv
     obtain ⟨y, hy, h⟩ := some_bind h
     split at h
     ·rename_i x hx
      split at h
      ·rename_i hout
       obtain ⟨h, hlens⟩ := lenIfs_some h
       have hc := hF v y x hy hx
       have hls := toHL_of hv
       obtain ⟨a1, a2, a3, xs0, a4, a5, a6⟩ := mtL_sound h0
       obtain ⟨b1, b2, os0, b3, b4, b5, b6⟩ := mtO_sound h1
       have hst : startOs sig v = (xs0, os0) := by
        unfold startOs
        rw [hls, a5 l1]
        simp only [b4]
       have hS : (startS sig v).own = os0 := by unfold startS; rw [hst]
       rw [hst, hS] at hc
       have hlen0 : ∀ c o, gt os0 c = some o → (startS sig v).len c = TO.len (some o) := by
        intro c o ho
        unfold TS.len TS.own?
        rw [hS, ho]
       generalize (startS sig v).len = ω0 at hc hlen0
       generalize hos : kept sig y = os at h hout hc hlens
       have hlen1 : ∀ c o, gt os c = some o → (conc V sig.rcut y).len c = TO.len (some o) := by
        intro c o ho
        rw [← hos] at ho
        have := gt_filter (fun n => sig.keep.contains n) (conc V sig.rcut y).own c o ho
        unfold TS.len TS.own?
        rw [this]
       generalize (conc V sig.rcut y).len = ω1 at hc hlen1
       generalize hτ : callNew (80000 + S.own.length) σ1 (os.map (·.1)) = τ at h hout hlens
       have hsub : ∀ c n, gt σ1 c = some n → gt τ c = some n := fun c n hcn => by rw [← hτ]; exact callNew_sub hcn
       simp only [callOut, Bool.and_eq_true, List.all_eq_true] at hout
       obtain ⟨⟨⟨⟨⟨o1, o2⟩, o3⟩, o4⟩, o5⟩, o6⟩ := hout
       simp only [callIn, Bool.and_eq_true, List.all_eq_true] at hin
       obtain ⟨⟨i1, i2⟩, i3⟩ := hin
       have hfi := σf_inj o1
       have hbound : ∀ p ∈ sig.objs, ∃ n o, gt σ1 p.1 = some n ∧ S.own? n = some o ∧ ∃ z, encO V S.len o = some z := by
        intro p hp
        have : p.1 ∈ os0.map (·.1) := by rw [b6]; exact List.mem_map_of_mem hp
        obtain ⟨q, hq, hqe⟩ := List.mem_map.1 this
        obtain ⟨n, o, q1, q2, _, z, q3, _⟩ := b5 q.1 q.2 hq
        exact ⟨n, o, by rw [← hqe]; exact q1, q2, _, q3 S.len⟩
       have hTr : ∀ E : Env, Tr σ1 sig.objs E (fun c => E (σf τ c)) S.len ω0 := fun E => by
        refine ⟨fun c n hcn => by rw [σf_some (hsub c n hcn)], fun c n hc' hcn => ?_⟩
        rw [List.any_eq_true] at hc'
        obtain ⟨p, hp, hpn⟩ := hc'
        have hpn : p.1 = c := by simpa using hpn
        have hm : c ∈ os0.map (·.1) := by rw [b6, ← hpn]; exact List.mem_map_of_mem hp
        obtain ⟨o, ho⟩ := gt_some hm
        obtain ⟨n', o', q1, q2, q3, _⟩ := b5 c o (gt_mem ho)
        rw [hcn] at q1; cases q1
        rw [hlen0 c o ho, q3]; unfold TS.len; rw [q2]
       have hob' : ∀ p ∈ sig.objs, match p.2 with | .box _ ps => ps.all (vhIn V sig.objs) = true | _ => True := by
        intro p hp
        have := i2 p hp
        cases hq : p.2 with
        | box oty ps => rw [hq] at this; simpa using this
        | st i => trivial
        | vec te e => trivial
        | dvec te e out => trivial
        | map tk tv => trivial
        | iter => trivial
        | miter m k v => trivial
       have hown : ∀ n o, gt (sig.objs.filterMap fun p => ((S.own? (σf σ1 p.1)).bind (encO V S.len)).map fun o => (σf σ1 p.1, o)) n = some o → (S.own? n).bind (encO V S.len) = some o := by
        intro n o hn
        obtain ⟨p, hp, hpe⟩ := List.mem_filterMap.1 (gt_mem hn)
        rw [Option.map_eq_some_iff] at hpe
        obtain ⟨o', h1, h2⟩ := hpe
        simp only [Prod.mk.injEq] at h2
        obtain ⟨rfl, rfl⟩ := h2
        exact h1
       have hkeys : ∀ n, n ∈ (sig.objs.filterMap fun p => ((S.own? (σf σ1 p.1)).bind (encO V S.len)).map fun o => (σf σ1 p.1, o)).map (·.1) ↔ n ∈ sig.objs.map fun p => σf σ1 p.1 := by
        intro n
        constructor
        ·intro hn
         obtain ⟨q, hq, rfl⟩ := List.mem_map.1 hn
         obtain ⟨p, hp, hpe⟩ := List.mem_filterMap.1 hq
         rw [Option.map_eq_some_iff] at hpe
         obtain ⟨o', h1, h2⟩ := hpe
         rw [← h2]
         exact List.mem_map_of_mem (f := fun p => σf σ1 p.1) hp
        ·intro hn
         obtain ⟨p, hp, rfl⟩ := List.mem_map.1 hn
         obtain ⟨n, o, q1, q2, z, q3⟩ := hbound p hp
         refine List.mem_map.2 ⟨(σf σ1 p.1, z), List.mem_filterMap.2 ⟨p, hp, ?_⟩, rfl⟩
         rw [σf_some q1, q2]
         simp [q3]
       have hex : ∀ n o, gt (renO (σf τ) (encOs ω0 os0)) n = some o → ∃ z, (gt (sig.objs.filterMap fun p => ((S.own? (σf σ1 p.1)).bind (encO V S.len)).map fun o => (σf σ1 p.1, o)) n = some z) ∧ (∀ E M w, OwnOk E M w n z → OwnOk E M w n o) ∧ ∀ (E : Env) w b, o.foot w (E n) b → z.foot w (E n) b := by
        intro n o hn
        obtain ⟨c, o1, rfl, hg, rfl⟩ := gt_renO_some hfi hn
        obtain ⟨t, ht, hto⟩ := gt_filterMap hg
        obtain ⟨n', oS, q1, q2, _, x4, q4, x', q5, q6, q7⟩ := b5 c t ht
        rw [q5] at hto
        simp only [Option.some.injEq] at hto; subst hto
        have e : σf τ c = n' := σf_some (hsub _ _ q1)
        have hck : c ∈ sig.objs.map (·.1) := by rw [← b6]; exact List.mem_map_of_mem (f := (·.1)) ht
        obtain ⟨p, hp, hpc⟩ := List.mem_map.1 hck
        have hk' := (hkeys n').2 (List.mem_map.2 ⟨p, hp, by rw [hpc]; exact σf_some q1⟩)
        obtain ⟨z, hz⟩ := gt_some hk'
        have hz' := hown _ _ hz
        rw [q2] at hz'
        simp only [Option.bind_some, q4, Option.some.injEq] at hz'
        rw [e]
        refine ⟨z, hz, fun E M w hw => ?_, fun E w b hb => ?_⟩
        ·rw [← hz'] at hw
         have := (q6 σ1 sig.objs E _ M w S.len ω0 (Sub.refl _) hob' (hTr E) hw).ren (E' := E) (f := σf τ) rfl fun m _ => rfl
         rw [e] at this
         exact this
        ·rw [Own.ren_foot] at hb
         rw [← hz']
         exact q7 E (fun _ => E n') w S.len ω0 b rfl hb
       have hsome : ∀ p ∈ os, ∃ o, encO V ω1 p.2 = some o := by
        intro p hp
        have := o4 p hp
        cases hq : p.2 with
        | box oty cells => exact ⟨_, rfl⟩
        | bst i x => exact ⟨_, rfl⟩
        | vec te e xs => exact ⟨_, rfl⟩
        | dvec te e xs => exact ⟨_, rfl⟩
        | pvec te e xs => exact ⟨_, rfl⟩
        | map tk tv es => exact ⟨_, rfl⟩
        | iter s p => exact ⟨_, rfl⟩
        | miter m k v es rest cur => exact ⟨_, rfl⟩
        | gone l => rw [hq] at this; simp [TO.allN] at this
       have hgos : ∀ n, (gt os n).isSome = true → (gt (encOs ω1 os) n).isSome = true := by
        intro n hn
        obtain ⟨o, ho⟩ := Option.isSome_iff_exists.1 hn
        obtain ⟨z, hz⟩ := hsome _ (gt_mem ho)
        rw [gt_encOs ho hz]; rfl
       refine ⟨_, h, ?_, ?_⟩
       ·intro m o hm
        simp only [gt_app] at hm
        split at hm
        ·rename_i o' hq
         simp only [Option.some.injEq] at hm; subst hm
         obtain ⟨p, hp, hpe⟩ := List.mem_map.1 (gt_mem hq)
         simp only [Prod.mk.injEq] at hpe
         obtain ⟨rfl, rfl⟩ := hpe
         have h5 := o5 p hp
         rw [Bool.or_eq_true] at h5
         by_cases hpk : isIn p.1 (sig.objs.map (·.1)) = true
         ·right
          rcases h5 with h5 | h5
          ·rw [hpk] at h5; cases h5
          ·rw [len_ren]
           cases hpp : p.2 with
           | box oty cells => rw [hpp] at h5; simp only [stays] at h5; exact (Nat.eq_of_beq_eq_true h5).symm
           | bst i x => rw [hpp] at h5; simp only [stays] at h5; exact (Nat.eq_of_beq_eq_true h5).symm
           | vec te e xs =>
            exact hlens _ (keepLens_mem (.inl ⟨te, e, xs, rfl⟩) hpk (by rw [← hpp]; exact hp))
           | dvec te e xs =>
            exact hlens _ (keepLens_mem (.inr (.inl ⟨te, e, xs, rfl⟩)) hpk (by rw [← hpp]; exact hp))
           | pvec te e xs =>
            exact hlens _ (keepLens_mem (.inr (.inr ⟨te, e, xs, rfl⟩)) hpk (by rw [← hpp]; exact hp))
           | map tk tv es => rw [hpp] at h5; simp only [stays] at h5; exact (Nat.eq_of_beq_eq_true h5).symm
           | iter s p => rw [hpp] at h5; simp only [stays] at h5; exact (Nat.eq_of_beq_eq_true h5).symm
           | miter m k v es rest cur => rw [hpp] at h5; cases h5
           | gone l => rw [hpp] at h5; cases h5
         ·left
          refine newN_mem (List.mem_map.2 ⟨p, hp, rfl⟩) fun hmem => hpk (isIn_iff.2 ?_)
          obtain ⟨q, hq', hqe⟩ := List.mem_map.1 hmem
          obtain ⟨n, o, q1, _⟩ := hbound q hq'
          rw [σf_some q1, ← σf_some (hsub _ _ q1)] at hqe
          rw [← hfi _ _ hqe]
          exact List.mem_map_of_mem (f := (·.1)) hq'
        ·right
         obtain ⟨q, hq', hqe⟩ := List.mem_map.1 (gt_mem hm)
         simp only [Prod.mk.injEq] at hqe
         obtain ⟨rfl, rfl⟩ := hqe
         rfl
       ·have hat := hc.ren τ (by
         simp only [renOk, Bool.and_eq_true, List.all_eq_true]
         refine ⟨⟨⟨⟨o1, fun p hp => ?_⟩, fun p hp => ?_⟩, ?_⟩, fun p hp => ?_⟩
         ·obtain ⟨z, hz, hz2⟩ := List.mem_filterMap.1 hp
          rw [Option.map_eq_some_iff] at hz2
          obtain ⟨o', _, rfl⟩ := hz2
          have : z.1 ∈ sig.objs.map (·.1) := by rw [← b6]; exact List.mem_map_of_mem (f := (·.1)) hz
          obtain ⟨q, hq, hqe⟩ := List.mem_map.1 this
          have := i3 q hq
          rw [hqe] at this
          exact this
         ·obtain ⟨z, hz, hz2⟩ := List.mem_filterMap.1 hp
          rw [Option.map_eq_some_iff] at hz2
          obtain ⟨o', _, rfl⟩ := hz2
          exact o2 z hz
         ·refine H.allN_of fun n hn => ?_
          rw [encV_has] at hn
          have := TV.allN_has o3 hn
          rw [Bool.or_eq_true]; exact .inr (hgos n this)
         ·obtain ⟨z, hz, hz2⟩ := List.mem_filterMap.1 hp
          rw [Option.map_eq_some_iff] at hz2
          obtain ⟨o', ho', rfl⟩ := hz2
          have h4 := o4 z hz
          cases o' with
          | box oty cells =>
           simp only [Own.allN]
           refine H.allNL_of fun n hn => ?_
           have : TO.has n z.2 = true := by rw [← encO_has ω1 n ho']; exact hn
           have := TO.allN_has h4 this
           rw [Bool.or_eq_true]; exact .inr (hgos n this)
          | vec e sz rows => rfl
          | map es => rfl
          | iter s p => rfl
          | dvec e sz rows => rfl
          | miter m es rest cur =>
           simp only [Own.allN]
           have : TO.has m z.2 = true := by rw [← encO_has ω1 m ho']; exact Nat.beq_refl m
           have := TO.allN_has h4 this
           rw [Bool.or_eq_true]; exact .inr (hgos m this))
        generalize hownE : (sig.objs.filterMap fun p => ((S.own? (σf σ1 p.1)).bind (encO V S.len)).map fun o => (σf σ1 p.1, o)) = own at hown hkeys hex
        refine ⟨own, _, _, FnAt.weak (args' := encL V S.len args) (own1 := own) hat (fun E M vs hvs => ?_) (fun E M w hw => ?_) (fun n => ?_) (fun E M w hw b hb => ?_), fun p hp => ?_, ?_⟩
        ·refine ⟨by rw [hvs.1, H.renL_len, encL_len, encL_len, a4], fun i c z hcz hz => ?_⟩
         rw [H.renL_get, encL_map, List.getElem?_map, Option.map_map, Option.map_eq_some_iff] at hz
         obtain ⟨u0, hu0, rfl⟩ := hz
         have hi : i < args.length := by rw [← a4]; exact (List.getElem?_eq_some_iff.1 hu0).1
         have hu := List.getElem?_eq_getElem hi
         obtain ⟨_, k2⟩ := a6 i _ u0 hu hu0
         have hr := hvs.2 i c (encV V S.len args[i]) hcz (by rw [encL_map, List.getElem?_map, hu]; rfl)
         exact (k2 σ1 sig.objs E _ M S.len ω0 c b1 (List.all_eq_true.2 i1) (hTr E) hr).ren fun n _ => rfl
        ·refine ⟨fun n o hn => ?_, fun n m o o' b hne hn hm hb => ?_⟩
         ·obtain ⟨z, hz, hz', _⟩ := hex n o hn
          exact hz' E M w (hw.ok n z hz)
         ·obtain ⟨z, hz, _, f1⟩ := hex n o hn
          obtain ⟨z', hz', _, f2⟩ := hex m o' hm
          exact fun hb' => hw.apart n m z z' b hne hz hz' (f1 E w b hb) (f2 E w b hb')
        ·constructor
         ·rintro ⟨o, ho⟩
          obtain ⟨z, hz, _⟩ := hex n o ho
          exact ⟨z, hz⟩
         ·rintro ⟨o, ho⟩
          have := (hkeys n).1 (List.mem_map_of_mem (f := (·.1)) (gt_mem ho))
          obtain ⟨p, hp, rfl⟩ := List.mem_map.1 this
          have hm : p.1 ∈ os0.map (·.1) := by rw [b6]; exact List.mem_map_of_mem hp
          obtain ⟨t, ht⟩ := gt_some hm
          obtain ⟨n', oS, q1, q2, _, x4, q4, x', q5, q6⟩ := b5 p.1 t (gt_mem ht)
          refine ⟨(x' ω0).ren (σf τ), ?_⟩
          rw [σf_some q1, ← σf_some (hsub _ _ q1), gt_renO hfi, gt_encOs ht (q5 ω0)]
          rfl
        ·obtain ⟨n, o, hn, hb⟩ := hb
         obtain ⟨z, hz, _, f1⟩ := hex n o hn
         exact ⟨n, z, hz, f1 E w b hb⟩
        ·rw [← hownE] at hp
         obtain ⟨q, hq, hqe⟩ := List.mem_filterMap.1 hp
         rw [Option.map_eq_some_iff] at hqe
         obtain ⟨o', h1, rfl⟩ := hqe
         rw [encS_own?]; exact h1
        ·have hω : ∀ te : TE V.N, (∀ c o, gt os c = some o → gt te.upd (σf τ c) = some (o.ren (σf τ))) → ∀ c, (gt os c).isSome = true → (S.app dst te).len (σf τ c) = ω1 c := by
          intro te hte c hcs
          obtain ⟨o, ho⟩ := Option.isSome_iff_exists.1 hcs
          rw [app_len, hte c o ho, hlen1 c o ho]
          exact len_ren _ o
         have hkl : own.map (·.1) = sig.objs.map fun p => σf σ1 p.1 := by
          rw [← hownE]
          have : ∀ l : List (Nat × OPt V.ι), (∀ p ∈ l, ∃ n o, gt σ1 p.1 = some n ∧ S.own? n = some o ∧ ∃ z, encO V S.len o = some z) →
            (l.filterMap fun p => ((S.own? (σf σ1 p.1)).bind (encO V S.len)).map fun o => (σf σ1 p.1, o)).map (·.1) = l.map fun p => σf σ1 p.1 := by
           intro l
           induction l with
           | nil => intro _; rfl
           | cons p r ih =>
            intro hl
            obtain ⟨n, o, q1, q2, z, q3⟩ := hl p List.mem_cons_self
            have e : (S.own? (σf σ1 p.1)).bind (encO V S.len) = some z := by rw [σf_some q1, q2]; exact q3
            simp only [List.filterMap_cons, e, Option.map_some, List.map_cons]
            rw [ih fun q hq => hl q (List.mem_cons_of_mem _ hq)]
          exact this sig.objs hbound
         have hml : (renO (σf τ) (encOs ω1 os)).map (·.1) = os.map fun p => σf τ p.1 := by
          have : ∀ l : List (Nat × TO V.N), (∀ p ∈ l, ∃ o, encO V ω1 p.2 = some o) → (renO (σf τ) (encOs ω1 l)).map (·.1) = l.map fun p => σf τ p.1 := by
           intro l
           induction l with
           | nil => intro _; rfl
           | cons p r ih =>
            intro hl
            obtain ⟨o, ho⟩ := hl p List.mem_cons_self
            have := ih fun q hq => hl q (List.mem_cons_of_mem _ hq)
            unfold renO encOs at this ⊢
            simp only [List.filterMap_cons, ho, Option.map_some, List.map_cons]
            rw [this]
          exact this os hsome
         refine ele_upd ?_ ?_ ?_ ?_
         ·simp only [callEff]
          refine (encV_ren x fun n hn => hω _ (fun c o ho => ?_) n (TV.allN_has o3 hn)).symm
          simp only [gt_app, gt_mapf hfi, ho, Option.map_some]
         ·simp only [callEff]
          rw [newNames_newN, hkl]
          rw [hml]
         ·simp only [callEff, List.map_append]
          refine congr (congrArg _ ?_) ?_
          ·have : ∀ (ω2 : Nat → Nat) (l : List (Nat × TO V.N)), (∀ p ∈ l, ∃ o, encO V ω1 p.2 = some o) → (∀ p ∈ l, encO V ω2 (TO.ren (σf τ) p.2) = (encO V ω1 p.2).map (Own.ren (σf τ))) →
             (renO (σf τ) (encOs ω1 l)).map (fun p => (p.1, some p.2)) = (l.map fun p => (σf τ p.1, TO.ren (σf τ) p.2)).map fun p => (p.1, encO V ω2 p.2) := by
            intro ω2 l
            induction l with
            | nil => intro _ _; rfl
            | cons p r ih =>
             intro hl hl2
             obtain ⟨o, ho⟩ := hl p List.mem_cons_self
             have h2 := hl2 p List.mem_cons_self
             have := ih (fun q hq => hl q (List.mem_cons_of_mem _ hq)) fun q hq => hl2 q (List.mem_cons_of_mem _ hq)
             unfold renO encOs at this ⊢
             simp only [List.filterMap_cons, ho, Option.map_some, List.map_cons, h2]
             rw [this]
           refine this _ os hsome fun p hp => encO_ren p.2 fun n hn => hω _ (fun c o ho => ?_) n (TO.allN_has (o4 p hp) hn)
           simp only [gt_app, gt_mapf hfi, ho, Option.map_some]
          ·have e : own.map (fun p : Nat × Own => (p.1, (none : Option Own))) = (own.map (·.1)).map fun n => (n, none) := by rw [List.map_map]; rfl
           rw [e, hkl, List.map_map, List.map_map]
           rfl
         ·simp only [callEff]
          exact hkl
      ·cases h
     ·cases h
    ·cases h
   ·cases h
  ·cases h
 ·cases h
end
end Go.Tx
end
section
namespace Go.Tx
open Go.Awp
variable [Inhabited GMem]
section
variable (V : View)
mutual
def dbulk {H : Type} : DataW H → Nat
 | .lit (.string bs) => bs.length + 1
 | .lit _ => 1
 | .nil => 1
 | .ptr d => dbulk d + 1
 | .slice elems spare => dbulkL elems + dbulkL spare + 1
 | .agg parts => dbulkL parts + 1
 | .iface _ d => dbulk d + 1
 | .map _ => 1
 | .held _ => 1
def dbulkL {H : Type} : List (DataW H) → Nat
 | [] => 0
 | d :: r => dbulk d + dbulkL r
end
theorem dbulkL_sum {H : Type} : ∀ l : List (DataW H), dbulkL l = (l.map dbulk).sum
 | [] => by simp [dbulkL]
 | d :: r => by simp [dbulkL, dbulkL_sum r]
inductive Ok : (t : Ty V.ι) → den V.N t → Prop
 | int {k : IntKind} {n : Int} : (Lit.int k n).wf = true → Ok (.int k) n
 | bool (b : Bool) : Ok .bool b
 | str {s : ByteArray} : s.size ≤ maxLen → Ok .str s
 | sl {e : Ty V.ι} {xs : List (den V.N e)} : xs.length ≤ maxLen → (∀ x ∈ xs, Ok e x) → Ok (.sl e) xs
 | st {i : V.ι} {x : V.N i} : (∀ l ∈ V.cells i x, Ok l.t l.x) → Ok (.st i) x
inductive Bk : (t : Ty V.ι) → den V.N t → Nat → Prop
 | int {k : IntKind} {n : Int} {m : Nat} : 1 ≤ m → Bk (.int k) n m
 | bool {b : Bool} {m : Nat} : 1 ≤ m → Bk .bool b m
 | str {s : ByteArray} {m : Nat} : s.size + 1 ≤ m → Bk .str s m
 | sl {e : Ty V.ι} {xs : List (den V.N e)} {m : Nat} (ns : List Nat) : ns.length = xs.length → (∀ (i : Nat) (x : den V.N e) (n : Nat), xs[i]? = some x → ns[i]? = some n → Bk e x n) → ns.sum + 1 ≤ m → Bk (.sl e) xs m
 | st {i : V.ι} {x : V.N i} {m : Nat} (ns : List Nat) : ns.length = (V.cells i x).length → (∀ (j : Nat) (l : Leaf V.N) (n : Nat), (V.cells i x)[j]? = some l → ns[j]? = some n → Bk l.t l.x n) → ns.sum + 1 ≤ m → Bk (.st i) x m
def Bks (ls : List (Leaf V.N)) (m : Nat) : Prop :=
 ∃ ns : List Nat, ns.length = ls.length ∧ (∀ (j : Nat) (l : Leaf V.N) (n : Nat), ls[j]? = some l → ns[j]? = some n → Bk V l.t l.x n) ∧ ns.sum ≤ m
def flatTy : Ty V.ι → List (Ty V.ι)
 | .st i => V.tys i
 | t => [t]
def flds (P : Program) : Nat → List Field → Option (List (Ty V.ι))
 | _, [] => some []
 | off, f :: fs => match V.ty f.type with
  | some τ => if f.offset = off ∧ P.cellsOf f.type = tsz V.sz τ then match flds P (off + tsz V.sz τ) fs with
    | some l => some (flatTy V τ ++ l)
    | none => none
   else none
  | none => none
def tyFact (P : Program) (t : TypeId) : Ty V.ι → Prop
 | .int k => P.underlying t = some (.int k)
 | .bool => P.underlying t = some .bool
 | .str => P.underlying t = some .string
 | .sl e => ∃ te, P.underlying t = some (.slice te) ∧ V.ty te = some e ∧ P.cellsOf te = tsz V.sz e ∧ Nat.blt 0 (tsz V.sz e) = true
 | .mp _ _ => False
 | .er => False
 | .op _ => False
 | .st i => ∃ fs : Array Field, P.underlying t = some (.struct fs) ∧ P.cellsOf t = V.sz i ∧ flds V P 0 fs.toList = some (V.tys i)
structure Facts (P : Program) : Prop where
 ty : ∀ t τ, V.ty t = some τ → tyFact V P t τ
 tys : ∀ i x, (V.cells i x).map (·.t) = V.tys i
 of : ∀ i ls, ls.map (·.t) = V.tys i → ∃ y, V.ofCells i ls = some y
end
section
variable {V : View} {H0 : Type} {enc : TypeId × Value → H0} {P : Program} {W : World} {spare : Nat → Bool} {held : Bool} {base : Nat}
theorem read_string {t : TypeId} (hu : P.underlying t = some .string) {fuel : Nat} {cs : List Value} {x : DataW H0 × List MemPlace} (h : DataW.trod enc P W base spare held fuel t cs = some x) :
  ∃ s, cs = [.string s] ∧ s.size ≤ maxLen := by
 cases fuel with
 | zero => cases h
 | succ fuel =>
  unfold DataW.trod at h
  rw [hu] at h
  simp only [] at h
  split at h <;> try (rename_i h1 _; cases h1)
  all_goals try (cases h; done)
  all_goals simp_all
def LeafRep (M : Mem) (cs : List Value) (ls : List (Leaf V.N)) : Prop :=
 cs.length = ls.length ∧ ∀ (i : Nat) (c : Value) (l : Leaf V.N), cs[i]? = some c → ls[i]? = some l → DRep M c (encD V.sz V.enc l.t l.x)
theorem LeafRep.app {M : Mem} {cs cs' : List Value} {ls ls' : List (Leaf V.N)} (h : LeafRep M cs ls) (h' : LeafRep M cs' ls') : LeafRep M (cs ++ cs') (ls ++ ls') := by
 refine ⟨by simp [h.1, h'.1], fun i c l hc hl => ?_⟩
 by_cases hi : i < cs.length
 ·rw [List.getElem?_append_left hi] at hc
  rw [List.getElem?_append_left (by rw [← h.1]; exact hi)] at hl
  exact h.2 i c l hc hl
 ·rw [List.getElem?_append_right (by omega)] at hc
  rw [List.getElem?_append_right (by rw [← h.1]; omega), ← h.1] at hl
  exact h'.2 _ c l hc hl
theorem Bks.app {ls ls' : List (Leaf V.N)} {m m' : Nat} (h : Bks V ls m) (h' : Bks V ls' m') : Bks V (ls ++ ls') (m + m') := by
 obtain ⟨ns, h1, h2, h3⟩ := h
 obtain ⟨ns', h1', h2', h3'⟩ := h'
 refine ⟨ns ++ ns', by simp [h1, h1'], fun j l n hl hn => ?_, by simp; omega⟩
 by_cases hj : j < ls.length
 ·rw [List.getElem?_append_left hj] at hl
  rw [List.getElem?_append_left (by omega)] at hn
  exact h2 j l n hl hn
 ·rw [List.getElem?_append_right (by omega)] at hl
  rw [List.getElem?_append_right (by omega), h1] at hn
  exact h2' _ l n hl hn
theorem Bks.one {t : Ty V.ι} {x : den V.N t} {m : Nat} (h : Bk V t x m) : Bks V [⟨t, x⟩] m :=
 ⟨[m], rfl, fun j l n hl hn => by
  cases j with
  | zero => simp at hl hn; subst hl; subst hn; exact h
  | succ j => simp at hl, by simp⟩
def Rd (M : Mem) (τ : Ty V.ι) (cs : List Value) (m : Nat) : Prop :=
 ∃ y : den V.N τ, Ok V τ y ∧ LeafRep M cs (rcells V τ y) ∧ (rcells V τ y).map (·.t) = flatTy V τ ∧ (∀ l ∈ rcells V τ y, Ok V l.t l.x) ∧ Bk V τ y m ∧ Bks V (rcells V τ y) m
theorem read_fields (F : Facts V P) {M : Mem} {rd : TypeId → List Value → Nat → Prop} (hrd : ∀ t τ cs m, V.ty t = some τ → rd t cs m → Rd (V := V) M τ cs m) {cs : List Value} : ∀ (fs : List Field) (ms : List Nat) (off : Nat) (l : List (Ty V.ι)),
  flds V P off fs = some l → ms.length = fs.length → (∀ (j : Nat) (f : Field) (m : Nat), fs[j]? = some f → ms[j]? = some m → rd f.type ((cs.drop f.offset).take (P.cellsOf f.type)) m) →
  ∃ (n : Nat) (ls : List (Leaf V.N)), ls.map (·.t) = l ∧ LeafRep M ((cs.drop off).take n) ls ∧ (∀ x ∈ ls, Ok V x.t x.x) ∧ n = ls.length ∧ Bks V ls ms.sum
 | [], ms, off, l, h, hm, _ => by
  simp [flds] at h; subst h
  exact ⟨0, [], rfl, ⟨rfl, fun i c l hc => by simp at hc⟩, (fun x hx => nomatch hx), rfl, [], rfl, fun j l n hl => by simp at hl, by simp⟩
 | f :: fs, [], off, l, h, hm, _ => by simp at hm
 | f :: fs, m :: ms, off, l, h, hm, hf => by
  simp only [flds] at h
  split at h
  ·rename_i τ hτ
   split at h
   ·rename_i hc
    obtain ⟨ho, hsz⟩ := hc
    split at h
    ·rename_i l' hl'
     simp at h; subst h
     obtain ⟨n, ls, a1, a2, a3, a4, a5⟩ := read_fields F hrd fs ms _ l' hl' (by simpa using hm) fun j g m hg hm => hf (j + 1) g m (by simpa using hg) (by simpa using hm)
     obtain ⟨y, b1, b2, b3, b4, b5, b6⟩ := hrd f.type τ _ m hτ (hf 0 f m rfl rfl)
     rw [ho, hsz] at b2
     refine ⟨tsz V.sz τ + n, rcells V τ y ++ ls, by simp [a1, b3], ?_, fun x hx => ?_, by simp [rcells_len, a4], by rw [List.sum_cons]; exact b6.app a5⟩
     ·have e : (cs.drop off).take (tsz V.sz τ + n) = (cs.drop off).take (tsz V.sz τ) ++ (cs.drop (off + tsz V.sz τ)).take n := by
       rw [List.take_add, List.drop_drop]
      rw [e]
      exact b2.app a2
     ·rcases List.mem_append.1 hx with hx | hx
      ·exact b4 x hx
      ·exact a3 x hx
    ·cases h
   ·cases h
  ·cases h
theorem read_structB {t : TypeId} {fs : Array Field} (hu : P.underlying t = some (.struct fs)) {fuel : Nat} {cs : List Value} {x : DataW H0 × List MemPlace} (h : DataW.trod enc P W base spare held (fuel + 1) t cs = some x) :
  cs.length = P.cellsOf t ∧ ∃ ds : List (DataW H0), x.1 = .agg ds ∧ ds.length = fs.toList.length ∧ ∀ (i : Nat) (f : Field), fs.toList[i]? = some f → ∃ y, ds[i]? = some y.1 ∧ DataW.trod enc P W base spare held fuel f.type ((cs.drop f.offset).take (P.cellsOf f.type)) = some y := by
 unfold DataW.trod at h
 rw [hu] at h
 simp only [] at h
 split at h
 ·rename_i hl
  rw [Option.map_eq_some_iff] at h
  obtain ⟨ys, hm, hx⟩ := h
  subst hx
  refine ⟨hl, ys.map (·.1), rfl, by rw [List.length_map, (mapM_some hm).1], fun i f hf => ?_⟩
  obtain ⟨y, hy1, hy⟩ := (mapM_some hm).2 i f hf
  exact ⟨y, by rw [List.getElem?_map, hy1]; rfl, hy⟩
 ·cases h
theorem read_sliceB {t e : TypeId} (hu : P.underlying t = some (.slice e)) {fuel : Nat} {cs : List Value} {x : DataW H0 × List MemPlace} (h : DataW.trod enc P W base spare held (fuel + 1) t cs = some x) :
  (cs = [.slice none 0 0] ∧ x.1 = .nil) ∨ ∃ a len cap, cs = [.slice (some a) len cap] ∧ len ≤ cap ∧ cap ≤ maxLen ∧ ∃ ds sp : List (DataW H0), x.1 = .slice ds sp ∧ ds.length = len ∧
    ∀ i, i < len → ∃ row y, W.cells? base (a.add (i * P.cellsOf e)) (P.cellsOf e) = some row ∧ DataW.trod enc P W base spare held fuel e row = some y ∧ ds[i]? = some y.1 := by
 unfold DataW.trod at h
 rw [hu] at h
 simp only [] at h
 split at h
 all_goals first
  | (simp only [Option.some.injEq, reduceCtorEq] at *; done)
  | (left; simp only [Option.some.injEq] at h; exact ⟨rfl, by rw [← h]⟩)
  | (rename_i a len cap hx
     simp only [Option.some.injEq, TypeDesc.slice.injEq] at hx
     subst hx
     right
     split at h
     ·rename_i hc
      rw [Option.bind_eq_some_iff] at h
      obtain ⟨ys, hm, h⟩ := h
      rw [Option.map_eq_some_iff] at h
      obtain ⟨rest, _, h⟩ := h
      subst h
      refine ⟨a, len, cap, rfl, hc.2.1, hc.2.2, ys.map (·.1), rest.map (·.1), rfl, by rw [List.length_map, (mapM_some hm).1, List.length_range], fun i hi => ?_⟩
      obtain ⟨y, hy1, hy⟩ := (mapM_some hm).2 i i (by rw [List.getElem?_range hi])
      rw [Option.bind_eq_some_iff] at hy
      obtain ⟨row, h1, h2⟩ := hy
      exact ⟨row, y, h1, h2, by rw [List.getElem?_map, hy1]; rfl⟩
     ·cases h)
  | skip
theorem dbulk_pos {H : Type} (d : DataW H) : 1 ≤ dbulk d := by
 cases d with
 | lit l => cases l <;> simp [dbulk]
 | _ => simp [dbulk]
theorem read_stringB {t : TypeId} (hu : P.underlying t = some .string) {fuel : Nat} {cs : List Value} {x : DataW H0 × List MemPlace} (h : DataW.trod enc P W base spare held fuel t cs = some x) :
  ∃ s, cs = [.string s] ∧ s.size ≤ maxLen ∧ dbulk x.1 = s.size + 1 := by
 cases fuel with
 | zero => cases h
 | succ fuel =>
  obtain ⟨s, rfl, hs⟩ := read_string hu h
  refine ⟨s, rfl, hs, ?_⟩
  unfold DataW.trod at h
  rw [hu] at h
  simp only [] at h
  rw [if_pos hs] at h
  cases h
  show dbulk (.lit (.string s.data.toList)) = s.data.size + 1
  rw [dbulk, Array.length_toList]
theorem encR_rcells (τ : Ty V.ι) (y : den V.N τ) : encR V.sz V.enc τ y = (rcells V τ y).map fun l => encD V.sz V.enc l.t l.x := by
 cases τ <;> first | rfl | (simp only [encR, rcells]; exact V.enc_cells _ _) | simp [encR, rcells, encD]
theorem read_all (F : Facts V P) : ∀ (fuel : Nat) (t : TypeId) (τ : Ty V.ι) (cs : List Value) (x : DataW H0 × List MemPlace), V.ty t = some τ → DataW.trod enc P W base spare held fuel t cs = some x → Rd (memOf W) τ cs (dbulk x.1) := by
 intro fuel
 induction fuel using Nat.strongRecOn with
 | ind fuel ih =>
 intro t τ cs x hty h
 have hf := F.ty t τ hty
 cases τ with
 | mp k v => exact hf.elim
 | er => exact hf.elim
 | op e => exact hf.elim
 | int k =>
  obtain ⟨n, rfl, hw⟩ := read_int hf h
  refine ⟨n, .int hw, ⟨rfl, fun i c l hc hl => ?_⟩, rfl, fun l hl => ?_, .int (dbulk_pos _), .one (.int (dbulk_pos _))⟩
  ·cases i with
   | zero => simp [rcells] at hc hl; subst hc; subst hl; exact .v _
   | succ i => simp at hc
  ·simp [rcells] at hl; subst hl; exact .int hw
 | bool =>
  obtain ⟨b, rfl⟩ := read_bool hf h
  refine ⟨b, .bool b, ⟨rfl, fun i c l hc hl => ?_⟩, rfl, fun l hl => ?_, .bool (dbulk_pos _), .one (.bool (dbulk_pos _))⟩
  ·cases i with
   | zero => simp [rcells] at hc hl; subst hc; subst hl; exact .v _
   | succ i => simp at hc
  ·simp [rcells] at hl; subst hl; exact .bool b
 | str =>
  obtain ⟨s, rfl, hs, hb⟩ := read_stringB hf h
  refine ⟨s, .str hs, ⟨rfl, fun i c l hc hl => ?_⟩, rfl, fun l hl => ?_, .str (Nat.le_of_eq hb.symm), .one (.str (Nat.le_of_eq hb.symm))⟩
  ·cases i with
   | zero => simp [rcells] at hc hl; subst hc; subst hl; exact .v _
   | succ i => simp at hc
  ·simp [rcells] at hl; subst hl; exact .str hs
 | st i =>
  obtain ⟨fs, hu, hsz, hfl⟩ := hf
  cases fuel with
  | zero => cases h
  | succ fuel =>
   obtain ⟨hl, ds, hx, hdl, hr⟩ := read_structB hu h
   obtain ⟨n, ls, a1, a2, a3, a4, a5⟩ := read_fields F (M := memOf W) (rd := fun t cs m => ∃ y, DataW.trod enc P W base spare held fuel t cs = some y ∧ m = dbulk y.1) (fun t τ cs m hτ ⟨y, hy, hm⟩ => hm ▸ ih fuel (by omega) t τ cs y hτ hy) fs.toList (ds.map dbulk) 0 _ hfl
    (by rw [List.length_map, hdl])
    (fun j f m hf hm => by
      obtain ⟨y, hy1, hy⟩ := hr j f hf
      rw [List.getElem?_map, hy1] at hm
      exact ⟨y, hy, by simpa using hm.symm⟩)
   obtain ⟨y, hy⟩ := F.of i ls a1
   have hc := V.of_cells i ls y hy
   have hn : n = cs.length := by rw [a4, ← hc, V.len_cells, hl, hsz]
   rw [List.drop_zero, List.take_of_length_le (by omega)] at a2
   have hdb : dbulk x.1 = (ds.map dbulk).sum + 1 := by rw [hx, dbulk, dbulkL_sum]
   obtain ⟨ns, c1, c2, c3⟩ := a5
   refine ⟨y, .st (by rw [hc]; exact a3), by simpa only [rcells, hc] using a2, by simpa only [rcells, hc, flatTy] using a1, by simpa only [rcells, hc] using a3, .st ns (by rw [hc]; exact c1) (by rw [hc]; exact c2) (by omega), ns, by simpa only [rcells, hc] using c1, by simpa only [rcells, hc] using c2, by omega⟩
 | sl e =>
  obtain ⟨te, hu, hte, hsz, hpos⟩ := hf
  have hpos : 0 < tsz V.sz e := by simpa [Nat.blt_eq] using hpos
  cases fuel with
  | zero => cases h
  | succ fuel =>
   have fin : ∀ (c3 : Value) (ys : List (den V.N e)), ys.length ≤ maxLen → (∀ y ∈ ys, Ok V e y) → DRep (memOf W) c3 (encD V.sz V.enc (.sl e) ys) → Bk V (.sl e) ys (dbulk x.1) → Rd (V := V) (memOf W) (.sl e) [c3] (dbulk x.1) := by
    intro c3 ys h1 h2 h3 h4
    refine ⟨ys, .sl h1 h2, ⟨rfl, fun i c l hc hl => ?_⟩, rfl, fun l hl => ?_, h4, .one h4⟩
    ·cases i with
     | zero => simp [rcells] at hc hl; subst hc; subst hl; exact h3
     | succ i => simp at hc
    ·simp [rcells] at hl; subst hl; exact .sl h1 h2
   rcases read_sliceB hu h with ⟨h4, hx⟩ | ⟨a, len, cap, h4, hlc, hcm, ds, sp, hx, hdl, hr⟩
   ·subst h4
    exact fin _ [] (by simp) (fun y hy => by cases hy) (.slnil _) (.sl [] rfl (fun i x n hx => by simp at hx) (by rw [hx]; simp [dbulk]))
   ·subst h4
    rw [hsz] at hr
    obtain ⟨ys, hyl, hys⟩ := list_of (α := den V.N e) (R := fun i y => ∃ row d, W.cells? base (a.add (i * tsz V.sz e)) (tsz V.sz e) = some row ∧ Ok V e y ∧ LeafRep (memOf W) row (rcells V e y) ∧ ds[i]? = some d ∧ Bk V e y (dbulk d)) len
     fun i hi => by
      obtain ⟨row, z, g1, g2, g3⟩ := hr i hi
      obtain ⟨y, b1, b2, _, _, b5, _⟩ := ih fuel (by omega) te e row z hte g2
      exact ⟨y, row, z.1, g1, b1, b2, g3, b5⟩
    have hdb : dbulk x.1 = (ds.map dbulk).sum + dbulkL sp + 1 := by rw [hx, dbulk, dbulkL_sum]
    refine fin _ ys (by omega) (fun y hy => ?_) (DRep.of_slice (b := base) hpos hlc (by rw [List.length_map, hyl]) (fun r hr' => ?_) fun i hi => ?_) (.sl (ds.map dbulk) (by rw [List.length_map, hdl, hyl]) (fun i y n hy hn => ?_) (by omega))
    ·obtain ⟨i, hi, rfl⟩ := List.getElem_of_mem hy
     obtain ⟨row, _, _, e1, _⟩ := hys i _ (List.getElem?_eq_getElem hi)
     exact e1
    ·obtain ⟨y, _, rfl⟩ := List.mem_map.1 hr'
     rw [encR_rcells, List.length_map, rcells_len]
    ·obtain ⟨row, _, e0, _, e2, _⟩ := hys i (ys[i]'(by omega)) (List.getElem?_eq_getElem (by omega))
     refine ⟨row, e0, fun r hr' j c y hc hy => ?_⟩
     rw [List.getElem?_map, List.getElem?_eq_getElem (by omega : i < ys.length)] at hr'
     simp at hr'
     subst hr'
     rw [encR_rcells, List.getElem?_map, Option.map_eq_some_iff] at hy
     obtain ⟨l, hl, rfl⟩ := hy
     exact e2.2 j c l hc hl
    ·obtain ⟨row, d, _, _, _, e3, e4⟩ := hys i y hy
     rw [List.getElem?_map, e3] at hn
     simp at hn
     subst hn
     exact e4
theorem cell_not_agg {r : Reach} {t : TypeId} {cs : Array Value} (h : (∃ k, P.underlying t = some (.int k)) ∨ P.underlying t = some .bool ∨ P.underlying t = some .string ∨ ∃ e, P.underlying t = some (.slice e)) :
  ¬ Value.okWide P W r base t (.agg cs) := by
 intro hv
 unfold Value.okWide at hv
 rcases h with ⟨k, h⟩ | h | h | ⟨e, h⟩ <;> rw [h] at hv <;> simp only [Cell.okWide, Cell.ok, h] at hv
theorem open_valB (F : Facts V P) {r : Reach} {b0 : Nat} {t : TypeId} {τ : Ty V.ι} {v : Value} {d : DataW H0} {p : List MemPlace} (hty : V.ty t = some τ) (hok : Value.okWide P W r b0 t v) (h : DataW.Trod enc P W base spare held t v d p) :
  ∃ y : den V.N τ, Ok V τ y ∧ DRep (memOf W) v (encD V.sz V.enc τ y) ∧ Bk V τ y (dbulk d) := by
 obtain ⟨fuel, h⟩ := h
 obtain ⟨y, h1, h2, _, _, h5, _⟩ := read_all F fuel t τ _ _ hty h
 refine ⟨y, h1, ?_, h5⟩
 have hf := F.ty t τ hty
 have cell : (∀ cs, v ≠ .agg cs) → rcells V τ y = [⟨τ, y⟩] → DRep (memOf W) v (encD V.sz V.enc τ y) := by
  intro hn hr
  rw [hr] at h2
  have hc : v.cells.toList = [v] := by cases v <;> first | rfl | exact (hn _ rfl).elim
  rw [hc] at h2
  exact h2.2 0 v ⟨τ, y⟩ rfl rfl
 cases τ with
 | mp k v => exact hf.elim
 | er => exact hf.elim
 | op e => exact hf.elim
 | int k => exact cell (fun cs e => by subst e; exact cell_not_agg (.inl ⟨k, hf⟩) hok) rfl
 | bool => exact cell (fun cs e => by subst e; exact cell_not_agg (.inr (.inl hf)) hok) rfl
 | str => exact cell (fun cs e => by subst e; exact cell_not_agg (.inr (.inr (.inl hf))) hok) rfl
 | sl e =>
  obtain ⟨te, hu, _⟩ := hf
  exact cell (fun cs e => by subst e; exact cell_not_agg (.inr (.inr (.inr ⟨te, hu⟩))) hok) rfl
 | st i =>
  obtain ⟨fs, hu, _, _⟩ := hf
  unfold Value.okWide at hok
  rw [hu] at hok
  obtain ⟨cs, rfl, _⟩ := hok
  simp only [Value.cells] at h2
  simp only [encD]
  rw [V.enc_cells]
  refine .agg cs _ (by rw [List.length_map]; have := h2.1; simpa [rcells] using this) fun k c x hc hx => ?_
  rw [List.getElem?_map, Option.map_eq_some_iff] at hx
  obtain ⟨l, hl, rfl⟩ := hx
  exact h2.2 k c l (by simpa using hc) hl
end
end Go.Tx
end
section
namespace Go.Proofs.YtpndmanbfleadaaGreatDoor
open Go.Awp Go.Shelf
open Go.Proofs.Tryz (prog)
set_option maxRecDepth 100000
theorem types8 : U8Types prog Tryz.lays196_ren := .of196 Tryz.lays196
theorem extra8 : U8Extra prog Tryz.lays196_ren := ⟨by kernel_rfl, by kernel_rfl, by kernel_rfl, by kernel_rfl, by kernel_rfl, by kernel_rfl, by kernel_rfl⟩
theorem first8 : Rows.laid_unicode_utf8_first = Lib.firstData := by kernel_rfl
theorem accept8 : (Rows.laid_unicode_utf8_acceptRanges : DataW Unit) = Lib.acceptData := by kernel_rfl
theorem pow8 : (Rows.laid_internal_strconv_uint64pow10 : DataW Unit) = Lib.tabData .u64 Lib.pow10Tab := by kernel_rfl
def bruijn : List Int := [0, 1, 56, 2, 57, 49, 28, 3, 61, 58, 42, 50, 38, 29, 17, 4, 62, 47, 59, 36, 45, 43, 51, 22, 53, 39, 33, 30, 24, 18, 12, 5, 63, 55, 48, 27, 60, 41, 37, 16, 46, 35, 44, 21, 52, 32, 23, 11, 54, 26, 40, 15, 34, 20, 31, 10, 25, 14, 19, 9, 13, 8, 7, 6]
theorem bruijn8 : (Rows.laid_math_bits_deBruijn64tab : DataW Unit) = Lib.tabData .u8 bruijn := by kernel_rfl
def laid8 : List (String × DataW Unit) := [("math/bits.deBruijn32tab", Rows.laid_math_bits_deBruijn32tab), ("math/bits.deBruijn64tab", Rows.laid_math_bits_deBruijn64tab), ("internal/strconv.uint64pow10", Rows.laid_internal_strconv_uint64pow10), ("unicode/utf8.acceptRanges", Rows.laid_unicode_utf8_acceptRanges), ("strconv.ErrRange", Rows.laid_strconv_ErrRange), ("strconv.ErrSyntax", Rows.laid_strconv_ErrSyntax), ("unicode.CaseRanges", Rows.laid_unicode_CaseRanges), ("unicode/utf8.first", Rows.laid_unicode_utf8_first)]
theorem tab_of_reads {P : Program} {w : World} {name : String} {k : IntKind} {zs : List Int} {g : Nat} {t e : TypeId} {n : Nat} (hg : P.globalNamed name = some g) (hty : (P.globals[g]?).map (·.type) = some t) (ht : P.underlying t = some (.array n e)) (he : P.underlying e = some (.int k)) (hce : P.cellsOf e = 1) (hct : P.cellsOf t = n)
  (h : Lib.VarReads P w name (Lib.tabData k zs)) : Lib.TabIs P w name k zs := by
 obtain ⟨g', t', cs, fuel, p, hg', ht', hvar, hd⟩ := h
 obtain rfl := Option.some.inj (hg.symm.trans hg')
 obtain rfl := Option.some.inj (hty.symm.trans ht')
 unfold Lib.TabIs
 rw [hvar, ← Lib.cells_of_tab ht he hce hct hd]
theorem iface_of_reads {P : Program} {w : World} {name nm : String} {d : DataW Unit} {g : Nat} {t : TypeId} {ms : TypeDesc} (hg : P.globalNamed name = some g) (hty : (P.globals[g]?).map (·.type) = some t) (ht : P.underlying t = some ms) (hms : ∃ l, ms = .interface l)
  (h : Lib.VarReads P w name (.iface nm d)) : ∃ u v, w.cell? ⟨g, 0, none⟩ = some (.iface u v) := by
 obtain ⟨l, rfl⟩ := hms
 obtain ⟨g', t', cs, fuel, p, hg', ht', hvar, hd⟩ := h
 obtain rfl := Option.some.inj (hg.symm.trans hg')
 obtain rfl := Option.some.inj (hty.symm.trans ht')
 have hc : ∃ u v, cs.toList = [.iface u v] := by
  cases fuel with
  | zero => cases hd
  | succ fuel =>
   unfold DataW.trod at hd
   rw [ht] at hd
   simp only [] at hd
   split at hd <;> try (rename_i h1 _; cases h1)
   all_goals try (cases hd; done)
   all_goals first
    | (rename_i u v _; exact ⟨u, v, by assumption⟩)
    | (simp_all; done)
 obtain ⟨u, v, hc⟩ := hc
 refine ⟨u, v, ?_⟩
 unfold World.var? at hvar
 rw [hg] at hvar
 simp only [Option.bind_some] at hvar
 split at hvar
 ·rename_i cs' _ _ hw
  cases hvar
  have : cs[0]? = some (.iface u v) := by rw [← Array.getElem?_toList, hc]; rfl
  simpa [World.cell?, hw] using this
 ·cases hvar
theorem gmem_laid {W : World} (h : laidMetH prog laid8 W) : GOk (memOf W) W := by
 rw [MakeChecks.laidMetH_plain _ _ _ (by kernel_rfl)] at h
 have h1 : Lib.VarReads prog W "unicode/utf8.acceptRanges" Lib.acceptData := accept8 ▸ Lib.laidMet.reads h (.tail _ (.tail _ (.tail _ (.head _))))
 have h2 : Lib.VarReads prog W "unicode/utf8.first" Lib.firstData := first8 ▸ Lib.laidMet.reads h (.tail _ (.tail _ (.tail _ (.tail _ (.tail _ (.tail _ (.tail _ (.head _))))))))
 have h3 : Lib.VarReads prog W "internal/strconv.uint64pow10" (Lib.tabData .u64 Lib.pow10Tab) := pow8 ▸ Lib.laidMet.reads h (.tail _ (.tail _ (.head _)))
 have h4 := iface_of_reads (P := prog) (g := 3) (t := 71) (by kernel_rfl) (by kernel_rfl) Tryz.underlying71 ⟨_, rfl⟩ (Lib.laidMet.reads h (.tail _ (.tail _ (.tail _ (.tail _ (.head _))))))
 have h5 := iface_of_reads (P := prog) (g := 2) (t := 71) (by kernel_rfl) (by kernel_rfl) Tryz.underlying71 ⟨_, rfl⟩ (Lib.laidMet.reads h (.tail _ (.tail _ (.tail _ (.tail _ (.tail _ (.head _)))))))
 have h6 : Lib.TabIs prog W "internal/strconv.uint64pow10" .u64 Lib.pow10Tab := by
  obtain ⟨g, t, cs, fuel, p, hg, ht, _, _⟩ := id h3
  exact tab_of_reads (g := 4) (t := 161) (e := 104) (n := 20) (by kernel_rfl) (by kernel_rfl) (by kernel_rfl) (by kernel_rfl) (by kernel_rfl) (by kernel_rfl) h3
 have h7 : W.cell? ⟨7, 15, none⟩ = some (.int .u8 4) := by
  have h9 : Lib.VarReads prog W "math/bits.deBruijn64tab" (Lib.tabData .u8 bruijn) := bruijn8 ▸ Lib.laidMet.reads h (.tail _ (.head _))
  have h10 := tab_of_reads (P := prog) (g := 7) (t := 176) (e := 5) (n := 64) (by kernel_rfl) (by kernel_rfl) (by kernel_rfl) (by kernel_rfl) (by kernel_rfl) (by kernel_rfl) h9
  have := h10.cell (g := 7) (by kernel_rfl) 15 (by decide)
  exact this
 refine ⟨tabs_le h7 (utf8Tabs_of_readsT types8 extra8 h2 h1) h6, fun b hb => ?_, fun p hp => ?_⟩
 ·have hb : b ∈ [2, 3] := hb
  simp only [List.mem_cons, List.not_mem_nil, or_false] at hb
  rcases hb with rfl | rfl
  ·exact h5
  ·exact h4
 ·have hp : p ∈ [(4, 20)] := hp
  simp only [List.mem_cons, List.not_mem_nil, or_false] at hp
  subst hp
  have hn : prog.globalNamed "internal/strconv.uint64pow10" = some 4 := by kernel_rfl
  refine ⟨⟨_, h6.cell hn 0 (by rw [pow10_len]; decide)⟩, ?_⟩
  unfold Lib.TabIs World.var? at h6
  rw [hn] at h6
  simp only [Option.bind_some] at h6
  split at h6
  ·rename_i cs t fr hw
   cases h6
   exact ⟨_, _, _, hw, by simp [pow10_len]⟩
  ·cases h6
mutual
theorem dbulk_le {H : Type} : ∀ d : DataW H, Go.Tx.dbulk d ≤ Rows.uptoBulk d
 | .lit l => by cases l <;> simp [Go.Tx.dbulk, Rows.uptoBulk]
 | .nil => by simp [Go.Tx.dbulk, Rows.uptoBulk]
 | .ptr d => by have := dbulk_le d; simp only [Go.Tx.dbulk, Rows.uptoBulk]; omega
 | .slice es sp => by have h1 := dbulkL_le es; have h2 := dbulkL_le sp; simp only [Go.Tx.dbulk, Rows.uptoBulk]; omega
 | .agg ps => by have := dbulkL_le ps; simp only [Go.Tx.dbulk, Rows.uptoBulk]; omega
 | .iface _ d => by have := dbulk_le d; simp only [Go.Tx.dbulk, Rows.uptoBulk]; omega
 | .map es => by simp [Go.Tx.dbulk, Rows.uptoBulk]
 | .held h => by simp [Go.Tx.dbulk, Rows.uptoBulk]
theorem dbulkL_le {H : Type} : ∀ l : List (DataW H), Go.Tx.dbulkL l ≤ Rows.uptoBulkAll l
 | [] => by simp [Go.Tx.dbulkL, Rows.uptoBulkAll]
 | d :: r => by have h1 := dbulk_le d; have h2 := dbulkL_le r; simp only [Go.Tx.dbulkL, Rows.uptoBulkAll]; omega
end
end Go.Proofs.YtpndmanbfleadaaGreatDoor
end
section
namespace Go.Tx
open Go.Awp
variable [Inhabited GMem]
section
variable {V : View}
theorem fn_okS {X : Xc V} {sig : Sig V} (hsh : X.sh.rcut = sig.rcut) {fid : FuncId} {fn : Func} {c : Code} (hf : X.P.funcs[fid]? = some fn) (hb : fn.body = some c) (hn : fn.ntmps = X.n) (hrs : fn.results.toList = sig.rvars)
  (hname : (fn.name != "runtime.NumGoroutine") = true) (hm : X.P.follows .mixedOrders = true) (hcall : CallerOk X.P X.call) (hdr : distinct (sig.rcut.objs.map (·.1)) = true)
  (hl : ∀ C : Ctx, C.P = X.P → C.N = X.n → LOk C X c) {xs : List (TV V.N)} (hlen : Nat.ble xs.length X.n = true) {r : HL V.N sig.rcut.tys}
  (h : ex X c _ { tmps := enumT 0 xs, own := [] } (fun S => extr V sig.rcut S) (fun _ _ => none) (fun r => some (hsh ▸ r)) = some r) :
  ∀ x, resV X.P sig r = some x → FnOk X.P fid (encL V (fun _ => 0) xs) [] (encV V (conc V sig.rcut r).len x) (encOs (conc V sig.rcut r).len (kept sig r)) := by
 obtain ⟨params, objs, rcut, rvars, keep⟩ := sig
 simp only at hsh
 subst hsh
 intro x hx
 have hargs : xs.length ≤ X.n := Nat.le_of_ble_eq_true hlen
 refine fn_of_awpL hf hb hname (by rw [encL_len, hn]; exact hargs) fun C hP hN => ?_
 have hent : Ent ⟨startT 0 (encL V (fun _ => 0) xs), startO []⟩ (encS V { tmps := enumT 0 xs, own := [] }) := by
  refine Ent.le (fun t y hy => ⟨y, ?_, H.le.refl _⟩) fun n o ho => ?_
  ·rw [startT_enum]; exact hy
  ·rw [encS_own?] at ho
   simp [TS.own?, gt] at ho
 have hend : ∀ e σ, (e = .normal ∨ e = .ret) → Ent σ (encS V (conc V X.sh.rcut r)) →
   FnEndL X.P fn.results.toList (encV V (conc V X.sh.rcut r).len x) (encOs (conc V X.sh.rcut r).len (kept ⟨params, objs, X.sh.rcut, rvars, keep⟩ r)) e σ := by
  intro e σ he hσ
  unfold resV at hx
  rw [Option.map_eq_some_iff] at hx
  obtain ⟨vs, hvs, hone⟩ := hx
  obtain ⟨hs, g1, g2, g3⟩ := resH_sound hvs
  have hh : ∃ y, resH X.P (encS V (conc V X.sh.rcut r)) fn.results.toList = some y ∧ H.le y (encV V (conc V X.sh.rcut r).len x) := by
   rw [hrs]
   unfold resH
   rw [g1]
   cases vs with
   | nil =>
    have : hs = [] := List.eq_nil_of_length_eq_zero (by simpa using g2)
    subst this; subst hone
    exact ⟨.tup [], rfl, by simp only [oneV, encV, encL]; exact H.le.refl _⟩
   | cons a l =>
    cases l with
    | nil =>
     cases hs with
     | nil => simp at g2
     | cons y l' =>
      have : l' = [] := List.eq_nil_of_length_eq_zero (by simpa using g2)
      subst this; subst hone
      obtain ⟨z, z1, z2⟩ := g3 0 a rfl
      simp at z1; subst z1
      exact ⟨y, rfl, z2⟩
    | cons b l =>
     cases hs with
     | nil => simp at g2
     | cons y l' =>
      cases l' with
      | nil => simp at g2
      | cons y2 l2 =>
       subst hone
       refine ⟨.tup (y :: y2 :: l2), rfl, ?_⟩
       simp only [oneV, encV]
       refine tup_le (by rw [encL_len]; exact g2) fun i w hw => ?_
       rw [encL_map, List.getElem?_map, Option.map_eq_some_iff] at hw
       obtain ⟨u, hu, rfl⟩ := hw
       exact g3 i u hu
  obtain ⟨y, hy1, hy2⟩ := hh
  refine ⟨he, _, hσ, y, hy1, hy2, fun n o ho => ?_⟩
  obtain ⟨o', h1, h2⟩ := gt_filterMap ho
  have h1 : (n, o') ∈ (conc V X.sh.rcut r).own := (List.mem_filter.1 h1).1
  have := gt_distinct (build_names X.sh.rcut _ hdr) h1
  rw [encS_own?]
  unfold TS.own?
  unfold conc at *
  rw [this]
  exact h2
 refine .ent hent (ex_sound hP (by rw [hN, hn]) hm hcall c _ _ _ _ _ r _ (hl C hP (by rw [hN, hn])) h ⟨fun S σ hk he => ?_, fun id S σ _ hk he => (by cases hk), fun l S σ hk he => (by cases hk), fun w σ hk he => ?_⟩)
 ·exact hend _ σ (.inl rfl) (Ent.trans he (extr_ent hk))
 ·have : w = r := by simpa using hk
  subst this
  exact hend _ σ (.inr rfl) he
theorem fn_split {P : Program} {f : FuncId} {sz : Nat} {rows : List (List D)} {r : H} {own' : List (Nat × Own)} (h1 : rows ≠ [] → FnOk P f [.d (.sl sz rows)] [] r own')
  (h2 : rows = [] → FnOk P f [.d (.v (.slice none 0 0))] [] r own') (h3 : rows = [] → ∀ a cap, FnOk P f [.d (.v (.slice (some a) 0 cap))] [] r own') : FnOk P f [.d (.sl sz rows)] [] r own' := by
 by_cases h0 : rows = []
 ·refine ⟨(h2 h0).1, fun E M w vs hgm hm ho hvs => ?_⟩
  obtain ⟨hsz, hv⟩ := hvs
  obtain ⟨v, hv0⟩ : ∃ v, vs[0]? = some v := ⟨vs[0]'(by simp at hsz; omega), Array.getElem?_eq_getElem _⟩
  have hr := hv 0 v _ hv0 rfl
  have go : ∀ u : Value, v = u → HReps E M vs [.d (.v u)] := by
   rintro u rfl
   refine ⟨hsz, fun i c x hc hx => ?_⟩
   cases i with
   | zero => simp at hx; subst hx; rw [hv0] at hc; cases hc; exact .d (.v _)
   | succ i => simp at hx
  subst h0
  cases hr with
  | d hd =>
   generalize hq : D.sl sz [] = q at hd
   cases hd with
   | slnil => exact (h2 rfl).2 E M w vs hgm hm ho (go _ rfl)
   | slmt a cap => exact (h3 rfl a cap).2 E M w vs hgm hm ho (go _ rfl)
   | sl b off len cap sz' rows' c hlen hcap =>
    simp only [D.sl.injEq] at hq
    obtain ⟨_, rfl⟩ := hq
    simp at hlen
    subst hlen
    exact (h3 rfl _ cap).2 E M w vs hgm hm ho (go _ rfl)
   | _ => cases hq
 ·exact h1 h0
end
end Go.Tx
end
section
namespace Go.Proofs.YtpndmanbfleadaaGreatDoor.Ty
open Go.Awp
theorem mixed : Tryz.prog.follows .mixedOrders = true := by kernel_rfl
end Go.Proofs.YtpndmanbfleadaaGreatDoor.Ty
end
section
namespace Go.Proofs.YtpndmanbfleadaaGreatDoor
open Go.Awp Go.Tx
structure Tag where
 kind : Int
 n : Int
 text : ByteArray
 names : (List ByteArray)
 parts : (List Tag)
mutual
noncomputable def Tag.enc : Tag → List D
 | ⟨a0, a1, a2, a3, a4⟩ => [.v (.int .i64 a0)] ++ [.v (.int .i64 a1)] ++ [.v (.string a2)] ++ [.sl 1 (List.map (fun y => [.v (.string y)]) a3)] ++ [.sl 5 (Tag.encL a4)]
noncomputable def Tag.encL : List Tag → List (List D)
 | [] => []
 | x :: r => Tag.enc x :: Tag.encL r
end
theorem Tag.encL_map : ∀ l : List Tag, Tag.encL l = l.map Tag.enc
 | [] => by simp [Tag.encL]
 | x :: r => by simp [Tag.encL, Tag.encL_map r]
mutual
noncomputable def Tag.encd : Tag → List DD
 | ⟨a0, a1, a2, a3, a4⟩ => [.d (.v (.int .i64 a0))] ++ [.d (.v (.int .i64 a1))] ++ [.d (.v (.string a2))] ++ [.sl 9 1 (List.map (fun y => [.d (.v (.string y))]) a3)] ++ [.sl 25 5 (Tag.encdL a4)]
noncomputable def Tag.encdL : List Tag → List (List DD)
 | [] => []
 | x :: r => Tag.encd x :: Tag.encdL r
end
theorem Tag.encdL_map : ∀ l : List Tag, Tag.encdL l = l.map Tag.encd
 | [] => by simp [Tag.encdL]
 | x :: r => by simp [Tag.encdL, Tag.encdL_map r]
mutual
theorem Tag.encd_toL : ∀ x : Tag, DD.toL x.encd = some x.enc
 | ⟨a0, a1, a2, a3, a4⟩ => by rw [Tag.encd, Tag.enc]; exact (DD.toL_app (DD.toL_app (DD.toL_app (DD.toL_app (toL1 _) (toL1 _)) (toL1 _)) (toLs (toRm (fun y => (toL1 _)) a3))) (toLs (Tag.encdL_toR a4)))
theorem Tag.encdL_toR : ∀ l : List Tag, DD.toR (Tag.encdL l) = some (Tag.encL l)
 | [] => by rw [Tag.encdL, Tag.encL]; rfl
 | x :: r => by rw [Tag.encdL, Tag.encL]; exact toRc (Tag.encd_toL x) (Tag.encdL_toR r)
end
structure Size where
 depth : Int
 pieces : Int
 bytes : Int
 deriving DecidableEq
noncomputable def Size.enc (x : Size) : List D := [.v (.int .i64 x.depth)] ++ [.v (.int .i64 x.pieces)] ++ [.v (.int .i64 x.bytes)]
noncomputable def Size.encd (x : Size) : List DD := [.d (.v (.int .i64 x.depth))] ++ [.d (.v (.int .i64 x.pieces))] ++ [.d (.v (.int .i64 x.bytes))]
theorem Size.encd_toL (x : Size) : DD.toL x.encd = some x.enc := (DD.toL_app (DD.toL_app (toL1 _) (toL1 _)) (toL1 _))
structure Reader where
 s : ByteArray
 at0 : Int
noncomputable def Reader.enc (x : Reader) : List D := [.v (.string x.s)] ++ [.v (.int .i64 x.at0)]
noncomputable def Reader.encd (x : Reader) : List DD := [.d (.v (.string x.s))] ++ [.d (.v (.int .i64 x.at0))]
theorem Reader.encd_toL (x : Reader) : DD.toL x.encd = some x.enc := (DD.toL_app (toL1 _) (toL1 _))
structure AcceptRange where
 lo : Int
 hi : Int
 deriving DecidableEq
noncomputable def AcceptRange.enc (x : AcceptRange) : List D := [.v (.int .u8 x.lo)] ++ [.v (.int .u8 x.hi)]
noncomputable def AcceptRange.encd (x : AcceptRange) : List DD := [.d (.v (.int .u8 x.lo))] ++ [.d (.v (.int .u8 x.hi))]
theorem AcceptRange.encd_toL (x : AcceptRange) : DD.toL x.encd = some x.enc := (DD.toL_app (toL1 _) (toL1 _))
structure ErrorString where
 s : ByteArray
noncomputable def ErrorString.enc (x : ErrorString) : List D := [.v (.string x.s)]
noncomputable def ErrorString.encd (x : ErrorString) : List DD := [.d (.v (.string x.s))]
theorem ErrorString.encd_toL (x : ErrorString) : DD.toL x.encd = some x.enc := (toL1 _)
inductive SN where
 | tagT
 | sizeT
 | readerT
 | acceptRangeT
 | errorStringT
 deriving DecidableEq
abbrev NN : SN → Type
 | .tagT => Tag
 | .sizeT => Size
 | .readerT => Reader
 | .acceptRangeT => AcceptRange
 | .errorStringT => ErrorString
noncomputable def szN : SN → Nat
 | .tagT => 5
 | .sizeT => 3
 | .readerT => 2
 | .acceptRangeT => 2
 | .errorStringT => 1
noncomputable def tysN : SN → List (Ty SN)
 | .tagT => [(.int .i64), (.int .i64), .str, (.sl .str), (.sl (.st .tagT))]
 | .sizeT => [(.int .i64), (.int .i64), (.int .i64)]
 | .readerT => [.str, (.int .i64)]
 | .acceptRangeT => [(.int .u8), (.int .u8)]
 | .errorStringT => [.str]
noncomputable def cellsN : (i : SN) → NN i → List (Leaf NN)
 | .tagT, x => [⟨(.int .i64), x.kind⟩, ⟨(.int .i64), x.n⟩, ⟨.str, x.text⟩, ⟨(.sl .str), x.names⟩, ⟨(.sl (.st .tagT)), x.parts⟩]
 | .sizeT, x => [⟨(.int .i64), x.depth⟩, ⟨(.int .i64), x.pieces⟩, ⟨(.int .i64), x.bytes⟩]
 | .readerT, x => [⟨.str, x.s⟩, ⟨(.int .i64), x.at0⟩]
 | .acceptRangeT, x => [⟨(.int .u8), x.lo⟩, ⟨(.int .u8), x.hi⟩]
 | .errorStringT, x => [⟨.str, x.s⟩]
noncomputable def encN : (i : SN) → NN i → List D
 | .tagT, x => Tag.enc x
 | .sizeT, x => Size.enc x
 | .readerT, x => Reader.enc x
 | .acceptRangeT, x => AcceptRange.enc x
 | .errorStringT, x => ErrorString.enc x
noncomputable def ofN : (i : SN) → List (Leaf NN) → Option (NN i)
 | .tagT, [⟨(.int .i64), a0⟩, ⟨(.int .i64), a1⟩, ⟨.str, a2⟩, ⟨(.sl .str), a3⟩, ⟨(.sl (.st .tagT)), a4⟩] => some ⟨a0, a1, a2, a3, a4⟩
 | .sizeT, [⟨(.int .i64), a0⟩, ⟨(.int .i64), a1⟩, ⟨(.int .i64), a2⟩] => some ⟨a0, a1, a2⟩
 | .readerT, [⟨.str, a0⟩, ⟨(.int .i64), a1⟩] => some ⟨a0, a1⟩
 | .acceptRangeT, [⟨(.int .u8), a0⟩, ⟨(.int .u8), a1⟩] => some ⟨a0, a1⟩
 | .errorStringT, [⟨.str, a0⟩] => some ⟨a0⟩
 | _, _ => none
noncomputable def tyN : TypeId → Option (Ty SN)
 | 2 => some (.int .i64)
 | 3 => some (.int .i64)
 | 4 => some .bool
 | 5 => some (.int .u8)
 | 6 => some (.int .u8)
 | 9 => some .str
 | 10 => some .str
 | 11 => some .str
 | 12 => some (.int .u64)
 | 21 => some (.int .i32)
 | 22 => some (.sl .str)
 | 23 => some (.sl (.st .tagT))
 | 25 => some (.st .tagT)
 | 29 => some (.int .i64)
 | 57 => some (.st .sizeT)
 | 65 => some (.st .readerT)
 | 83 => some (.int .u64)
 | 94 => some (.int .i64)
 | 102 => some (.int .u32)
 | 104 => some (.int .u64)
 | 106 => some (.sl (.int .u8))
 | 116 => some (.st .acceptRangeT)
 | 120 => some (.int .i64)
 | 128 => some (.int .u64)
 | 158 => some (.st .errorStringT)
 | 192 => some (.int .u8)
 | 193 => some (.int .u8)
 | 195 => some (.int .i32)
 | 196 => some (.int .i32)
 | _ => none
theorem enc_cellsN (i : SN) (x : NN i) : encN i x = (cellsN i x).map fun l => encD szN encN l.t l.x := by
 cases i <;> cases x <;> simp [encN, cellsN, encD, encR, tsz, szN, Tag.enc, Size.enc, Reader.enc, AcceptRange.enc, ErrorString.enc, Tag.encL_map]
theorem of_cellsN (i : SN) (ls : List (Leaf NN)) (x : NN i) (h : ofN i ls = some x) : cellsN i x = ls := by
 unfold ofN at h
 split at h <;> first
  | (cases h; rfl)
  | (cases h; done)
theorem len_cellsN (i : SN) (x : NN i) : (cellsN i x).length = szN i := by cases i <;> rfl
theorem one_cellsN (i : SN) (x : NN i) : ∀ l ∈ cellsN i x, l.t.cell = true := by
 have h : (cellsN i x).all (fun l => l.t.cell) = true := by cases i <;> rfl
 exact List.all_eq_true.1 h
noncomputable def encdN : (i : SN) → NN i → List DD
 | .tagT, x => Tag.encd x
 | .sizeT, x => Size.encd x
 | .readerT, x => Reader.encd x
 | .acceptRangeT, x => AcceptRange.encd x
 | .errorStringT, x => ErrorString.encd x
noncomputable def flatN : SN → Bool
 | .tagT => false
 | .sizeT => true
 | .readerT => true
 | .acceptRangeT => true
 | .errorStringT => true
noncomputable def tidN : Ty SN → Nat
 | .str => 9
 | (.st .tagT) => 25
 | (.int .u8) => 5
 | _ => 0
theorem encd_cellsN (i : SN) (x : NN i) : encdN i x = (cellsN i x).map fun l => encDD szN encN tidN encdN l.t l.x := by
 cases i <;> cases x <;> simp [encdN, cellsN, encDD, encRD, encD, encR, tidN, tsz, szN, Tag.encd, Size.encd, Reader.encd, AcceptRange.encd, ErrorString.encd, Tag.encdL_map]
theorem encd_toLN (i : SN) (x : NN i) : DD.toL (encdN i x) = some (encN i x) := by
 cases i
 ·exact Tag.encd_toL x
 ·exact Size.encd_toL x
 ·exact Reader.encd_toL x
 ·exact AcceptRange.encd_toL x
 ·exact ErrorString.encd_toL x
theorem flat_cellsN (i : SN) (x : NN i) (h : flatN i = true) : ∀ l ∈ cellsN i x, l.t.isSl = false := by
 have h1 : (cellsN i x).all (fun l => !l.t.isSl) = true := by
  revert h
  cases i <;> first
   | (intro h; cases h; done)
   | (intro _; rfl)
 intro l hl
 simpa using List.all_eq_true.1 h1 l hl
noncomputable def vw : View where
 ι := SN
 dec := inferInstance
 N := NN
 sz := szN
 tys := tysN
 cells := cellsN
 ofCells := ofN
 enc := encN
 ty := tyN
 enc_cells := enc_cellsN
 of_cells := of_cellsN
 len_cells := len_cellsN
 one_cells := one_cellsN
 tid := tidN
 encd := encdN
 encd_cells := encd_cellsN
 encd_toL := encd_toLN
 flat := flatN
 flat_cells := flat_cellsN
end Go.Proofs.YtpndmanbfleadaaGreatDoor
end
section
namespace Go.Proofs.YtpndmanbfleadaaGreatDoor
open Go.Awp Go.Tx
open Go.Proofs.Tryz (prog)
set_option maxRecDepth 100000
def structOf (P : Program) (t : TypeId) : Array Field := match P.underlying t with
 | some (.struct fs) => fs
 | _ => #[]
theorem tf2 : tyFact vw prog 2 (.int .i64) := (by kernel_rfl : prog.underlying 2 = some (.int .i64))
theorem tf3 : tyFact vw prog 3 (.int .i64) := (by kernel_rfl : prog.underlying 3 = some (.int .i64))
theorem tf4 : tyFact vw prog 4 .bool := (by kernel_rfl : prog.underlying 4 = some .bool)
theorem tf5 : tyFact vw prog 5 (.int .u8) := (by kernel_rfl : prog.underlying 5 = some (.int .u8))
theorem tf6 : tyFact vw prog 6 (.int .u8) := (by kernel_rfl : prog.underlying 6 = some (.int .u8))
theorem tf9 : tyFact vw prog 9 .str := (by kernel_rfl : prog.underlying 9 = some .string)
theorem tf10 : tyFact vw prog 10 .str := (by kernel_rfl : prog.underlying 10 = some .string)
theorem tf11 : tyFact vw prog 11 .str := (by kernel_rfl : prog.underlying 11 = some .string)
theorem tf12 : tyFact vw prog 12 (.int .u64) := (by kernel_rfl : prog.underlying 12 = some (.int .u64))
theorem tf21 : tyFact vw prog 21 (.int .i32) := (by kernel_rfl : prog.underlying 21 = some (.int .i32))
theorem tf22 : tyFact vw prog 22 (.sl .str) := ⟨9, by kernel_rfl, by kernel_rfl, by kernel_rfl, by kernel_rfl⟩
theorem tf23 : tyFact vw prog 23 (.sl (.st .tagT)) := ⟨25, by kernel_rfl, by kernel_rfl, by kernel_rfl, by kernel_rfl⟩
theorem tf25 : tyFact vw prog 25 (.st .tagT) := ⟨structOf prog 25, by kernel_rfl, by kernel_rfl, by kernel_rfl⟩
theorem tf29 : tyFact vw prog 29 (.int .i64) := (by kernel_rfl : prog.underlying 29 = some (.int .i64))
theorem tf57 : tyFact vw prog 57 (.st .sizeT) := ⟨structOf prog 57, by kernel_rfl, by kernel_rfl, by kernel_rfl⟩
theorem tf65 : tyFact vw prog 65 (.st .readerT) := ⟨structOf prog 65, by kernel_rfl, by kernel_rfl, by kernel_rfl⟩
theorem tf83 : tyFact vw prog 83 (.int .u64) := (by kernel_rfl : prog.underlying 83 = some (.int .u64))
theorem tf94 : tyFact vw prog 94 (.int .i64) := (by kernel_rfl : prog.underlying 94 = some (.int .i64))
theorem tf102 : tyFact vw prog 102 (.int .u32) := (by kernel_rfl : prog.underlying 102 = some (.int .u32))
theorem tf104 : tyFact vw prog 104 (.int .u64) := (by kernel_rfl : prog.underlying 104 = some (.int .u64))
theorem tf106 : tyFact vw prog 106 (.sl (.int .u8)) := ⟨5, by kernel_rfl, by kernel_rfl, by kernel_rfl, by kernel_rfl⟩
theorem tf116 : tyFact vw prog 116 (.st .acceptRangeT) := ⟨structOf prog 116, by kernel_rfl, by kernel_rfl, by kernel_rfl⟩
theorem tf120 : tyFact vw prog 120 (.int .i64) := (by kernel_rfl : prog.underlying 120 = some (.int .i64))
theorem tf128 : tyFact vw prog 128 (.int .u64) := (by kernel_rfl : prog.underlying 128 = some (.int .u64))
theorem tf158 : tyFact vw prog 158 (.st .errorStringT) := ⟨structOf prog 158, by kernel_rfl, by kernel_rfl, by kernel_rfl⟩
theorem tf192 : tyFact vw prog 192 (.int .u8) := (by kernel_rfl : prog.underlying 192 = some (.int .u8))
theorem tf193 : tyFact vw prog 193 (.int .u8) := (by kernel_rfl : prog.underlying 193 = some (.int .u8))
theorem tf195 : tyFact vw prog 195 (.int .i32) := (by kernel_rfl : prog.underlying 195 = some (.int .i32))
theorem tf196 : tyFact vw prog 196 (.int .i32) := (by kernel_rfl : prog.underlying 196 = some (.int .i32))
theorem leaves_cons {ls : List (Leaf NN)} {t : Ty SN} {ts : List (Ty SN)} (h : ls.map (·.t) = t :: ts) : ∃ (x : den NN t) (ls' : List (Leaf NN)), ls = ⟨t, x⟩ :: ls' ∧ ls'.map (·.t) = ts := by
 match ls, h with
 | ⟨t', x⟩ :: r, h =>
  simp only [List.map_cons, List.cons.injEq] at h
  obtain ⟨h1, h2⟩ := h
  subst h1
  exact ⟨x, r, rfl, h2⟩
theorem leaves_nil {ls : List (Leaf NN)} (h : ls.map (·.t) = []) : ls = [] := by simpa using h
theorem facts : Facts vw prog where
 ty := fun t τ h => by
  have h : tyN t = some τ := h
  unfold tyN at h
  split at h
  ·cases h; exact tf2
  ·cases h; exact tf3
  ·cases h; exact tf4
  ·cases h; exact tf5
  ·cases h; exact tf6
  ·cases h; exact tf9
  ·cases h; exact tf10
  ·cases h; exact tf11
  ·cases h; exact tf12
  ·cases h; exact tf21
  ·cases h; exact tf22
  ·cases h; exact tf23
  ·cases h; exact tf25
  ·cases h; exact tf29
  ·cases h; exact tf57
  ·cases h; exact tf65
  ·cases h; exact tf83
  ·cases h; exact tf94
  ·cases h; exact tf102
  ·cases h; exact tf104
  ·cases h; exact tf106
  ·cases h; exact tf116
  ·cases h; exact tf120
  ·cases h; exact tf128
  ·cases h; exact tf158
  ·cases h; exact tf192
  ·cases h; exact tf193
  ·cases h; exact tf195
  ·cases h; exact tf196
  ·cases h
 tys := fun i x => by cases i <;> rfl
 of := fun i ls h => by
  cases i with
  | tagT =>
   obtain ⟨a0, l0, rfl, h0⟩ := leaves_cons h
   obtain ⟨a1, l1, rfl, h1⟩ := leaves_cons h0
   obtain ⟨a2, l2, rfl, h2⟩ := leaves_cons h1
   obtain ⟨a3, l3, rfl, h3⟩ := leaves_cons h2
   obtain ⟨a4, l4, rfl, h4⟩ := leaves_cons h3
   obtain rfl := leaves_nil h4
   exact ⟨_, rfl⟩
  | sizeT =>
   obtain ⟨a0, l0, rfl, h0⟩ := leaves_cons h
   obtain ⟨a1, l1, rfl, h1⟩ := leaves_cons h0
   obtain ⟨a2, l2, rfl, h2⟩ := leaves_cons h1
   obtain rfl := leaves_nil h2
   exact ⟨_, rfl⟩
  | readerT =>
   obtain ⟨a0, l0, rfl, h0⟩ := leaves_cons h
   obtain ⟨a1, l1, rfl, h1⟩ := leaves_cons h0
   obtain rfl := leaves_nil h1
   exact ⟨_, rfl⟩
  | acceptRangeT =>
   obtain ⟨a0, l0, rfl, h0⟩ := leaves_cons h
   obtain ⟨a1, l1, rfl, h1⟩ := leaves_cons h0
   obtain rfl := leaves_nil h1
   exact ⟨_, rfl⟩
  | errorStringT =>
   obtain ⟨a0, l0, rfl, h0⟩ := leaves_cons h
   obtain rfl := leaves_nil h0
   exact ⟨_, rfl⟩
end Go.Proofs.YtpndmanbfleadaaGreatDoor
end
section
namespace Go.Tx
open Go.Awp
variable [Inhabited GMem]
theorem FnOk.pure {P : Program} {f : FuncId} {args : List H} {r : H} (hc : callable P f = true)
  (h : ∀ (E : Env) (M : Mem) (w : World) (vs : Array Value), GOk M w → (∀ b o v, M b o = some v → w.cell? ⟨b, o, none⟩ = some v) → HReps E M vs args →
    Calls P f vs w fun e w' => ∃ v, e = .returned v ∧ HRep E M v r ∧ Go.RowKit.Below w.heap.size w w') : FnOk P f args [] r [] := by
 refine ⟨hc, fun E M w vs hgm hm _ hvs => (h E M w vs hgm hm hvs).mono ?_⟩
 rintro e w' ⟨v, rfl, hr, hb⟩
 refine ⟨v, E, M, rfl, { rep := hr, owns := ⟨fun n o hn => by simp [gt] at hn, fun n m o o' b _ hn => by simp [gt] at hn⟩, mle := Mem.le_refl _, mem := fun b o v hv => ?_, mnew := fun b o v hv => .inl hv, home := fun n o b hn => by simp [gt] at hn, frame := fun k hk _ => hb.block k hk, grows := hb.size, os := hb.os, tape := hb.tape, output := hb.output, env := fun _ _ => rfl }⟩
 have h1 := hm b o v hv
 have hlt := World.block_lt_of_cell? w (a := ⟨b, o, none⟩) h1
 rw [← h1]
 exact World.cell?_of_block (a := ⟨b, o, none⟩) (hb.block b hlt)
theorem hreps_one {E : Env} {M : Mem} {vs : Array Value} {a : H} (h : HReps E M vs [a]) : ∃ v, vs = #[v] ∧ HRep E M v a := by
 obtain ⟨h1, h2⟩ := h
 match vs, h1 with
 | ⟨[v]⟩, _ => exact ⟨v, rfl, h2 0 v a rfl rfl⟩
theorem hreps_two {E : Env} {M : Mem} {vs : Array Value} {a b : H} (h : HReps E M vs [a, b]) : ∃ v u, vs = #[v, u] ∧ HRep E M v a ∧ HRep E M u b := by
 obtain ⟨h1, h2⟩ := h
 match vs, h1 with
 | ⟨[v, u]⟩, _ => exact ⟨v, u, rfl, h2 0 v a rfl rfl, h2 1 u b rfl rfl⟩
theorem FnOk.copyCheck {P : Program} {f : FuncId} {T : TypeId} {rest : List D} (hc : callable P f = true)
  (fresh : ∀ (b : Nat) (w : World), w.cell? ⟨b, 0, none⟩ = some (.pointer none) → w.shape? b = some (T, rest.length + 2) → w.frozen? ⟨b, 0, none⟩ = false →
    Calls P f #[.pointer (some ⟨b, 0, none⟩)] w fun e w' => e = .returned (.tuple #[]) ∧ w' = w.setCell ⟨b, 0, none⟩ (.pointer (some ⟨b, 0, none⟩)))
  (used : ∀ (b : Nat) (w : World), w.cell? ⟨b, 0, none⟩ = some (.pointer (some ⟨b, 0, none⟩)) → 
    Calls P f #[.pointer (some ⟨b, 0, none⟩)] w fun e w' => e = .returned (.tuple #[]) ∧ w' = w)
  {g m c l : Nat} {bl : Bool} {e sz : Nat} {rows : List (List D)} (hgm : g ≠ m) (hgc : g ≠ c) (hcg : c < given) :
  FnOk P f [.bp g 0] [(g, .box (some T) (.np g bl :: .vh m l :: rest.map H.d)), (m, .vec e sz rows)] (.tup []) [(g, .box (some T) (.np g true :: .vh c l :: rest.map H.d)), (c, .vec e sz rows)] := by
 refine ⟨hc, fun E M w vs _ hm how hvs => ?_⟩
 obtain ⟨v, rfl, hv⟩ := hreps_one hvs
 have g1 : gt [(g, Own.box (some T) (H.np g bl :: H.vh m l :: rest.map H.d)), (m, Own.vec e sz rows)] g = some (.box (some T) (.np g bl :: .vh m l :: rest.map H.d)) := by simp [gt]
 have g2 : gt [(g, Own.box (some T) (H.np g bl :: H.vh m l :: rest.map H.d)), (m, Own.vec e sz rows)] m = some (.vec e sz rows) := by simp [gt, hgm]
 have o1 := how.ok g _ g1
 have o2 := how.ok m _ g2
 obtain ⟨b, cs, ty, k1, k2, k3, k4, k5, k6⟩ := o1
 have hty := k6 T rfl
 subst hty
 cases hv with
 | bp n off b' hE =>
 rw [hE] at k1; cases k1
 obtain ⟨p, q, rs, rfl⟩ : ∃ p q rs, cs = ⟨p :: q :: rs⟩ := by
  match cs, k3 with
  | ⟨p :: q :: rs⟩, _ => exact ⟨p, q, rs, rfl⟩
 have hrs : rs.length = rest.length := by simpa using k3
 have hp := k4 0 p (.np g bl) rfl rfl
 have hq := k4 1 q (.vh m l) rfl rfl
 have hcell : ∀ u, w.cell? ⟨b, 0, none⟩ = some u ↔ p = u := fun u => by simp [World.cell?, k2]
 have hsh : w.shape? b = some (ty, rest.length + 2) := by simp [World.shape?, k2, hrs]
 have hfz : w.frozen? ⟨b, 0, none⟩ = false := by simp [World.frozen?, k2]
 have hblt : b < w.heap.size := (Array.getElem?_eq_some_iff.1 k2).1
 have hapart : ∀ b', blockOf (E m) = some b' → b' ≠ b := fun b' hb' he => by
  subst he
  exact how.apart g m _ _ b' hgm g1 g2 (by rw [hE]; rfl) hb'
 let E' : Env := fun n => if n = c then E m else E n
 have hE' : ∀ n, n ≠ c → E' n = E n := fun n hn => by simp [E', hn]
 have hEc : E' c = E m := by simp [E']
 have hEg : E' g = .pointer (some ⟨b, 0, none⟩) := by rw [hE' g hgc]; exact hE
 have fin : ∀ w', w'.heap = w.heap.setIfInBounds b (.cells ⟨.pointer (some ⟨b, 0, none⟩) :: q :: rs⟩ ty (0, 0)) → w'.os = w.os → w'.tape = w.tape → w'.output = w.output →
   FnPost E M [(g, .box (some ty) (.np g bl :: .vh m l :: rest.map H.d)), (m, .vec e sz rows)] w (.tuple #[]) (.tup []) [(g, .box (some ty) (.np g true :: .vh c l :: rest.map H.d)), (c, .vec e sz rows)] E' M w' := by
  intro w' hh h1 h2 h3
  have hother : ∀ k, k ≠ b → w'.heap[k]? = w.heap[k]? := fun k hk => by
   rw [hh, Array.getElem?_setIfInBounds_ne (fun e => hk e.symm)]
  have hft : ∀ n o bb, gt [(g, Own.box (some ty) (H.np g true :: H.vh c l :: rest.map H.d)), (c, Own.vec e sz rows)] n = some o → o.foot w' (E' n) bb → blockOf (E' n) = some bb := by
   intro n o bb hn hb
   rw [gt_cons] at hn
   by_cases hgn : g = n
   ·rw [if_pos hgn] at hn; cases hn; exact hb
   ·rw [if_neg hgn, gt_cons] at hn
    by_cases hcn : c = n
    ·rw [if_pos hcn] at hn; cases hn; exact hb
    ·rw [if_neg hcn] at hn; simp [gt] at hn
  have hblk : ∀ n o bb, gt [(g, Own.box (some ty) (H.np g true :: H.vh c l :: rest.map H.d)), (c, Own.vec e sz rows)] n = some o → blockOf (E' n) = some bb → (n = g ∧ bb = b) ∨ (n = c ∧ blockOf (E m) = some bb) := by
   intro n o bb hn hb
   rw [gt_cons] at hn
   by_cases hgn : g = n
   ·subst hgn; rw [hEg] at hb; left; exact ⟨rfl, by simpa [blockOf] using hb.symm⟩
   ·rw [if_neg hgn, gt_cons] at hn
    by_cases hcn : c = n
    ·subst hcn; rw [hEc] at hb; right; exact ⟨rfl, hb⟩
    ·rw [if_neg hcn] at hn; simp [gt] at hn
  refine { rep := .tup #[] [] rfl (fun i c x hc => by simp at hc), owns := ⟨fun n o hn => ?_, fun n n' o o' bb hne hn hn' hb hb' => ?_⟩, mle := Mem.le_refl _, mem := fun bb o v hv => ?_, mnew := fun bb o v hv => .inl hv, home := fun n o bb hn hb => ?_, frame := fun k hk hx => ?_, grows := ?_, os := h1, tape := h2, output := h3, env := fun n hn => ?_ }
  ·rw [gt_cons] at hn
   by_cases hgn : g = n
   ·subst hgn
    rw [if_pos rfl] at hn; cases hn
    refine ⟨b, ⟨.pointer (some ⟨b, 0, none⟩) :: q :: rs⟩, ty, hEg, by rw [hh]; simp [hblt], by simp [hrs], fun i x y hx hy => ?_, k5, fun t ht => by cases ht; rfl⟩
    match i with
    | 0 => simp at hx hy; subst hx; subst hy; exact .np1 g b hEg
    | 1 =>
     simp at hx hy; subst hx; subst hy
     cases hq with
     | vh _ len l' cc ad hEm hl => exact HRep.vh c l l' cc ad (hEc.trans hEm) hl
    | i + 2 =>
     have hr := k4 (i + 2) x y (by simpa using hx) (by simpa using hy)
     have hy' : (rest.map H.d)[i]? = some y := by simpa using hy
     rw [List.getElem?_map, Option.map_eq_some_iff] at hy'
     obtain ⟨d, _, rfl⟩ := hy'
     cases hr with
     | d hd => exact .d hd
   ·rw [if_neg hgn, gt_cons] at hn
    by_cases hcn : c = n
    ·subst hcn
     rw [if_pos rfl] at hn; cases hn
     have := o2.keep (E' := E) (M' := M) (w' := w') rfl (fun b' hb' => hother b' (hapart b' hb')) (fun _ _ => rfl) (Mem.le_refl _) fun b' hb' => (o2.block hb').2
     obtain ⟨xs, y1, y2, y3, y4⟩ := this
     exact ⟨xs, by rw [hEc]; exact y1, y2, y3, by rw [hEc]; exact y4⟩
    ·rw [if_neg hcn] at hn; simp [gt] at hn
  ·rcases hblk n o bb hn (hft n o bb hn hb) with ⟨rfl, rfl⟩ | ⟨rfl, h4⟩
   ·rcases hblk n' o' bb hn' (hft n' o' bb hn' hb') with ⟨rfl, _⟩ | ⟨rfl, h5⟩
    ·exact hne rfl
    ·exact hapart bb h5 rfl
   ·rcases hblk n' o' bb hn' (hft n' o' bb hn' hb') with ⟨rfl, rfl⟩ | ⟨rfl, h5⟩
    ·exact hapart bb h4 rfl
    ·exact hne rfl
  ·have h4 := hm bb o v hv
   have hne : bb ≠ b := by rintro rfl; rw [k5 o] at hv; cases hv
   rw [← h4]
   exact World.cell?_of_block (a := ⟨bb, o, none⟩) (hother bb hne)
  ·rcases hblk n o bb hn (hft n o bb hn hb) with ⟨rfl, rfl⟩ | ⟨rfl, h4⟩
   ·exact .inl ⟨n, _, g1, by rw [hE]; rfl⟩
   ·exact .inl ⟨m, _, g2, h4⟩
  ·exact hother k fun e => hx ⟨g, _, g1, by rw [hE, e]; rfl⟩
  ·rw [hh]; simp
  ·exact hE' n (by omega)
 cases hp with
 | np0 =>
  refine (fresh b w ((hcell _).2 rfl) hsh hfz).mono ?_
  rintro e' w' ⟨rfl, rfl⟩
  refine ⟨_, E', M, rfl, fin _ ?_ rfl rfl rfl⟩
  simp only [World.setCell]
  apply Array.ext'
  rw [Array.toList_setIfInBounds]
  apply List.ext_getElem?
  intro k
  simp only [Array.toList_modify, List.getElem?_modify, List.getElem?_set, Array.getElem?_toList, Array.length_toList]
  by_cases hk : b = k
  ·subst hk
   have k2' : w.heap[b] = .cells ⟨.pointer none :: q :: rs⟩ ty (0, 0) := by rw [Array.getElem?_eq_getElem hblt] at k2; exact Option.some.inj k2
   simp [hblt, k2']
  ·simp [hk]
 | np1 _ b' hb' =>
  rw [hE] at hb'; cases hb'
  refine (used b w ((hcell _).2 rfl)).mono ?_
  rintro e' w' ⟨rfl, rfl⟩
  refine ⟨_, E', M, rfl, fin _ ?_ rfl rfl rfl⟩
  apply Array.ext'
  rw [Array.toList_setIfInBounds]
  apply List.ext_getElem?
  intro k
  simp only [List.getElem?_set, Array.getElem?_toList, Array.length_toList]
  by_cases hk : b = k
  ·subst hk
   rw [k2]; simp [hblt]
  ·simp [hk]
section
open Go.Shelf Go.RowKit Go.Proofs
set_option maxHeartbeats 1000000 in
set_option maxRecDepth 100000 in
end
end Go.Tx
end
section
namespace Go.Proofs
open Go.Shelf Go.RowKit Go.Lib Go.Sort
theorem setCells_block {g te : Nat} {fr : Nat × Nat} : ∀ (vs : List Value) (o : Nat) (w : World) (cur : Array Value), w.heap[g]? = some (.cells cur te fr) → o + vs.length ≤ cur.size →
  ∃ cur' : Array Value, (w.setCells g o vs).heap[g]? = some (.cells cur' te fr) ∧ cur'.toList = cur.toList.take o ++ vs ++ cur.toList.drop (o + vs.length) ∧ cur'.size = cur.size ∧ (∀ k, k ≠ g → (w.setCells g o vs).heap[k]? = w.heap[k]?) ∧
   (w.setCells g o vs).heap.size = w.heap.size ∧ (w.setCells g o vs).os = w.os ∧ (w.setCells g o vs).tape = w.tape ∧ (w.setCells g o vs).output = w.output
 | [], o, w, cur, h, _ => ⟨cur, h, by simp, rfl, fun _ _ => rfl, rfl, rfl, rfl, rfl⟩
 | v :: r, o, w, cur, h, hle => by
  simp only [List.length_cons] at hle
  have h1 : (w.setCell ⟨g, o, none⟩ v).heap[g]? = some (.cells (cur.setIfInBounds o v) te fr) := by
   simp [World.setCell, Array.getElem?_modify, h]
  obtain ⟨cur', a1, a2, a3, a4, a5, a6, a7, a8⟩ := setCells_block r (o + 1) (w.setCell ⟨g, o, none⟩ v) (cur.setIfInBounds o v) h1 (by simp; omega)
  refine ⟨cur', a1, ?_, by rw [a3]; simp, fun k hk => ?_, by rw [World.setCells, a5]; simp, by rw [World.setCells, a6]; rfl, by rw [World.setCells, a7]; rfl, by rw [World.setCells, a8]; rfl⟩
  ·rw [a2]
   apply List.ext_getElem?
   intro x
   have hl : (cur.setIfInBounds o v).toList = cur.toList.set o v := by simp
   rw [hl]
   simp only [List.length_cons, List.append_assoc, List.getElem?_append, List.length_take, List.length_set, Array.length_toList, List.getElem?_take, List.getElem?_set, List.getElem?_drop, List.getElem?_cons]
   grind
  ·rw [World.setCells, a4 k hk]
   have : ¬ g = k := fun e => hk e.symm
   simp [World.setCell, Array.getElem?_modify, this]
set_option maxHeartbeats 4000000 in
set_option maxRecDepth 1000000 in
theorem Tryz.del61 (g n cap i j : Nat) (i0 : TypeInfo) (hi0 : Tryz.prog.info? 9 = some i0) (hz1 : i0.size = 1) (news : List Value) (w : World) (hlt : i < j) (hj : j ≤ n) (hcap : n ≤ cap) (hm : cap ≤ 9223372036854775807)
  (s1 : Hid (news.length = (n - j) * 1)) (A : Addr) (hA : (if cap = j then some (⟨g, 0, none⟩ : Addr) else some ⟨g, 0 + j * 1, none⟩) = some A) (hsrc : Hid (∀ t u, news[t]? = some u → w.drew.cell? (A.add t) = some u)) (s2 : Hid (∀ u ∈ news, u.oneCell' = true))
  (s3 : Hid (∀ t, t < news.length → (w.drew.cell? ⟨g, 0 + i * 1 + t, none⟩).isSome = true ∧ w.drew.frozen? ⟨g, 0 + i * 1 + t, none⟩ = false)) (W1 W2 : World) (hW : Hid (W1 = w.drew.setCells g (0 + i * 1) news))
  (hcl : ∀ ty, (Builtin.clear_ #[22] ty #[.slice (some ⟨g, i + (n - j), none⟩) (n - (i + (n - j))) (cap - (i + (n - j)))]).run Tryz.prog W1 = .ok (.tuple #[]) W2) :
  Calls Tryz.prog 61 #[.slice (some ⟨g, 0, none⟩) n cap, .int .i64 i, .int .i64 j] w fun e w' => e = .returned (.slice (some ⟨g, 0, none⟩) (i + (n - j)) cap) ∧ w' = W2 := by
 have mixed : Tryz.prog.follows Departure.mixedOrders = true := by kernel_rfl
 have hic : i ≤ cap := by omega
 have hjc : j ≤ cap := by omega
 go_enter Tryz.func61, Tryz.ntmps61
 go_wp2_with fail
 go_region_law_o (refine step_append_room rfl (.tmp 22) (.tmp 25) 22 rfl 9 i0 1 Tryz.underlying22 hi0 hz1 g 0 i cap (by simp [Act.eval, Act.put]) A (n - j) (cap - j) news (by simp [Act.eval, Act.put]; simpa using hA) s1.out hsrc.out s2.out (by omega) s3.out ?_; rw [← hW.out])
 go_wp2
 all_goals (go_ret; exact ⟨rfl, rfl⟩)
set_option maxHeartbeats 4000000 in
set_option maxRecDepth 1000000 in
theorem Tryz.del62 (g n cap i j : Nat) (i0 : TypeInfo) (hi0 : Tryz.prog.info? 25 = some i0) (hz1 : i0.size = 5) (news : List Value) (w : World) (hlt : i < j) (hj : j ≤ n) (hcap : n ≤ cap) (hm : cap ≤ 9223372036854775807)
  (s1 : Hid (news.length = (n - j) * 5)) (A : Addr) (hA : (if cap = j then some (⟨g, 0, none⟩ : Addr) else some ⟨g, 0 + j * 5, none⟩) = some A) (hsrc : Hid (∀ t u, news[t]? = some u → w.drew.cell? (A.add t) = some u)) (s2 : Hid (∀ u ∈ news, u.oneCell' = true))
  (s3 : Hid (∀ t, t < news.length → (w.drew.cell? ⟨g, 0 + i * 5 + t, none⟩).isSome = true ∧ w.drew.frozen? ⟨g, 0 + i * 5 + t, none⟩ = false)) (W1 W2 : World) (hW : Hid (W1 = w.drew.setCells g (0 + i * 5) news))
  (hcl : ∀ ty, (Builtin.clear_ #[23] ty #[.slice (some ⟨g, (i + (n - j)) * 5, none⟩) (n - (i + (n - j))) (cap - (i + (n - j)))]).run Tryz.prog W1 = .ok (.tuple #[]) W2) :
  Calls Tryz.prog 62 #[.slice (some ⟨g, 0, none⟩) n cap, .int .i64 i, .int .i64 j] w fun e w' => e = .returned (.slice (some ⟨g, 0, none⟩) (i + (n - j)) cap) ∧ w' = W2 := by
 have mixed : Tryz.prog.follows Departure.mixedOrders = true := by kernel_rfl
 have hic : i ≤ cap := by omega
 have hjc : j ≤ cap := by omega
 go_enter Tryz.func62, Tryz.ntmps62
 go_wp2_with fail
 go_region_law_o (refine step_append_room rfl (.tmp 22) (.tmp 25) 23 rfl 25 i0 5 Tryz.underlying23 hi0 hz1 g 0 i cap (by simp [Act.eval, Act.put]) A (n - j) (cap - j) news (by simp [Act.eval, Act.put]; simpa using hA) s1.out hsrc.out s2.out (by omega) s3.out ?_; rw [← hW.out])
 go_wp2
 all_goals (go_ret; exact ⟨rfl, rfl⟩)
def DelShape (P : Program) (f t te sz : Nat) : Prop := ∀ (g n cap i j : Nat) (news : List Value) (w : World), i < j → j ≤ n → n ≤ cap → cap ≤ 9223372036854775807 → news.length = (n - j) * sz →
 ∀ A : Addr, (if cap = j then some (⟨g, 0, none⟩ : Addr) else some ⟨g, 0 + j * sz, none⟩) = some A → (∀ t u, news[t]? = some u → w.drew.cell? (A.add t) = some u) → (∀ u ∈ news, u.oneCell' = true) →
 (∀ t, t < news.length → (w.drew.cell? ⟨g, 0 + i * sz + t, none⟩).isSome = true ∧ w.drew.frozen? ⟨g, 0 + i * sz + t, none⟩ = false) → ∀ W1 W2 : World, W1 = w.drew.setCells g (0 + i * sz) news →
 (∀ ty, (Builtin.clear_ #[t] ty #[.slice (some ⟨g, (i + (n - j)) * sz, none⟩) (n - (i + (n - j))) (cap - (i + (n - j)))]).run P W1 = .ok (.tuple #[]) W2) →
 Calls P f #[.slice (some ⟨g, 0, none⟩) n cap, .int .i64 i, .int .i64 j] w fun e w' => e = .returned (.slice (some ⟨g, 0, none⟩) (i + (n - j)) cap) ∧ w' = W2
theorem Tryz.delShape62 : DelShape Tryz.prog 62 23 25 5 := fun g n cap i j news w hlt hj hcap hm s1 A hA hsrc s2 s3 W1 W2 hW hcl => by
 obtain ⟨i0, hi0⟩ : ∃ i0, Tryz.prog.info? 25 = some i0 := Option.isSome_iff_exists.1 (by kernel_rfl)
 have hz : i0.size = 5 := by
  have : (Tryz.prog.info? 25).map (·.size) = some 5 := by kernel_rfl
  rw [hi0] at this
  exact Option.some.inj this
 exact Tryz.del62 g n cap i j i0 hi0 hz news w hlt hj hcap hm s1 A hA hsrc s2 s3 W1 W2 hW hcl
theorem Tryz.delShape61 : DelShape Tryz.prog 61 22 9 1 := fun g n cap i j news w hlt hj hcap hm s1 A hA hsrc s2 s3 W1 W2 hW hcl => by
 obtain ⟨i0, hi0⟩ : ∃ i0, Tryz.prog.info? 9 = some i0 := Option.isSome_iff_exists.1 (by kernel_rfl)
 have hz : i0.size = 1 := by
  have : (Tryz.prog.info? 9).map (·.size) = some 1 := by kernel_rfl
  rw [hi0] at this
  exact Option.some.inj this
 rw [Nat.mul_one] at hcl
 exact Tryz.del61 g n cap i j i0 hi0 hz news w hlt hj hcap hm s1 A hA hsrc s2 s3 W1 W2 hW hcl
theorem run_clear_one {P : Program} (w : World) (t e ty : TypeId) (z : Value) (zs : List Value) (ht : P.underlying t = some (.slice e)) (hv : ∀ w, (zeroValue e).run P w = .ok z w) (hz : (Builtin.zeroCells z.cells 1).toList = zs) (h1 : ∀ u ∈ zs, u.oneCell' = true) (b o c : Nat)
  (hc : ∀ j, j < zs.length → (w.cell? ⟨b, o + j, none⟩).isSome = true) (hf : ∀ j, j < zs.length → w.frozen? ⟨b, o + j, none⟩ = false) :
  (Builtin.clear_ #[t] ty #[.slice (some ⟨b, o, none⟩) 1 c]).run P w = .ok (.tuple #[]) (w.setCells b o zs) := by
 have hst := run_storeCells_cells (P := P) b o zs 0 w (by simpa using hc) (by simpa using hf) h1
 simp only [Nat.add_zero] at hst
 simp [Builtin.clear_, run_underlying ht, hv, hz, hst]
def RawDel (P : Program) (f te sz : Nat) : Prop := ∀ (g n cap k : Nat) (w : World) (cur : Array Value), w.heap[g]? = some (.cells cur te (0, 0)) → cur.size = cap * sz → n ≤ cap → cap ≤ 9223372036854775807 → k < n → (∀ u ∈ cur.toList.take (n * sz), u.oneCell' = true) →
 Calls P f #[.slice (some ⟨g, 0, none⟩) n cap, .int .i64 (k : Nat), .int .i64 ((k + 1 : Nat) : Int)] w fun e w' => e = .returned (.slice (some ⟨g, 0, none⟩) (n - 1) cap) ∧ w.grownBy w' (some g) ∧
  ∃ cur' : Array Value, w'.heap[g]? = some (.cells cur' te (0, 0)) ∧ cur'.size = cap * sz ∧ cur'.toList.take ((n - 1) * sz) = (cur.toList.take (n * sz)).take (k * sz) ++ (cur.toList.take (n * sz)).drop ((k + 1) * sz)
theorem rawDel {P : Program} {f t te sz : Nat} (h : DelShape P f t te sz) (z : Value) (zs : List Value) (ht : P.underlying t = some (.slice te)) (hv : ∀ w, (zeroValue te).run P w = .ok z w) (hz : (Builtin.zeroCells z.cells 1).toList = zs) (hzl : zs.length = sz) (h1 : ∀ u ∈ zs, u.oneCell' = true) : RawDel P f te sz := by
 intro g n cap k w cur hg hsz hcap hm hk hone
 have hmul : ∀ a b : Nat, a ≤ b → a * sz ≤ b * sz := fun a b hab => Nat.mul_le_mul_right sz hab
 have hncap := hmul n cap hcap
 have hlen : cur.toList.length = cap * sz := by simpa using hsz
 obtain ⟨old, hold⟩ : ∃ old, old = cur.toList.take (n * sz) := ⟨_, rfl⟩
 have hol : old.length = n * sz := by rw [hold, List.length_take]; omega
 obtain ⟨news, hnews⟩ : ∃ news, news = old.drop ((k + 1) * sz) := ⟨_, rfl⟩
 have hk1 := hmul (k + 1) n hk
 have hsub : (n - (k + 1)) * sz = n * sz - (k + 1) * sz := Nat.sub_mul _ _ _
 have hks : (k + 1) * sz = k * sz + sz := Nat.succ_mul _ _
 have hn1 : (n - 1) * sz = n * sz - sz := by rw [Nat.sub_mul, Nat.one_mul]
 have hnl : news.length = (n - (k + 1)) * sz := by rw [hnews, List.length_drop, hol, hsub]
 have hcell : ∀ o, w.drew.cell? ⟨g, o, none⟩ = cur[o]? := fun o => by
  show w.cell? ⟨g, o, none⟩ = _
  simp [World.cell?, hg]
 have hget : ∀ t u, news[t]? = some u → cur[(k + 1) * sz + t]? = some u := fun t u hu => by
  rw [hnews, List.getElem?_drop, hold, List.getElem?_take] at hu
  split at hu
  ·simpa using hu
  ·cases hu
 obtain ⟨A, hA, hsrc⟩ : ∃ A : Addr, (if cap = k + 1 then some (⟨g, 0, none⟩ : Addr) else some ⟨g, 0 + (k + 1) * sz, none⟩) = some A ∧ ∀ t u, news[t]? = some u → w.drew.cell? (A.add t) = some u := by
  by_cases hc : cap = k + 1
  ·refine ⟨⟨g, 0, none⟩, by simp [hc], fun t u hu => ?_⟩
   have : news.length = 0 := by
    have : n = k + 1 := by omega
    rw [hnl, this, Nat.sub_self, Nat.zero_mul]
   rw [List.length_eq_zero_iff.1 this] at hu
   simp at hu
  ·refine ⟨⟨g, 0 + (k + 1) * sz, none⟩, by simp [hc], fun t u hu => ?_⟩
   have := hget t u hu
   rw [← hcell] at this
   rw [Addr.add_lit, ← this, Nat.zero_add]
 have hone2 : ∀ u ∈ news, u.oneCell' = true := fun u hu => hone u (by rw [hnews, hold] at hu; exact List.mem_of_mem_drop hu)
 have hfz : ∀ o, w.drew.frozen? ⟨g, o, none⟩ = false := fun o => by
  show w.frozen? ⟨g, o, none⟩ = false
  simp [World.frozen?, hg]
 have hspare : ∀ t, t < news.length → (w.drew.cell? ⟨g, 0 + k * sz + t, none⟩).isSome = true ∧ w.drew.frozen? ⟨g, 0 + k * sz + t, none⟩ = false := fun t ht => by
  refine ⟨?_, hfz _⟩
  rw [hcell]
  have : 0 + k * sz + t < cur.size := by omega
  rw [Array.getElem?_eq_getElem this]
  rfl
 have hg1 : w.drew.heap[g]? = some (.cells cur te (0, 0)) := hg
 obtain ⟨cur1, b1, b2, b3, b4, b5, b6, b7, b8⟩ := setCells_block news (0 + k * sz) w.drew cur hg1 (by omega)
 obtain ⟨cur2, c1, c2, c3, c4, c5, c6, c7, c8⟩ := setCells_block zs ((k + (n - (k + 1))) * sz) (w.drew.setCells g (0 + k * sz) news) cur1 b1 (by
  have : k + (n - (k + 1)) = n - 1 := by omega
  rw [this, hzl, b3]; omega)
 have hkn : k + (n - (k + 1)) = n - 1 := by omega
 have hcl : ∀ ty, (Builtin.clear_ #[t] ty #[.slice (some ⟨g, (k + (n - (k + 1))) * sz, none⟩) (n - (k + (n - (k + 1)))) (cap - (k + (n - (k + 1))))]).run P (w.drew.setCells g (0 + k * sz) news) = .ok (.tuple #[]) ((w.drew.setCells g (0 + k * sz) news).setCells g ((k + (n - (k + 1))) * sz) zs) := fun ty => by
  have e1 : n - (k + (n - (k + 1))) = 1 := by omega
  rw [e1]
  refine run_clear_one _ t te ty z zs ht hv hz h1 g _ _ (fun j hj => ?_) fun j hj => ?_
  ·have h2 : (k + (n - (k + 1))) * sz + j < cur1.size := by rw [hkn]; omega
   have h3 : (w.drew.setCells g (0 + k * sz) news).cell? ⟨g, (k + (n - (k + 1))) * sz + j, none⟩ = cur1[(k + (n - (k + 1))) * sz + j]? := by
    unfold World.cell?
    rw [b1]
    rfl
   rw [h3, Array.getElem?_eq_getElem h2]
   rfl
  ·unfold World.frozen?
   rw [b1]
   simp
 refine (h g n cap k (k + 1) news w (Nat.lt_succ_self k) hk hcap hm hnl A hA hsrc hone2 hspare _ _ rfl hcl).mono ?_
 rintro e w' ⟨rfl, rfl⟩
 refine ⟨by rw [hkn], ⟨by rw [c6, b6]; rfl, by rw [c7, b7]; rfl, by rw [c8, b8]; rfl, by rw [c5, b5]; exact Nat.le_refl _, fun x hx hxr => ?_⟩, cur2, c1, by rw [c3, b3, hsz], ?_⟩
 ·have hxg : x ≠ g := fun e => hxr (by rw [e])
  rw [c4 x hxg, b4 x hxg]; rfl
 ·have h01 : (n - 1) * sz ≤ cur1.toList.length := by simp only [Array.length_toList]; omega
  rw [c2, hkn, List.append_assoc, List.take_append_of_le_length (by rw [List.length_take]; omega), List.take_take, Nat.min_self, b2, Nat.zero_add]
  have hta : (cur.toList.take (k * sz)).length = k * sz := by rw [List.length_take]; omega
  rw [List.append_assoc, List.take_append, hta, List.take_of_length_le (by omega)]
  have hrest : (n - 1) * sz - k * sz = news.length := by rw [hnl]; omega
  rw [hrest, List.take_append_of_le_length (Nat.le_refl _), List.take_length, ← hold, hnews]
  rw [hold, List.take_take, Nat.min_eq_left (by omega)]
def Tryz.z25 : Value := .agg #[.int .i64 0, .int .i64 0, .string ByteArray.empty, .slice none 0 0, .slice none 0 0]
theorem Tryz.rawDel62 : RawDel Tryz.prog 62 25 5 := rawDel Tryz.delShape62 Tryz.z25 [.int .i64 0, .int .i64 0, .string ByteArray.empty, .slice none 0 0, .slice none 0 0] Tryz.underlying23 Tryz.zeroValue25 (by kernel_rfl) rfl (by decide)
theorem Tryz.rawDel61 : RawDel Tryz.prog 61 9 1 := rawDel Tryz.delShape61 (.string ByteArray.empty) [.string ByteArray.empty] Tryz.underlying22 Tryz.zeroValue9 (by kernel_rfl) rfl (by decide)
end Go.Proofs
namespace Go.Tx
open Go.Awp Go.Proofs
variable [Inhabited GMem]
theorem hreps_three {E : Env} {M : Mem} {vs : Array Value} {a b c : H} (h : HReps E M vs [a, b, c]) : ∃ v u x, vs = #[v, u, x] ∧ HRep E M v a ∧ HRep E M u b ∧ HRep E M x c := by
 obtain ⟨h1, h2⟩ := h
 match vs, h1 with
 | ⟨[v, u, x]⟩, _ => exact ⟨v, u, x, rfl, h2 0 v a rfl rfl, h2 1 u b rfl rfl, h2 2 x c rfl rfl⟩
theorem flat_three {α : Type} {rows : List (List α)} {k : Nat} {r : List α} (h : rows[k]? = some r) : rows.flatten = (rows.take k).flatten ++ (r ++ (rows.drop (k + 1)).flatten) ∧ (rows.eraseIdx k).flatten = (rows.take k).flatten ++ (rows.drop (k + 1)).flatten := by
 have hk := (List.getElem?_eq_some_iff.1 h).1
 constructor
 ·have : rows = rows.take k ++ (r :: rows.drop (k + 1)) := by
   have h2 : rows.drop k = r :: rows.drop (k + 1) := by
    rw [List.drop_eq_getElem_cons hk]
    rw [List.getElem?_eq_getElem hk] at h
    rw [Option.some.inj h]
   rw [← h2, List.take_append_drop]
  conv => lhs; rw [this]
  rw [List.flatten_append, List.flatten_cons]
 ·rw [List.eraseIdx_eq_take_drop_succ, List.flatten_append]
theorem delD {P : Program} {f te sz : Nat} (h : RawDel P f te sz) (hc : callable P f = true) {a c k : Nat} (hcg : c < given) {rows : List (List DD)} (hk : k < rows.length) (hone : rows.flatten.all DD.one = true) :
  FnOk P f [.vh a rows.length, .d (.v (.int .i64 (k : Nat))), .d (.v (.int .i64 ((k + 1 : Nat) : Int)))] [(a, .dvec te sz rows)] (.vh c (rows.length - 1)) [(c, .dvec te sz (rows.eraseIdx k))] := by
 refine ⟨hc, fun E M w vs hgm hm ho hv => ?_⟩
 obtain ⟨v1, v2, v3, rfl, r1, r2, r3⟩ := hreps_three hv
 have hok : OwnOk E M w a (.dvec te sz rows) := ho.ok a _ (by simp [gt])
 rcases hok.dview with ⟨_, hr, _⟩ | ⟨g, cap, xs, B, hE, hown, hz, hD, hnd, hM, hft⟩
 ·subst hr; simp at hk
 have hv1 : v1 = .slice (some ⟨g, 0, none⟩) rows.length cap := by rw [vh_val r1 hE, hE]
 rw [hv1, r2.dv, r3.dv]
 rcases hown.2 with ⟨q, _⟩ | ⟨g', cap', cur, q, _, hg, hnc, hcm, hcs, hct⟩
 ·cases q
 cases q
 have hl := hown.1
 have hone' := hD.allOne hone
 refine (h g rows.length cap k w cur hg hcs hnc (by unfold maxLen at hcm; omega) hk (by rw [hct]; exact hone')).mono ?_
 rintro e w' ⟨rfl, hgr, cur', e1, e2, e3⟩
 obtain ⟨r, hr⟩ : ∃ r, rows[k]? = some r := ⟨_, List.getElem?_eq_getElem hk⟩
 obtain ⟨f1, f2⟩ := flat_three hr
 have hrl : r.length = sz := hz r (List.mem_of_getElem? hr)
 have hzt : ∀ x ∈ rows.take k, x.length = sz := fun x hx => hz x (List.mem_of_mem_take hx)
 have htl : (rows.take k).flatten.length = k * sz := by rw [flat_len hzt, List.length_take, Nat.min_eq_left (by omega)]
 rw [f1] at hD
 obtain ⟨B1, B2, d1, d2, rfl⟩ := hD.split
 obtain ⟨B3, B4, d3, d4, rfl⟩ := d2.split
 rw [htl] at d1 d2 d3 d4
 rw [hrl, List.drop_drop] at d4
 have hd4 : k * sz + sz = (k + 1) * sz := (Nat.succ_mul _ _).symm
 have hxs : cur'.toList.take ((rows.length - 1) * sz) = xs.take (k * sz) ++ xs.drop ((k + 1) * sz) := by rw [e3, hct]
 have hD' : DDReps M w (xs.take (k * sz) ++ xs.drop ((k + 1) * sz)) (rows.eraseIdx k).flatten (B1 ++ B4) := by
  rw [f2]
  rw [hd4] at d4
  exact d1.app d4
 have hsub : (g :: (B1 ++ B4)).Sublist (g :: (B1 ++ (B3 ++ B4))) := List.Sublist.cons_cons g (List.Sublist.append (List.Sublist.refl _) (List.sublist_append_right B3 B4))
 have hblk : ∀ b, b ≠ g → b < w.heap.size → w'.heap[b]? = w.heap[b]? := fun b hb hlt => hgr.block b hlt (by simpa using hb)
 have hel : (rows.eraseIdx k).length = rows.length - 1 := by rw [List.length_eraseIdx, if_pos hk]
 have hgB : ∀ b ∈ B1 ++ B4, b ≠ g := fun b hb e => by
  subst e
  have hb' : b ∈ B1 ++ (B3 ++ B4) := (List.Sublist.append (List.Sublist.refl B1) (List.sublist_append_right B3 B4)).subset hb
  exact (List.nodup_cons.1 hnd).1 hb'
 have hgw : g < w.heap.size := (Array.getElem?_eq_some_iff.1 hg).1
 have hDw : DDReps M w' (xs.take (k * sz) ++ xs.drop ((k + 1) * sz)) (rows.eraseIdx k).flatten (B1 ++ B4) := hD'.keep (Mem.le_refl _) fun b hb => hblk b (hgB b hb) (hD'.lt b hb)
 have hze : ∀ x ∈ rows.eraseIdx k, x.length = sz := fun x hx => hz x ((List.eraseIdx_sublist rows k).subset hx)
 have hown' : w'.ownsRow 0 te sz (.slice (some ⟨g, 0, none⟩) (rows.eraseIdx k).length cap) (rows.eraseIdx k).length (xs.take (k * sz) ++ xs.drop ((k + 1) * sz)) := by
  refine ⟨?_, .inr ⟨g, cap, cur', rfl, Nat.zero_le _, e1, by rw [hel]; omega, hcm, e2, by rw [hel]; exact hxs⟩⟩
  rw [← hxs, List.length_take, hel]
  have : (rows.length - 1) * sz ≤ cap * sz := Nat.mul_le_mul_right _ (by omega)
  simp only [Array.length_toList]
  omega
 obtain ⟨k1, k2⟩ := OwnOk.dmk (E := fun x => if x = c then .slice (some ⟨g, 0, none⟩) (rows.eraseIdx k).length cap else E x) (m := c) (if_pos rfl) hown' hze hDw (hsub.nodup hnd) fun b hb o => hM b (hsub.subset hb) o
 refine ⟨_, fun x => if x = c then .slice (some ⟨g, 0, none⟩) (rows.eraseIdx k).length cap else E x, M, rfl, ?_⟩
 have hgt : ∀ n o, gt [(c, Own.dvec te sz (rows.eraseIdx k))] n = some o → n = c ∧ o = .dvec te sz (rows.eraseIdx k) := fun n o hn => by
  simp only [gt_cons] at hn
  split at hn
  ·rename_i e; cases hn; exact ⟨e.symm, rfl⟩
  ·simp [gt] at hn
 have hext : ∀ b ∈ g :: (B1 ++ (B3 ++ B4)), inExt E w [(a, .dvec te sz rows)] b := fun b hb => ⟨a, _, by simp [gt], (hft b).2 hb⟩
 refine ⟨?_, ⟨fun n o hn => ?_, fun n m o o' b hne hn hm' => ?_⟩, Mem.le_refl _, fun b o v hv => ?_, fun b o v hv => .inl hv, fun n o b hn hb => ?_, fun x hx hxn => hblk x (fun e => hxn (hext x (by rw [e]; exact List.mem_cons_self))) hx, hgr.size, hgr.os, hgr.tape, hgr.output, fun n hn => if_neg (by omega)⟩
 ·have := HRep.vh (E := fun x => if x = c then Value.slice (some ⟨g, 0, none⟩) (rows.eraseIdx k).length cap else E x) (M := M) c (rows.length - 1) (rows.eraseIdx k).length cap (some ⟨g, 0, none⟩) (if_pos rfl) (by rw [hel]; exact Nat.le_refl _)
  exact this
 ·obtain ⟨rfl, rfl⟩ := hgt n o hn
  exact k1
 ·obtain ⟨rfl, _⟩ := hgt n o hn
  obtain ⟨rfl, _⟩ := hgt m o' hm'
  exact (hne rfl).elim
 ·have h0 := hm b o v hv
  have hbg : b ≠ g := fun e => by
   subst e
   rw [hM b List.mem_cons_self o] at hv
   cases hv
  have hlt : b < w.heap.size := World.block_lt_of_cell? w (a := ⟨b, o, none⟩) h0
  rw [World.cell?_of_block (a := ⟨b, o, none⟩) (hblk b hbg hlt)]
  exact h0
 ·obtain ⟨rfl, rfl⟩ := hgt n o hn
  exact .inl (hext b (hsub.subset ((k2 b).1 hb)))
theorem gt_two {α : Type} {n m : Nat} {x y : α} (h : gt [(n, x)] m = some y) : m = n ∧ y = x := by
 simp only [gt_cons] at h
 split at h
 ·rename_i e; cases h; exact ⟨e.symm, rfl⟩
 ·simp [gt] at h
theorem delV {P : Program} {f te sz : Nat} {args : List H} {r : H} {a c : Nat} {rows rows' : List (List D)} (h : FnOk P f args [(a, .dvec te sz (rows.map fun r => r.map .d))] r [(c, .dvec te sz (rows'.map fun r => r.map .d))]) : FnOk P f args [(a, .vec te sz rows)] r [(c, .vec te sz rows')] := by
 refine ⟨h.1, fun E M w vs hgm hm ho hv => ?_⟩
 obtain ⟨o1, o2⟩ := v2d (e := te) (sz := sz) (rows := rows) (ho.ok a _ (by simp [gt]))
 have hin : ∀ b, inExt E w [(a, Own.dvec te sz (rows.map fun r => r.map .d))] b ↔ inExt E w [(a, .vec te sz rows)] b := fun b => by
  constructor
  ·rintro ⟨n, o, hn, hb⟩
   obtain ⟨rfl, rfl⟩ := gt_two hn
   exact ⟨n, _, by simp [gt], (o2 b).1 hb⟩
  ·rintro ⟨n, o, hn, hb⟩
   obtain ⟨rfl, rfl⟩ := gt_two hn
   exact ⟨n, _, by simp [gt], (o2 b).2 hb⟩
 have ho' : Owns E M w [(a, Own.dvec te sz (rows.map fun r => r.map .d))] := ⟨fun n o hn => by obtain ⟨rfl, rfl⟩ := gt_two hn; exact o1, fun n m o o' b hne hn hm' => by
  obtain ⟨rfl, _⟩ := gt_two hn
  obtain ⟨rfl, _⟩ := gt_two hm'
  exact (hne rfl).elim⟩
 refine (h.2 E M w vs hgm hm ho' hv).mono ?_
 rintro e w' ⟨v, E', M', rfl, hp⟩
 obtain ⟨p1, p2⟩ := d2v (e := te) (sz := sz) (rows := rows') (hp.owns.ok c _ (by simp [gt]))
 refine ⟨v, E', M', rfl, ⟨hp.rep, ⟨fun n o hn => ?_, fun n m o o' b hne hn hm' => ?_⟩, hp.mle, hp.mem, fun b o v hv => (hp.mnew b o v hv).imp_right fun h => h.imp_left (hin b).1, fun n o b hn hb => ?_, fun x hx hxn => hp.frame x hx fun h => hxn ((hin x).1 h), hp.grows, hp.os, hp.tape, hp.output, hp.env⟩⟩
 ·obtain ⟨rfl, rfl⟩ := gt_two hn
  exact p1
 ·obtain ⟨rfl, _⟩ := gt_two hn
  obtain ⟨rfl, _⟩ := gt_two hm'
  exact (hne rfl).elim
 ·obtain ⟨rfl, rfl⟩ := gt_two hn
  exact (hp.home n _ b (by simp [gt]) ((p2 b).2 hb)).imp_left (hin b).1
section
variable {V : View}
theorem delT {P : Program} {f te sz : Nat} {e : Ty V.ι} (h : RawDel P f te sz) (hc : callable P f = true) {a c k : Nat} (hcg : c < given) {xs : List (den V.N e)} (hk : k < xs.length) :
  FnOk P f [.vh a xs.length, .d (.v (.int .i64 (k : Nat))), .d (.v (.int .i64 ((k + 1 : Nat) : Int)))] [(a, .dvec te sz (xs.map fun x => encRD V.sz V.enc V.tid V.encd e x))] (.vh c (xs.eraseIdx k).length) [(c, .dvec te sz ((xs.eraseIdx k).map fun x => encRD V.sz V.enc V.tid V.encd e x))] := by
 have h1 := delD (a := a) (c := c) (rows := xs.map fun x => encRD V.sz V.enc V.tid V.encd e x) h hc hcg (by rw [List.length_map]; exact hk) (by
  rw [List.all_flatten, List.all_map, List.all_eq_true]
  intro y _
  exact encRD_one e y)
 rw [List.length_map, ← map_erase] at h1
 have hl : (xs.eraseIdx k).length = xs.length - 1 := by rw [List.length_eraseIdx, if_pos hk]
 rw [hl]
 exact h1
theorem delTV {P : Program} {f te sz : Nat} {e : Ty V.ι} (he : ∀ x : den V.N e, encRD V.sz V.enc V.tid V.encd e x = (encR V.sz V.enc e x).map .d) (h : RawDel P f te sz) (hc : callable P f = true) {a c k : Nat} (hcg : c < given) {xs : List (den V.N e)} (hk : k < xs.length) :
  FnOk P f [.vh a xs.length, .d (.v (.int .i64 (k : Nat))), .d (.v (.int .i64 ((k + 1 : Nat) : Int)))] [(a, .vec te sz (xs.map fun x => encR V.sz V.enc e x))] (.vh c (xs.eraseIdx k).length) [(c, .vec te sz ((xs.eraseIdx k).map fun x => encR V.sz V.enc e x))] := by
 refine delV ?_
 have h1 := delT (V := V) (e := e) (a := a) (c := c) h hc hcg hk
 have hm : ∀ l : List (den V.N e), (l.map fun x => encRD V.sz V.enc V.tid V.encd e x) = (l.map fun x => encR V.sz V.enc e x).map fun r => r.map DD.d := fun l => by
  rw [List.map_map]
  exact List.map_congr_left fun x _ => he x
 rw [hm, hm] at h1
 exact h1
end
end Go.Tx
end
