/-
  Texts of this claim, joined by a program of mine: what the theorem uses.
-/
import Derived.Test.YtogoamfegaebgaaGreatDoorPkD
import Derived.Test.YtogoamfegaebgaaGreatDoorPkB
set_option linter.unusedVariables false
set_option linter.unusedSimpArgs false
section
namespace Go.Proofs.YtogoamfegaebgaaGreatDoor
open Go.Awp Go.Tx
open IntKind (i64)
open Go.Proofs.Tryz (prog)
set_option maxRecDepth 100000
noncomputable def c10l4 : Cut SN := ⟨[(2, .bp 2 0), (3, .bp 3 0), (5, .dat (.int .i64))], [(2, .st .layoutT), (3, .st .layoutT)]⟩
noncomputable def c10r1 : Cut SN := ⟨[(2, .bp 2 0), (3, .bp 3 0), (33, .dat .bool)], [(2, .st .layoutT), (3, .st .layoutT)]⟩
noncomputable def c10e0 : Cut SN := ⟨[], []⟩
noncomputable def c10z : Cut SN := ⟨[(4, .dat .bool)], []⟩
noncomputable def sh10 : Shape vw := { exits := fun id => match id with | 0 => c10e0 | _ => ⟨[], []⟩, rcut := c10z }
noncomputable def sig10 : Sig vw := { params := [.dat (.st .layoutT), .dat (.st .layoutT)], rcut := c10z, rvars := [.tmp 4] }
mutual
noncomputable def n_10l4 (v : Int × Layout × Layout × Unit) : Option (((Bool × Unit) ⊕ (Unit))) :=
 if decide (v.1 < (↑v.2.1.parts.length : Int)) = true then
  if (0 : Int) ≤ v.1 then
   v.2.1.parts[v.1.toNat]? >>= fun x1 =>
   if (0 : Int) ≤ v.1 then
    v.2.2.1.parts[v.1.toNat]? >>= fun x2 =>
    n_10 (x1, x2, ()) >>= fun x3 =>
    if (!x3.1) = true then
     some (Sum.inl (false, ()))
    else n_10l4 (i64.wrap (v.1 + (1 : Int)), v.2.1, v.2.2.1, ())
   else none
  else none
 else some (Sum.inr ())
 partial_fixpoint
noncomputable def n_10 (v : Layout × Layout × Unit) : Option (Bool × Unit) :=
 (if (v.1.kind != v.2.1.kind) = true then
    some ((true, v.1, v.2.1, ()))
   else if (v.1.n != v.2.1.n) = true then
    some ((true, v.1, v.2.1, ()))
   else if (!v.1.flag == v.2.1.flag) = true then
    some ((true, v.1, v.2.1, ()))
   else some (((↑v.1.parts.length : Int) != (↑v.2.1.parts.length : Int), v.1, v.2.1, ()))) >>= fun x1 =>
 if x1.1 = true then
  some ((false, ()))
 else n_10l4 ((0 : Int), x1.2.1, x1.2.2.1, ()) >>= fun x2 => match x2 with
  | .inl y2 => some y2
  | .inr y2 => some ((true, ()))
 partial_fixpoint
end
noncomputable def call10 (n_10l4 : Int × Layout × Layout × Unit → Option (((Bool × Unit) ⊕ (Unit)))) (n_10 : Layout × Layout × Unit → Option (Bool × Unit)) : Caller vw := fun A fid args S k => match fid with | 10 => callPure prog sig10 n_10 A args S k | _ => none
noncomputable def x10 (n_10l4 : Int × Layout × Layout × Unit → Option (((Bool × Unit) ⊕ (Unit)))) (n_10 : Layout × Layout × Unit → Option (Bool × Unit)) : Xc vw := { P := prog, n := 53, call := call10 n_10l4 n_10, sh := sh10, regs := fun k => match k with | 1 => some c10r1 | _ => none, loops := fun k => match k with | 4 => some { cut := c10l4, alts := [.ret, .exit 0], F := n_10l4 } | _ => none }
abbrev mn_10l4 (v : Int × Layout × Layout × Unit) (r : ((Bool × Unit) ⊕ (Unit))) : Prop := (fun v out => ∀ C : Ctx, C.P = prog → C.N = 53 → AWpL C (loopNo (bodyOf Tryz.f10) 0) (encS vw (conc vw c10l4 v)) (OutQ sh10 [.ret, .exit 0] out)) v r
abbrev mn_10 (v : Layout × Layout × Unit) (r : Bool × Unit) : Prop := (fun v r => ∀ x, resV prog sig10 r = some x → FnOk prog 10 (encL vw (startS sig10 v).len (startOs sig10 v).1) (encOs (startS sig10 v).len (startS sig10 v).own) (encV vw (conc vw sig10.rcut r).len x) (encOs (conc vw sig10.rcut r).len (kept sig10 r))) v r
theorem cn_10l4 (f0 : Int × Layout × Layout × Unit → Option (((Bool × Unit) ⊕ (Unit)))) (f1 : Layout × Layout × Unit → Option (Bool × Unit)) (h0 : ∀ v r, f0 v = some r → mn_10l4 v r) (h1 : ∀ v r, f1 v = some r → mn_10 v r) : CallerOk prog (x10 f0 f1).call := (by
    intro A fid args S dst k r h
    unfold x10 call10 at h
    simp only at h
    split at h
    ·exact callPure_ok ((fun v r x h hx => h1 v r h x hx)) rfl rfl h
    ·cases h)
theorem sn_10l4 (f0 : Int × Layout × Layout × Unit → Option (((Bool × Unit) ⊕ (Unit)))) (f1 : Layout × Layout × Unit → Option (Bool × Unit)) (h0 : ∀ v r, f0 v = some r → mn_10l4 v r) (h1 : ∀ v r, f1 v = some r → mn_10 v r) (v : Int × Layout × Layout × Unit) (r : ((Bool × Unit) ⊕ (Unit))) (h : exL (x10 f0 f1) (loopNo (bodyOf Tryz.f10) 0) c10l4 [.ret, .exit 0] f0 v = some r) : mn_10l4 v r := fun C hP hN => loop_step (X := x10 f0 f1) (b := (loopNo (bodyOf Tryz.f10) 0)) hP hN Ty.mixed (cn_10l4 f0 f1 h0 h1) (lok_all (X := x10 f0 f1) (c := (loopNo (bodyOf Tryz.f10) 0)) (kcast (by kernel_rfl : True = AllB (LoopsP C (x10 f0 f1)) (loopsIn (loopNo (bodyOf Tryz.f10) 0))) trivial)) (cut := c10l4) (alts := [.ret, .exit 0]) (F := f0) (fun v out h => h0 v out h C hP hN) h
theorem cn_10 (f0 : Int × Layout × Layout × Unit → Option (((Bool × Unit) ⊕ (Unit)))) (h0 : ∀ v r, f0 v = some r → mn_10l4 v r) : CallerOk prog (x10 f0 (fun _ => none)).call := (by
    intro A fid args S dst k r h
    unfold x10 call10 at h
    simp only at h
    split at h
    ·exact callPure_ok ((fun v r x h hx => by cases h)) rfl rfl h
    ·cases h)
theorem sn_10 (f0 : Int × Layout × Layout × Unit → Option (((Bool × Unit) ⊕ (Unit)))) (h0 : ∀ v r, f0 v = some r → mn_10l4 v r) (v : Layout × Layout × Unit) (r : Bool × Unit) (h : exF (x10 f0 (fun _ => none)) sig10 rfl (bodyOf Tryz.f10) v = some r) : mn_10 v r := fun x hx => fn_ok (X := x10 f0 (fun _ => none)) (sig := sig10) rfl Tryz.func10 (c := bodyOf Tryz.f10) (by kernel_rfl) Tryz.ntmps10 (by kernel_rfl) (by kernel_rfl) rfl Ty.mixed (cn_10 f0 h0) rfl (fun C hP hN => (lok_all (X := x10 f0 (fun _ => none)) (c := (bodyOf Tryz.f10)) (kcast (by kernel_rfl : AllB (LoopsP C (x10 f0 (fun _ => none))) [(loopNo (bodyOf Tryz.f10) 0)] = AllB (LoopsP C (x10 f0 (fun _ => none))) (loopsIn (bodyOf Tryz.f10))) ⟨loop_at (X := x10 f0 (fun _ => none)) (b := (loopNo (bodyOf Tryz.f10) 0)) (by kernel_rfl) (show LoopOk C (loopNo (bodyOf Tryz.f10) 0) (sh := sh10) { cut := c10l4, alts := [.ret, .exit 0], F := f0 } from fun v out h => h0 v out h C hP hN), trivial⟩))) h x hx
theorem n_10l4_all : (∀ v r, n_10l4 v = some r → mn_10l4 v r) ∧ (∀ v r, n_10 v = some r → mn_10 v r) := by
 refine n_10l4.mutual_partial_correctness
  (motive_1 := mn_10l4)
  (motive_2 := mn_10)
  ?_ ?_
 ·exact (fun f0 f1 h0 h1 v r h => sn_10l4 f0 f1 h0 h1 v r (kcast (by kernel_rfl) h))
 ·exact (fun f0 h0 v r h => sn_10 f0 h0 v r (kcast (by kernel_rfl) h))
theorem n_10_ok : SigOk prog 10 sig10 n_10 := fun v r x h hx => n_10l4_all.2 v r h x hx
noncomputable def c11l3 : Cut SN := ⟨[(1, .dat (.int .i64)), (2, .bp 2 0), (5, .dat (.int .i64)), (6, .dat (.int .i64))], [(2, .st .layoutT)]⟩
noncomputable def c11r3 : Cut SN := ⟨[(1, .dat (.int .i64)), (2, .bp 2 0), (5, .dat (.int .i64)), (6, .dat (.int .i64)), (15, .dat .bool)], [(2, .st .layoutT)]⟩
noncomputable def c11e0 : Cut SN := ⟨[(5, .dat (.int .i64))], []⟩
noncomputable def c11z : Cut SN := ⟨[(4, .dat (.int .i64))], []⟩
noncomputable def sh11 : Shape vw := { exits := fun id => match id with | 0 => c11e0 | _ => ⟨[], []⟩, rcut := c11z }
noncomputable def sig11 : Sig vw := { params := [.dat (.st .layoutT), .dat (.int .i64)], rcut := c11z, rvars := [.tmp 4] }
mutual
noncomputable def n_11l3 (v : Int × Int × Int × Layout × Unit) : Option ((Int × Unit)) :=
 (if decide (v.2.2.1 < (↑v.2.2.2.1.parts.length : Int)) = true then
    some ((v.1, v.2.1, v.2.2.1, decide (v.1 > (0 : Int)), v.2.2.2.1, ()))
   else some ((v.1, v.2.1, v.2.2.1, false, v.2.2.2.1, ()))) >>= fun x1 =>
 if x1.2.2.2.1 = true then
  if (0 : Int) ≤ x1.2.2.1 then
   x1.2.2.2.2.1.parts[x1.2.2.1.toNat]? >>= fun x2 =>
   n_11 (x2, i64.wrap (x1.1 - (1 : Int)), ()) >>= fun x3 =>
   n_11l3 (x1.1, max x1.2.1 x3.1, i64.wrap (x1.2.2.1 + (1 : Int)), x1.2.2.2.2.1, ())
  else none
 else some ((x1.2.1, ()))
 partial_fixpoint
noncomputable def n_11 (v : Layout × Int × Unit) : Option (Int × Unit) :=
 n_11l3 (v.2.1, (0 : Int), (0 : Int), v.1, ()) >>= fun x1 =>
 some ((i64.wrap (x1.1 + (1 : Int)), ()))
 partial_fixpoint
end
noncomputable def call11 (n_11l3 : Int × Int × Int × Layout × Unit → Option ((Int × Unit))) (n_11 : Layout × Int × Unit → Option (Int × Unit)) : Caller vw := fun A fid args S k => match fid with | 11 => callPure prog sig11 n_11 A args S k | _ => none
noncomputable def x11 (n_11l3 : Int × Int × Int × Layout × Unit → Option ((Int × Unit))) (n_11 : Layout × Int × Unit → Option (Int × Unit)) : Xc vw := { P := prog, n := 30, call := call11 n_11l3 n_11, sh := sh11, regs := fun k => match k with | 3 => some c11r3 | _ => none, loops := fun k => match k with | 3 => some { cut := c11l3, alts := [.exit 0], F := n_11l3 } | _ => none }
abbrev mn_11l3 (v : Int × Int × Int × Layout × Unit) (r : (Int × Unit)) : Prop := (fun v out => ∀ C : Ctx, C.P = prog → C.N = 30 → AWpL C (loopNo (bodyOf Tryz.f11) 0) (encS vw (conc vw c11l3 v)) (OutQ sh11 [.exit 0] out)) v r
abbrev mn_11 (v : Layout × Int × Unit) (r : Int × Unit) : Prop := (fun v r => ∀ x, resV prog sig11 r = some x → FnOk prog 11 (encL vw (startS sig11 v).len (startOs sig11 v).1) (encOs (startS sig11 v).len (startS sig11 v).own) (encV vw (conc vw sig11.rcut r).len x) (encOs (conc vw sig11.rcut r).len (kept sig11 r))) v r
theorem cn_11l3 (f0 : Int × Int × Int × Layout × Unit → Option ((Int × Unit))) (f1 : Layout × Int × Unit → Option (Int × Unit)) (h0 : ∀ v r, f0 v = some r → mn_11l3 v r) (h1 : ∀ v r, f1 v = some r → mn_11 v r) : CallerOk prog (x11 f0 f1).call := (by
    intro A fid args S dst k r h
    unfold x11 call11 at h
    simp only at h
    split at h
    ·exact callPure_ok ((fun v r x h hx => h1 v r h x hx)) rfl rfl h
    ·cases h)
theorem sn_11l3 (f0 : Int × Int × Int × Layout × Unit → Option ((Int × Unit))) (f1 : Layout × Int × Unit → Option (Int × Unit)) (h0 : ∀ v r, f0 v = some r → mn_11l3 v r) (h1 : ∀ v r, f1 v = some r → mn_11 v r) (v : Int × Int × Int × Layout × Unit) (r : (Int × Unit)) (h : exL (x11 f0 f1) (loopNo (bodyOf Tryz.f11) 0) c11l3 [.exit 0] f0 v = some r) : mn_11l3 v r := fun C hP hN => loop_step (X := x11 f0 f1) (b := (loopNo (bodyOf Tryz.f11) 0)) hP hN Ty.mixed (cn_11l3 f0 f1 h0 h1) (lok_all (X := x11 f0 f1) (c := (loopNo (bodyOf Tryz.f11) 0)) (kcast (by kernel_rfl : True = AllB (LoopsP C (x11 f0 f1)) (loopsIn (loopNo (bodyOf Tryz.f11) 0))) trivial)) (cut := c11l3) (alts := [.exit 0]) (F := f0) (fun v out h => h0 v out h C hP hN) h
theorem cn_11 (f0 : Int × Int × Int × Layout × Unit → Option ((Int × Unit))) (h0 : ∀ v r, f0 v = some r → mn_11l3 v r) : CallerOk prog (x11 f0 (fun _ => none)).call := (by
    intro A fid args S dst k r h
    unfold x11 call11 at h
    simp only at h
    split at h
    ·exact callPure_ok ((fun v r x h hx => by cases h)) rfl rfl h
    ·cases h)
theorem sn_11 (f0 : Int × Int × Int × Layout × Unit → Option ((Int × Unit))) (h0 : ∀ v r, f0 v = some r → mn_11l3 v r) (v : Layout × Int × Unit) (r : Int × Unit) (h : exF (x11 f0 (fun _ => none)) sig11 rfl (bodyOf Tryz.f11) v = some r) : mn_11 v r := fun x hx => fn_ok (X := x11 f0 (fun _ => none)) (sig := sig11) rfl Tryz.func11 (c := bodyOf Tryz.f11) (by kernel_rfl) Tryz.ntmps11 (by kernel_rfl) (by kernel_rfl) rfl Ty.mixed (cn_11 f0 h0) rfl (fun C hP hN => (lok_all (X := x11 f0 (fun _ => none)) (c := (bodyOf Tryz.f11)) (kcast (by kernel_rfl : AllB (LoopsP C (x11 f0 (fun _ => none))) [(loopNo (bodyOf Tryz.f11) 0)] = AllB (LoopsP C (x11 f0 (fun _ => none))) (loopsIn (bodyOf Tryz.f11))) ⟨loop_at (X := x11 f0 (fun _ => none)) (b := (loopNo (bodyOf Tryz.f11) 0)) (by kernel_rfl) (show LoopOk C (loopNo (bodyOf Tryz.f11) 0) (sh := sh11) { cut := c11l3, alts := [.exit 0], F := f0 } from fun v out h => h0 v out h C hP hN), trivial⟩))) h x hx
theorem n_11l3_all : (∀ v r, n_11l3 v = some r → mn_11l3 v r) ∧ (∀ v r, n_11 v = some r → mn_11 v r) := by
 refine n_11l3.mutual_partial_correctness
  (motive_1 := mn_11l3)
  (motive_2 := mn_11)
  ?_ ?_
 ·exact (fun f0 f1 h0 h1 v r h => sn_11l3 f0 f1 h0 h1 v r (kcast (by kernel_rfl) h))
 ·exact (fun f0 h0 v r h => sn_11 f0 h0 v r (kcast (by kernel_rfl) h))
theorem n_11_ok : SigOk prog 11 sig11 n_11 := fun v r x h hx => n_11l3_all.2 v r h x hx
noncomputable def c12r3 : Cut SN := ⟨[(1, .dat (.int .i64)), (2, .bp 2 0), (5, .dat (.int .i64)), (6, .dat (.int .i64)), (16, .dat .bool)], [(2, .st .layoutT)]⟩
noncomputable def sh12 : Shape vw := { exits := fun id => match id with | 0 => c11e0 | _ => ⟨[], []⟩, rcut := c11z }
noncomputable def sig12 : Sig vw := { params := [.dat (.st .layoutT), .dat (.int .i64)], rcut := c11z, rvars := [.tmp 4] }
mutual
noncomputable def n_12l3 (v : Int × Int × Int × Layout × Unit) : Option ((Int × Unit)) :=
 (if decide (v.2.2.1 < (↑v.2.2.2.1.parts.length : Int)) = true then
    some ((v.1, v.2.1, v.2.2.1, decide (v.2.1 < v.1), v.2.2.2.1, ()))
   else some ((v.1, v.2.1, v.2.2.1, false, v.2.2.2.1, ()))) >>= fun x1 =>
 if x1.2.2.2.1 = true then
  if (0 : Int) ≤ x1.2.2.1 then
   x1.2.2.2.2.1.parts[x1.2.2.1.toNat]? >>= fun x2 =>
   n_12 (x2, i64.wrap (x1.1 - x1.2.1), ()) >>= fun x3 =>
   n_12l3 (x1.1, i64.wrap (x1.2.1 + x3.1), i64.wrap (x1.2.2.1 + (1 : Int)), x1.2.2.2.2.1, ())
  else none
 else some ((x1.2.1, ()))
 partial_fixpoint
noncomputable def n_12 (v : Layout × Int × Unit) : Option (Int × Unit) :=
 n_12l3 (v.2.1, (1 : Int), (0 : Int), v.1, ()) >>= fun x1 =>
 some ((x1.1, ()))
 partial_fixpoint
end
noncomputable def call12 (n_12l3 : Int × Int × Int × Layout × Unit → Option ((Int × Unit))) (n_12 : Layout × Int × Unit → Option (Int × Unit)) : Caller vw := fun A fid args S k => match fid with | 12 => callPure prog sig12 n_12 A args S k | _ => none
noncomputable def x12 (n_12l3 : Int × Int × Int × Layout × Unit → Option ((Int × Unit))) (n_12 : Layout × Int × Unit → Option (Int × Unit)) : Xc vw := { P := prog, n := 31, call := call12 n_12l3 n_12, sh := sh12, regs := fun k => match k with | 3 => some c12r3 | _ => none, loops := fun k => match k with | 3 => some { cut := c11l3, alts := [.exit 0], F := n_12l3 } | _ => none }
abbrev mn_12l3 (v : Int × Int × Int × Layout × Unit) (r : (Int × Unit)) : Prop := (fun v out => ∀ C : Ctx, C.P = prog → C.N = 31 → AWpL C (loopNo (bodyOf Tryz.f12) 0) (encS vw (conc vw c11l3 v)) (OutQ sh12 [.exit 0] out)) v r
abbrev mn_12 (v : Layout × Int × Unit) (r : Int × Unit) : Prop := (fun v r => ∀ x, resV prog sig12 r = some x → FnOk prog 12 (encL vw (startS sig12 v).len (startOs sig12 v).1) (encOs (startS sig12 v).len (startS sig12 v).own) (encV vw (conc vw sig12.rcut r).len x) (encOs (conc vw sig12.rcut r).len (kept sig12 r))) v r
theorem cn_12l3 (f0 : Int × Int × Int × Layout × Unit → Option ((Int × Unit))) (f1 : Layout × Int × Unit → Option (Int × Unit)) (h0 : ∀ v r, f0 v = some r → mn_12l3 v r) (h1 : ∀ v r, f1 v = some r → mn_12 v r) : CallerOk prog (x12 f0 f1).call := (by
    intro A fid args S dst k r h
    unfold x12 call12 at h
    simp only at h
    split at h
    ·exact callPure_ok ((fun v r x h hx => h1 v r h x hx)) rfl rfl h
    ·cases h)
theorem sn_12l3 (f0 : Int × Int × Int × Layout × Unit → Option ((Int × Unit))) (f1 : Layout × Int × Unit → Option (Int × Unit)) (h0 : ∀ v r, f0 v = some r → mn_12l3 v r) (h1 : ∀ v r, f1 v = some r → mn_12 v r) (v : Int × Int × Int × Layout × Unit) (r : (Int × Unit)) (h : exL (x12 f0 f1) (loopNo (bodyOf Tryz.f12) 0) c11l3 [.exit 0] f0 v = some r) : mn_12l3 v r := fun C hP hN => loop_step (X := x12 f0 f1) (b := (loopNo (bodyOf Tryz.f12) 0)) hP hN Ty.mixed (cn_12l3 f0 f1 h0 h1) (lok_all (X := x12 f0 f1) (c := (loopNo (bodyOf Tryz.f12) 0)) (kcast (by kernel_rfl : True = AllB (LoopsP C (x12 f0 f1)) (loopsIn (loopNo (bodyOf Tryz.f12) 0))) trivial)) (cut := c11l3) (alts := [.exit 0]) (F := f0) (fun v out h => h0 v out h C hP hN) h
theorem cn_12 (f0 : Int × Int × Int × Layout × Unit → Option ((Int × Unit))) (h0 : ∀ v r, f0 v = some r → mn_12l3 v r) : CallerOk prog (x12 f0 (fun _ => none)).call := (by
    intro A fid args S dst k r h
    unfold x12 call12 at h
    simp only at h
    split at h
    ·exact callPure_ok ((fun v r x h hx => by cases h)) rfl rfl h
    ·cases h)
theorem sn_12 (f0 : Int × Int × Int × Layout × Unit → Option ((Int × Unit))) (h0 : ∀ v r, f0 v = some r → mn_12l3 v r) (v : Layout × Int × Unit) (r : Int × Unit) (h : exF (x12 f0 (fun _ => none)) sig12 rfl (bodyOf Tryz.f12) v = some r) : mn_12 v r := fun x hx => fn_ok (X := x12 f0 (fun _ => none)) (sig := sig12) rfl Tryz.func12 (c := bodyOf Tryz.f12) (by kernel_rfl) Tryz.ntmps12 (by kernel_rfl) (by kernel_rfl) rfl Ty.mixed (cn_12 f0 h0) rfl (fun C hP hN => (lok_all (X := x12 f0 (fun _ => none)) (c := (bodyOf Tryz.f12)) (kcast (by kernel_rfl : AllB (LoopsP C (x12 f0 (fun _ => none))) [(loopNo (bodyOf Tryz.f12) 0)] = AllB (LoopsP C (x12 f0 (fun _ => none))) (loopsIn (bodyOf Tryz.f12))) ⟨loop_at (X := x12 f0 (fun _ => none)) (b := (loopNo (bodyOf Tryz.f12) 0)) (by kernel_rfl) (show LoopOk C (loopNo (bodyOf Tryz.f12) 0) (sh := sh12) { cut := c11l3, alts := [.exit 0], F := f0 } from fun v out h => h0 v out h C hP hN), trivial⟩))) h x hx
theorem n_12l3_all : (∀ v r, n_12l3 v = some r → mn_12l3 v r) ∧ (∀ v r, n_12 v = some r → mn_12 v r) := by
 refine n_12l3.mutual_partial_correctness
  (motive_1 := mn_12l3)
  (motive_2 := mn_12)
  ?_ ?_
 ·exact (fun f0 f1 h0 h1 v r h => sn_12l3 f0 f1 h0 h1 v r (kcast (by kernel_rfl) h))
 ·exact (fun f0 h0 v r h => sn_12 f0 h0 v r (kcast (by kernel_rfl) h))
theorem n_12_ok : SigOk prog 12 sig12 n_12 := fun v r x h hx => n_12l3_all.2 v r h x hx
noncomputable def c48l3 : Cut SN := ⟨[(3, .dat (.int .i64)), (6, .dat (.sl (.int .i64))), (7, .dat (.int .i64)), (8, .dat (.int .i64))], []⟩
noncomputable def c48e0 : Cut SN := ⟨[(3, .dat (.int .i64))], []⟩
noncomputable def c48z : Cut SN := ⟨[(2, .dat (.int .i64))], []⟩
noncomputable def sh48 : Shape vw := { exits := fun id => match id with | 0 => c48e0 | _ => ⟨[], []⟩, rcut := c48z }
noncomputable def sig48 : Sig vw := { params := [.dat (.sl (.int .i64))], rcut := c48z, rvars := [.tmp 2] }
noncomputable def n_48l3 (v : Int × (List Int) × Int × Int × Unit) : Option ((Int × Unit)) :=
 if decide (v.2.2.2.1 < v.2.2.1) = true then
  if (0 : Int) ≤ v.2.2.2.1 then
   v.2.1[v.2.2.2.1.toNat]? >>= fun x1 =>
   n_48l3 (min (1099511627776 : Int) (i64.wrap (v.1 + min x1 (1099511627776 : Int))), v.2.1, v.2.2.1, i64.wrap (v.2.2.2.1 + (1 : Int)), ())
  else none
 else some ((v.1, ()))
 partial_fixpoint
noncomputable def n_48 (v : (List Int) × Unit) : Option (Int × Unit) :=
 n_48l3 ((0 : Int), v.1, (↑v.1.length : Int), (0 : Int), ()) >>= fun x1 =>
 some ((x1.1, ()))
noncomputable def call48 : Caller vw := fun _ _ _ _ _ => none
noncomputable def x48 : Xc vw := { P := prog, n := 19, call := call48, sh := sh48, loops := fun k => match k with | 3 => some { cut := c48l3, alts := [.exit 0], F := n_48l3 } | _ => none }
theorem call48_ok : CallerOk prog call48 := call_none
theorem n_48l3_ok (C : Ctx) (hP : C.P = prog) (hN : C.N = 19) : LoopOk C (loopNo (bodyOf Tryz.f48) 0) (sh := sh48) { cut := c48l3, alts := [.exit 0], F := n_48l3 } :=
 n_48l3.partial_correctness (motive := fun v out => AWpL C (loopNo (bodyOf Tryz.f48) 0) (encS vw (conc vw c48l3 v)) (OutQ sh48 [.exit 0] out)) fun F ih v out h =>
  loop_step (X := x48) (b := (loopNo (bodyOf Tryz.f48) 0)) hP hN Ty.mixed call48_ok (lok_all (X := x48) (c := (loopNo (bodyOf Tryz.f48) 0)) (kcast (by kernel_rfl : True = AllB (LoopsP C (x48)) (loopsIn (loopNo (bodyOf Tryz.f48) 0))) trivial)) ih (kcast (by kernel_rfl) h)
theorem n_48_ok : SigOk prog 48 sig48 n_48 := fun v r x h hx =>
 fn_ok (X := x48) (sig := sig48) rfl Tryz.func48 (c := bodyOf Tryz.f48) (by kernel_rfl) Tryz.ntmps48 (by kernel_rfl) (by kernel_rfl) rfl Ty.mixed call48_ok rfl (fun C hP hN => (lok_all (kcast (by kernel_rfl : AllB (LoopsP C (x48)) [(loopNo (bodyOf Tryz.f48) 0)] = AllB (LoopsP C (x48)) (loopsIn (bodyOf Tryz.f48))) ⟨loop_at (X := x48) (b := (loopNo (bodyOf Tryz.f48) 0)) (by kernel_rfl) (n_48l3_ok C hP hN), trivial⟩))) (kcast (by kernel_rfl) h) x hx
noncomputable def sh49 : Shape vw := { rcut := c48z }
noncomputable def sig49 : Sig vw := { params := [.dat (.st .layoutT)], rcut := c48z, rvars := [.tmp 2] }
noncomputable def n_49 (v : Layout × Unit) : Option (Int × Unit) :=
 if (v.1.kind == (1 : Int)) = true then
  some (((1 : Int), ()))
 else if (v.1.kind == (2 : Int)) = true then
  some ((max v.1.n (0 : Int), ()))
 else some (((0 : Int), ()))
noncomputable def call49 : Caller vw := fun _ _ _ _ _ => none
noncomputable def x49 : Xc vw := { P := prog, n := 12, call := call49, sh := sh49 }
theorem call49_ok : CallerOk prog call49 := call_none
theorem n_49_ok : SigOk prog 49 sig49 n_49 := fun v r x h hx =>
 fn_ok (X := x49) (sig := sig49) rfl Tryz.func49 (c := bodyOf Tryz.f49) (by kernel_rfl) Tryz.ntmps49 (by kernel_rfl) (by kernel_rfl) rfl Ty.mixed call49_ok rfl (fun C hP hN => (lok_all (kcast (by kernel_rfl) trivial))) (kcast (by kernel_rfl) h) x hx
noncomputable def c25sf4a5l14 : Cut SN := ⟨[(0, .bp 100000 0), (2, .dat (.int .i64)), (4, .bp 4 0), (6, .dat (.int .i64)), (98, .dat (.sl (.st .layoutT))), (99, .dat (.int .i64)), (100, .dat (.int .i64))], [(100000, .st .countedT), (4, .st .layoutT)]⟩
noncomputable def c25sf4a5l21 : Cut SN := ⟨[(0, .bp 100000 0), (2, .dat (.int .i64)), (126, .dat (.sl (.st .layoutT))), (127, .dat (.int .i64)), (128, .dat (.int .i64))], [(100000, .st .countedT)]⟩
noncomputable def c25sf4a5j19 : Cut SN := ⟨[(0, .bp 100000 0), (2, .dat (.int .i64)), (4, .bp 4 0)], [(100000, .st .countedT), (4, .st .layoutT)]⟩
noncomputable def c25sf4a5e1 : Cut SN := ⟨[(0, .bp 100000 0), (2, .dat (.int .i64)), (4, .bp 4 0), (6, .dat (.int .i64))], [(100000, .st .countedT), (4, .st .layoutT)]⟩
noncomputable def c25sf4a5e3 : Cut SN := ⟨[(0, .bp 100000 0)], [(100000, .st .countedT)]⟩
noncomputable def sh25sf4a5 : Shape vw := { exits := fun id => match id with | 1 => c25sf4a5e1 | 3 => c25sf4a5e3 | _ => ⟨[], []⟩, rcut := c25sf4a5e3 }
noncomputable def sig25sf4a5 : Sig vw := { params := [.bp 100000 0, .dat (.st .layoutT), .dat (.int .i64)], objs := [(100000, .st .countedT)], rcut := c25sf4a5e3, rvars := [], keep := [100000] }
noncomputable def n_25sf4a5l14 (v : Int × Int × (List Layout) × Int × Int × Counted × Layout × Unit) : Option ((Int × Int × Counted × Layout × Unit)) :=
 if decide (v.2.2.2.2.1 < v.2.2.2.1) = true then
  if (0 : Int) ≤ v.2.2.2.2.1 then
   v.2.2.1[v.2.2.2.2.1.toNat]? >>= fun x1 =>
   n_49 (x1, ()) >>= fun x2 =>
   n_48 ([v.2.1, x2.1], ()) >>= fun x3 =>
   n_25sf4a5l14 (v.1, x3.1, v.2.2.1, v.2.2.2.1, i64.wrap (v.2.2.2.2.1 + (1 : Int)), v.2.2.2.2.2.1, v.2.2.2.2.2.2.1, ())
  else none
 else some ((v.1, v.2.1, v.2.2.2.2.2.1, v.2.2.2.2.2.2.1, ()))
 partial_fixpoint
mutual
noncomputable def n_25sf4a5l21 (v : Int × (List Layout) × Int × Int × Counted × Unit) : Option ((Counted × Unit)) :=
 if decide (v.2.2.2.1 < v.2.2.1) = true then
  if (0 : Int) ≤ v.2.2.2.1 then
   v.2.1[v.2.2.2.1.toNat]? >>= fun x1 =>
   n_25sf4a5 (x1, i64.wrap (v.1 + (1 : Int)), v.2.2.2.2.1, ()) >>= fun x2 =>
   n_25sf4a5l21 (v.1, v.2.1, v.2.2.1, i64.wrap (v.2.2.2.1 + (1 : Int)), x2.1, ())
  else none
 else some ((v.2.2.2.2.1, ()))
 partial_fixpoint
noncomputable def n_25sf4a5 (v : Layout × Int × Counted × Unit) : Option (Counted × Unit) :=
 (if v.2.2.1.large = true then
    some ((v.2.1, Counted.mk (i64.wrap (v.2.2.1.count + (1 : Int))) (max v.2.2.1.deep v.2.1) true, v.1, ()))
   else if decide (i64.wrap (v.2.2.1.count + (1 : Int)) > (60 : Int)) = true then
    some ((v.2.1, Counted.mk (i64.wrap (v.2.2.1.count + (1 : Int))) (max v.2.2.1.deep v.2.1) true, v.1, ()))
   else if decide (v.2.1 > (5 : Int)) = true then
    some ((v.2.1, Counted.mk (i64.wrap (v.2.2.1.count + (1 : Int))) (max v.2.2.1.deep v.2.1) true, v.1, ()))
   else some ((v.2.1, Counted.mk (i64.wrap (v.2.2.1.count + (1 : Int))) (max v.2.2.1.deep v.2.1) (decide ((↑v.1.parts.length : Int) > (12 : Int))), v.1, ()))) >>= fun x1 =>
 (if (x1.2.2.1.kind == (2 : Int)) = true then
    (if x1.2.1.large = true then
       some ((x1.1, Counted.mk x1.2.1.count x1.2.1.deep true, x1.2.2.1, ()))
      else some ((x1.1, Counted.mk x1.2.1.count x1.2.1.deep (decide (x1.2.2.1.n > (64 : Int))), x1.2.2.1, ()))) >>= fun x2 =>
    some ((x2.1, x2.2.1, x2.2.2.1, ()))
   else if (x1.2.2.1.kind == (5 : Int)) = true then
    (if x1.2.1.large = true then
       some ((x1.1, Counted.mk x1.2.1.count x1.2.1.deep true, x1.2.2.1, ()))
      else some ((x1.1, Counted.mk x1.2.1.count x1.2.1.deep (decide (x1.2.2.1.n > (1000 : Int))), x1.2.2.1, ()))) >>= fun x2 =>
    some ((x2.1, x2.2.1, x2.2.2.1, ()))
   else if (x1.2.2.1.kind == (7 : Int)) = true then
    (if x1.2.1.large = true then
       some ((x1.1, Counted.mk x1.2.1.count x1.2.1.deep true, x1.2.2.1, ()))
      else some ((x1.1, Counted.mk x1.2.1.count x1.2.1.deep (decide (x1.2.2.1.n > (65536 : Int))), x1.2.2.1, ()))) >>= fun x2 =>
    some ((x2.1, x2.2.1, x2.2.2.1, ()))
   else if (x1.2.2.1.kind == (9 : Int)) = true then
    n_25sf4a5l14 (x1.1, (0 : Int), x1.2.2.1.parts, (↑x1.2.2.1.parts.length : Int), (0 : Int), x1.2.1, x1.2.2.1, ()) >>= fun x2 =>
    (if x2.2.2.1.large = true then
       some ((x2.1, Counted.mk x2.2.2.1.count x2.2.2.1.deep true, x2.2.2.2.1, ()))
      else some ((x2.1, Counted.mk x2.2.2.1.count x2.2.2.1.deep (decide (x2.2.1 > (64 : Int))), x2.2.2.2.1, ()))) >>= fun x3 =>
    some ((x3.1, x3.2.1, x3.2.2.1, ()))
   else some ((x1.1, x1.2.1, x1.2.2.1, ()))) >>= fun x2 =>
 if x2.2.1.large = true then
  some ((x2.2.1, ()))
 else n_25sf4a5l21 (x2.1, x2.2.2.1.parts, (↑x2.2.2.1.parts.length : Int), (0 : Int), x2.2.1, ()) >>= fun x3 =>
 some ((x3.1, ()))
 partial_fixpoint
end
noncomputable def call25sf4a5 (n_25sf4a5l14 : Int × Int × (List Layout) × Int × Int × Counted × Layout × Unit → Option ((Int × Int × Counted × Layout × Unit))) (n_25sf4a5l21 : Int × (List Layout) × Int × Int × Counted × Unit → Option ((Counted × Unit))) (n_25sf4a5 : Layout × Int × Counted × Unit → Option (Counted × Unit)) : Caller vw := fun A fid args S k => match fid with | 25 => callObj prog sig25sf4a5 n_25sf4a5 A args S k | 48 => callPure prog sig48 n_48 A args S k | 49 => callPure prog sig49 n_49 A args S k | _ => none
noncomputable def x25sf4a5 (n_25sf4a5l14 : Int × Int × (List Layout) × Int × Int × Counted × Layout × Unit → Option ((Int × Int × Counted × Layout × Unit))) (n_25sf4a5l21 : Int × (List Layout) × Int × Int × Counted × Unit → Option ((Counted × Unit))) (n_25sf4a5 : Layout × Int × Counted × Unit → Option (Counted × Unit)) : Xc vw := { P := prog, n := 138, call := call25sf4a5 n_25sf4a5l14 n_25sf4a5l21 n_25sf4a5, sh := sh25sf4a5, joins := fun k => match k with | 19 => some (c25sf4a5j19, [.norm]) | _ => none, regs := fun k => match k with | 3 => some c25sf4a5j19 | 6 => some c25sf4a5j19 | 8 => some c25sf4a5j19 | 10 => some c25sf4a5j19 | 18 => some c25sf4a5j19 | _ => none, loops := fun k => match k with | 14 => some { cut := c25sf4a5l14, alts := [.exit 1], F := n_25sf4a5l14 } | 21 => some { cut := c25sf4a5l21, alts := [.exit 3], F := n_25sf4a5l21 } | _ => none }
abbrev mn_25sf4a5l14 (v : Int × Int × (List Layout) × Int × Int × Counted × Layout × Unit) (r : (Int × Int × Counted × Layout × Unit)) : Prop := (fun v out => ∀ C : Ctx, C.P = prog → C.N = 138 → AWpL C (loopNo (bodyOf Tryz.f25) 0) (encS vw (conc vw c25sf4a5l14 v)) (OutQ sh25sf4a5 [.exit 1] out)) v r
theorem cn_25sf4a5l14 (f0 : Int × Int × (List Layout) × Int × Int × Counted × Layout × Unit → Option ((Int × Int × Counted × Layout × Unit))) (h0 : ∀ v r, f0 v = some r → mn_25sf4a5l14 v r) : CallerOk prog (x25sf4a5 f0 (fun _ => none) (fun _ => none)).call := (by
    intro A fid args S dst k r h
    unfold x25sf4a5 call25sf4a5 at h
    simp only at h
    split at h
    ·exact callObj_ok ((fun v r x h hx => by cases h)) h
    ·exact callPure_ok (n_48_ok) rfl rfl h
    ·exact callPure_ok (n_49_ok) rfl rfl h
    ·cases h)
theorem sn_25sf4a5l14 (f0 : Int × Int × (List Layout) × Int × Int × Counted × Layout × Unit → Option ((Int × Int × Counted × Layout × Unit))) (h0 : ∀ v r, f0 v = some r → mn_25sf4a5l14 v r) (v : Int × Int × (List Layout) × Int × Int × Counted × Layout × Unit) (r : (Int × Int × Counted × Layout × Unit)) (h : exL (x25sf4a5 f0 (fun _ => none) (fun _ => none)) (loopNo (bodyOf Tryz.f25) 0) c25sf4a5l14 [.exit 1] f0 v = some r) : mn_25sf4a5l14 v r := fun C hP hN => loop_step (X := x25sf4a5 f0 (fun _ => none) (fun _ => none)) (b := (loopNo (bodyOf Tryz.f25) 0)) hP hN Ty.mixed (cn_25sf4a5l14 f0 h0) (lok_all (X := x25sf4a5 f0 (fun _ => none) (fun _ => none)) (c := (loopNo (bodyOf Tryz.f25) 0)) (kcast (by kernel_rfl : True = AllB (LoopsP C (x25sf4a5 f0 (fun _ => none) (fun _ => none))) (loopsIn (loopNo (bodyOf Tryz.f25) 0))) trivial)) (cut := c25sf4a5l14) (alts := [.exit 1]) (F := f0) (fun v out h => h0 v out h C hP hN) h
theorem n_25sf4a5l14_pc : ∀ v out, n_25sf4a5l14 v = some out → (fun v out => ∀ C : Ctx, C.P = prog → C.N = 138 → AWpL C (loopNo (bodyOf Tryz.f25) 0) (encS vw (conc vw c25sf4a5l14 v)) (OutQ sh25sf4a5 [.exit 1] out)) v out := (n_25sf4a5l14.partial_correctness (motive := mn_25sf4a5l14) (fun f0 h0 v r h => sn_25sf4a5l14 f0 h0 v r (kcast (by kernel_rfl) h)))
abbrev mn_25sf4a5l21 (v : Int × (List Layout) × Int × Int × Counted × Unit) (r : (Counted × Unit)) : Prop := (fun v out => ∀ C : Ctx, C.P = prog → C.N = 138 → AWpL C (loopNo (bodyOf Tryz.f25) 1) (encS vw (conc vw c25sf4a5l21 v)) (OutQ sh25sf4a5 [.exit 3] out)) v r
abbrev mn_25sf4a5 (v : Layout × Int × Counted × Unit) (r : Counted × Unit) : Prop := (fun v r => ∀ x, resV prog sig25sf4a5 r = some x → FnOk prog 25 (encL vw (startS sig25sf4a5 v).len (startOs sig25sf4a5 v).1) (encOs (startS sig25sf4a5 v).len (startS sig25sf4a5 v).own) (encV vw (conc vw sig25sf4a5.rcut r).len x) (encOs (conc vw sig25sf4a5.rcut r).len (kept sig25sf4a5 r))) v r
theorem cn_25sf4a5l21 (f0 : Int × (List Layout) × Int × Int × Counted × Unit → Option ((Counted × Unit))) (f1 : Layout × Int × Counted × Unit → Option (Counted × Unit)) (h0 : ∀ v r, f0 v = some r → mn_25sf4a5l21 v r) (h1 : ∀ v r, f1 v = some r → mn_25sf4a5 v r) : CallerOk prog (x25sf4a5 (fun _ => none) f0 f1).call := (by
    intro A fid args S dst k r h
    unfold x25sf4a5 call25sf4a5 at h
    simp only at h
    split at h
    ·exact callObj_ok ((fun v r x h hx => h1 v r h x hx)) h
    ·exact callPure_ok (n_48_ok) rfl rfl h
    ·exact callPure_ok (n_49_ok) rfl rfl h
    ·cases h)
theorem sn_25sf4a5l21 (f0 : Int × (List Layout) × Int × Int × Counted × Unit → Option ((Counted × Unit))) (f1 : Layout × Int × Counted × Unit → Option (Counted × Unit)) (h0 : ∀ v r, f0 v = some r → mn_25sf4a5l21 v r) (h1 : ∀ v r, f1 v = some r → mn_25sf4a5 v r) (v : Int × (List Layout) × Int × Int × Counted × Unit) (r : (Counted × Unit)) (h : exL (x25sf4a5 (fun _ => none) f0 f1) (loopNo (bodyOf Tryz.f25) 1) c25sf4a5l21 [.exit 3] f0 v = some r) : mn_25sf4a5l21 v r := fun C hP hN => loop_step (X := x25sf4a5 (fun _ => none) f0 f1) (b := (loopNo (bodyOf Tryz.f25) 1)) hP hN Ty.mixed (cn_25sf4a5l21 f0 f1 h0 h1) (lok_all (X := x25sf4a5 (fun _ => none) f0 f1) (c := (loopNo (bodyOf Tryz.f25) 1)) (kcast (by kernel_rfl : True = AllB (LoopsP C (x25sf4a5 (fun _ => none) f0 f1)) (loopsIn (loopNo (bodyOf Tryz.f25) 1))) trivial)) (cut := c25sf4a5l21) (alts := [.exit 3]) (F := f0) (fun v out h => h0 v out h C hP hN) h
theorem cn_25sf4a5 (f0 : Int × (List Layout) × Int × Int × Counted × Unit → Option ((Counted × Unit))) (h0 : ∀ v r, f0 v = some r → mn_25sf4a5l21 v r) : CallerOk prog (x25sf4a5 n_25sf4a5l14 f0 (fun _ => none)).call := (by
    intro A fid args S dst k r h
    unfold x25sf4a5 call25sf4a5 at h
    simp only at h
    split at h
    ·exact callObj_ok ((fun v r x h hx => by cases h)) h
    ·exact callPure_ok (n_48_ok) rfl rfl h
    ·exact callPure_ok (n_49_ok) rfl rfl h
    ·cases h)
theorem sn_25sf4a5 (f0 : Int × (List Layout) × Int × Int × Counted × Unit → Option ((Counted × Unit))) (h0 : ∀ v r, f0 v = some r → mn_25sf4a5l21 v r) (v : Layout × Int × Counted × Unit) (r : Counted × Unit) (h : exF (x25sf4a5 n_25sf4a5l14 f0 (fun _ => none)) sig25sf4a5 rfl (bodyOf Tryz.f25) v = some r) : mn_25sf4a5 v r := fun x hx => fn_ok (X := x25sf4a5 n_25sf4a5l14 f0 (fun _ => none)) (sig := sig25sf4a5) rfl Tryz.func25 (c := bodyOf Tryz.f25) (by kernel_rfl) Tryz.ntmps25 (by kernel_rfl) (by kernel_rfl) rfl Ty.mixed (cn_25sf4a5 f0 h0) rfl (fun C hP hN => (lok_all (X := x25sf4a5 n_25sf4a5l14 f0 (fun _ => none)) (c := (bodyOf Tryz.f25)) (kcast (by kernel_rfl : AllB (LoopsP C (x25sf4a5 n_25sf4a5l14 f0 (fun _ => none))) [(loopNo (bodyOf Tryz.f25) 0), (loopNo (bodyOf Tryz.f25) 1)] = AllB (LoopsP C (x25sf4a5 n_25sf4a5l14 f0 (fun _ => none))) (loopsIn (bodyOf Tryz.f25))) ⟨loop_at (X := x25sf4a5 n_25sf4a5l14 f0 (fun _ => none)) (b := (loopNo (bodyOf Tryz.f25) 0)) (by kernel_rfl) (show LoopOk C (loopNo (bodyOf Tryz.f25) 0) (sh := sh25sf4a5) { cut := c25sf4a5l14, alts := [.exit 1], F := n_25sf4a5l14 } from fun v out h => n_25sf4a5l14_pc v out h C hP hN), loop_at (X := x25sf4a5 n_25sf4a5l14 f0 (fun _ => none)) (b := (loopNo (bodyOf Tryz.f25) 1)) (by kernel_rfl) (show LoopOk C (loopNo (bodyOf Tryz.f25) 1) (sh := sh25sf4a5) { cut := c25sf4a5l21, alts := [.exit 3], F := f0 } from fun v out h => h0 v out h C hP hN), trivial⟩))) h x hx
theorem n_25sf4a5l21_all : (∀ v r, n_25sf4a5l21 v = some r → mn_25sf4a5l21 v r) ∧ (∀ v r, n_25sf4a5 v = some r → mn_25sf4a5 v r) := by
 refine n_25sf4a5l21.mutual_partial_correctness
  (motive_1 := mn_25sf4a5l21)
  (motive_2 := mn_25sf4a5)
  ?_ ?_
 ·exact (fun f0 f1 h0 h1 v r h => sn_25sf4a5l21 f0 f1 h0 h1 v r (kcast (by kernel_rfl) h))
 ·exact (fun f0 h0 v r h => sn_25sf4a5 f0 h0 v r (kcast (by kernel_rfl) h))
theorem n_25sf4a5_ok : SigOk prog 25 sig25sf4a5 n_25sf4a5 := fun v r x h hx => n_25sf4a5l21_all.2 v r h x hx
noncomputable def c26l3 : Cut SN := ⟨[(1, .bp 1 0), (3, .dat (.int .i64)), (7, .dat (.sl (.st .layoutT))), (8, .dat (.int .i64)), (9, .dat (.int .i64))], [(1, .st .layoutT)]⟩
noncomputable def c26e0 : Cut SN := ⟨[(1, .bp 1 0), (3, .dat (.int .i64))], [(1, .st .layoutT)]⟩
noncomputable def sh26 : Shape vw := { exits := fun id => match id with | 0 => c26e0 | _ => ⟨[], []⟩, rcut := c48z }
noncomputable def sig26 : Sig vw := { params := [.dat (.st .layoutT)], rcut := c48z, rvars := [.tmp 2] }
mutual
noncomputable def n_26l3 (v : Int × (List Layout) × Int × Int × Layout × Unit) : Option ((Int × Layout × Unit)) :=
 if decide (v.2.2.2.1 < v.2.2.1) = true then
  if (0 : Int) ≤ v.2.2.2.1 then
   v.2.1[v.2.2.2.1.toNat]? >>= fun x1 =>
   n_26 (x1, ()) >>= fun x2 =>
   n_48 ([v.1, x2.1], ()) >>= fun x3 =>
   n_26l3 (x3.1, v.2.1, v.2.2.1, i64.wrap (v.2.2.2.1 + (1 : Int)), v.2.2.2.2.1, ())
  else none
 else some ((v.1, v.2.2.2.2.1, ()))
 partial_fixpoint
noncomputable def n_26 (v : Layout × Unit) : Option (Int × Unit) :=
 n_26l3 ((0 : Int), v.1.parts, (↑v.1.parts.length : Int), (0 : Int), v.1, ()) >>= fun x1 =>
 if (x1.2.1.kind == (5 : Int)) = true then
  n_48 ([(1 : Int), i64.wrap (max (0 : Int) x1.2.1.n * x1.1)], ()) >>= fun x2 =>
  some ((x2.1, ()))
 else n_48 ([(1 : Int), x1.1], ()) >>= fun x2 =>
 some ((x2.1, ()))
 partial_fixpoint
end
noncomputable def call26 (n_26l3 : Int × (List Layout) × Int × Int × Layout × Unit → Option ((Int × Layout × Unit))) (n_26 : Layout × Unit → Option (Int × Unit)) : Caller vw := fun A fid args S k => match fid with | 26 => callPure prog sig26 n_26 A args S k | 48 => callPure prog sig48 n_48 A args S k | _ => none
noncomputable def x26 (n_26l3 : Int × (List Layout) × Int × Int × Layout × Unit → Option ((Int × Layout × Unit))) (n_26 : Layout × Unit → Option (Int × Unit)) : Xc vw := { P := prog, n := 32, call := call26 n_26l3 n_26, sh := sh26, loops := fun k => match k with | 3 => some { cut := c26l3, alts := [.exit 0], F := n_26l3 } | _ => none }
abbrev mn_26l3 (v : Int × (List Layout) × Int × Int × Layout × Unit) (r : (Int × Layout × Unit)) : Prop := (fun v out => ∀ C : Ctx, C.P = prog → C.N = 32 → AWpL C (loopNo (bodyOf Tryz.f26) 0) (encS vw (conc vw c26l3 v)) (OutQ sh26 [.exit 0] out)) v r
abbrev mn_26 (v : Layout × Unit) (r : Int × Unit) : Prop := (fun v r => ∀ x, resV prog sig26 r = some x → FnOk prog 26 (encL vw (startS sig26 v).len (startOs sig26 v).1) (encOs (startS sig26 v).len (startS sig26 v).own) (encV vw (conc vw sig26.rcut r).len x) (encOs (conc vw sig26.rcut r).len (kept sig26 r))) v r
theorem cn_26l3 (f0 : Int × (List Layout) × Int × Int × Layout × Unit → Option ((Int × Layout × Unit))) (f1 : Layout × Unit → Option (Int × Unit)) (h0 : ∀ v r, f0 v = some r → mn_26l3 v r) (h1 : ∀ v r, f1 v = some r → mn_26 v r) : CallerOk prog (x26 f0 f1).call := (by
    intro A fid args S dst k r h
    unfold x26 call26 at h
    simp only at h
    split at h
    ·exact callPure_ok ((fun v r x h hx => h1 v r h x hx)) rfl rfl h
    ·exact callPure_ok (n_48_ok) rfl rfl h
    ·cases h)
theorem sn_26l3 (f0 : Int × (List Layout) × Int × Int × Layout × Unit → Option ((Int × Layout × Unit))) (f1 : Layout × Unit → Option (Int × Unit)) (h0 : ∀ v r, f0 v = some r → mn_26l3 v r) (h1 : ∀ v r, f1 v = some r → mn_26 v r) (v : Int × (List Layout) × Int × Int × Layout × Unit) (r : (Int × Layout × Unit)) (h : exL (x26 f0 f1) (loopNo (bodyOf Tryz.f26) 0) c26l3 [.exit 0] f0 v = some r) : mn_26l3 v r := fun C hP hN => loop_step (X := x26 f0 f1) (b := (loopNo (bodyOf Tryz.f26) 0)) hP hN Ty.mixed (cn_26l3 f0 f1 h0 h1) (lok_all (X := x26 f0 f1) (c := (loopNo (bodyOf Tryz.f26) 0)) (kcast (by kernel_rfl : True = AllB (LoopsP C (x26 f0 f1)) (loopsIn (loopNo (bodyOf Tryz.f26) 0))) trivial)) (cut := c26l3) (alts := [.exit 0]) (F := f0) (fun v out h => h0 v out h C hP hN) h
theorem cn_26 (f0 : Int × (List Layout) × Int × Int × Layout × Unit → Option ((Int × Layout × Unit))) (h0 : ∀ v r, f0 v = some r → mn_26l3 v r) : CallerOk prog (x26 f0 (fun _ => none)).call := (by
    intro A fid args S dst k r h
    unfold x26 call26 at h
    simp only at h
    split at h
    ·exact callPure_ok ((fun v r x h hx => by cases h)) rfl rfl h
    ·exact callPure_ok (n_48_ok) rfl rfl h
    ·cases h)
theorem sn_26 (f0 : Int × (List Layout) × Int × Int × Layout × Unit → Option ((Int × Layout × Unit))) (h0 : ∀ v r, f0 v = some r → mn_26l3 v r) (v : Layout × Unit) (r : Int × Unit) (h : exF (x26 f0 (fun _ => none)) sig26 rfl (bodyOf Tryz.f26) v = some r) : mn_26 v r := fun x hx => fn_ok (X := x26 f0 (fun _ => none)) (sig := sig26) rfl Tryz.func26 (c := bodyOf Tryz.f26) (by kernel_rfl) Tryz.ntmps26 (by kernel_rfl) (by kernel_rfl) rfl Ty.mixed (cn_26 f0 h0) rfl (fun C hP hN => (lok_all (X := x26 f0 (fun _ => none)) (c := (bodyOf Tryz.f26)) (kcast (by kernel_rfl : AllB (LoopsP C (x26 f0 (fun _ => none))) [(loopNo (bodyOf Tryz.f26) 0)] = AllB (LoopsP C (x26 f0 (fun _ => none))) (loopsIn (bodyOf Tryz.f26))) ⟨loop_at (X := x26 f0 (fun _ => none)) (b := (loopNo (bodyOf Tryz.f26) 0)) (by kernel_rfl) (show LoopOk C (loopNo (bodyOf Tryz.f26) 0) (sh := sh26) { cut := c26l3, alts := [.exit 0], F := f0 } from fun v out h => h0 v out h C hP hN), trivial⟩))) h x hx
theorem n_26l3_all : (∀ v r, n_26l3 v = some r → mn_26l3 v r) ∧ (∀ v r, n_26 v = some r → mn_26 v r) := by
 refine n_26l3.mutual_partial_correctness
  (motive_1 := mn_26l3)
  (motive_2 := mn_26)
  ?_ ?_
 ·exact (fun f0 f1 h0 h1 v r h => sn_26l3 f0 f1 h0 h1 v r (kcast (by kernel_rfl) h))
 ·exact (fun f0 h0 v r h => sn_26 f0 h0 v r (kcast (by kernel_rfl) h))
theorem n_26_ok : SigOk prog 26 sig26 n_26 := fun v r x h hx => n_26l3_all.2 v r h x hx
noncomputable def c51r1 : Cut SN := ⟨[(2, .dat .bool)], []⟩
noncomputable def sh51 : Shape vw := { rcut := c51r1 }
noncomputable def sig51 : Sig vw := { params := [.dat (.st .layoutT)], rcut := c51r1, rvars := [.tmp 2] }
noncomputable def n_51 (v : Layout × Unit) : Option (Bool × Unit) :=
 (if (v.1.kind != (1 : Int)) = true then
    some ((v.1.kind != (2 : Int), ()))
   else some ((false, ()))) >>= fun x1 =>
 some ((x1.1, ()))
noncomputable def call51 : Caller vw := fun _ _ _ _ _ => none
noncomputable def x51 : Xc vw := { P := prog, n := 11, call := call51, sh := sh51, regs := fun k => match k with | 1 => some c51r1 | _ => none }
theorem call51_ok : CallerOk prog call51 := call_none
theorem n_51_ok : SigOk prog 51 sig51 n_51 := fun v r x h hx =>
 fn_ok (X := x51) (sig := sig51) rfl Tryz.func51 (c := bodyOf Tryz.f51) (by kernel_rfl) Tryz.ntmps51 (by kernel_rfl) (by kernel_rfl) rfl Ty.mixed call51_ok rfl (fun C hP hN => (lok_all (kcast (by kernel_rfl) trivial))) (kcast (by kernel_rfl) h) x hx
noncomputable def c66c51l2 : Cut SN := ⟨[(0, .dat (.sl (.st .layoutT))), (1, .fn 51 [] []), (7, .dat (.int .i64)), (8, .dat (.int .i64))], []⟩
noncomputable def sh66c51 : Shape vw := { exits := fun id => match id with | 0 => c10e0 | _ => ⟨[], []⟩, rcut := c11z }
noncomputable def sig66c51 : Sig vw := { params := [.dat (.sl (.st .layoutT)), .fn 51 [] []], rcut := c11z, rvars := [.tmp 4] }
noncomputable def n_66c51l2 (v : (List Layout) × Int × Int × Unit) : Option (((Int × Unit) ⊕ (Unit))) :=
 if decide (v.2.2.1 < v.2.1) = true then
  if (0 : Int) ≤ v.2.2.1 then
   v.1[v.2.2.1.toNat]? >>= fun x1 =>
   n_51 (x1, ()) >>= fun x2 =>
   if x2.1 = true then
    some (Sum.inl (v.2.2.1, ()))
   else n_66c51l2 (v.1, v.2.1, i64.wrap (v.2.2.1 + (1 : Int)), ())
  else none
 else some (Sum.inr ())
 partial_fixpoint
noncomputable def n_66c51 (v : (List Layout) × Unit) : Option (Int × Unit) :=
 n_66c51l2 (v.1, (↑v.1.length : Int), (0 : Int), ()) >>= fun x1 => match x1 with
  | .inl y1 => some y1
  | .inr y1 => some (((-1 : Int), ()))
noncomputable def call66c51 : Caller vw := fun A fid args S k => match fid with | 51 => callPure prog sig51 n_51 A args S k | _ => none
noncomputable def x66c51 : Xc vw := { P := prog, n := 19, call := call66c51, sh := sh66c51, loops := fun k => match k with | 2 => some { cut := c66c51l2, alts := [.ret, .exit 0], F := n_66c51l2 } | _ => none }
theorem call66c51_ok : CallerOk prog call66c51 := fun A fid args S dst k r h => by
 unfold call66c51 at h
 split at h
 ·exact callPure_ok (n_51_ok) rfl rfl h
 ·cases h
theorem n_66c51l2_ok (C : Ctx) (hP : C.P = prog) (hN : C.N = 19) : LoopOk C (loopNo (bodyOf Tryz.f66) 0) (sh := sh66c51) { cut := c66c51l2, alts := [.ret, .exit 0], F := n_66c51l2 } :=
 n_66c51l2.partial_correctness (motive := fun v out => AWpL C (loopNo (bodyOf Tryz.f66) 0) (encS vw (conc vw c66c51l2 v)) (OutQ sh66c51 [.ret, .exit 0] out)) fun F ih v out h =>
  loop_step (X := x66c51) (b := (loopNo (bodyOf Tryz.f66) 0)) hP hN Ty.mixed call66c51_ok (lok_all (X := x66c51) (c := (loopNo (bodyOf Tryz.f66) 0)) (kcast (by kernel_rfl : True = AllB (LoopsP C (x66c51)) (loopsIn (loopNo (bodyOf Tryz.f66) 0))) trivial)) ih (kcast (by kernel_rfl) h)
theorem n_66c51_ok : SigOk prog 66 sig66c51 n_66c51 := fun v r x h hx =>
 fn_ok (X := x66c51) (sig := sig66c51) rfl Tryz.func66 (c := bodyOf Tryz.f66) (by kernel_rfl) Tryz.ntmps66 (by kernel_rfl) (by kernel_rfl) rfl Ty.mixed call66c51_ok rfl (fun C hP hN => (lok_all (kcast (by kernel_rfl : AllB (LoopsP C (x66c51)) [(loopNo (bodyOf Tryz.f66) 0)] = AllB (LoopsP C (x66c51)) (loopsIn (bodyOf Tryz.f66))) ⟨loop_at (X := x66c51) (b := (loopNo (bodyOf Tryz.f66) 0)) (by kernel_rfl) (n_66c51l2_ok C hP hN), trivial⟩))) (kcast (by kernel_rfl) h) x hx
noncomputable def sh50c51 : Shape vw := { rcut := c10z }
noncomputable def sig50c51 : Sig vw := { params := [.dat (.sl (.st .layoutT)), .fn 51 [] []], rcut := c10z, rvars := [.tmp 4] }
noncomputable def n_50c51 (v : (List Layout) × Unit) : Option (Bool × Unit) :=
 n_66c51 (v.1, ()) >>= fun x1 =>
 some ((decide (x1.1 ≥ (0 : Int)), ()))
noncomputable def call50c51 : Caller vw := fun A fid args S k => match fid with | 66 => callPure prog sig66c51 n_66c51 A args S k | _ => none
noncomputable def x50c51 : Xc vw := { P := prog, n := 9, call := call50c51, sh := sh50c51 }
theorem call50c51_ok : CallerOk prog call50c51 := fun A fid args S dst k r h => by
 unfold call50c51 at h
 split at h
 ·exact callPure_ok (n_66c51_ok) rfl rfl h
 ·cases h
theorem n_50c51_ok : SigOk prog 50 sig50c51 n_50c51 := fun v r x h hx =>
 fn_ok (X := x50c51) (sig := sig50c51) rfl Tryz.func50 (c := bodyOf Tryz.f50) (by kernel_rfl) Tryz.ntmps50 (by kernel_rfl) (by kernel_rfl) rfl Ty.mixed call50c51_ok rfl (fun C hP hN => (lok_all (kcast (by kernel_rfl) trivial))) (kcast (by kernel_rfl) h) x hx
noncomputable def c27j6 : Cut SN := ⟨[(1, .bp 1 0), (3, .dat (.int .i64)), (4, .dat .bool), (9, .dat (.int .i64))], [(1, .st .layoutT)]⟩
noncomputable def c27j16 : Cut SN := ⟨[(1, .bp 1 0), (4, .dat .bool)], [(1, .st .layoutT)]⟩
noncomputable def c27j20 : Cut SN := ⟨[(1, .bp 1 0), (3, .dat (.int .i64)), (4, .dat .bool)], [(1, .st .layoutT)]⟩
noncomputable def c27r20 : Cut SN := ⟨[(1, .bp 1 0), (63, .dat .bool)], [(1, .st .layoutT)]⟩
noncomputable def c27r22 : Cut SN := ⟨[(1, .bp 1 0), (71, .dat .bool)], [(1, .st .layoutT)]⟩
noncomputable def sh27 : Shape vw := { exits := fun id => match id with | 0 => c27j20 | 1 => c27j20 | 6 => c27j16 | 7 => c27j16 | 8 => c10e0 | _ => ⟨[], []⟩, rcut := c51r1 }
noncomputable def sig27 : Sig vw := { params := [.dat (.st .layoutT)], rcut := c51r1, rvars := [.tmp 2] }
noncomputable def sh50c52 : Shape vw := { rcut := c10z }
noncomputable def sig50c52 : Sig vw := { params := [.dat (.sl (.st .layoutT)), .fn 52 [] []], rcut := c10z, rvars := [.tmp 4] }
noncomputable def sh52 : Shape vw := { rcut := c51r1 }
noncomputable def sig52 : Sig vw := { params := [.dat (.st .layoutT)], rcut := c51r1, rvars := [.tmp 2] }
noncomputable def c66c52l2 : Cut SN := ⟨[(0, .dat (.sl (.st .layoutT))), (1, .fn 52 [] []), (7, .dat (.int .i64)), (8, .dat (.int .i64))], []⟩
noncomputable def sh66c52 : Shape vw := { exits := fun id => match id with | 0 => c10e0 | _ => ⟨[], []⟩, rcut := c11z }
noncomputable def sig66c52 : Sig vw := { params := [.dat (.sl (.st .layoutT)), .fn 52 [] []], rcut := c11z, rvars := [.tmp 4] }
mutual
noncomputable def n_27 (v : Layout × Unit) : Option (Bool × Unit) :=
 ((((if (v.1.kind == (0 : Int)) = true then
       some (Sum.inr ((0 : Int), v.1.n == (0 : Int), v.1, ()))
      else if (v.1.kind == (1 : Int)) = true then
       some (Sum.inr ((0 : Int), v.1.n == (0 : Int), v.1, ()))
      else if (v.1.kind == (3 : Int)) = true then
       some (Sum.inr ((0 : Int), v.1.n == (0 : Int), v.1, ()))
      else some (Sum.inl ((0 : Int), v.1.n == (0 : Int), v.1.kind, v.1, ()))) >>= fun x1 => match x1 with
      | .inl y1 => if (y1.2.2.1 == (2 : Int)) = true then
        some (Sum.inr (Sum.inl (y1.1, decide (y1.2.2.2.1.n ≥ (1 : Int)), y1.2.2.2.1, ())))
       else if (y1.2.2.1 == (7 : Int)) = true then
        some (Sum.inr (Sum.inl (y1.1, decide (y1.2.2.2.1.n ≥ (1 : Int)), y1.2.2.2.1, ())))
       else if (y1.2.2.1 == (5 : Int)) = true then
        some (Sum.inl (decide (y1.2.2.2.1.n ≥ (0 : Int)), y1.2.2.2.1, ()))
       else if (y1.2.2.1 == (4 : Int)) = true then
        some (Sum.inl (y1.2.1, y1.2.2.2.1, ()))
       else if (y1.2.2.1 == (8 : Int)) = true then
        some (Sum.inr (Sum.inr (Sum.inl (y1.2.1, y1.2.2.2.1, ()))))
       else if (y1.2.2.1 == (6 : Int)) = true then
        some (Sum.inr (Sum.inr (Sum.inr (Sum.inl (y1.2.1, y1.2.2.2.1, ())))))
       else if (y1.2.2.1 == (9 : Int)) = true then
        some (Sum.inr (Sum.inr (Sum.inr (Sum.inl (y1.2.1, y1.2.2.2.1, ())))))
       else some (Sum.inr (Sum.inr (Sum.inr (Sum.inr ()))))
      | .inr y1 => some (Sum.inr (Sum.inl (y1.1, y1.2.1, y1.2.2.1, ())))) >>= fun x1 => match x1 with
     | .inl y1 => some (Sum.inr (Sum.inl ((1 : Int), y1.1, y1.2.1, ())))
     | .inr (.inl y1) => some (Sum.inr (Sum.inl (y1.1, y1.2.1, y1.2.2.1, ())))
     | .inr (.inr (.inl y1)) => (if y1.1 = true then
        some ((decide ((↑y1.2.1.parts.length : Int) ≥ (1 : Int)), y1.2.1, ()))
       else some ((false, y1.2.1, ()))) >>= fun x2 =>
      some (Sum.inl (x2.1, x2.2.1, ()))
     | .inr (.inr (.inr (.inl y1))) => some (Sum.inl (y1.1, y1.2.1, ()))
     | .inr (.inr (.inr (.inr y1))) => some (Sum.inr (Sum.inr ()))) >>= fun x1 => match x1 with
    | .inl y1 => some (Sum.inl ((↑y1.2.1.parts.length : Int), y1.1, y1.2.1, ()))
    | .inr (.inl y1) => some (Sum.inl (y1.1, y1.2.1, y1.2.2.1, ()))
    | .inr (.inr y1) => some (Sum.inr (false, ()))) >>= fun x1 => match x1 with
   | .inl y1 => (if (!y1.2.1) = true then
      some ((true, y1.2.2.1, ()))
     else if ((↑y1.2.2.1.parts.length : Int) != y1.1) = true then
      some ((true, y1.2.2.1, ()))
     else if y1.2.2.1.flag = true then
      some ((y1.2.2.1.kind != (2 : Int), y1.2.2.1, ()))
     else some ((false, y1.2.2.1, ()))) >>= fun x2 =>
    if x2.1 = true then
     some ((false, ()))
    else (if (x2.2.1.kind == (9 : Int)) = true then
      n_50c51 (x2.2.1.parts, ()) >>= fun x3 =>
      some ((x3.1, x2.2.1, ()))
     else some ((false, x2.2.1, ()))) >>= fun x3 =>
    if x3.1 = true then
     some ((false, ()))
    else n_50c52 (x3.2.1.parts, ()) >>= fun x4 =>
    some ((!x4.1, ()))
   | .inr y1 => some y1
 partial_fixpoint
noncomputable def n_50c52 (v : (List Layout) × Unit) : Option (Bool × Unit) :=
 n_66c52 (v.1, ()) >>= fun x1 =>
 some ((decide (x1.1 ≥ (0 : Int)), ()))
 partial_fixpoint
noncomputable def n_66c52 (v : (List Layout) × Unit) : Option (Int × Unit) :=
 n_66c52l2 (v.1, (↑v.1.length : Int), (0 : Int), ()) >>= fun x1 => match x1 with
  | .inl y1 => some y1
  | .inr y1 => some (((-1 : Int), ()))
 partial_fixpoint
noncomputable def n_66c52l2 (v : (List Layout) × Int × Int × Unit) : Option (((Int × Unit) ⊕ (Unit))) :=
 if decide (v.2.2.1 < v.2.1) = true then
  if (0 : Int) ≤ v.2.2.1 then
   v.1[v.2.2.1.toNat]? >>= fun x1 =>
   n_52 (x1, ()) >>= fun x2 =>
   if x2.1 = true then
    some (Sum.inl (v.2.2.1, ()))
   else n_66c52l2 (v.1, v.2.1, i64.wrap (v.2.2.1 + (1 : Int)), ())
  else none
 else some (Sum.inr ())
 partial_fixpoint
noncomputable def n_52 (v : Layout × Unit) : Option (Bool × Unit) :=
 n_27 (v.1, ()) >>= fun x1 =>
 some ((!x1.1, ()))
 partial_fixpoint
end
noncomputable def call27 (n_27 : Layout × Unit → Option (Bool × Unit)) (n_50c52 : (List Layout) × Unit → Option (Bool × Unit)) (n_66c52 : (List Layout) × Unit → Option (Int × Unit)) (n_66c52l2 : (List Layout) × Int × Int × Unit → Option (((Int × Unit) ⊕ (Unit)))) (n_52 : Layout × Unit → Option (Bool × Unit)) : Caller vw := fun A fid args S k => match fid with | 50 => (match args with | [_, .fn 51 _ _] => callPure prog sig50c51 n_50c51 A args S k | [_, .fn 52 _ _] => callPure prog sig50c52 n_50c52 A args S k | _ => none) | _ => none
noncomputable def x27 (n_27 : Layout × Unit → Option (Bool × Unit)) (n_50c52 : (List Layout) × Unit → Option (Bool × Unit)) (n_66c52 : (List Layout) × Unit → Option (Int × Unit)) (n_66c52l2 : (List Layout) × Int × Int × Unit → Option (((Int × Unit) ⊕ (Unit)))) (n_52 : Layout × Unit → Option (Bool × Unit)) : Xc vw := { P := prog, n := 76, call := call27 n_27 n_50c52 n_66c52 n_66c52l2 n_52, sh := sh27, joins := fun k => match k with | 6 => some (c27j6, [.norm, .exit 1]) | 16 => some (c27j16, [.norm, .exit 0, .exit 6, .exit 7, .exit 8]) | 18 => some (c27j16, [.norm, .exit 0, .exit 8]) | 20 => some (c27j20, [.norm, .ret]) | _ => none, regs := fun k => match k with | 17 => some c27j16 | 20 => some c27r20 | 22 => some c27r22 | _ => none }
noncomputable def call50c52 (n_27 : Layout × Unit → Option (Bool × Unit)) (n_50c52 : (List Layout) × Unit → Option (Bool × Unit)) (n_66c52 : (List Layout) × Unit → Option (Int × Unit)) (n_66c52l2 : (List Layout) × Int × Int × Unit → Option (((Int × Unit) ⊕ (Unit)))) (n_52 : Layout × Unit → Option (Bool × Unit)) : Caller vw := fun A fid args S k => match fid with | 66 => callPure prog sig66c52 n_66c52 A args S k | _ => none
noncomputable def x50c52 (n_27 : Layout × Unit → Option (Bool × Unit)) (n_50c52 : (List Layout) × Unit → Option (Bool × Unit)) (n_66c52 : (List Layout) × Unit → Option (Int × Unit)) (n_66c52l2 : (List Layout) × Int × Int × Unit → Option (((Int × Unit) ⊕ (Unit)))) (n_52 : Layout × Unit → Option (Bool × Unit)) : Xc vw := { P := prog, n := 9, call := call50c52 n_27 n_50c52 n_66c52 n_66c52l2 n_52, sh := sh50c52 }
noncomputable def call52 (n_27 : Layout × Unit → Option (Bool × Unit)) (n_50c52 : (List Layout) × Unit → Option (Bool × Unit)) (n_66c52 : (List Layout) × Unit → Option (Int × Unit)) (n_66c52l2 : (List Layout) × Int × Int × Unit → Option (((Int × Unit) ⊕ (Unit)))) (n_52 : Layout × Unit → Option (Bool × Unit)) : Caller vw := fun A fid args S k => match fid with | 27 => callPure prog sig27 n_27 A args S k | _ => none
noncomputable def x52 (n_27 : Layout × Unit → Option (Bool × Unit)) (n_50c52 : (List Layout) × Unit → Option (Bool × Unit)) (n_66c52 : (List Layout) × Unit → Option (Int × Unit)) (n_66c52l2 : (List Layout) × Int × Int × Unit → Option (((Int × Unit) ⊕ (Unit)))) (n_52 : Layout × Unit → Option (Bool × Unit)) : Xc vw := { P := prog, n := 6, call := call52 n_27 n_50c52 n_66c52 n_66c52l2 n_52, sh := sh52 }
noncomputable def call66c52 (n_27 : Layout × Unit → Option (Bool × Unit)) (n_50c52 : (List Layout) × Unit → Option (Bool × Unit)) (n_66c52 : (List Layout) × Unit → Option (Int × Unit)) (n_66c52l2 : (List Layout) × Int × Int × Unit → Option (((Int × Unit) ⊕ (Unit)))) (n_52 : Layout × Unit → Option (Bool × Unit)) : Caller vw := fun A fid args S k => match fid with | 52 => callPure prog sig52 n_52 A args S k | _ => none
noncomputable def x66c52 (n_27 : Layout × Unit → Option (Bool × Unit)) (n_50c52 : (List Layout) × Unit → Option (Bool × Unit)) (n_66c52 : (List Layout) × Unit → Option (Int × Unit)) (n_66c52l2 : (List Layout) × Int × Int × Unit → Option (((Int × Unit) ⊕ (Unit)))) (n_52 : Layout × Unit → Option (Bool × Unit)) : Xc vw := { P := prog, n := 19, call := call66c52 n_27 n_50c52 n_66c52 n_66c52l2 n_52, sh := sh66c52, loops := fun k => match k with | 2 => some { cut := c66c52l2, alts := [.ret, .exit 0], F := n_66c52l2 } | _ => none }
abbrev mn_27 (v : Layout × Unit) (r : Bool × Unit) : Prop := (fun v r => ∀ x, resV prog sig27 r = some x → FnOk prog 27 (encL vw (startS sig27 v).len (startOs sig27 v).1) (encOs (startS sig27 v).len (startS sig27 v).own) (encV vw (conc vw sig27.rcut r).len x) (encOs (conc vw sig27.rcut r).len (kept sig27 r))) v r
abbrev mn_50c52 (v : (List Layout) × Unit) (r : Bool × Unit) : Prop := (fun v r => ∀ x, resV prog sig50c52 r = some x → FnOk prog 50 (encL vw (startS sig50c52 v).len (startOs sig50c52 v).1) (encOs (startS sig50c52 v).len (startS sig50c52 v).own) (encV vw (conc vw sig50c52.rcut r).len x) (encOs (conc vw sig50c52.rcut r).len (kept sig50c52 r))) v r
abbrev mn_66c52 (v : (List Layout) × Unit) (r : Int × Unit) : Prop := (fun v r => ∀ x, resV prog sig66c52 r = some x → FnOk prog 66 (encL vw (startS sig66c52 v).len (startOs sig66c52 v).1) (encOs (startS sig66c52 v).len (startS sig66c52 v).own) (encV vw (conc vw sig66c52.rcut r).len x) (encOs (conc vw sig66c52.rcut r).len (kept sig66c52 r))) v r
abbrev mn_66c52l2 (v : (List Layout) × Int × Int × Unit) (r : ((Int × Unit) ⊕ (Unit))) : Prop := (fun v out => ∀ C : Ctx, C.P = prog → C.N = 19 → AWpL C (loopNo (bodyOf Tryz.f66) 0) (encS vw (conc vw c66c52l2 v)) (OutQ sh66c52 [.ret, .exit 0] out)) v r
abbrev mn_52 (v : Layout × Unit) (r : Bool × Unit) : Prop := (fun v r => ∀ x, resV prog sig52 r = some x → FnOk prog 52 (encL vw (startS sig52 v).len (startOs sig52 v).1) (encOs (startS sig52 v).len (startS sig52 v).own) (encV vw (conc vw sig52.rcut r).len x) (encOs (conc vw sig52.rcut r).len (kept sig52 r))) v r
theorem cn_27 (f0 : (List Layout) × Unit → Option (Bool × Unit)) (h0 : ∀ v r, f0 v = some r → mn_50c52 v r) : CallerOk prog (x27 (fun _ => none) f0 (fun _ => none) (fun _ => none) (fun _ => none)).call := (by
    intro A fid args S dst k r h
    unfold x27 call27 at h
    simp only at h
    split at h
    ·split at h
     ·exact callPure_ok (n_50c51_ok) rfl rfl h
     ·exact callPure_ok ((fun v r x h hx => h0 v r h x hx)) rfl rfl h
     ·cases h
    ·cases h)
theorem sn_27 (f0 : (List Layout) × Unit → Option (Bool × Unit)) (h0 : ∀ v r, f0 v = some r → mn_50c52 v r) (v : Layout × Unit) (r : Bool × Unit) (h : exF (x27 (fun _ => none) f0 (fun _ => none) (fun _ => none) (fun _ => none)) sig27 rfl (bodyOf Tryz.f27) v = some r) : mn_27 v r := fun x hx => fn_ok (X := x27 (fun _ => none) f0 (fun _ => none) (fun _ => none) (fun _ => none)) (sig := sig27) rfl Tryz.func27 (c := bodyOf Tryz.f27) (by kernel_rfl) Tryz.ntmps27 (by kernel_rfl) (by kernel_rfl) rfl Ty.mixed (cn_27 f0 h0) rfl (fun C hP hN => (lok_all (X := x27 (fun _ => none) f0 (fun _ => none) (fun _ => none) (fun _ => none)) (c := (bodyOf Tryz.f27)) (kcast (by kernel_rfl : True = AllB (LoopsP C (x27 (fun _ => none) f0 (fun _ => none) (fun _ => none) (fun _ => none))) (loopsIn (bodyOf Tryz.f27))) trivial))) h x hx
theorem cn_50c52 (f0 : (List Layout) × Unit → Option (Int × Unit)) (h0 : ∀ v r, f0 v = some r → mn_66c52 v r) : CallerOk prog (x50c52 (fun _ => none) (fun _ => none) f0 (fun _ => none) (fun _ => none)).call := (by
    intro A fid args S dst k r h
    unfold x50c52 call50c52 at h
    simp only at h
    split at h
    ·exact callPure_ok ((fun v r x h hx => h0 v r h x hx)) rfl rfl h
    ·cases h)
theorem sn_50c52 (f0 : (List Layout) × Unit → Option (Int × Unit)) (h0 : ∀ v r, f0 v = some r → mn_66c52 v r) (v : (List Layout) × Unit) (r : Bool × Unit) (h : exF (x50c52 (fun _ => none) (fun _ => none) f0 (fun _ => none) (fun _ => none)) sig50c52 rfl (bodyOf Tryz.f50) v = some r) : mn_50c52 v r := fun x hx => fn_ok (X := x50c52 (fun _ => none) (fun _ => none) f0 (fun _ => none) (fun _ => none)) (sig := sig50c52) rfl Tryz.func50 (c := bodyOf Tryz.f50) (by kernel_rfl) Tryz.ntmps50 (by kernel_rfl) (by kernel_rfl) rfl Ty.mixed (cn_50c52 f0 h0) rfl (fun C hP hN => (lok_all (X := x50c52 (fun _ => none) (fun _ => none) f0 (fun _ => none) (fun _ => none)) (c := (bodyOf Tryz.f50)) (kcast (by kernel_rfl : True = AllB (LoopsP C (x50c52 (fun _ => none) (fun _ => none) f0 (fun _ => none) (fun _ => none))) (loopsIn (bodyOf Tryz.f50))) trivial))) h x hx
theorem cn_66c52 (f0 : (List Layout) × Int × Int × Unit → Option (((Int × Unit) ⊕ (Unit)))) (h0 : ∀ v r, f0 v = some r → mn_66c52l2 v r) : CallerOk prog (x66c52 (fun _ => none) (fun _ => none) (fun _ => none) f0 (fun _ => none)).call := (by
    intro A fid args S dst k r h
    unfold x66c52 call66c52 at h
    simp only at h
    split at h
    ·exact callPure_ok ((fun v r x h hx => by cases h)) rfl rfl h
    ·cases h)
theorem sn_66c52 (f0 : (List Layout) × Int × Int × Unit → Option (((Int × Unit) ⊕ (Unit)))) (h0 : ∀ v r, f0 v = some r → mn_66c52l2 v r) (v : (List Layout) × Unit) (r : Int × Unit) (h : exF (x66c52 (fun _ => none) (fun _ => none) (fun _ => none) f0 (fun _ => none)) sig66c52 rfl (bodyOf Tryz.f66) v = some r) : mn_66c52 v r := fun x hx => fn_ok (X := x66c52 (fun _ => none) (fun _ => none) (fun _ => none) f0 (fun _ => none)) (sig := sig66c52) rfl Tryz.func66 (c := bodyOf Tryz.f66) (by kernel_rfl) Tryz.ntmps66 (by kernel_rfl) (by kernel_rfl) rfl Ty.mixed (cn_66c52 f0 h0) rfl (fun C hP hN => (lok_all (X := x66c52 (fun _ => none) (fun _ => none) (fun _ => none) f0 (fun _ => none)) (c := (bodyOf Tryz.f66)) (kcast (by kernel_rfl : AllB (LoopsP C (x66c52 (fun _ => none) (fun _ => none) (fun _ => none) f0 (fun _ => none))) [(loopNo (bodyOf Tryz.f66) 0)] = AllB (LoopsP C (x66c52 (fun _ => none) (fun _ => none) (fun _ => none) f0 (fun _ => none))) (loopsIn (bodyOf Tryz.f66))) ⟨loop_at (X := x66c52 (fun _ => none) (fun _ => none) (fun _ => none) f0 (fun _ => none)) (b := (loopNo (bodyOf Tryz.f66) 0)) (by kernel_rfl) (show LoopOk C (loopNo (bodyOf Tryz.f66) 0) (sh := sh66c52) { cut := c66c52l2, alts := [.ret, .exit 0], F := f0 } from fun v out h => h0 v out h C hP hN), trivial⟩))) h x hx
theorem cn_66c52l2 (f0 : (List Layout) × Int × Int × Unit → Option (((Int × Unit) ⊕ (Unit)))) (f1 : Layout × Unit → Option (Bool × Unit)) (h0 : ∀ v r, f0 v = some r → mn_66c52l2 v r) (h1 : ∀ v r, f1 v = some r → mn_52 v r) : CallerOk prog (x66c52 (fun _ => none) (fun _ => none) (fun _ => none) f0 f1).call := (by
    intro A fid args S dst k r h
    unfold x66c52 call66c52 at h
    simp only at h
    split at h
    ·exact callPure_ok ((fun v r x h hx => h1 v r h x hx)) rfl rfl h
    ·cases h)
theorem sn_66c52l2 (f0 : (List Layout) × Int × Int × Unit → Option (((Int × Unit) ⊕ (Unit)))) (f1 : Layout × Unit → Option (Bool × Unit)) (h0 : ∀ v r, f0 v = some r → mn_66c52l2 v r) (h1 : ∀ v r, f1 v = some r → mn_52 v r) (v : (List Layout) × Int × Int × Unit) (r : ((Int × Unit) ⊕ (Unit))) (h : exL (x66c52 (fun _ => none) (fun _ => none) (fun _ => none) f0 f1) (loopNo (bodyOf Tryz.f66) 0) c66c52l2 [.ret, .exit 0] f0 v = some r) : mn_66c52l2 v r := fun C hP hN => loop_step (X := x66c52 (fun _ => none) (fun _ => none) (fun _ => none) f0 f1) (b := (loopNo (bodyOf Tryz.f66) 0)) hP hN Ty.mixed (cn_66c52l2 f0 f1 h0 h1) (lok_all (X := x66c52 (fun _ => none) (fun _ => none) (fun _ => none) f0 f1) (c := (loopNo (bodyOf Tryz.f66) 0)) (kcast (by kernel_rfl : True = AllB (LoopsP C (x66c52 (fun _ => none) (fun _ => none) (fun _ => none) f0 f1)) (loopsIn (loopNo (bodyOf Tryz.f66) 0))) trivial)) (cut := c66c52l2) (alts := [.ret, .exit 0]) (F := f0) (fun v out h => h0 v out h C hP hN) h
theorem cn_52 (f0 : Layout × Unit → Option (Bool × Unit)) (h0 : ∀ v r, f0 v = some r → mn_27 v r) : CallerOk prog (x52 f0 (fun _ => none) (fun _ => none) (fun _ => none) (fun _ => none)).call := (by
    intro A fid args S dst k r h
    unfold x52 call52 at h
    simp only at h
    split at h
    ·exact callPure_ok ((fun v r x h hx => h0 v r h x hx)) rfl rfl h
    ·cases h)
theorem sn_52 (f0 : Layout × Unit → Option (Bool × Unit)) (h0 : ∀ v r, f0 v = some r → mn_27 v r) (v : Layout × Unit) (r : Bool × Unit) (h : exF (x52 f0 (fun _ => none) (fun _ => none) (fun _ => none) (fun _ => none)) sig52 rfl (bodyOf Tryz.f52) v = some r) : mn_52 v r := fun x hx => fn_ok (X := x52 f0 (fun _ => none) (fun _ => none) (fun _ => none) (fun _ => none)) (sig := sig52) rfl Tryz.func52 (c := bodyOf Tryz.f52) (by kernel_rfl) Tryz.ntmps52 (by kernel_rfl) (by kernel_rfl) rfl Ty.mixed (cn_52 f0 h0) rfl (fun C hP hN => (lok_all (X := x52 f0 (fun _ => none) (fun _ => none) (fun _ => none) (fun _ => none)) (c := (bodyOf Tryz.f52)) (kcast (by kernel_rfl : True = AllB (LoopsP C (x52 f0 (fun _ => none) (fun _ => none) (fun _ => none) (fun _ => none))) (loopsIn (bodyOf Tryz.f52))) trivial))) h x hx
theorem n_27_all : (∀ v r, n_27 v = some r → mn_27 v r) ∧ (∀ v r, n_50c52 v = some r → mn_50c52 v r) ∧ (∀ v r, n_66c52 v = some r → mn_66c52 v r) ∧ (∀ v r, n_66c52l2 v = some r → mn_66c52l2 v r) ∧ (∀ v r, n_52 v = some r → mn_52 v r) := by
 refine n_27.mutual_partial_correctness
  (motive_1 := mn_27)
  (motive_2 := mn_50c52)
  (motive_3 := mn_66c52)
  (motive_4 := mn_66c52l2)
  (motive_5 := mn_52)
  ?_ ?_ ?_ ?_ ?_
 ·exact (fun f0 h0 v r h => sn_27 f0 h0 v r (kcast (by kernel_rfl) h))
 ·exact (fun f0 h0 v r h => sn_50c52 f0 h0 v r (kcast (by kernel_rfl) h))
 ·exact (fun f0 h0 v r h => sn_66c52 f0 h0 v r (kcast (by kernel_rfl) h))
 ·exact (fun f0 f1 h0 h1 v r h => sn_66c52l2 f0 f1 h0 h1 v r (kcast (by kernel_rfl) h))
 ·exact (fun f0 h0 v r h => sn_52 f0 h0 v r (kcast (by kernel_rfl) h))
theorem n_27_ok : SigOk prog 27 sig27 n_27 := fun v r x h hx => n_27_all.1 v r h x hx
noncomputable def c16r3 : Cut SN := ⟨[(1, .bp 1 0), (12, .dat .bool)], [(1, .st .layoutT)]⟩
noncomputable def sh16 : Shape vw := { rcut := c48z }
noncomputable def sig16 : Sig vw := { params := [.dat (.st .layoutT)], rcut := c48z, rvars := [.tmp 2] }
noncomputable def n_16 (v : Layout × Unit) : Option (Int × Unit) :=
 n_25sf4a5 (v.1, (1 : Int), Counted.mk (0 : Int) (0 : Int) false, ()) >>= fun x1 =>
 (if x1.1.large = true then
    some ((true, v.1, ()))
   else n_26 (v.1, ()) >>= fun x2 =>
   some ((decide (x2.1 > (4096 : Int)), v.1, ()))) >>= fun x2 =>
 if x2.1 = true then
  some (((3 : Int), ()))
 else n_27 (x2.2.1, ()) >>= fun x3 =>
 if (!x3.1) = true then
  some (((1 : Int), ()))
 else some (((0 : Int), ()))
noncomputable def call16 : Caller vw := fun A fid args S k => match fid with | 25 => callObj prog sig25sf4a5 n_25sf4a5 A args S k | 26 => callPure prog sig26 n_26 A args S k | 27 => callPure prog sig27 n_27 A args S k | _ => none
noncomputable def x16 : Xc vw := { P := prog, n := 16, call := call16, sh := sh16, regs := fun k => match k with | 3 => some c16r3 | _ => none }
theorem call16_ok : CallerOk prog call16 := fun A fid args S dst k r h => by
 unfold call16 at h
 split at h
 ·exact callObj_ok (n_25sf4a5_ok) h
 ·exact callPure_ok (n_26_ok) rfl rfl h
 ·exact callPure_ok (n_27_ok) rfl rfl h
 ·cases h
theorem n_16_ok : SigOk prog 16 sig16 n_16 := fun v r x h hx =>
 fn_ok (X := x16) (sig := sig16) rfl Tryz.func16 (c := bodyOf Tryz.f16) (by kernel_rfl) Tryz.ntmps16 (by kernel_rfl) (by kernel_rfl) rfl Ty.mixed call16_ok rfl (fun C hP hN => (lok_all (kcast (by kernel_rfl) trivial))) (kcast (by kernel_rfl) h) x hx
noncomputable def c45r1 : Cut SN := ⟨[(15, .dat .bool)], []⟩
noncomputable def sh45 : Shape vw := { rcut := c48z }
noncomputable def sig45 : Sig vw := { params := [.dat (.st .targetT)], rcut := c48z, rvars := [.tmp 2] }
noncomputable def n_45 (v : Target × Unit) : Option (Int × Unit) :=
 (if (v.1.word != (2 : Int)) = true then
    if (v.1.word != (4 : Int)) = true then
     some ((v.1.word != (8 : Int), ()))
    else some ((false, ()))
   else some ((false, ()))) >>= fun x1 =>
 if x1.1 = true then
  some (((1 : Int), ()))
 else some (((0 : Int), ()))
noncomputable def call45 : Caller vw := fun _ _ _ _ _ => none
noncomputable def x45 : Xc vw := { P := prog, n := 16, call := call45, sh := sh45, regs := fun k => match k with | 1 => some c45r1 | _ => none }
theorem call45_ok : CallerOk prog call45 := call_none
theorem n_45_ok : SigOk prog 45 sig45 n_45 := fun v r x h hx =>
 fn_ok (X := x45) (sig := sig45) rfl Tryz.func45 (c := bodyOf Tryz.f45) (by kernel_rfl) Tryz.ntmps45 (by kernel_rfl) (by kernel_rfl) rfl Ty.mixed call45_ok rfl (fun C hP hN => (lok_all (kcast (by kernel_rfl) trivial))) (kcast (by kernel_rfl) h) x hx
noncomputable def sh22 : Shape vw := { rcut := c11z }
noncomputable def sig22 : Sig vw := { params := [.dat (.st .layoutT), .dat (.st .targetT)], rcut := c11z, rvars := [.tmp 4] }
noncomputable def n_22 (v : Layout × Target × Unit) : Option (Int × Unit) :=
 n_16 (v.1, ()) >>= fun x1 =>
 if (x1.1 != (0 : Int)) = true then
  some ((x1.1, ()))
 else n_45 (v.2.1, ()) >>= fun x2 =>
 some ((x2.1, ()))
noncomputable def call22 : Caller vw := fun A fid args S k => match fid with | 16 => callPure prog sig16 n_16 A args S k | 45 => callPure prog sig45 n_45 A args S k | _ => none
noncomputable def x22 : Xc vw := { P := prog, n := 13, call := call22, sh := sh22 }
theorem call22_ok : CallerOk prog call22 := fun A fid args S dst k r h => by
 unfold call22 at h
 split at h
 ·exact callPure_ok (n_16_ok) rfl rfl h
 ·exact callPure_ok (n_45_ok) rfl rfl h
 ·cases h
theorem n_22_ok : SigOk prog 22 sig22 n_22 := fun v r x h hx =>
 fn_ok (X := x22) (sig := sig22) rfl Tryz.func22 (c := bodyOf Tryz.f22) (by kernel_rfl) Tryz.ntmps22 (by kernel_rfl) (by kernel_rfl) rfl Ty.mixed call22_ok rfl (fun C hP hN => (lok_all (kcast (by kernel_rfl) trivial))) (kcast (by kernel_rfl) h) x hx
noncomputable def sh47 : Shape vw := { rcut := c11z }
noncomputable def sig47 : Sig vw := { params := [.dat (.int .i64), .dat (.int .i64)], rcut := c11z, rvars := [.tmp 4] }
noncomputable def n_47 (v : Int × Int × Unit) : Option (Int × Unit) :=
 if v.2.1 = (0 : Int) then
  none
 else some ((i64.wrap (i64.wrap ((i64.wrap (i64.wrap (v.1 + v.2.1) - (1 : Int))).tdiv v.2.1) * v.2.1), ()))
noncomputable def call47 : Caller vw := fun _ _ _ _ _ => none
noncomputable def x47 : Xc vw := { P := prog, n := 13, call := call47, sh := sh47 }
theorem call47_ok : CallerOk prog call47 := call_none
theorem n_47_ok : SigOk prog 47 sig47 n_47 := fun v r x h hx =>
 fn_ok (X := x47) (sig := sig47) rfl Tryz.func47 (c := bodyOf Tryz.f47) (by kernel_rfl) Tryz.ntmps47 (by kernel_rfl) (by kernel_rfl) rfl Ty.mixed call47_ok rfl (fun C hP hN => (lok_all (kcast (by kernel_rfl) trivial))) (kcast (by kernel_rfl) h) x hx
noncomputable def c64l4 : Cut SN := ⟨[(0, .dat (.int .i64)), (3, .dat (.int .i64))], []⟩
noncomputable def sh64 : Shape vw := { exits := fun id => match id with | 0 => c48e0 | _ => ⟨[], []⟩, rcut := c48z }
noncomputable def sig64 : Sig vw := { params := [.dat (.int .i64)], rcut := c48z, rvars := [.tmp 2] }
noncomputable def n_64l4 (v : Int × Int × Unit) : Option ((Int × Unit)) :=
 if decide (i64.wrap ((8 : Int) * v.2.1) < v.1) = true then
  n_64l4 (v.1, i64.wrap (v.2.1 * (2 : Int)), ())
 else some ((v.2.1, ()))
 partial_fixpoint
noncomputable def n_64 (v : Int × Unit) : Option (Int × Unit) :=
 if (v.1 == (0 : Int)) = true then
  some (((0 : Int), ()))
 else n_64l4 (v.1, (1 : Int), ()) >>= fun x1 =>
 some ((x1.1, ()))
noncomputable def call64 : Caller vw := fun _ _ _ _ _ => none
noncomputable def x64 : Xc vw := { P := prog, n := 13, call := call64, sh := sh64, loops := fun k => match k with | 4 => some { cut := c64l4, alts := [.exit 0], F := n_64l4 } | _ => none }
theorem call64_ok : CallerOk prog call64 := call_none
theorem n_64l4_ok (C : Ctx) (hP : C.P = prog) (hN : C.N = 13) : LoopOk C (loopNo (bodyOf Tryz.f64) 0) (sh := sh64) { cut := c64l4, alts := [.exit 0], F := n_64l4 } :=
 n_64l4.partial_correctness (motive := fun v out => AWpL C (loopNo (bodyOf Tryz.f64) 0) (encS vw (conc vw c64l4 v)) (OutQ sh64 [.exit 0] out)) fun F ih v out h =>
  loop_step (X := x64) (b := (loopNo (bodyOf Tryz.f64) 0)) hP hN Ty.mixed call64_ok (lok_all (X := x64) (c := (loopNo (bodyOf Tryz.f64) 0)) (kcast (by kernel_rfl : True = AllB (LoopsP C (x64)) (loopsIn (loopNo (bodyOf Tryz.f64) 0))) trivial)) ih (kcast (by kernel_rfl) h)
theorem n_64_ok : SigOk prog 64 sig64 n_64 := fun v r x h hx =>
 fn_ok (X := x64) (sig := sig64) rfl Tryz.func64 (c := bodyOf Tryz.f64) (by kernel_rfl) Tryz.ntmps64 (by kernel_rfl) (by kernel_rfl) rfl Ty.mixed call64_ok rfl (fun C hP hN => (lok_all (kcast (by kernel_rfl : AllB (LoopsP C (x64)) [(loopNo (bodyOf Tryz.f64) 0)] = AllB (LoopsP C (x64)) (loopsIn (bodyOf Tryz.f64))) ⟨loop_at (X := x64) (b := (loopNo (bodyOf Tryz.f64) 0)) (by kernel_rfl) (n_64l4_ok C hP hN), trivial⟩))) (kcast (by kernel_rfl) h) x hx
noncomputable def c65l3 : Cut SN := ⟨[(3, .dat (.int .i64)), (7, .dat (.sl (.st .layoutT))), (8, .dat (.int .i64)), (9, .dat (.int .i64))], []⟩
noncomputable def sh65 : Shape vw := { exits := fun id => match id with | 0 => c48e0 | _ => ⟨[], []⟩, rcut := c48z }
noncomputable def sig65 : Sig vw := { params := [.dat (.st .layoutT)], rcut := c48z, rvars := [.tmp 2] }
noncomputable def n_65l3 (v : Int × (List Layout) × Int × Int × Unit) : Option ((Int × Unit)) :=
 if decide (v.2.2.2.1 < v.2.2.1) = true then
  if (0 : Int) ≤ v.2.2.2.1 then
   v.2.1[v.2.2.2.1.toNat]? >>= fun x1 =>
   n_49 (x1, ()) >>= fun x2 =>
   n_65l3 (i64.wrap (v.1 + x2.1), v.2.1, v.2.2.1, i64.wrap (v.2.2.2.1 + (1 : Int)), ())
  else none
 else some ((v.1, ()))
 partial_fixpoint
noncomputable def n_65 (v : Layout × Unit) : Option (Int × Unit) :=
 n_65l3 ((0 : Int), v.1.parts, (↑v.1.parts.length : Int), (0 : Int), ()) >>= fun x1 =>
 some ((x1.1, ()))
noncomputable def call65 : Caller vw := fun A fid args S k => match fid with | 49 => callPure prog sig49 n_49 A args S k | _ => none
noncomputable def x65 : Xc vw := { P := prog, n := 19, call := call65, sh := sh65, loops := fun k => match k with | 3 => some { cut := c65l3, alts := [.exit 0], F := n_65l3 } | _ => none }
theorem call65_ok : CallerOk prog call65 := fun A fid args S dst k r h => by
 unfold call65 at h
 split at h
 ·exact callPure_ok (n_49_ok) rfl rfl h
 ·cases h
theorem n_65l3_ok (C : Ctx) (hP : C.P = prog) (hN : C.N = 19) : LoopOk C (loopNo (bodyOf Tryz.f65) 0) (sh := sh65) { cut := c65l3, alts := [.exit 0], F := n_65l3 } :=
 n_65l3.partial_correctness (motive := fun v out => AWpL C (loopNo (bodyOf Tryz.f65) 0) (encS vw (conc vw c65l3 v)) (OutQ sh65 [.exit 0] out)) fun F ih v out h =>
  loop_step (X := x65) (b := (loopNo (bodyOf Tryz.f65) 0)) hP hN Ty.mixed call65_ok (lok_all (X := x65) (c := (loopNo (bodyOf Tryz.f65) 0)) (kcast (by kernel_rfl : True = AllB (LoopsP C (x65)) (loopsIn (loopNo (bodyOf Tryz.f65) 0))) trivial)) ih (kcast (by kernel_rfl) h)
theorem n_65_ok : SigOk prog 65 sig65 n_65 := fun v r x h hx =>
 fn_ok (X := x65) (sig := sig65) rfl Tryz.func65 (c := bodyOf Tryz.f65) (by kernel_rfl) Tryz.ntmps65 (by kernel_rfl) (by kernel_rfl) rfl Ty.mixed call65_ok rfl (fun C hP hN => (lok_all (kcast (by kernel_rfl : AllB (LoopsP C (x65)) [(loopNo (bodyOf Tryz.f65) 0)] = AllB (LoopsP C (x65)) (loopsIn (bodyOf Tryz.f65))) ⟨loop_at (X := x65) (b := (loopNo (bodyOf Tryz.f65) 0)) (by kernel_rfl) (n_65l3_ok C hP hN), trivial⟩))) (kcast (by kernel_rfl) h) x hx
noncomputable def c24l4 : Cut SN := ⟨[(3, .bp 3 0), (5, .bp 5 0), (6, .vh 1006), (7, .dat (.int .i64)), (8, .dat (.int .i64)), (14, .dat (.sl (.st .layoutT))), (15, .dat (.int .i64)), (16, .dat (.int .i64))], [(3, .st .targetT), (5, .st .roomT), (1006, .vec 3 (.int .i64))]⟩
noncomputable def c24e0 : Cut SN := ⟨[(5, .bp 5 0), (6, .vh 1006), (7, .dat (.int .i64)), (8, .dat (.int .i64))], [(5, .st .roomT), (1006, .vec 3 (.int .i64))]⟩
noncomputable def c24z : Cut SN := ⟨[(4, .dat (.sl (.int .i64))), (5, .bp 5 0)], [(5, .st .roomT)]⟩
noncomputable def sh24 : Shape vw := { exits := fun id => match id with | 0 => c24e0 | _ => ⟨[], []⟩, rcut := c24z }
noncomputable def sig24 : Sig vw := { params := [.dat (.st .layoutT), .dat (.st .targetT)], rcut := c24z, rvars := [.tmp 4, .cell 5 53] }
noncomputable def c46l25 : Cut SN := ⟨[(3, .bp 3 0), (4, .bp 4 0), (10, .bp 10 0), (98, .dat (.sl (.st .layoutT))), (99, .dat (.int .i64)), (100, .dat (.int .i64))], [(3, .st .targetT), (4, .st .roomT), (10, .st .roomT)]⟩
noncomputable def c46j21 : Cut SN := ⟨[(3, .bp 3 0), (4, .bp 4 0), (9, .dat (.int .i64))], [(3, .st .targetT), (4, .st .roomT)]⟩
noncomputable def c46e1 : Cut SN := ⟨[(4, .bp 4 0), (10, .bp 10 0)], [(4, .st .roomT), (10, .st .roomT)]⟩
noncomputable def c46z : Cut SN := ⟨[(4, .bp 4 0)], [(4, .st .roomT)]⟩
noncomputable def sh46 : Shape vw := { exits := fun id => match id with | 1 => c46e1 | _ => ⟨[], []⟩, rcut := c46z }
noncomputable def sig46 : Sig vw := { params := [.dat (.st .layoutT), .dat (.st .targetT)], rcut := c46z, rvars := [.cell 4 53] }
mutual
noncomputable def n_24l4 (v : Int × Int × (List Layout) × Int × Int × Target × Room × (List Int) × Unit) : Option ((Int × Int × Room × (List Int) × Unit)) :=
 if decide (v.2.2.2.2.1 < v.2.2.2.1) = true then
  if (0 : Int) ≤ v.2.2.2.2.1 then
   v.2.2.1[v.2.2.2.2.1.toNat]? >>= fun x1 =>
   n_46 (x1, v.2.2.2.2.2.1, ()) >>= fun x2 =>
   n_47 (v.1, x2.1.align, ()) >>= fun x3 =>
   if v.2.2.2.2.2.2.2.1.length + [x3.1].length ≤ (4294967296 : Nat) then
    n_48 ([x3.1, x2.1.size], ()) >>= fun x4 =>
    n_24l4 (x4.1, max v.2.1 x2.1.align, v.2.2.1, v.2.2.2.1, i64.wrap (v.2.2.2.2.1 + (1 : Int)), v.2.2.2.2.2.1, v.2.2.2.2.2.2.1, v.2.2.2.2.2.2.2.1 ++ [x3.1], ())
   else none
  else none
 else some ((v.1, v.2.1, v.2.2.2.2.2.2.1, v.2.2.2.2.2.2.2.1, ()))
 partial_fixpoint
noncomputable def n_46 (v : Layout × Target × Unit) : Option (Room × Unit) :=
 if (v.1.kind == (1 : Int)) = true then
  some ((Room.mk (1 : Int) (1 : Int), ()))
 else if (v.1.kind == (2 : Int)) = true then
  n_64 (v.1.n, ()) >>= fun x1 =>
  n_64 (v.1.n, ()) >>= fun x2 =>
  some ((Room.mk x1.1 (min x2.1 v.2.1.word), ()))
 else if (v.1.kind == (3 : Int)) = true then
  some ((Room.mk v.2.1.word v.2.1.word, ()))
 else if (v.1.kind == (4 : Int)) = true then
  v.1.parts[Int.toNat (0 : Int)]? >>= fun x1 =>
  n_46 (x1, v.2.1, ()) >>= fun x2 =>
  n_48 ([x2.1.size, (1 : Int)], ()) >>= fun x3 =>
  n_47 (x3.1, x2.1.align, ()) >>= fun x4 =>
  some ((Room.mk x4.1 x2.1.align, ()))
 else if (v.1.kind == (5 : Int)) = true then
  v.1.parts[Int.toNat (0 : Int)]? >>= fun x1 =>
  n_46 (x1, v.2.1, ()) >>= fun x2 =>
  some ((Room.mk (min (1099511627776 : Int) (i64.wrap (v.1.n * x2.1.size))) x2.1.align, ()))
 else if (v.1.kind == (6 : Int)) = true then
  n_24 (v.1, v.2.1, ()) >>= fun x1 =>
  some ((x1.2.1, ()))
 else if (v.1.kind == (7 : Int)) = true then
  (if decide (v.1.n > (256 : Int)) = true then
     some (((2 : Int), v.2.1, Room.mk (0 : Int) (0 : Int), ()))
    else some (((1 : Int), v.2.1, Room.mk (0 : Int) (0 : Int), ()))) >>= fun x1 =>
  some ((Room.mk x1.1 (min x1.1 x1.2.1.word), ()))
 else if (v.1.kind == (8 : Int)) = true then
  n_46l25 (v.1.parts, (↑v.1.parts.length : Int), (0 : Int), v.2.1, Room.mk (0 : Int) (0 : Int), Room.mk (0 : Int) (1 : Int), ()) >>= fun x1 =>
  n_48 ([x1.2.1.size, (1 : Int)], ()) >>= fun x2 =>
  n_47 (x2.1, x1.2.1.align, ()) >>= fun x3 =>
  some ((Room.mk x3.1 x1.2.1.align, ()))
 else if (v.1.kind == (9 : Int)) = true then
  n_65 (v.1, ()) >>= fun x1 =>
  n_64 (x1.1, ()) >>= fun x2 =>
  some ((Room.mk x2.1 (max (1 : Int) (min x2.1 v.2.1.word)), ()))
 else some ((Room.mk (0 : Int) (1 : Int), ()))
 partial_fixpoint
noncomputable def n_46l25 (v : (List Layout) × Int × Int × Target × Room × Room × Unit) : Option ((Room × Room × Unit)) :=
 if decide (v.2.2.1 < v.2.1) = true then
  if (0 : Int) ≤ v.2.2.1 then
   v.1[v.2.2.1.toNat]? >>= fun x1 =>
   n_46 (x1, v.2.2.2.1, ()) >>= fun x2 =>
   n_46l25 (v.1, v.2.1, i64.wrap (v.2.2.1 + (1 : Int)), v.2.2.2.1, v.2.2.2.2.1, Room.mk (max v.2.2.2.2.2.1.size x2.1.size) (max v.2.2.2.2.2.1.align x2.1.align), ())
  else none
 else some ((v.2.2.2.2.1, v.2.2.2.2.2.1, ()))
 partial_fixpoint
noncomputable def n_24 (v : Layout × Target × Unit) : Option ((List Int) × Room × Unit) :=
 n_24l4 ((0 : Int), (1 : Int), v.1.parts, (↑v.1.parts.length : Int), (0 : Int), v.2.1, Room.mk (0 : Int) (0 : Int), [], ()) >>= fun x1 =>
 n_47 (x1.1, x1.2.1, ()) >>= fun x2 =>
 some ((x1.2.2.2.1, Room.mk x2.1 x1.2.1, ()))
 partial_fixpoint
end
noncomputable def call24 (n_24l4 : Int × Int × (List Layout) × Int × Int × Target × Room × (List Int) × Unit → Option ((Int × Int × Room × (List Int) × Unit))) (n_46 : Layout × Target × Unit → Option (Room × Unit)) (n_46l25 : (List Layout) × Int × Int × Target × Room × Room × Unit → Option ((Room × Room × Unit))) (n_24 : Layout × Target × Unit → Option ((List Int) × Room × Unit)) : Caller vw := fun A fid args S k => match fid with | 46 => callPure prog sig46 n_46 A args S k | 47 => callPure prog sig47 n_47 A args S k | 48 => callPure prog sig48 n_48 A args S k | _ => none
noncomputable def x24 (n_24l4 : Int × Int × (List Layout) × Int × Int × Target × Room × (List Int) × Unit → Option ((Int × Int × Room × (List Int) × Unit))) (n_46 : Layout × Target × Unit → Option (Room × Unit)) (n_46l25 : (List Layout) × Int × Int × Target × Room × Room × Unit → Option ((Room × Room × Unit))) (n_24 : Layout × Target × Unit → Option ((List Int) × Room × Unit)) : Xc vw := { P := prog, n := 47, call := call24 n_24l4 n_46 n_46l25 n_24, sh := sh24, loops := fun k => match k with | 4 => some { cut := c24l4, alts := [.exit 0], F := n_24l4 } | _ => none }
noncomputable def call46 (n_24l4 : Int × Int × (List Layout) × Int × Int × Target × Room × (List Int) × Unit → Option ((Int × Int × Room × (List Int) × Unit))) (n_46 : Layout × Target × Unit → Option (Room × Unit)) (n_46l25 : (List Layout) × Int × Int × Target × Room × Room × Unit → Option ((Room × Room × Unit))) (n_24 : Layout × Target × Unit → Option ((List Int) × Room × Unit)) : Caller vw := fun A fid args S k => match fid with | 24 => callPure prog sig24 n_24 A args S k | 46 => callPure prog sig46 n_46 A args S k | 47 => callPure prog sig47 n_47 A args S k | 48 => callPure prog sig48 n_48 A args S k | 64 => callPure prog sig64 n_64 A args S k | 65 => callPure prog sig65 n_65 A args S k | _ => none
noncomputable def x46 (n_24l4 : Int × Int × (List Layout) × Int × Int × Target × Room × (List Int) × Unit → Option ((Int × Int × Room × (List Int) × Unit))) (n_46 : Layout × Target × Unit → Option (Room × Unit)) (n_46l25 : (List Layout) × Int × Int × Target × Room × Room × Unit → Option ((Room × Room × Unit))) (n_24 : Layout × Target × Unit → Option ((List Int) × Room × Unit)) : Xc vw := { P := prog, n := 142, call := call46 n_24l4 n_46 n_46l25 n_24, sh := sh46, joins := fun k => match k with | 21 => some (c46j21, [.norm]) | _ => none, loops := fun k => match k with | 25 => some { cut := c46l25, alts := [.exit 1], F := n_46l25 } | _ => none }
abbrev mn_24l4 (v : Int × Int × (List Layout) × Int × Int × Target × Room × (List Int) × Unit) (r : (Int × Int × Room × (List Int) × Unit)) : Prop := (fun v out => ∀ C : Ctx, C.P = prog → C.N = 47 → AWpL C (loopNo (bodyOf Tryz.f24) 0) (encS vw (conc vw c24l4 v)) (OutQ sh24 [.exit 0] out)) v r
abbrev mn_46 (v : Layout × Target × Unit) (r : Room × Unit) : Prop := (fun v r => ∀ x, resV prog sig46 r = some x → FnOk prog 46 (encL vw (startS sig46 v).len (startOs sig46 v).1) (encOs (startS sig46 v).len (startS sig46 v).own) (encV vw (conc vw sig46.rcut r).len x) (encOs (conc vw sig46.rcut r).len (kept sig46 r))) v r
abbrev mn_46l25 (v : (List Layout) × Int × Int × Target × Room × Room × Unit) (r : (Room × Room × Unit)) : Prop := (fun v out => ∀ C : Ctx, C.P = prog → C.N = 142 → AWpL C (loopNo (bodyOf Tryz.f46) 0) (encS vw (conc vw c46l25 v)) (OutQ sh46 [.exit 1] out)) v r
abbrev mn_24 (v : Layout × Target × Unit) (r : (List Int) × Room × Unit) : Prop := (fun v r => ∀ x, resV prog sig24 r = some x → FnOk prog 24 (encL vw (startS sig24 v).len (startOs sig24 v).1) (encOs (startS sig24 v).len (startS sig24 v).own) (encV vw (conc vw sig24.rcut r).len x) (encOs (conc vw sig24.rcut r).len (kept sig24 r))) v r
theorem cn_24l4 (f0 : Int × Int × (List Layout) × Int × Int × Target × Room × (List Int) × Unit → Option ((Int × Int × Room × (List Int) × Unit))) (f1 : Layout × Target × Unit → Option (Room × Unit)) (h0 : ∀ v r, f0 v = some r → mn_24l4 v r) (h1 : ∀ v r, f1 v = some r → mn_46 v r) : CallerOk prog (x24 f0 f1 (fun _ => none) (fun _ => none)).call := (by
    intro A fid args S dst k r h
    unfold x24 call24 at h
    simp only at h
    split at h
    ·exact callPure_ok ((fun v r x h hx => h1 v r h x hx)) rfl rfl h
    ·exact callPure_ok (n_47_ok) rfl rfl h
    ·exact callPure_ok (n_48_ok) rfl rfl h
    ·cases h)
theorem sn_24l4 (f0 : Int × Int × (List Layout) × Int × Int × Target × Room × (List Int) × Unit → Option ((Int × Int × Room × (List Int) × Unit))) (f1 : Layout × Target × Unit → Option (Room × Unit)) (h0 : ∀ v r, f0 v = some r → mn_24l4 v r) (h1 : ∀ v r, f1 v = some r → mn_46 v r) (v : Int × Int × (List Layout) × Int × Int × Target × Room × (List Int) × Unit) (r : (Int × Int × Room × (List Int) × Unit)) (h : exL (x24 f0 f1 (fun _ => none) (fun _ => none)) (loopNo (bodyOf Tryz.f24) 0) c24l4 [.exit 0] f0 v = some r) : mn_24l4 v r := fun C hP hN => loop_step (X := x24 f0 f1 (fun _ => none) (fun _ => none)) (b := (loopNo (bodyOf Tryz.f24) 0)) hP hN Ty.mixed (cn_24l4 f0 f1 h0 h1) (lok_all (X := x24 f0 f1 (fun _ => none) (fun _ => none)) (c := (loopNo (bodyOf Tryz.f24) 0)) (kcast (by kernel_rfl : True = AllB (LoopsP C (x24 f0 f1 (fun _ => none) (fun _ => none))) (loopsIn (loopNo (bodyOf Tryz.f24) 0))) trivial)) (cut := c24l4) (alts := [.exit 0]) (F := f0) (fun v out h => h0 v out h C hP hN) h
theorem cn_46 (f0 : Layout × Target × Unit → Option (Room × Unit)) (f1 : (List Layout) × Int × Int × Target × Room × Room × Unit → Option ((Room × Room × Unit))) (f2 : Layout × Target × Unit → Option ((List Int) × Room × Unit)) (h0 : ∀ v r, f0 v = some r → mn_46 v r) (h1 : ∀ v r, f1 v = some r → mn_46l25 v r) (h2 : ∀ v r, f2 v = some r → mn_24 v r) : CallerOk prog (x46 (fun _ => none) f0 f1 f2).call := (by
    intro A fid args S dst k r h
    unfold x46 call46 at h
    simp only at h
    split at h
    ·exact callPure_ok ((fun v r x h hx => h2 v r h x hx)) rfl rfl h
    ·exact callPure_ok ((fun v r x h hx => h0 v r h x hx)) rfl rfl h
    ·exact callPure_ok (n_47_ok) rfl rfl h
    ·exact callPure_ok (n_48_ok) rfl rfl h
    ·exact callPure_ok (n_64_ok) rfl rfl h
    ·exact callPure_ok (n_65_ok) rfl rfl h
    ·cases h)
theorem sn_46 (f0 : Layout × Target × Unit → Option (Room × Unit)) (f1 : (List Layout) × Int × Int × Target × Room × Room × Unit → Option ((Room × Room × Unit))) (f2 : Layout × Target × Unit → Option ((List Int) × Room × Unit)) (h0 : ∀ v r, f0 v = some r → mn_46 v r) (h1 : ∀ v r, f1 v = some r → mn_46l25 v r) (h2 : ∀ v r, f2 v = some r → mn_24 v r) (v : Layout × Target × Unit) (r : Room × Unit) (h : exF (x46 (fun _ => none) f0 f1 f2) sig46 rfl (bodyOf Tryz.f46) v = some r) : mn_46 v r := fun x hx => fn_ok (X := x46 (fun _ => none) f0 f1 f2) (sig := sig46) rfl Tryz.func46 (c := bodyOf Tryz.f46) (by kernel_rfl) Tryz.ntmps46 (by kernel_rfl) (by kernel_rfl) rfl Ty.mixed (cn_46 f0 f1 f2 h0 h1 h2) rfl (fun C hP hN => (lok_all (X := x46 (fun _ => none) f0 f1 f2) (c := (bodyOf Tryz.f46)) (kcast (by kernel_rfl : AllB (LoopsP C (x46 (fun _ => none) f0 f1 f2)) [(loopNo (bodyOf Tryz.f46) 0)] = AllB (LoopsP C (x46 (fun _ => none) f0 f1 f2)) (loopsIn (bodyOf Tryz.f46))) ⟨loop_at (X := x46 (fun _ => none) f0 f1 f2) (b := (loopNo (bodyOf Tryz.f46) 0)) (by kernel_rfl) (show LoopOk C (loopNo (bodyOf Tryz.f46) 0) (sh := sh46) { cut := c46l25, alts := [.exit 1], F := f1 } from fun v out h => h1 v out h C hP hN), trivial⟩))) h x hx
theorem cn_46l25 (f0 : Layout × Target × Unit → Option (Room × Unit)) (f1 : (List Layout) × Int × Int × Target × Room × Room × Unit → Option ((Room × Room × Unit))) (h0 : ∀ v r, f0 v = some r → mn_46 v r) (h1 : ∀ v r, f1 v = some r → mn_46l25 v r) : CallerOk prog (x46 (fun _ => none) f0 f1 (fun _ => none)).call := (by
    intro A fid args S dst k r h
    unfold x46 call46 at h
    simp only at h
    split at h
    ·exact callPure_ok ((fun v r x h hx => by cases h)) rfl rfl h
    ·exact callPure_ok ((fun v r x h hx => h0 v r h x hx)) rfl rfl h
    ·exact callPure_ok (n_47_ok) rfl rfl h
    ·exact callPure_ok (n_48_ok) rfl rfl h
    ·exact callPure_ok (n_64_ok) rfl rfl h
    ·exact callPure_ok (n_65_ok) rfl rfl h
    ·cases h)
theorem sn_46l25 (f0 : Layout × Target × Unit → Option (Room × Unit)) (f1 : (List Layout) × Int × Int × Target × Room × Room × Unit → Option ((Room × Room × Unit))) (h0 : ∀ v r, f0 v = some r → mn_46 v r) (h1 : ∀ v r, f1 v = some r → mn_46l25 v r) (v : (List Layout) × Int × Int × Target × Room × Room × Unit) (r : (Room × Room × Unit)) (h : exL (x46 (fun _ => none) f0 f1 (fun _ => none)) (loopNo (bodyOf Tryz.f46) 0) c46l25 [.exit 1] f1 v = some r) : mn_46l25 v r := fun C hP hN => loop_step (X := x46 (fun _ => none) f0 f1 (fun _ => none)) (b := (loopNo (bodyOf Tryz.f46) 0)) hP hN Ty.mixed (cn_46l25 f0 f1 h0 h1) (lok_all (X := x46 (fun _ => none) f0 f1 (fun _ => none)) (c := (loopNo (bodyOf Tryz.f46) 0)) (kcast (by kernel_rfl : True = AllB (LoopsP C (x46 (fun _ => none) f0 f1 (fun _ => none))) (loopsIn (loopNo (bodyOf Tryz.f46) 0))) trivial)) (cut := c46l25) (alts := [.exit 1]) (F := f1) (fun v out h => h1 v out h C hP hN) h
theorem cn_24 (f0 : Int × Int × (List Layout) × Int × Int × Target × Room × (List Int) × Unit → Option ((Int × Int × Room × (List Int) × Unit))) (h0 : ∀ v r, f0 v = some r → mn_24l4 v r) : CallerOk prog (x24 f0 (fun _ => none) (fun _ => none) (fun _ => none)).call := (by
    intro A fid args S dst k r h
    unfold x24 call24 at h
    simp only at h
    split at h
    ·exact callPure_ok ((fun v r x h hx => by cases h)) rfl rfl h
    ·exact callPure_ok (n_47_ok) rfl rfl h
    ·exact callPure_ok (n_48_ok) rfl rfl h
    ·cases h)
theorem sn_24 (f0 : Int × Int × (List Layout) × Int × Int × Target × Room × (List Int) × Unit → Option ((Int × Int × Room × (List Int) × Unit))) (h0 : ∀ v r, f0 v = some r → mn_24l4 v r) (v : Layout × Target × Unit) (r : (List Int) × Room × Unit) (h : exF (x24 f0 (fun _ => none) (fun _ => none) (fun _ => none)) sig24 rfl (bodyOf Tryz.f24) v = some r) : mn_24 v r := fun x hx => fn_ok (X := x24 f0 (fun _ => none) (fun _ => none) (fun _ => none)) (sig := sig24) rfl Tryz.func24 (c := bodyOf Tryz.f24) (by kernel_rfl) Tryz.ntmps24 (by kernel_rfl) (by kernel_rfl) rfl Ty.mixed (cn_24 f0 h0) rfl (fun C hP hN => (lok_all (X := x24 f0 (fun _ => none) (fun _ => none) (fun _ => none)) (c := (bodyOf Tryz.f24)) (kcast (by kernel_rfl : AllB (LoopsP C (x24 f0 (fun _ => none) (fun _ => none) (fun _ => none))) [(loopNo (bodyOf Tryz.f24) 0)] = AllB (LoopsP C (x24 f0 (fun _ => none) (fun _ => none) (fun _ => none))) (loopsIn (bodyOf Tryz.f24))) ⟨loop_at (X := x24 f0 (fun _ => none) (fun _ => none) (fun _ => none)) (b := (loopNo (bodyOf Tryz.f24) 0)) (by kernel_rfl) (show LoopOk C (loopNo (bodyOf Tryz.f24) 0) (sh := sh24) { cut := c24l4, alts := [.exit 0], F := f0 } from fun v out h => h0 v out h C hP hN), trivial⟩))) h x hx
theorem n_24l4_all : (∀ v r, n_24l4 v = some r → mn_24l4 v r) ∧ (∀ v r, n_46 v = some r → mn_46 v r) ∧ (∀ v r, n_46l25 v = some r → mn_46l25 v r) ∧ (∀ v r, n_24 v = some r → mn_24 v r) := by
 refine n_24l4.mutual_partial_correctness
  (motive_1 := mn_24l4)
  (motive_2 := mn_46)
  (motive_3 := mn_46l25)
  (motive_4 := mn_24)
  ?_ ?_ ?_ ?_
 ·exact (fun f0 f1 h0 h1 v r h => sn_24l4 f0 f1 h0 h1 v r (kcast (by kernel_rfl) h))
 ·exact (fun f0 f1 f2 h0 h1 h2 v r h => sn_46 f0 f1 f2 h0 h1 h2 v r (kcast (by kernel_rfl) h))
 ·exact (fun f0 f1 h0 h1 v r h => sn_46l25 f0 f1 h0 h1 v r (kcast (by kernel_rfl) h))
 ·exact (fun f0 h0 v r h => sn_24 f0 h0 v r (kcast (by kernel_rfl) h))
theorem n_46_ok : SigOk prog 46 sig46 n_46 := fun v r x h hx => n_24l4_all.2.1 v r h x hx
theorem n_24_ok : SigOk prog 24 sig24 n_24 := fun v r x h hx => n_24l4_all.2.2.2 v r h x hx
noncomputable def c23z : Cut SN := ⟨[(4, .bp 4 0), (5, .dat (.int .i64))], [(4, .st .roomT)]⟩
noncomputable def sh23 : Shape vw := { rcut := c23z }
noncomputable def sig23 : Sig vw := { params := [.dat (.st .layoutT), .dat (.st .targetT)], rcut := c23z, rvars := [.cell 4 53, .tmp 5] }
noncomputable def n_23 (v : Layout × Target × Unit) : Option (Int × Room × Unit) :=
 n_46 (v.1, v.2.1, ()) >>= fun x1 =>
 if decide (x1.1.size > (4096 : Int)) = true then
  some (((3 : Int), Room.mk (0 : Int) (0 : Int), ()))
 else some (((0 : Int), x1.1, ()))
noncomputable def call23 : Caller vw := fun A fid args S k => match fid with | 46 => callPure prog sig46 n_46 A args S k | _ => none
noncomputable def x23 : Xc vw := { P := prog, n := 15, call := call23, sh := sh23 }
theorem call23_ok : CallerOk prog call23 := fun A fid args S dst k r h => by
 unfold call23 at h
 split at h
 ·exact callPure_ok (n_46_ok) rfl rfl h
 ·cases h
theorem n_23_ok : SigOk prog 23 sig23 n_23 := fun v r x h hx =>
 fn_ok (X := x23) (sig := sig23) rfl Tryz.func23 (c := bodyOf Tryz.f23) (by kernel_rfl) Tryz.ntmps23 (by kernel_rfl) (by kernel_rfl) rfl Ty.mixed call23_ok rfl (fun C hP hN => (lok_all (kcast (by kernel_rfl) trivial))) (kcast (by kernel_rfl) h) x hx
noncomputable def c13z : Cut SN := ⟨[(4, .dat (.sl (.int .i64))), (5, .dat (.int .i64))], []⟩
noncomputable def sh13 : Shape vw := { rcut := c13z }
noncomputable def sig13 : Sig vw := { params := [.dat (.st .layoutT), .dat (.st .targetT)], rcut := c13z, rvars := [.tmp 4, .tmp 5] }
noncomputable def n_13 (v : Layout × Target × Unit) : Option ((List Int) × Int × Unit) :=
 n_22 (v.1, v.2.1, ()) >>= fun x1 =>
 if (x1.1 != (0 : Int)) = true then
  some (([], x1.1, ()))
 else if (v.1.kind != (6 : Int)) = true then
  some (([], (6 : Int), ()))
 else n_23 (v.1, v.2.1, ()) >>= fun x2 =>
 if (x2.1 != (0 : Int)) = true then
  some (([], x2.1, ()))
 else n_24 (v.1, v.2.1, ()) >>= fun x3 =>
 some ((x3.1, (0 : Int), ()))
noncomputable def call13 : Caller vw := fun A fid args S k => match fid with | 22 => callPure prog sig22 n_22 A args S k | 23 => callPure prog sig23 n_23 A args S k | 24 => callPure prog sig24 n_24 A args S k | _ => none
noncomputable def x13 : Xc vw := { P := prog, n := 36, call := call13, sh := sh13 }
theorem call13_ok : CallerOk prog call13 := fun A fid args S dst k r h => by
 unfold call13 at h
 split at h
 ·exact callPure_ok (n_22_ok) rfl rfl h
 ·exact callPure_ok (n_23_ok) rfl rfl h
 ·exact callPure_ok (n_24_ok) rfl rfl h
 ·cases h
theorem n_13_ok : SigOk prog 13 sig13 n_13 := fun v r x h hx =>
 fn_ok (X := x13) (sig := sig13) rfl Tryz.func13 (c := bodyOf Tryz.f13) (by kernel_rfl) Tryz.ntmps13 (by kernel_rfl) (by kernel_rfl) rfl Ty.mixed call13_ok rfl (fun C hP hN => (lok_all (kcast (by kernel_rfl) trivial))) (kcast (by kernel_rfl) h) x hx
noncomputable def c14z : Cut SN := ⟨[(4, .dat (.int .i64)), (5, .dat (.int .i64))], []⟩
noncomputable def sh14 : Shape vw := { rcut := c14z }
noncomputable def sig14 : Sig vw := { params := [.dat (.st .layoutT), .dat (.st .targetT)], rcut := c14z, rvars := [.tmp 4, .tmp 5] }
noncomputable def n_14 (v : Layout × Target × Unit) : Option (Int × Int × Unit) :=
 n_22 (v.1, v.2.1, ()) >>= fun x1 =>
 if (x1.1 != (0 : Int)) = true then
  some (((0 : Int), x1.1, ()))
 else n_23 (v.1, v.2.1, ()) >>= fun x2 =>
 some ((x2.2.1.size, x2.1, ()))
noncomputable def call14 : Caller vw := fun A fid args S k => match fid with | 22 => callPure prog sig22 n_22 A args S k | 23 => callPure prog sig23 n_23 A args S k | _ => none
noncomputable def x14 : Xc vw := { P := prog, n := 24, call := call14, sh := sh14 }
theorem call14_ok : CallerOk prog call14 := fun A fid args S dst k r h => by
 unfold call14 at h
 split at h
 ·exact callPure_ok (n_22_ok) rfl rfl h
 ·exact callPure_ok (n_23_ok) rfl rfl h
 ·cases h
theorem n_14_ok : SigOk prog 14 sig14 n_14 := fun v r x h hx =>
 fn_ok (X := x14) (sig := sig14) rfl Tryz.func14 (c := bodyOf Tryz.f14) (by kernel_rfl) Tryz.ntmps14 (by kernel_rfl) (by kernel_rfl) rfl Ty.mixed call14_ok rfl (fun C hP hN => (lok_all (kcast (by kernel_rfl) trivial))) (kcast (by kernel_rfl) h) x hx
noncomputable def c15l4 : Cut SN := ⟨[(0, .dat (.sl (.int .i64))), (1, .dat (.sl (.int .i64))), (5, .dat (.int .i64))], []⟩
noncomputable def sh15 : Shape vw := { exits := fun id => match id with | 0 => c10e0 | _ => ⟨[], []⟩, rcut := c10z }
noncomputable def sig15 : Sig vw := { params := [.dat (.sl (.int .i64)), .dat (.sl (.int .i64))], rcut := c10z, rvars := [.tmp 4] }
noncomputable def n_15l4 (v : (List Int) × (List Int) × Int × Unit) : Option (((Bool × Unit) ⊕ (Unit))) :=
 if decide (v.2.2.1 < (↑v.1.length : Int)) = true then
  if (0 : Int) ≤ v.2.2.1 then
   v.1[v.2.2.1.toNat]? >>= fun x1 =>
   if (0 : Int) ≤ v.2.2.1 then
    v.2.1[v.2.2.1.toNat]? >>= fun x2 =>
    if (x1 != x2) = true then
     some (Sum.inl (false, ()))
    else n_15l4 (v.1, v.2.1, i64.wrap (v.2.2.1 + (1 : Int)), ())
   else none
  else none
 else some (Sum.inr ())
 partial_fixpoint
noncomputable def n_15 (v : (List Int) × (List Int) × Unit) : Option (Bool × Unit) :=
 if ((↑v.1.length : Int) != (↑v.2.1.length : Int)) = true then
  some ((false, ()))
 else n_15l4 (v.1, v.2.1, (0 : Int), ()) >>= fun x1 => match x1 with
  | .inl y1 => some y1
  | .inr y1 => some ((true, ()))
noncomputable def call15 : Caller vw := fun _ _ _ _ _ => none
noncomputable def x15 : Xc vw := { P := prog, n := 26, call := call15, sh := sh15, loops := fun k => match k with | 4 => some { cut := c15l4, alts := [.ret, .exit 0], F := n_15l4 } | _ => none }
theorem call15_ok : CallerOk prog call15 := call_none
theorem n_15l4_ok (C : Ctx) (hP : C.P = prog) (hN : C.N = 26) : LoopOk C (loopNo (bodyOf Tryz.f15) 0) (sh := sh15) { cut := c15l4, alts := [.ret, .exit 0], F := n_15l4 } :=
 n_15l4.partial_correctness (motive := fun v out => AWpL C (loopNo (bodyOf Tryz.f15) 0) (encS vw (conc vw c15l4 v)) (OutQ sh15 [.ret, .exit 0] out)) fun F ih v out h =>
  loop_step (X := x15) (b := (loopNo (bodyOf Tryz.f15) 0)) hP hN Ty.mixed call15_ok (lok_all (X := x15) (c := (loopNo (bodyOf Tryz.f15) 0)) (kcast (by kernel_rfl : True = AllB (LoopsP C (x15)) (loopsIn (loopNo (bodyOf Tryz.f15) 0))) trivial)) ih (kcast (by kernel_rfl) h)
theorem n_15_ok : SigOk prog 15 sig15 n_15 := fun v r x h hx =>
 fn_ok (X := x15) (sig := sig15) rfl Tryz.func15 (c := bodyOf Tryz.f15) (by kernel_rfl) Tryz.ntmps15 (by kernel_rfl) (by kernel_rfl) rfl Ty.mixed call15_ok rfl (fun C hP hN => (lok_all (kcast (by kernel_rfl : AllB (LoopsP C (x15)) [(loopNo (bodyOf Tryz.f15) 0)] = AllB (LoopsP C (x15)) (loopsIn (bodyOf Tryz.f15))) ⟨loop_at (X := x15) (b := (loopNo (bodyOf Tryz.f15) 0)) (by kernel_rfl) (n_15l4_ok C hP hN), trivial⟩))) (kcast (by kernel_rfl) h) x hx
noncomputable def c28z : Cut SN := ⟨[(2, .dat .str)], []⟩
noncomputable def sig28 : Sig vw := { params := [.dat (.int .i64)], rcut := c28z, rvars := [.tmp 2] }
noncomputable def n_28 (v : Int × Unit) : Option (ByteArray × Unit) :=
 if -9223372036854775808 ≤ v.1 ∧ v.1 ≤ 9223372036854775807 then some (⟨(Lib.itoa v.1).toArray⟩, ()) else none
theorem n_28_ok : SigOk prog 28 sig28 n_28 := fun v r x h hx => by
 obtain ⟨n, u⟩ := v
 unfold n_28 at h
 split at h
 ·rename_i hc
  obtain ⟨h0, h1⟩ := hc
  simp only at h0 h1
  cases h; cases hx
  exact kcast (by kernel_rfl) (FnOk.pure (P := prog) (f := 28) (args := [.d (.v (.int .i64 n))]) (r := .d (.v (.string ⟨(Lib.itoa n).toArray⟩))) (by kernel_rfl) fun E M w vs hg hm hv => by
   obtain ⟨v1, rfl, h2⟩ := hreps_one hv
   rw [h2.dv]
   exact (Tryz.strconv_Itoa n h0 h1 w (tab_pow10 hg hm)).mono fun e w' ⟨he, k, os, hw⟩ => ⟨_, he, .d (.v _), hw ▸ Lib.below_grow _ w (Nat.le_refl _) k os⟩)
 ·cases h
noncomputable def c29z : Cut SN := ⟨[(0, .mp 2000)], [(2000, .map (.int .i64) .str)]⟩
noncomputable def sh29 : Shape vw := { rcut := c29z }
noncomputable def sig29 : Sig vw := { params := [], rcut := c29z, rvars := [.tmp 0], keep := [2000] }
noncomputable def n_29 (v : Unit) : Option ((List (Int × ByteArray)) × Unit) :=
 some ((Mp.set Mp.ieq Mp.ilt (9 : Int) (ByteArray.mk #[112, 97, 99, 107, 101, 100]) (Mp.set Mp.ieq Mp.ilt (8 : Int) (ByteArray.mk #[117, 110, 105, 111, 110]) (Mp.set Mp.ieq Mp.ilt (6 : Int) (ByteArray.mk #[115, 116, 114, 117, 99, 116]) [])), ()))
noncomputable def call29 : Caller vw := fun _ _ _ _ _ => none
noncomputable def x29 : Xc vw := { P := prog, n := 3, call := call29, sh := sh29 }
theorem call29_ok : CallerOk prog call29 := call_none
theorem n_29_ok : SigOk prog 29 sig29 n_29 := fun v r x h hx =>
 fn_ok (X := x29) (sig := sig29) rfl Tryz.func29 (c := bodyOf Tryz.f29) (by kernel_rfl) Tryz.ntmps29 (by kernel_rfl) (by kernel_rfl) rfl Ty.mixed call29_ok rfl (fun C hP hN => (lok_all (kcast (by kernel_rfl) trivial))) (kcast (by kernel_rfl) h) x hx
noncomputable def c30z : Cut SN := ⟨[(4, .dat .str)], []⟩
noncomputable def sig30 : Sig vw := { params := [.dat (.sl .str), .dat .str], rcut := c30z, rvars := [.tmp 4] }
noncomputable def n_30 (v : (List ByteArray) × ByteArray × Unit) : Option (ByteArray × Unit) :=
 if v.1.length ≤ 140737488355328 ∧ (Lib.join (v.1.map (·.data.toList)) v.2.1.data.toList).length ≤ 140737488355328 then some (⟨(Lib.join (v.1.map (·.data.toList)) v.2.1.data.toList).toArray⟩, ()) else none
theorem n_30_ok : SigOk prog 30 sig30 n_30 := fun v r x h hx => by
 obtain ⟨xs, c, u⟩ := v
 unfold n_30 at h
 split at h
 ·rename_i hc
  obtain ⟨h0, h1⟩ := hc
  simp only at h0 h1
  cases h; cases hx
  exact kcast (by kernel_rfl) (FnOk.pure (P := prog) (f := 30) (args := [.d (.sl 1 (xs.map fun y => [D.v (.string y)])), .d (.v (.string c))]) (r := .d (.v (.string ⟨(Lib.join (xs.map (·.data.toList)) c.data.toList).toArray⟩))) (by kernel_rfl) fun E M w vs hg hm hv => by
   obtain ⟨v1, v2, rfl, h2, h3⟩ := hreps_two hv
   rw [h3.dv]
   rcases strs_rep h2 with ⟨rfl, a, k, rfl⟩ | ⟨b, o, k, h4, rfl, h5, h6⟩
   ·exact (Tryz.strings_Join_none a k c w).mono fun e w' ⟨he, hw⟩ => ⟨_, he, .d (.v _), hw ▸ Go.RowKit.Below.refl _ _⟩
   ·have h7 : ∀ (j : Nat) x, xs[j]? = some x → w.cell? ⟨b, o + j, none⟩ = some (.string x) := fun j x hj => hm _ _ _ (h6 j x hj)
    have h8 : b < w.heap.size := by
     obtain ⟨x, hx⟩ : ∃ x, xs[0]? = some x := by
      match xs, h4 with
      | x :: r, _ => exact ⟨x, rfl⟩
     exact World.block_lt_of_cell? w (a := ⟨b, o + 0, none⟩) (h7 0 x hx)
    exact (Tryz.strings_Join b o k xs c w h7 h8 h0 h5 h1).mono fun e w' ⟨he, hw⟩ => ⟨_, he, .d (.v _), hw⟩)
 ·cases h
noncomputable def c17l20 : Cut SN := ⟨[(1, .bp 1 0), (3, .vh 1003), (55, .dat (.sl (.st .layoutT))), (56, .dat (.int .i64)), (57, .dat (.int .i64))], [(1, .st .layoutT), (1003, .vec 9 .str)]⟩
noncomputable def c17e1 : Cut SN := ⟨[(1, .bp 1 0), (3, .vh 1003)], [(1, .st .layoutT), (1003, .vec 9 .str)]⟩
noncomputable def sh17 : Shape vw := { exits := fun id => match id with | 1 => c17e1 | _ => ⟨[], []⟩, rcut := c28z }
noncomputable def sig17 : Sig vw := { params := [.dat (.st .layoutT)], rcut := c28z, rvars := [.tmp 2] }
mutual
noncomputable def n_17l20 (v : (List Layout) × Int × Int × Layout × (List ByteArray) × Unit) : Option ((Layout × (List ByteArray) × Unit)) :=
 if decide (v.2.2.1 < v.2.1) = true then
  if (0 : Int) ≤ v.2.2.1 then
   v.1[v.2.2.1.toNat]? >>= fun x1 =>
   n_17 (x1, ()) >>= fun x2 =>
   if v.2.2.2.2.1.length + [x2.1].length ≤ (4294967296 : Nat) then
    n_17l20 (v.1, v.2.1, i64.wrap (v.2.2.1 + (1 : Int)), v.2.2.2.1, v.2.2.2.2.1 ++ [x2.1], ())
   else none
  else none
 else some ((v.2.2.2.1, v.2.2.2.2.1, ()))
 partial_fixpoint
noncomputable def n_17 (v : Layout × Unit) : Option (ByteArray × Unit) :=
 if (v.1.kind == (0 : Int)) = true then
  some ((ByteArray.mk #[118, 111, 105, 100], ()))
 else if (v.1.kind == (1 : Int)) = true then
  some ((ByteArray.mk #[98, 111, 111, 108], ()))
 else if (v.1.kind == (3 : Int)) = true then
  some ((ByteArray.mk #[119, 111, 114, 100], ()))
 else if (v.1.kind == (2 : Int)) = true then
  if v.1.flag = true then
   n_28 (v.1.n, ()) >>= fun x1 =>
   if (ByteArray.mk #[105]).size + x1.1.size ≤ (4294967296 : Nat) then
    some ((ByteArray.mk #[105] ++ x1.1, ()))
   else none
  else n_28 (v.1.n, ()) >>= fun x1 =>
  if (ByteArray.mk #[117]).size + x1.1.size ≤ (4294967296 : Nat) then
   some ((ByteArray.mk #[117] ++ x1.1, ()))
  else none
 else if (v.1.kind == (4 : Int)) = true then
  v.1.parts[Int.toNat (0 : Int)]? >>= fun x1 =>
  n_17 (x1, ()) >>= fun x2 =>
  if (ByteArray.mk #[63]).size + x2.1.size ≤ (4294967296 : Nat) then
   some ((ByteArray.mk #[63] ++ x2.1, ()))
  else none
 else if (v.1.kind == (5 : Int)) = true then
  n_28 (v.1.n, ()) >>= fun x1 =>
  if (ByteArray.mk #[91]).size + x1.1.size ≤ (4294967296 : Nat) then
   if (ByteArray.mk #[91] ++ x1.1).size + (ByteArray.mk #[93]).size ≤ (4294967296 : Nat) then
    v.1.parts[Int.toNat (0 : Int)]? >>= fun x2 =>
    n_17 (x2, ()) >>= fun x3 =>
    if (ByteArray.mk #[91] ++ x1.1 ++ ByteArray.mk #[93]).size + x3.1.size ≤ (4294967296 : Nat) then
     some ((ByteArray.mk #[91] ++ x1.1 ++ ByteArray.mk #[93] ++ x3.1, ()))
    else none
   else none
  else none
 else if (v.1.kind == (7 : Int)) = true then
  n_28 (v.1.n, ()) >>= fun x1 =>
  if (ByteArray.mk #[101, 110, 117, 109, 40]).size + x1.1.size ≤ (4294967296 : Nat) then
   if (ByteArray.mk #[101, 110, 117, 109, 40] ++ x1.1).size + (ByteArray.mk #[41]).size ≤ (4294967296 : Nat) then
    some ((ByteArray.mk #[101, 110, 117, 109, 40] ++ x1.1 ++ ByteArray.mk #[41], ()))
   else none
  else none
 else n_17l20 (v.1.parts, (↑v.1.parts.length : Int), (0 : Int), v.1, [], ()) >>= fun x1 =>
 n_29 () >>= fun x2 =>
 if ((Mp.get Mp.ieq x1.1.kind x2.1).getD (ByteArray.mk #[])).size + (ByteArray.mk #[40]).size ≤ (4294967296 : Nat) then
  n_30 (x1.2.1, ByteArray.mk #[44], ()) >>= fun x3 =>
  if ((Mp.get Mp.ieq x1.1.kind x2.1).getD (ByteArray.mk #[]) ++ ByteArray.mk #[40]).size + x3.1.size ≤ (4294967296 : Nat) then
   if ((Mp.get Mp.ieq x1.1.kind x2.1).getD (ByteArray.mk #[]) ++ ByteArray.mk #[40] ++ x3.1).size + (ByteArray.mk #[41]).size ≤ (4294967296 : Nat) then
    some (((Mp.get Mp.ieq x1.1.kind x2.1).getD (ByteArray.mk #[]) ++ ByteArray.mk #[40] ++ x3.1 ++ ByteArray.mk #[41], ()))
   else none
  else none
 else none
 partial_fixpoint
end
noncomputable def call17 (n_17l20 : (List Layout) × Int × Int × Layout × (List ByteArray) × Unit → Option ((Layout × (List ByteArray) × Unit))) (n_17 : Layout × Unit → Option (ByteArray × Unit)) : Caller vw := fun A fid args S k => match fid with | 17 => callPure prog sig17 n_17 A args S k | 28 => callPure prog sig28 n_28 A args S k | 29 => callObj prog sig29 n_29 A args S k | 30 => callPure prog sig30 n_30 A args S k | _ => none
noncomputable def x17 (n_17l20 : (List Layout) × Int × Int × Layout × (List ByteArray) × Unit → Option ((Layout × (List ByteArray) × Unit))) (n_17 : Layout × Unit → Option (ByteArray × Unit)) : Xc vw := { P := prog, n := 76, call := call17 n_17l20 n_17, sh := sh17, loops := fun k => match k with | 20 => some { cut := c17l20, alts := [.exit 1], F := n_17l20 } | _ => none }
abbrev mn_17l20 (v : (List Layout) × Int × Int × Layout × (List ByteArray) × Unit) (r : (Layout × (List ByteArray) × Unit)) : Prop := (fun v out => ∀ C : Ctx, C.P = prog → C.N = 76 → AWpL C (loopNo (bodyOf Tryz.f17) 0) (encS vw (conc vw c17l20 v)) (OutQ sh17 [.exit 1] out)) v r
abbrev mn_17 (v : Layout × Unit) (r : ByteArray × Unit) : Prop := (fun v r => ∀ x, resV prog sig17 r = some x → FnOk prog 17 (encL vw (startS sig17 v).len (startOs sig17 v).1) (encOs (startS sig17 v).len (startS sig17 v).own) (encV vw (conc vw sig17.rcut r).len x) (encOs (conc vw sig17.rcut r).len (kept sig17 r))) v r
theorem cn_17l20 (f0 : (List Layout) × Int × Int × Layout × (List ByteArray) × Unit → Option ((Layout × (List ByteArray) × Unit))) (f1 : Layout × Unit → Option (ByteArray × Unit)) (h0 : ∀ v r, f0 v = some r → mn_17l20 v r) (h1 : ∀ v r, f1 v = some r → mn_17 v r) : CallerOk prog (x17 f0 f1).call := (by
    intro A fid args S dst k r h
    unfold x17 call17 at h
    simp only at h
    split at h
    ·exact callPure_ok ((fun v r x h hx => h1 v r h x hx)) rfl rfl h
    ·exact callPure_ok (n_28_ok) rfl rfl h
    ·exact callObj_ok (n_29_ok) h
    ·exact callPure_ok (n_30_ok) rfl rfl h
    ·cases h)
theorem sn_17l20 (f0 : (List Layout) × Int × Int × Layout × (List ByteArray) × Unit → Option ((Layout × (List ByteArray) × Unit))) (f1 : Layout × Unit → Option (ByteArray × Unit)) (h0 : ∀ v r, f0 v = some r → mn_17l20 v r) (h1 : ∀ v r, f1 v = some r → mn_17 v r) (v : (List Layout) × Int × Int × Layout × (List ByteArray) × Unit) (r : (Layout × (List ByteArray) × Unit)) (h : exL (x17 f0 f1) (loopNo (bodyOf Tryz.f17) 0) c17l20 [.exit 1] f0 v = some r) : mn_17l20 v r := fun C hP hN => loop_step (X := x17 f0 f1) (b := (loopNo (bodyOf Tryz.f17) 0)) hP hN Ty.mixed (cn_17l20 f0 f1 h0 h1) (lok_all (X := x17 f0 f1) (c := (loopNo (bodyOf Tryz.f17) 0)) (kcast (by kernel_rfl : True = AllB (LoopsP C (x17 f0 f1)) (loopsIn (loopNo (bodyOf Tryz.f17) 0))) trivial)) (cut := c17l20) (alts := [.exit 1]) (F := f0) (fun v out h => h0 v out h C hP hN) h
theorem cn_17 (f0 : (List Layout) × Int × Int × Layout × (List ByteArray) × Unit → Option ((Layout × (List ByteArray) × Unit))) (f1 : Layout × Unit → Option (ByteArray × Unit)) (h0 : ∀ v r, f0 v = some r → mn_17l20 v r) (h1 : ∀ v r, f1 v = some r → mn_17 v r) : CallerOk prog (x17 f0 f1).call := (by
    intro A fid args S dst k r h
    unfold x17 call17 at h
    simp only at h
    split at h
    ·exact callPure_ok ((fun v r x h hx => h1 v r h x hx)) rfl rfl h
    ·exact callPure_ok (n_28_ok) rfl rfl h
    ·exact callObj_ok (n_29_ok) h
    ·exact callPure_ok (n_30_ok) rfl rfl h
    ·cases h)
theorem sn_17 (f0 : (List Layout) × Int × Int × Layout × (List ByteArray) × Unit → Option ((Layout × (List ByteArray) × Unit))) (f1 : Layout × Unit → Option (ByteArray × Unit)) (h0 : ∀ v r, f0 v = some r → mn_17l20 v r) (h1 : ∀ v r, f1 v = some r → mn_17 v r) (v : Layout × Unit) (r : ByteArray × Unit) (h : exF (x17 f0 f1) sig17 rfl (bodyOf Tryz.f17) v = some r) : mn_17 v r := fun x hx => fn_ok (X := x17 f0 f1) (sig := sig17) rfl Tryz.func17 (c := bodyOf Tryz.f17) (by kernel_rfl) Tryz.ntmps17 (by kernel_rfl) (by kernel_rfl) rfl Ty.mixed (cn_17 f0 f1 h0 h1) rfl (fun C hP hN => (lok_all (X := x17 f0 f1) (c := (bodyOf Tryz.f17)) (kcast (by kernel_rfl : AllB (LoopsP C (x17 f0 f1)) [(loopNo (bodyOf Tryz.f17) 0)] = AllB (LoopsP C (x17 f0 f1)) (loopsIn (bodyOf Tryz.f17))) ⟨loop_at (X := x17 f0 f1) (b := (loopNo (bodyOf Tryz.f17) 0)) (by kernel_rfl) (show LoopOk C (loopNo (bodyOf Tryz.f17) 0) (sh := sh17) { cut := c17l20, alts := [.exit 1], F := f0 } from fun v out h => h0 v out h C hP hN), trivial⟩))) h x hx
theorem n_17l20_all : (∀ v r, n_17l20 v = some r → mn_17l20 v r) ∧ (∀ v r, n_17 v = some r → mn_17 v r) := by
 refine n_17l20.mutual_partial_correctness
  (motive_1 := mn_17l20)
  (motive_2 := mn_17)
  ?_ ?_
 ·exact (fun f0 f1 h0 h1 v r h => sn_17l20 f0 f1 h0 h1 v r (kcast (by kernel_rfl) h))
 ·exact (fun f0 f1 h0 h1 v r h => sn_17 f0 f1 h0 h1 v r (kcast (by kernel_rfl) h))
theorem n_17_ok : SigOk prog 17 sig17 n_17 := fun v r x h hx => n_17l20_all.2 v r h x hx
noncomputable def c31l3 : Cut SN := ⟨[(1, .bp 1 0), (3, .vh 1003), (4, .dat (.int .i64))], [(1, .st .layoutT), (1003, .vec 24 (.st .layoutT))]⟩
noncomputable def c31e0 : Cut SN := ⟨[(3, .vh 1003)], [(1003, .vec 24 (.st .layoutT))]⟩
noncomputable def c31z : Cut SN := ⟨[(2, .dat (.sl (.st .layoutT)))], []⟩
noncomputable def sh31 : Shape vw := { exits := fun id => match id with | 0 => c31e0 | _ => ⟨[], []⟩, rcut := c31z }
noncomputable def sig31 : Sig vw := { params := [.dat (.st .layoutT)], rcut := c31z, rvars := [.tmp 2] }
mutual
noncomputable def n_31l3 (v : Int × Layout × (List Layout) × Unit) : Option (((List Layout) × Unit)) :=
 if decide (v.1 < (↑v.2.1.parts.length : Int)) = true then
  if (0 : Int) ≤ v.1 then
   v.2.1.parts[v.1.toNat]? >>= fun x1 =>
   n_31 (x1, ()) >>= fun x2 =>
   if v.2.2.1.length + x2.1.length ≤ (4294967296 : Nat) then
    n_31l3 (i64.wrap (v.1 + (1 : Int)), v.2.1, v.2.2.1 ++ x2.1, ())
   else none
  else none
 else some ((v.2.2.1, ()))
 partial_fixpoint
noncomputable def n_31 (v : Layout × Unit) : Option ((List Layout) × Unit) :=
 n_31l3 ((0 : Int), v.1, [v.1], ()) >>= fun x1 =>
 some ((x1.1, ()))
 partial_fixpoint
end
noncomputable def call31 (n_31l3 : Int × Layout × (List Layout) × Unit → Option (((List Layout) × Unit))) (n_31 : Layout × Unit → Option ((List Layout) × Unit)) : Caller vw := fun A fid args S k => match fid with | 31 => callPure prog sig31 n_31 A args S k | _ => none
noncomputable def x31 (n_31l3 : Int × Layout × (List Layout) × Unit → Option (((List Layout) × Unit))) (n_31 : Layout × Unit → Option ((List Layout) × Unit)) : Xc vw := { P := prog, n := 23, nm := fun d => match d with | 6 => 40006 | _ => d, call := call31 n_31l3 n_31, sh := sh31, loops := fun k => match k with | 3 => some { cut := c31l3, alts := [.exit 0], F := n_31l3 } | _ => none }
abbrev mn_31l3 (v : Int × Layout × (List Layout) × Unit) (r : ((List Layout) × Unit)) : Prop := (fun v out => ∀ C : Ctx, C.P = prog → C.N = 23 → AWpL C (loopNo (bodyOf Tryz.f31) 0) (encS vw (conc vw c31l3 v)) (OutQ sh31 [.exit 0] out)) v r
abbrev mn_31 (v : Layout × Unit) (r : (List Layout) × Unit) : Prop := (fun v r => ∀ x, resV prog sig31 r = some x → FnOk prog 31 (encL vw (startS sig31 v).len (startOs sig31 v).1) (encOs (startS sig31 v).len (startS sig31 v).own) (encV vw (conc vw sig31.rcut r).len x) (encOs (conc vw sig31.rcut r).len (kept sig31 r))) v r
theorem cn_31l3 (f0 : Int × Layout × (List Layout) × Unit → Option (((List Layout) × Unit))) (f1 : Layout × Unit → Option ((List Layout) × Unit)) (h0 : ∀ v r, f0 v = some r → mn_31l3 v r) (h1 : ∀ v r, f1 v = some r → mn_31 v r) : CallerOk prog (x31 f0 f1).call := (by
    intro A fid args S dst k r h
    unfold x31 call31 at h
    simp only at h
    split at h
    ·exact callPure_ok ((fun v r x h hx => h1 v r h x hx)) rfl rfl h
    ·cases h)
theorem sn_31l3 (f0 : Int × Layout × (List Layout) × Unit → Option (((List Layout) × Unit))) (f1 : Layout × Unit → Option ((List Layout) × Unit)) (h0 : ∀ v r, f0 v = some r → mn_31l3 v r) (h1 : ∀ v r, f1 v = some r → mn_31 v r) (v : Int × Layout × (List Layout) × Unit) (r : ((List Layout) × Unit)) (h : exL (x31 f0 f1) (loopNo (bodyOf Tryz.f31) 0) c31l3 [.exit 0] f0 v = some r) : mn_31l3 v r := fun C hP hN => loop_step (X := x31 f0 f1) (b := (loopNo (bodyOf Tryz.f31) 0)) hP hN Ty.mixed (cn_31l3 f0 f1 h0 h1) (lok_all (X := x31 f0 f1) (c := (loopNo (bodyOf Tryz.f31) 0)) (kcast (by kernel_rfl : True = AllB (LoopsP C (x31 f0 f1)) (loopsIn (loopNo (bodyOf Tryz.f31) 0))) trivial)) (cut := c31l3) (alts := [.exit 0]) (F := f0) (fun v out h => h0 v out h C hP hN) h
theorem cn_31 (f0 : Int × Layout × (List Layout) × Unit → Option (((List Layout) × Unit))) (h0 : ∀ v r, f0 v = some r → mn_31l3 v r) : CallerOk prog (x31 f0 (fun _ => none)).call := (by
    intro A fid args S dst k r h
    unfold x31 call31 at h
    simp only at h
    split at h
    ·exact callPure_ok ((fun v r x h hx => by cases h)) rfl rfl h
    ·cases h)
theorem sn_31 (f0 : Int × Layout × (List Layout) × Unit → Option (((List Layout) × Unit))) (h0 : ∀ v r, f0 v = some r → mn_31l3 v r) (v : Layout × Unit) (r : (List Layout) × Unit) (h : exF (x31 f0 (fun _ => none)) sig31 rfl (bodyOf Tryz.f31) v = some r) : mn_31 v r := fun x hx => fn_ok (X := x31 f0 (fun _ => none)) (sig := sig31) rfl Tryz.func31 (c := bodyOf Tryz.f31) (by kernel_rfl) Tryz.ntmps31 (by kernel_rfl) (by kernel_rfl) rfl Ty.mixed (cn_31 f0 h0) rfl (fun C hP hN => (lok_all (X := x31 f0 (fun _ => none)) (c := (bodyOf Tryz.f31)) (kcast (by kernel_rfl : AllB (LoopsP C (x31 f0 (fun _ => none))) [(loopNo (bodyOf Tryz.f31) 0)] = AllB (LoopsP C (x31 f0 (fun _ => none))) (loopsIn (bodyOf Tryz.f31))) ⟨loop_at (X := x31 f0 (fun _ => none)) (b := (loopNo (bodyOf Tryz.f31) 0)) (by kernel_rfl) (show LoopOk C (loopNo (bodyOf Tryz.f31) 0) (sh := sh31) { cut := c31l3, alts := [.exit 0], F := f0 } from fun v out h => h0 v out h C hP hN), trivial⟩))) h x hx
theorem n_31l3_all : (∀ v r, n_31l3 v = some r → mn_31l3 v r) ∧ (∀ v r, n_31 v = some r → mn_31 v r) := by
 refine n_31l3.mutual_partial_correctness
  (motive_1 := mn_31l3)
  (motive_2 := mn_31)
  ?_ ?_
 ·exact (fun f0 f1 h0 h1 v r h => sn_31l3 f0 f1 h0 h1 v r (kcast (by kernel_rfl) h))
 ·exact (fun f0 h0 v r h => sn_31 f0 h0 v r (kcast (by kernel_rfl) h))
theorem n_31_ok : SigOk prog 31 sig31 n_31 := fun v r x h hx => n_31l3_all.2 v r h x hx
noncomputable def c32l3 : Cut SN := ⟨[(1, .bp 1 0), (3, .dat (.int .i64)), (4, .dat (.int .i64))], [(1, .st .layoutT)]⟩
noncomputable def sh32 : Shape vw := { exits := fun id => match id with | 0 => c48e0 | _ => ⟨[], []⟩, rcut := c48z }
noncomputable def sig32 : Sig vw := { params := [.dat (.st .layoutT)], rcut := c48z, rvars := [.tmp 2] }
mutual
noncomputable def n_32l3 (v : Int × Int × Layout × Unit) : Option ((Int × Unit)) :=
 if decide (v.2.1 < (↑v.2.2.1.parts.length : Int)) = true then
  if (0 : Int) ≤ v.2.1 then
   v.2.2.1.parts[v.2.1.toNat]? >>= fun x1 =>
   n_32 (x1, ()) >>= fun x2 =>
   n_32l3 (max v.1 x2.1, i64.wrap (v.2.1 + (1 : Int)), v.2.2.1, ())
  else none
 else some ((v.1, ()))
 partial_fixpoint
noncomputable def n_32 (v : Layout × Unit) : Option (Int × Unit) :=
 n_32l3 ((0 : Int), (0 : Int), v.1, ()) >>= fun x1 =>
 some ((i64.wrap (x1.1 + (1 : Int)), ()))
 partial_fixpoint
end
noncomputable def call32 (n_32l3 : Int × Int × Layout × Unit → Option ((Int × Unit))) (n_32 : Layout × Unit → Option (Int × Unit)) : Caller vw := fun A fid args S k => match fid with | 32 => callPure prog sig32 n_32 A args S k | _ => none
noncomputable def x32 (n_32l3 : Int × Int × Layout × Unit → Option ((Int × Unit))) (n_32 : Layout × Unit → Option (Int × Unit)) : Xc vw := { P := prog, n := 22, call := call32 n_32l3 n_32, sh := sh32, loops := fun k => match k with | 3 => some { cut := c32l3, alts := [.exit 0], F := n_32l3 } | _ => none }
abbrev mn_32l3 (v : Int × Int × Layout × Unit) (r : (Int × Unit)) : Prop := (fun v out => ∀ C : Ctx, C.P = prog → C.N = 22 → AWpL C (loopNo (bodyOf Tryz.f32) 0) (encS vw (conc vw c32l3 v)) (OutQ sh32 [.exit 0] out)) v r
abbrev mn_32 (v : Layout × Unit) (r : Int × Unit) : Prop := (fun v r => ∀ x, resV prog sig32 r = some x → FnOk prog 32 (encL vw (startS sig32 v).len (startOs sig32 v).1) (encOs (startS sig32 v).len (startS sig32 v).own) (encV vw (conc vw sig32.rcut r).len x) (encOs (conc vw sig32.rcut r).len (kept sig32 r))) v r
theorem cn_32l3 (f0 : Int × Int × Layout × Unit → Option ((Int × Unit))) (f1 : Layout × Unit → Option (Int × Unit)) (h0 : ∀ v r, f0 v = some r → mn_32l3 v r) (h1 : ∀ v r, f1 v = some r → mn_32 v r) : CallerOk prog (x32 f0 f1).call := (by
    intro A fid args S dst k r h
    unfold x32 call32 at h
    simp only at h
    split at h
    ·exact callPure_ok ((fun v r x h hx => h1 v r h x hx)) rfl rfl h
    ·cases h)
theorem sn_32l3 (f0 : Int × Int × Layout × Unit → Option ((Int × Unit))) (f1 : Layout × Unit → Option (Int × Unit)) (h0 : ∀ v r, f0 v = some r → mn_32l3 v r) (h1 : ∀ v r, f1 v = some r → mn_32 v r) (v : Int × Int × Layout × Unit) (r : (Int × Unit)) (h : exL (x32 f0 f1) (loopNo (bodyOf Tryz.f32) 0) c32l3 [.exit 0] f0 v = some r) : mn_32l3 v r := fun C hP hN => loop_step (X := x32 f0 f1) (b := (loopNo (bodyOf Tryz.f32) 0)) hP hN Ty.mixed (cn_32l3 f0 f1 h0 h1) (lok_all (X := x32 f0 f1) (c := (loopNo (bodyOf Tryz.f32) 0)) (kcast (by kernel_rfl : True = AllB (LoopsP C (x32 f0 f1)) (loopsIn (loopNo (bodyOf Tryz.f32) 0))) trivial)) (cut := c32l3) (alts := [.exit 0]) (F := f0) (fun v out h => h0 v out h C hP hN) h
theorem cn_32 (f0 : Int × Int × Layout × Unit → Option ((Int × Unit))) (h0 : ∀ v r, f0 v = some r → mn_32l3 v r) : CallerOk prog (x32 f0 (fun _ => none)).call := (by
    intro A fid args S dst k r h
    unfold x32 call32 at h
    simp only at h
    split at h
    ·exact callPure_ok ((fun v r x h hx => by cases h)) rfl rfl h
    ·cases h)
theorem sn_32 (f0 : Int × Int × Layout × Unit → Option ((Int × Unit))) (h0 : ∀ v r, f0 v = some r → mn_32l3 v r) (v : Layout × Unit) (r : Int × Unit) (h : exF (x32 f0 (fun _ => none)) sig32 rfl (bodyOf Tryz.f32) v = some r) : mn_32 v r := fun x hx => fn_ok (X := x32 f0 (fun _ => none)) (sig := sig32) rfl Tryz.func32 (c := bodyOf Tryz.f32) (by kernel_rfl) Tryz.ntmps32 (by kernel_rfl) (by kernel_rfl) rfl Ty.mixed (cn_32 f0 h0) rfl (fun C hP hN => (lok_all (X := x32 f0 (fun _ => none)) (c := (bodyOf Tryz.f32)) (kcast (by kernel_rfl : AllB (LoopsP C (x32 f0 (fun _ => none))) [(loopNo (bodyOf Tryz.f32) 0)] = AllB (LoopsP C (x32 f0 (fun _ => none))) (loopsIn (bodyOf Tryz.f32))) ⟨loop_at (X := x32 f0 (fun _ => none)) (b := (loopNo (bodyOf Tryz.f32) 0)) (by kernel_rfl) (show LoopOk C (loopNo (bodyOf Tryz.f32) 0) (sh := sh32) { cut := c32l3, alts := [.exit 0], F := f0 } from fun v out h => h0 v out h C hP hN), trivial⟩))) h x hx
theorem n_32l3_all : (∀ v r, n_32l3 v = some r → mn_32l3 v r) ∧ (∀ v r, n_32 v = some r → mn_32 v r) := by
 refine n_32l3.mutual_partial_correctness
  (motive_1 := mn_32l3)
  (motive_2 := mn_32)
  ?_ ?_
 ·exact (fun f0 f1 h0 h1 v r h => sn_32l3 f0 f1 h0 h1 v r (kcast (by kernel_rfl) h))
 ·exact (fun f0 h0 v r h => sn_32 f0 h0 v r (kcast (by kernel_rfl) h))
theorem n_32_ok : SigOk prog 32 sig32 n_32 := fun v r x h hx => n_32l3_all.2 v r h x hx
noncomputable def sh33 : Shape vw := { exits := fun id => match id with | 0 => c26e0 | _ => ⟨[], []⟩, rcut := c48z }
noncomputable def sig33 : Sig vw := { params := [.dat (.st .layoutT)], rcut := c48z, rvars := [.tmp 2] }
mutual
noncomputable def n_33l3 (v : Int × Int × Layout × Unit) : Option ((Int × Layout × Unit)) :=
 if decide (v.2.1 < (↑v.2.2.1.parts.length : Int)) = true then
  if (0 : Int) ≤ v.2.1 then
   v.2.2.1.parts[v.2.1.toNat]? >>= fun x1 =>
   n_33 (x1, ()) >>= fun x2 =>
   n_33l3 (min (i64.wrap (v.1 + x2.1)) (100000 : Int), i64.wrap (v.2.1 + (1 : Int)), v.2.2.1, ())
  else none
 else some ((v.1, v.2.2.1, ()))
 partial_fixpoint
noncomputable def n_33 (v : Layout × Unit) : Option (Int × Unit) :=
 n_33l3 ((0 : Int), (0 : Int), v.1, ()) >>= fun x1 =>
 (if (x1.2.1.kind == (5 : Int)) = true then
    some ((i64.wrap (min (max x1.2.1.n (0 : Int)) (100000 : Int) * x1.1), ()))
   else some ((x1.1, ()))) >>= fun x2 =>
 some ((min (i64.wrap (x2.1 + (1 : Int))) (100000 : Int), ()))
 partial_fixpoint
end
noncomputable def call33 (n_33l3 : Int × Int × Layout × Unit → Option ((Int × Layout × Unit))) (n_33 : Layout × Unit → Option (Int × Unit)) : Caller vw := fun A fid args S k => match fid with | 33 => callPure prog sig33 n_33 A args S k | _ => none
noncomputable def x33 (n_33l3 : Int × Int × Layout × Unit → Option ((Int × Layout × Unit))) (n_33 : Layout × Unit → Option (Int × Unit)) : Xc vw := { P := prog, n := 33, call := call33 n_33l3 n_33, sh := sh33, joins := fun k => match k with | 8 => some (c48e0, [.norm]) | _ => none, loops := fun k => match k with | 3 => some { cut := c32l3, alts := [.exit 0], F := n_33l3 } | _ => none }
abbrev mn_33l3 (v : Int × Int × Layout × Unit) (r : (Int × Layout × Unit)) : Prop := (fun v out => ∀ C : Ctx, C.P = prog → C.N = 33 → AWpL C (loopNo (bodyOf Tryz.f33) 0) (encS vw (conc vw c32l3 v)) (OutQ sh33 [.exit 0] out)) v r
abbrev mn_33 (v : Layout × Unit) (r : Int × Unit) : Prop := (fun v r => ∀ x, resV prog sig33 r = some x → FnOk prog 33 (encL vw (startS sig33 v).len (startOs sig33 v).1) (encOs (startS sig33 v).len (startS sig33 v).own) (encV vw (conc vw sig33.rcut r).len x) (encOs (conc vw sig33.rcut r).len (kept sig33 r))) v r
theorem cn_33l3 (f0 : Int × Int × Layout × Unit → Option ((Int × Layout × Unit))) (f1 : Layout × Unit → Option (Int × Unit)) (h0 : ∀ v r, f0 v = some r → mn_33l3 v r) (h1 : ∀ v r, f1 v = some r → mn_33 v r) : CallerOk prog (x33 f0 f1).call := (by
    intro A fid args S dst k r h
    unfold x33 call33 at h
    simp only at h
    split at h
    ·exact callPure_ok ((fun v r x h hx => h1 v r h x hx)) rfl rfl h
    ·cases h)
theorem sn_33l3 (f0 : Int × Int × Layout × Unit → Option ((Int × Layout × Unit))) (f1 : Layout × Unit → Option (Int × Unit)) (h0 : ∀ v r, f0 v = some r → mn_33l3 v r) (h1 : ∀ v r, f1 v = some r → mn_33 v r) (v : Int × Int × Layout × Unit) (r : (Int × Layout × Unit)) (h : exL (x33 f0 f1) (loopNo (bodyOf Tryz.f33) 0) c32l3 [.exit 0] f0 v = some r) : mn_33l3 v r := fun C hP hN => loop_step (X := x33 f0 f1) (b := (loopNo (bodyOf Tryz.f33) 0)) hP hN Ty.mixed (cn_33l3 f0 f1 h0 h1) (lok_all (X := x33 f0 f1) (c := (loopNo (bodyOf Tryz.f33) 0)) (kcast (by kernel_rfl : True = AllB (LoopsP C (x33 f0 f1)) (loopsIn (loopNo (bodyOf Tryz.f33) 0))) trivial)) (cut := c32l3) (alts := [.exit 0]) (F := f0) (fun v out h => h0 v out h C hP hN) h
theorem cn_33 (f0 : Int × Int × Layout × Unit → Option ((Int × Layout × Unit))) (h0 : ∀ v r, f0 v = some r → mn_33l3 v r) : CallerOk prog (x33 f0 (fun _ => none)).call := (by
    intro A fid args S dst k r h
    unfold x33 call33 at h
    simp only at h
    split at h
    ·exact callPure_ok ((fun v r x h hx => by cases h)) rfl rfl h
    ·cases h)
theorem sn_33 (f0 : Int × Int × Layout × Unit → Option ((Int × Layout × Unit))) (h0 : ∀ v r, f0 v = some r → mn_33l3 v r) (v : Layout × Unit) (r : Int × Unit) (h : exF (x33 f0 (fun _ => none)) sig33 rfl (bodyOf Tryz.f33) v = some r) : mn_33 v r := fun x hx => fn_ok (X := x33 f0 (fun _ => none)) (sig := sig33) rfl Tryz.func33 (c := bodyOf Tryz.f33) (by kernel_rfl) Tryz.ntmps33 (by kernel_rfl) (by kernel_rfl) rfl Ty.mixed (cn_33 f0 h0) rfl (fun C hP hN => (lok_all (X := x33 f0 (fun _ => none)) (c := (bodyOf Tryz.f33)) (kcast (by kernel_rfl : AllB (LoopsP C (x33 f0 (fun _ => none))) [(loopNo (bodyOf Tryz.f33) 0)] = AllB (LoopsP C (x33 f0 (fun _ => none))) (loopsIn (bodyOf Tryz.f33))) ⟨loop_at (X := x33 f0 (fun _ => none)) (b := (loopNo (bodyOf Tryz.f33) 0)) (by kernel_rfl) (show LoopOk C (loopNo (bodyOf Tryz.f33) 0) (sh := sh33) { cut := c32l3, alts := [.exit 0], F := f0 } from fun v out h => h0 v out h C hP hN), trivial⟩))) h x hx
theorem n_33l3_all : (∀ v r, n_33l3 v = some r → mn_33l3 v r) ∧ (∀ v r, n_33 v = some r → mn_33 v r) := by
 refine n_33l3.mutual_partial_correctness
  (motive_1 := mn_33l3)
  (motive_2 := mn_33)
  ?_ ?_
 ·exact (fun f0 f1 h0 h1 v r h => sn_33l3 f0 f1 h0 h1 v r (kcast (by kernel_rfl) h))
 ·exact (fun f0 h0 v r h => sn_33 f0 h0 v r (kcast (by kernel_rfl) h))
theorem n_33_ok : SigOk prog 33 sig33 n_33 := fun v r x h hx => n_33l3_all.2 v r h x hx
noncomputable def sh34 : Shape vw := { rcut := c48z }
noncomputable def sig34 : Sig vw := { params := [.dat (.int .i64)], rcut := c48z, rvars := [.tmp 2] }
noncomputable def n_34 (v : Int × Unit) : Option (Int × Unit) :=
 if (v.1 == (2 : Int)) = true then
  some (((64 : Int), ()))
 else if (v.1 == (5 : Int)) = true then
  some (((1000 : Int), ()))
 else if (v.1 == (7 : Int)) = true then
  some (((65536 : Int), ()))
 else some (((9223372036854775807 : Int), ()))
noncomputable def call34 : Caller vw := fun _ _ _ _ _ => none
noncomputable def x34 : Xc vw := { P := prog, n := 10, call := call34, sh := sh34 }
theorem call34_ok : CallerOk prog call34 := call_none
theorem n_34_ok : SigOk prog 34 sig34 n_34 := fun v r x h hx =>
 fn_ok (X := x34) (sig := sig34) rfl Tryz.func34 (c := bodyOf Tryz.f34) (by kernel_rfl) Tryz.ntmps34 (by kernel_rfl) (by kernel_rfl) rfl Ty.mixed call34_ok rfl (fun C hP hN => (lok_all (kcast (by kernel_rfl) trivial))) (kcast (by kernel_rfl) h) x hx
noncomputable def sh57 : Shape vw := { rcut := c48z }
noncomputable def sig57 : Sig vw := { params := [.dat (.st .layoutT)], rcut := c48z, rvars := [.tmp 2] }
noncomputable def n_57 (v : Layout × Unit) : Option (Int × Unit) :=
 if (v.1.kind == (1 : Int)) = true then
  some (((1 : Int), ()))
 else if (v.1.kind == (2 : Int)) = true then
  some ((max v.1.n (0 : Int), ()))
 else some (((0 : Int), ()))
noncomputable def call57 : Caller vw := fun _ _ _ _ _ => none
noncomputable def x57 : Xc vw := { P := prog, n := 12, call := call57, sh := sh57 }
theorem call57_ok : CallerOk prog call57 := call_none
theorem n_57_ok : SigOk prog 57 sig57 n_57 := fun v r x h hx =>
 fn_ok (X := x57) (sig := sig57) rfl Tryz.func57 (c := bodyOf Tryz.f57) (by kernel_rfl) Tryz.ntmps57 (by kernel_rfl) (by kernel_rfl) rfl Ty.mixed call57_ok rfl (fun C hP hN => (lok_all (kcast (by kernel_rfl) trivial))) (kcast (by kernel_rfl) h) x hx
noncomputable def sh35 : Shape vw := { exits := fun id => match id with | 0 => c48e0 | _ => ⟨[], []⟩, rcut := c48z }
noncomputable def sig35 : Sig vw := { params := [.dat (.st .layoutT)], rcut := c48z, rvars := [.tmp 2] }
noncomputable def n_35l3 (v : Int × Int × Layout × Unit) : Option ((Int × Unit)) :=
 if decide (v.2.1 < (↑v.2.2.1.parts.length : Int)) = true then
  if (0 : Int) ≤ v.2.1 then
   v.2.2.1.parts[v.2.1.toNat]? >>= fun x1 =>
   n_57 (x1, ()) >>= fun x2 =>
   n_35l3 (min (i64.wrap (v.1 + min x2.1 (1000 : Int))) (100000 : Int), i64.wrap (v.2.1 + (1 : Int)), v.2.2.1, ())
  else none
 else some ((v.1, ()))
 partial_fixpoint
noncomputable def n_35 (v : Layout × Unit) : Option (Int × Unit) :=
 n_35l3 ((0 : Int), (0 : Int), v.1, ()) >>= fun x1 =>
 some ((x1.1, ()))
noncomputable def call35 : Caller vw := fun A fid args S k => match fid with | 57 => callPure prog sig57 n_57 A args S k | _ => none
noncomputable def x35 : Xc vw := { P := prog, n := 23, call := call35, sh := sh35, loops := fun k => match k with | 3 => some { cut := c32l3, alts := [.exit 0], F := n_35l3 } | _ => none }
theorem call35_ok : CallerOk prog call35 := fun A fid args S dst k r h => by
 unfold call35 at h
 split at h
 ·exact callPure_ok (n_57_ok) rfl rfl h
 ·cases h
theorem n_35l3_ok (C : Ctx) (hP : C.P = prog) (hN : C.N = 23) : LoopOk C (loopNo (bodyOf Tryz.f35) 0) (sh := sh35) { cut := c32l3, alts := [.exit 0], F := n_35l3 } :=
 n_35l3.partial_correctness (motive := fun v out => AWpL C (loopNo (bodyOf Tryz.f35) 0) (encS vw (conc vw c32l3 v)) (OutQ sh35 [.exit 0] out)) fun F ih v out h =>
  loop_step (X := x35) (b := (loopNo (bodyOf Tryz.f35) 0)) hP hN Ty.mixed call35_ok (lok_all (X := x35) (c := (loopNo (bodyOf Tryz.f35) 0)) (kcast (by kernel_rfl : True = AllB (LoopsP C (x35)) (loopsIn (loopNo (bodyOf Tryz.f35) 0))) trivial)) ih (kcast (by kernel_rfl) h)
theorem n_35_ok : SigOk prog 35 sig35 n_35 := fun v r x h hx =>
 fn_ok (X := x35) (sig := sig35) rfl Tryz.func35 (c := bodyOf Tryz.f35) (by kernel_rfl) Tryz.ntmps35 (by kernel_rfl) (by kernel_rfl) rfl Ty.mixed call35_ok rfl (fun C hP hN => (lok_all (kcast (by kernel_rfl : AllB (LoopsP C (x35)) [(loopNo (bodyOf Tryz.f35) 0)] = AllB (LoopsP C (x35)) (loopsIn (bodyOf Tryz.f35))) ⟨loop_at (X := x35) (b := (loopNo (bodyOf Tryz.f35) 0)) (by kernel_rfl) (n_35l3_ok C hP hN), trivial⟩))) (kcast (by kernel_rfl) h) x hx
noncomputable def c58r1 : Cut SN := ⟨[(6, .dat .bool)], []⟩
noncomputable def sh58 : Shape vw := { rcut := c58r1 }
noncomputable def sig58 : Sig vw := { params := [.dat (.int .i64), .dat (.int .i64), .dat (.int .i64)], rcut := c58r1, rvars := [.tmp 6] }
noncomputable def n_58 (v : Int × Int × Int × Unit) : Option (Bool × Unit) :=
 (if decide (v.1 ≥ v.2.1) = true then
    some ((decide (v.1 ≤ v.2.2.1), ()))
   else some ((false, ()))) >>= fun x1 =>
 some ((x1.1, ()))
noncomputable def call58 : Caller vw := fun _ _ _ _ _ => none
noncomputable def x58 : Xc vw := { P := prog, n := 15, call := call58, sh := sh58, regs := fun k => match k with | 1 => some c58r1 | _ => none }
theorem call58_ok : CallerOk prog call58 := call_none
theorem n_58_ok : SigOk prog 58 sig58 n_58 := fun v r x h hx =>
 fn_ok (X := x58) (sig := sig58) rfl Tryz.func58 (c := bodyOf Tryz.f58) (by kernel_rfl) Tryz.ntmps58 (by kernel_rfl) (by kernel_rfl) rfl Ty.mixed call58_ok rfl (fun C hP hN => (lok_all (kcast (by kernel_rfl) trivial))) (kcast (by kernel_rfl) h) x hx
noncomputable def c59j4 : Cut SN := ⟨[(1, .bp 1 0), (4, .dat (.int .i64)), (5, .dat .bool)], [(1, .st .layoutT)]⟩
noncomputable def c59j7 : Cut SN := ⟨[(1, .bp 1 0), (4, .dat (.int .i64)), (12, .dat .bool)], [(1, .st .layoutT)]⟩
noncomputable def sh59 : Shape vw := { rcut := c51r1 }
noncomputable def sig59 : Sig vw := { params := [.dat (.st .layoutT)], rcut := c51r1, rvars := [.tmp 2] }
noncomputable def n_59 (v : Layout × Unit) : Option (Bool × Unit) :=
 (if (v.1.kind == (4 : Int)) = true then
    some ((v.1.kind, true, v.1, ()))
   else some ((v.1.kind, v.1.kind == (5 : Int), v.1, ()))) >>= fun x1 =>
 if x1.2.1 = true then
  some (((↑x1.2.2.1.parts.length : Int) == (1 : Int), ()))
 else (if (x1.1 == (6 : Int)) = true then
   some ((x1.1, true, x1.2.2.1, ()))
  else some ((x1.1, x1.1 == (9 : Int), x1.2.2.1, ()))) >>= fun x2 =>
 if x2.2.1 = true then
  some ((true, ()))
 else if (x2.1 == (8 : Int)) = true then
  some ((decide ((↑x2.2.2.1.parts.length : Int) ≥ (1 : Int)), ()))
 else some (((↑x2.2.2.1.parts.length : Int) == (0 : Int), ()))
noncomputable def call59 : Caller vw := fun _ _ _ _ _ => none
noncomputable def x59 : Xc vw := { P := prog, n := 25, call := call59, sh := sh59, joins := fun k => match k with | 4 => some (c59j4, [.norm]) | 7 => some (c59j7, [.norm]) | _ => none }
theorem call59_ok : CallerOk prog call59 := call_none
theorem n_59_ok : SigOk prog 59 sig59 n_59 := fun v r x h hx =>
 fn_ok (X := x59) (sig := sig59) rfl Tryz.func59 (c := bodyOf Tryz.f59) (by kernel_rfl) Tryz.ntmps59 (by kernel_rfl) (by kernel_rfl) rfl Ty.mixed call59_ok rfl (fun C hP hN => (lok_all (kcast (by kernel_rfl) trivial))) (kcast (by kernel_rfl) h) x hx
noncomputable def c36j6 : Cut SN := ⟨[(1, .bp 1 0), (23, .dat (.int .i64)), (24, .dat .bool)], [(1, .st .layoutT)]⟩
noncomputable def c36j15 : Cut SN := ⟨[(1, .bp 1 0)], [(1, .st .layoutT)]⟩
noncomputable def c36r1 : Cut SN := ⟨[(1, .bp 1 0), (21, .dat .bool)], [(1, .st .layoutT)]⟩
noncomputable def c36r13 : Cut SN := ⟨[(1, .bp 1 0), (3, .dat (.int .i64)), (59, .dat .bool)], [(1, .st .layoutT)]⟩
noncomputable def sh36 : Shape vw := { exits := fun id => match id with | 1 => c36j15 | _ => ⟨[], []⟩, rcut := c51r1 }
noncomputable def sig36 : Sig vw := { params := [.dat (.st .layoutT)], rcut := c51r1, rvars := [.tmp 2] }
noncomputable def n_36l11 (v : Int × Layout × Unit) : Option (((Bool × Unit) ⊕ (Layout × Unit))) :=
 if decide (v.1 < (↑v.2.1.parts.length : Int)) = true then
  (if (0 : Int) ≤ v.1 then
     v.2.1.parts[v.1.toNat]? >>= fun x1 =>
     if (x1.kind != (1 : Int)) = true then
      if (0 : Int) ≤ v.1 then
       v.2.1.parts[v.1.toNat]? >>= fun x2 =>
       some ((v.1, x2.kind != (2 : Int), v.2.1, ()))
      else none
     else some ((v.1, false, v.2.1, ()))
    else none) >>= fun x1 =>
  if x1.2.1 = true then
   some (Sum.inl (false, ()))
  else n_36l11 (i64.wrap (x1.1 + (1 : Int)), x1.2.2.1, ())
 else some (Sum.inr (v.2.1, ()))
 partial_fixpoint
noncomputable def n_36 (v : Layout × Unit) : Option (Bool × Unit) :=
 (n_58 (v.1.kind, (0 : Int), (9 : Int), ()) >>= fun x1 =>
   if (!x1.1) = true then
    some ((true, v.1, ()))
   else n_59 (v.1, ()) >>= fun x2 =>
   if (!x2.1) = true then
    some ((true, v.1, ()))
   else if v.1.flag = true then
    some ((v.1.kind != (2 : Int), v.1, ()))
   else some ((false, v.1, ()))) >>= fun x1 =>
 if x1.1 = true then
  some ((false, ()))
 else ((if (x1.2.1.kind == (2 : Int)) = true then
    some ((x1.2.1.kind, true, x1.2.1, ()))
   else some ((x1.2.1.kind, x1.2.1.kind == (7 : Int), x1.2.1, ()))) >>= fun x2 =>
  if x2.2.1 = true then
   some (Sum.inr (decide (x2.2.2.1.n ≥ (1 : Int)), ()))
  else if (x2.1 == (5 : Int)) = true then
   some (Sum.inr (decide (x2.2.2.1.n ≥ (0 : Int)), ()))
  else if (x2.1 == (9 : Int)) = true then
   n_36l11 ((0 : Int), x2.2.2.1, ()) >>= fun x3 => match x3 with
    | .inl y3 => some (Sum.inr y3)
    | .inr y3 => some (Sum.inl (y3.1, ()))
  else some (Sum.inl (x2.2.2.1, ()))) >>= fun x2 => match x2 with
  | .inl y2 => some ((y2.1.n == (0 : Int), ()))
  | .inr y2 => some y2
noncomputable def call36 : Caller vw := fun A fid args S k => match fid with | 58 => callPure prog sig58 n_58 A args S k | 59 => callPure prog sig59 n_59 A args S k | _ => none
noncomputable def x36 : Xc vw := { P := prog, n := 63, call := call36, sh := sh36, joins := fun k => match k with | 6 => some (c36j6, [.norm]) | 15 => some (c36j15, [.norm, .ret]) | _ => none, regs := fun k => match k with | 1 => some c36r1 | 13 => some c36r13 | _ => none, loops := fun k => match k with | 11 => some { cut := c26e0, alts := [.ret, .exit 1], F := n_36l11 } | _ => none }
theorem call36_ok : CallerOk prog call36 := fun A fid args S dst k r h => by
 unfold call36 at h
 split at h
 ·exact callPure_ok (n_58_ok) rfl rfl h
 ·exact callPure_ok (n_59_ok) rfl rfl h
 ·cases h
theorem n_36l11_ok (C : Ctx) (hP : C.P = prog) (hN : C.N = 63) : LoopOk C (loopNo (bodyOf Tryz.f36) 0) (sh := sh36) { cut := c26e0, alts := [.ret, .exit 1], F := n_36l11 } :=
 n_36l11.partial_correctness (motive := fun v out => AWpL C (loopNo (bodyOf Tryz.f36) 0) (encS vw (conc vw c26e0 v)) (OutQ sh36 [.ret, .exit 1] out)) fun F ih v out h =>
  loop_step (X := x36) (b := (loopNo (bodyOf Tryz.f36) 0)) hP hN Ty.mixed call36_ok (lok_all (X := x36) (c := (loopNo (bodyOf Tryz.f36) 0)) (kcast (by kernel_rfl : True = AllB (LoopsP C (x36)) (loopsIn (loopNo (bodyOf Tryz.f36) 0))) trivial)) ih (kcast (by kernel_rfl) h)
theorem n_36_ok : SigOk prog 36 sig36 n_36 := fun v r x h hx =>
 fn_ok (X := x36) (sig := sig36) rfl Tryz.func36 (c := bodyOf Tryz.f36) (by kernel_rfl) Tryz.ntmps36 (by kernel_rfl) (by kernel_rfl) rfl Ty.mixed call36_ok rfl (fun C hP hN => (lok_all (kcast (by kernel_rfl : AllB (LoopsP C (x36)) [(loopNo (bodyOf Tryz.f36) 0)] = AllB (LoopsP C (x36)) (loopsIn (bodyOf Tryz.f36))) ⟨loop_at (X := x36) (b := (loopNo (bodyOf Tryz.f36) 0)) (by kernel_rfl) (n_36l11_ok C hP hN), trivial⟩))) (kcast (by kernel_rfl) h) x hx
noncomputable def c18l5 : Cut SN := ⟨[(3, .dat (.sl (.st .layoutT))), (4, .dat (.int .i64))], []⟩
noncomputable def c18l11 : Cut SN := ⟨[(3, .dat (.sl (.st .layoutT))), (6, .dat (.int .i64))], []⟩
noncomputable def c18r2 : Cut SN := ⟨[(3, .dat (.sl (.st .layoutT))), (21, .dat .bool)], []⟩
noncomputable def c18r8 : Cut SN := ⟨[(3, .dat (.sl (.st .layoutT))), (4, .dat (.int .i64)), (53, .dat .bool)], []⟩
noncomputable def c18e0 : Cut SN := ⟨[(3, .dat (.sl (.st .layoutT)))], []⟩
noncomputable def sh18 : Shape vw := { exits := fun id => match id with | 0 => c18e0 | 2 => c10e0 | _ => ⟨[], []⟩, rcut := c48z }
noncomputable def sig18 : Sig vw := { params := [.dat (.st .layoutT)], rcut := c48z, rvars := [.tmp 2] }
noncomputable def n_18l5 (v : (List Layout) × Int × Unit) : Option (((Int × Unit) ⊕ ((List Layout) × Unit))) :=
 if decide (v.2.1 < (↑v.1.length : Int)) = true then
  if (0 : Int) ≤ v.2.1 then
   v.1[v.2.1.toNat]? >>= fun x1 =>
   (if decide ((↑x1.parts.length : Int) > (12 : Int)) = true then
      some ((v.1, v.2.1, true, ()))
     else n_34 (x1.kind, ()) >>= fun x2 =>
     if decide (x1.n > x2.1) = true then
      some ((v.1, v.2.1, true, ()))
     else if (x1.kind == (9 : Int)) = true then
      n_35 (x1, ()) >>= fun x3 =>
      some ((v.1, v.2.1, decide (x3.1 > (64 : Int)), ()))
     else some ((v.1, v.2.1, false, ()))) >>= fun x2 =>
   if x2.2.2.1 = true then
    some (Sum.inl ((3 : Int), ()))
   else n_18l5 (x2.1, i64.wrap (x2.2.1 + (1 : Int)), ())
  else none
 else some (Sum.inr (v.1, ()))
 partial_fixpoint
noncomputable def n_18l11 (v : (List Layout) × Int × Unit) : Option (((Int × Unit) ⊕ (Unit))) :=
 if decide (v.2.1 < (↑v.1.length : Int)) = true then
  if (0 : Int) ≤ v.2.1 then
   v.1[v.2.1.toNat]? >>= fun x1 =>
   n_36 (x1, ()) >>= fun x2 =>
   if (!x2.1) = true then
    some (Sum.inl ((1 : Int), ()))
   else n_18l11 (v.1, i64.wrap (v.2.1 + (1 : Int)), ())
  else none
 else some (Sum.inr ())
 partial_fixpoint
noncomputable def n_18 (v : Layout × Unit) : Option (Int × Unit) :=
 n_31 (v.1, ()) >>= fun x1 =>
 (if decide ((↑x1.1.length : Int) > (60 : Int)) = true then
    some ((x1.1, true, ()))
   else n_32 (v.1, ()) >>= fun x2 =>
   if decide (x2.1 > (5 : Int)) = true then
    some ((x1.1, true, ()))
   else n_33 (v.1, ()) >>= fun x3 =>
   some ((x1.1, decide (x3.1 > (4096 : Int)), ()))) >>= fun x2 =>
 if x2.2.1 = true then
  some (((3 : Int), ()))
 else n_18l5 (x2.1, (0 : Int), ()) >>= fun x3 => match x3 with
  | .inl y3 => some y3
  | .inr y3 => n_18l11 (y3.1, (0 : Int), ()) >>= fun x4 => match x4 with
    | .inl y4 => some y4
    | .inr y4 => some (((0 : Int), ()))
noncomputable def call18 : Caller vw := fun A fid args S k => match fid with | 31 => callPure prog sig31 n_31 A args S k | 32 => callPure prog sig32 n_32 A args S k | 33 => callPure prog sig33 n_33 A args S k | 34 => callPure prog sig34 n_34 A args S k | 35 => callPure prog sig35 n_35 A args S k | 36 => callPure prog sig36 n_36 A args S k | _ => none
noncomputable def x18 : Xc vw := { P := prog, n := 66, call := call18, sh := sh18, regs := fun k => match k with | 2 => some c18r2 | 8 => some c18r8 | _ => none, loops := fun k => match k with | 5 => some { cut := c18l5, alts := [.ret, .exit 0], F := n_18l5 } | 11 => some { cut := c18l11, alts := [.ret, .exit 2], F := n_18l11 } | _ => none }
theorem call18_ok : CallerOk prog call18 := fun A fid args S dst k r h => by
 unfold call18 at h
 split at h
 ·exact callPure_ok (n_31_ok) rfl rfl h
 ·exact callPure_ok (n_32_ok) rfl rfl h
 ·exact callPure_ok (n_33_ok) rfl rfl h
 ·exact callPure_ok (n_34_ok) rfl rfl h
 ·exact callPure_ok (n_35_ok) rfl rfl h
 ·exact callPure_ok (n_36_ok) rfl rfl h
 ·cases h
theorem n_18l5_ok (C : Ctx) (hP : C.P = prog) (hN : C.N = 66) : LoopOk C (loopNo (bodyOf Tryz.f18) 0) (sh := sh18) { cut := c18l5, alts := [.ret, .exit 0], F := n_18l5 } :=
 n_18l5.partial_correctness (motive := fun v out => AWpL C (loopNo (bodyOf Tryz.f18) 0) (encS vw (conc vw c18l5 v)) (OutQ sh18 [.ret, .exit 0] out)) fun F ih v out h =>
  loop_step (X := x18) (b := (loopNo (bodyOf Tryz.f18) 0)) hP hN Ty.mixed call18_ok (lok_all (X := x18) (c := (loopNo (bodyOf Tryz.f18) 0)) (kcast (by kernel_rfl : True = AllB (LoopsP C (x18)) (loopsIn (loopNo (bodyOf Tryz.f18) 0))) trivial)) ih (kcast (by kernel_rfl) h)
theorem n_18l11_ok (C : Ctx) (hP : C.P = prog) (hN : C.N = 66) : LoopOk C (loopNo (bodyOf Tryz.f18) 1) (sh := sh18) { cut := c18l11, alts := [.ret, .exit 2], F := n_18l11 } :=
 n_18l11.partial_correctness (motive := fun v out => AWpL C (loopNo (bodyOf Tryz.f18) 1) (encS vw (conc vw c18l11 v)) (OutQ sh18 [.ret, .exit 2] out)) fun F ih v out h =>
  loop_step (X := x18) (b := (loopNo (bodyOf Tryz.f18) 1)) hP hN Ty.mixed call18_ok (lok_all (X := x18) (c := (loopNo (bodyOf Tryz.f18) 1)) (kcast (by kernel_rfl : True = AllB (LoopsP C (x18)) (loopsIn (loopNo (bodyOf Tryz.f18) 1))) trivial)) ih (kcast (by kernel_rfl) h)
theorem n_18_ok : SigOk prog 18 sig18 n_18 := fun v r x h hx =>
 fn_ok (X := x18) (sig := sig18) rfl Tryz.func18 (c := bodyOf Tryz.f18) (by kernel_rfl) Tryz.ntmps18 (by kernel_rfl) (by kernel_rfl) rfl Ty.mixed call18_ok rfl (fun C hP hN => (lok_all (kcast (by kernel_rfl : AllB (LoopsP C (x18)) [(loopNo (bodyOf Tryz.f18) 0), (loopNo (bodyOf Tryz.f18) 1)] = AllB (LoopsP C (x18)) (loopsIn (bodyOf Tryz.f18))) ⟨loop_at (X := x18) (b := (loopNo (bodyOf Tryz.f18) 0)) (by kernel_rfl) (n_18l5_ok C hP hN), loop_at (X := x18) (b := (loopNo (bodyOf Tryz.f18) 1)) (by kernel_rfl) (n_18l11_ok C hP hN), trivial⟩))) (kcast (by kernel_rfl) h) x hx
noncomputable def c60l4 : Cut SN := ⟨[(0, .dat (.int .i64)), (1, .dat (.int .i64)), (5, .dat .str)], []⟩
noncomputable def c60e0 : Cut SN := ⟨[(0, .dat (.int .i64)), (5, .dat .str)], []⟩
noncomputable def sh60 : Shape vw := { exits := fun id => match id with | 0 => c60e0 | _ => ⟨[], []⟩, rcut := c30z }
noncomputable def sig60 : Sig vw := { params := [.dat (.int .i64), .dat (.int .i64)], rcut := c30z, rvars := [.tmp 4] }
noncomputable def n_60l4 (v : Int × Int × ByteArray × Unit) : Option ((Int × ByteArray × Unit)) :=
 if decide (v.1 ≥ v.2.1) = true then
  if v.2.1 = (0 : Int) then
   none
  else if v.2.1 = (0 : Int) then
   none
  else if (0 : Int) ≤ v.1.tmod v.2.1 ∧ v.1.tmod v.2.1 ≤ i64.wrap (v.1.tmod v.2.1 + (1 : Int)) ∧ i64.wrap (v.1.tmod v.2.1 + (1 : Int)) ≤ (↑(ByteArray.mk #[48, 49, 50, 51, 52, 53, 54, 55, 56, 57, 97, 98, 99, 100, 101, 102]).size : Int) then
   if ((ByteArray.mk #[48, 49, 50, 51, 52, 53, 54, 55, 56, 57, 97, 98, 99, 100, 101, 102]).extract (v.1.tmod v.2.1).toNat (i64.wrap (v.1.tmod v.2.1 + (1 : Int))).toNat).size + v.2.2.1.size ≤ (4294967296 : Nat) then
    if v.2.1 = (0 : Int) then
     none
    else n_60l4 (i64.wrap (v.1.tdiv v.2.1), v.2.1, (ByteArray.mk #[48, 49, 50, 51, 52, 53, 54, 55, 56, 57, 97, 98, 99, 100, 101, 102]).extract (v.1.tmod v.2.1).toNat (i64.wrap (v.1.tmod v.2.1 + (1 : Int))).toNat ++ v.2.2.1, ())
   else none
  else none
 else some ((v.1, v.2.2.1, ()))
 partial_fixpoint
noncomputable def n_60 (v : Int × Int × Unit) : Option (ByteArray × Unit) :=
 if decide (v.1 < (0 : Int)) = true then
  n_60 (i64.wrap ((0 : Int) - v.1), v.2.1, ()) >>= fun x1 =>
  if (ByteArray.mk #[45]).size + x1.1.size ≤ (4294967296 : Nat) then
   some ((ByteArray.mk #[45] ++ x1.1, ()))
  else none
 else n_60l4 (v.1, v.2.1, ByteArray.mk #[], ()) >>= fun x1 =>
 if (0 : Int) ≤ x1.1 ∧ x1.1 ≤ i64.wrap (x1.1 + (1 : Int)) ∧ i64.wrap (x1.1 + (1 : Int)) ≤ (↑(ByteArray.mk #[48, 49, 50, 51, 52, 53, 54, 55, 56, 57, 97, 98, 99, 100, 101, 102]).size : Int) then
  if ((ByteArray.mk #[48, 49, 50, 51, 52, 53, 54, 55, 56, 57, 97, 98, 99, 100, 101, 102]).extract x1.1.toNat (i64.wrap (x1.1 + (1 : Int))).toNat).size + x1.2.1.size ≤ (4294967296 : Nat) then
   some (((ByteArray.mk #[48, 49, 50, 51, 52, 53, 54, 55, 56, 57, 97, 98, 99, 100, 101, 102]).extract x1.1.toNat (i64.wrap (x1.1 + (1 : Int))).toNat ++ x1.2.1, ()))
  else none
 else none
 partial_fixpoint
noncomputable def call60 (n_60l4 : Int × Int × ByteArray × Unit → Option ((Int × ByteArray × Unit))) (n_60 : Int × Int × Unit → Option (ByteArray × Unit)) : Caller vw := fun A fid args S k => match fid with | 60 => callPure prog sig60 n_60 A args S k | _ => none
noncomputable def x60 (n_60l4 : Int × Int × ByteArray × Unit → Option ((Int × ByteArray × Unit))) (n_60 : Int × Int × Unit → Option (ByteArray × Unit)) : Xc vw := { P := prog, n := 35, call := call60 n_60l4 n_60, sh := sh60, loops := fun k => match k with | 4 => some { cut := c60l4, alts := [.exit 0], F := n_60l4 } | _ => none }
abbrev mn_60l4 (v : Int × Int × ByteArray × Unit) (r : (Int × ByteArray × Unit)) : Prop := (fun v out => ∀ C : Ctx, C.P = prog → C.N = 35 → AWpL C (loopNo (bodyOf Tryz.f60) 0) (encS vw (conc vw c60l4 v)) (OutQ sh60 [.exit 0] out)) v r
theorem cn_60l4 (f0 : Int × Int × ByteArray × Unit → Option ((Int × ByteArray × Unit))) (h0 : ∀ v r, f0 v = some r → mn_60l4 v r) : CallerOk prog (x60 f0 (fun _ => none)).call := (by
    intro A fid args S dst k r h
    unfold x60 call60 at h
    simp only at h
    split at h
    ·exact callPure_ok ((fun v r x h hx => by cases h)) rfl rfl h
    ·cases h)
theorem sn_60l4 (f0 : Int × Int × ByteArray × Unit → Option ((Int × ByteArray × Unit))) (h0 : ∀ v r, f0 v = some r → mn_60l4 v r) (v : Int × Int × ByteArray × Unit) (r : (Int × ByteArray × Unit)) (h : exL (x60 f0 (fun _ => none)) (loopNo (bodyOf Tryz.f60) 0) c60l4 [.exit 0] f0 v = some r) : mn_60l4 v r := fun C hP hN => loop_step (X := x60 f0 (fun _ => none)) (b := (loopNo (bodyOf Tryz.f60) 0)) hP hN Ty.mixed (cn_60l4 f0 h0) (lok_all (X := x60 f0 (fun _ => none)) (c := (loopNo (bodyOf Tryz.f60) 0)) (kcast (by kernel_rfl : True = AllB (LoopsP C (x60 f0 (fun _ => none))) (loopsIn (loopNo (bodyOf Tryz.f60) 0))) trivial)) (cut := c60l4) (alts := [.exit 0]) (F := f0) (fun v out h => h0 v out h C hP hN) h
theorem n_60l4_pc : ∀ v out, n_60l4 v = some out → (fun v out => ∀ C : Ctx, C.P = prog → C.N = 35 → AWpL C (loopNo (bodyOf Tryz.f60) 0) (encS vw (conc vw c60l4 v)) (OutQ sh60 [.exit 0] out)) v out := (n_60l4.partial_correctness (motive := mn_60l4) (fun f0 h0 v r h => sn_60l4 f0 h0 v r (kcast (by kernel_rfl) h)))
abbrev mn_60 (v : Int × Int × Unit) (r : ByteArray × Unit) : Prop := (fun v r => ∀ x, resV prog sig60 r = some x → FnOk prog 60 (encL vw (startS sig60 v).len (startOs sig60 v).1) (encOs (startS sig60 v).len (startS sig60 v).own) (encV vw (conc vw sig60.rcut r).len x) (encOs (conc vw sig60.rcut r).len (kept sig60 r))) v r
theorem cn_60 (f0 : Int × Int × Unit → Option (ByteArray × Unit)) (h0 : ∀ v r, f0 v = some r → mn_60 v r) : CallerOk prog (x60 n_60l4 f0).call := (by
    intro A fid args S dst k r h
    unfold x60 call60 at h
    simp only at h
    split at h
    ·exact callPure_ok ((fun v r x h hx => h0 v r h x hx)) rfl rfl h
    ·cases h)
theorem sn_60 (f0 : Int × Int × Unit → Option (ByteArray × Unit)) (h0 : ∀ v r, f0 v = some r → mn_60 v r) (v : Int × Int × Unit) (r : ByteArray × Unit) (h : exF (x60 n_60l4 f0) sig60 rfl (bodyOf Tryz.f60) v = some r) : mn_60 v r := fun x hx => fn_ok (X := x60 n_60l4 f0) (sig := sig60) rfl Tryz.func60 (c := bodyOf Tryz.f60) (by kernel_rfl) Tryz.ntmps60 (by kernel_rfl) (by kernel_rfl) rfl Ty.mixed (cn_60 f0 h0) rfl (fun C hP hN => (lok_all (X := x60 n_60l4 f0) (c := (bodyOf Tryz.f60)) (kcast (by kernel_rfl : AllB (LoopsP C (x60 n_60l4 f0)) [(loopNo (bodyOf Tryz.f60) 0)] = AllB (LoopsP C (x60 n_60l4 f0)) (loopsIn (bodyOf Tryz.f60))) ⟨loop_at (X := x60 n_60l4 f0) (b := (loopNo (bodyOf Tryz.f60) 0)) (by kernel_rfl) (show LoopOk C (loopNo (bodyOf Tryz.f60) 0) (sh := sh60) { cut := c60l4, alts := [.exit 0], F := n_60l4 } from fun v out h => n_60l4_pc v out h C hP hN), trivial⟩))) h x hx
theorem n_60_ok : SigOk prog 60 sig60 n_60 := fun v r x h hx => (n_60.partial_correctness (motive := mn_60) (fun f0 h0 v r h => sn_60 f0 h0 v r (kcast (by kernel_rfl) h))) v r h x hx
noncomputable def sh37 : Shape vw := { rcut := c28z }
noncomputable def sig37 : Sig vw := { params := [.dat (.int .i64)], rcut := c28z, rvars := [.tmp 2] }
noncomputable def n_37 (v : Int × Unit) : Option (ByteArray × Unit) :=
 n_60 (v.1, (10 : Int), ()) >>= fun x1 =>
 some ((x1.1, ()))
noncomputable def call37 : Caller vw := fun A fid args S k => match fid with | 60 => callPure prog sig60 n_60 A args S k | _ => none
noncomputable def x37 : Xc vw := { P := prog, n := 5, call := call37, sh := sh37 }
theorem call37_ok : CallerOk prog call37 := fun A fid args S dst k r h => by
 unfold call37 at h
 split at h
 ·exact callPure_ok (n_60_ok) rfl rfl h
 ·cases h
theorem n_37_ok : SigOk prog 37 sig37 n_37 := fun v r x h hx =>
 fn_ok (X := x37) (sig := sig37) rfl Tryz.func37 (c := bodyOf Tryz.f37) (by kernel_rfl) Tryz.ntmps37 (by kernel_rfl) (by kernel_rfl) rfl Ty.mixed call37_ok rfl (fun C hP hN => (lok_all (kcast (by kernel_rfl) trivial))) (kcast (by kernel_rfl) h) x hx
noncomputable def c19l24 : Cut SN := ⟨[(1, .bp 1 0), (3, .dat .str), (4, .dat (.int .i64))], [(1, .st .layoutT)]⟩
noncomputable def c19j21 : Cut SN := ⟨[(1, .bp 1 0), (3, .dat .str)], [(1, .st .layoutT)]⟩
noncomputable def c19e1 : Cut SN := ⟨[(3, .dat .str)], []⟩
noncomputable def sh19 : Shape vw := { exits := fun id => match id with | 1 => c19e1 | _ => ⟨[], []⟩, rcut := c28z }
noncomputable def sig19 : Sig vw := { params := [.dat (.st .layoutT)], rcut := c28z, rvars := [.tmp 2] }
mutual
noncomputable def n_19l24 (v : ByteArray × Int × Layout × Unit) : Option ((ByteArray × Unit)) :=
 if decide (v.2.1 < (↑v.2.2.1.parts.length : Int)) = true then
  (if decide (v.2.1 > (0 : Int)) = true then
     if v.1.size + (ByteArray.mk #[44]).size ≤ (4294967296 : Nat) then
      some ((v.1 ++ ByteArray.mk #[44], v.2.1, v.2.2.1, ()))
     else none
    else some ((v.1, v.2.1, v.2.2.1, ()))) >>= fun x1 =>
  if (0 : Int) ≤ x1.2.1 then
   x1.2.2.1.parts[x1.2.1.toNat]? >>= fun x2 =>
   n_19 (x2, ()) >>= fun x3 =>
   if x1.1.size + x3.1.size ≤ (4294967296 : Nat) then
    n_19l24 (x1.1 ++ x3.1, i64.wrap (x1.2.1 + (1 : Int)), x1.2.2.1, ())
   else none
  else none
 else some ((v.1, ()))
 partial_fixpoint
noncomputable def n_19 (v : Layout × Unit) : Option (ByteArray × Unit) :=
 if (v.1.kind == (0 : Int)) = true then
  some ((ByteArray.mk #[118, 111, 105, 100], ()))
 else if (v.1.kind == (1 : Int)) = true then
  some ((ByteArray.mk #[98, 111, 111, 108], ()))
 else if (v.1.kind == (2 : Int)) = true then
  if v.1.flag = true then
   n_37 (v.1.n, ()) >>= fun x1 =>
   if (ByteArray.mk #[105]).size + x1.1.size ≤ (4294967296 : Nat) then
    some ((ByteArray.mk #[105] ++ x1.1, ()))
   else none
  else n_37 (v.1.n, ()) >>= fun x1 =>
  if (ByteArray.mk #[117]).size + x1.1.size ≤ (4294967296 : Nat) then
   some ((ByteArray.mk #[117] ++ x1.1, ()))
  else none
 else if (v.1.kind == (3 : Int)) = true then
  some ((ByteArray.mk #[119, 111, 114, 100], ()))
 else if (v.1.kind == (4 : Int)) = true then
  v.1.parts[Int.toNat (0 : Int)]? >>= fun x1 =>
  n_19 (x1, ()) >>= fun x2 =>
  if (ByteArray.mk #[63]).size + x2.1.size ≤ (4294967296 : Nat) then
   some ((ByteArray.mk #[63] ++ x2.1, ()))
  else none
 else if (v.1.kind == (5 : Int)) = true then
  n_37 (v.1.n, ()) >>= fun x1 =>
  if (ByteArray.mk #[91]).size + x1.1.size ≤ (4294967296 : Nat) then
   if (ByteArray.mk #[91] ++ x1.1).size + (ByteArray.mk #[93]).size ≤ (4294967296 : Nat) then
    v.1.parts[Int.toNat (0 : Int)]? >>= fun x2 =>
    n_19 (x2, ()) >>= fun x3 =>
    if (ByteArray.mk #[91] ++ x1.1 ++ ByteArray.mk #[93]).size + x3.1.size ≤ (4294967296 : Nat) then
     some ((ByteArray.mk #[91] ++ x1.1 ++ ByteArray.mk #[93] ++ x3.1, ()))
    else none
   else none
  else none
 else if (v.1.kind == (7 : Int)) = true then
  n_37 (v.1.n, ()) >>= fun x1 =>
  if (ByteArray.mk #[101, 110, 117, 109, 40]).size + x1.1.size ≤ (4294967296 : Nat) then
   if (ByteArray.mk #[101, 110, 117, 109, 40] ++ x1.1).size + (ByteArray.mk #[41]).size ≤ (4294967296 : Nat) then
    some ((ByteArray.mk #[101, 110, 117, 109, 40] ++ x1.1 ++ ByteArray.mk #[41], ()))
   else none
  else none
 else (if (v.1.kind == (6 : Int)) = true then
   some ((ByteArray.mk #[115, 116, 114, 117, 99, 116, 40], v.1, ()))
  else some ((ByteArray.mk #[112, 97, 99, 107, 101, 100, 40], v.1, ()))) >>= fun x1 =>
 (if (x1.2.1.kind == (8 : Int)) = true then
    some ((ByteArray.mk #[117, 110, 105, 111, 110, 40], x1.2.1, ()))
   else some ((x1.1, x1.2.1, ()))) >>= fun x2 =>
 n_19l24 (x2.1, (0 : Int), x2.2.1, ()) >>= fun x3 =>
 if x3.1.size + (ByteArray.mk #[41]).size ≤ (4294967296 : Nat) then
  some ((x3.1 ++ ByteArray.mk #[41], ()))
 else none
 partial_fixpoint
end
noncomputable def call19 (n_19l24 : ByteArray × Int × Layout × Unit → Option ((ByteArray × Unit))) (n_19 : Layout × Unit → Option (ByteArray × Unit)) : Caller vw := fun A fid args S k => match fid with | 19 => callPure prog sig19 n_19 A args S k | 37 => callPure prog sig37 n_37 A args S k | _ => none
noncomputable def x19 (n_19l24 : ByteArray × Int × Layout × Unit → Option ((ByteArray × Unit))) (n_19 : Layout × Unit → Option (ByteArray × Unit)) : Xc vw := { P := prog, n := 80, call := call19 n_19l24 n_19, sh := sh19, joins := fun k => match k with | 21 => some (c19j21, [.norm]) | 23 => some (c19j21, [.norm]) | 28 => some (c19l24, [.norm]) | _ => none, loops := fun k => match k with | 24 => some { cut := c19l24, alts := [.exit 1], F := n_19l24 } | _ => none }
abbrev mn_19l24 (v : ByteArray × Int × Layout × Unit) (r : (ByteArray × Unit)) : Prop := (fun v out => ∀ C : Ctx, C.P = prog → C.N = 80 → AWpL C (loopNo (bodyOf Tryz.f19) 0) (encS vw (conc vw c19l24 v)) (OutQ sh19 [.exit 1] out)) v r
abbrev mn_19 (v : Layout × Unit) (r : ByteArray × Unit) : Prop := (fun v r => ∀ x, resV prog sig19 r = some x → FnOk prog 19 (encL vw (startS sig19 v).len (startOs sig19 v).1) (encOs (startS sig19 v).len (startS sig19 v).own) (encV vw (conc vw sig19.rcut r).len x) (encOs (conc vw sig19.rcut r).len (kept sig19 r))) v r
theorem cn_19l24 (f0 : ByteArray × Int × Layout × Unit → Option ((ByteArray × Unit))) (f1 : Layout × Unit → Option (ByteArray × Unit)) (h0 : ∀ v r, f0 v = some r → mn_19l24 v r) (h1 : ∀ v r, f1 v = some r → mn_19 v r) : CallerOk prog (x19 f0 f1).call := (by
    intro A fid args S dst k r h
    unfold x19 call19 at h
    simp only at h
    split at h
    ·exact callPure_ok ((fun v r x h hx => h1 v r h x hx)) rfl rfl h
    ·exact callPure_ok (n_37_ok) rfl rfl h
    ·cases h)
theorem sn_19l24 (f0 : ByteArray × Int × Layout × Unit → Option ((ByteArray × Unit))) (f1 : Layout × Unit → Option (ByteArray × Unit)) (h0 : ∀ v r, f0 v = some r → mn_19l24 v r) (h1 : ∀ v r, f1 v = some r → mn_19 v r) (v : ByteArray × Int × Layout × Unit) (r : (ByteArray × Unit)) (h : exL (x19 f0 f1) (loopNo (bodyOf Tryz.f19) 0) c19l24 [.exit 1] f0 v = some r) : mn_19l24 v r := fun C hP hN => loop_step (X := x19 f0 f1) (b := (loopNo (bodyOf Tryz.f19) 0)) hP hN Ty.mixed (cn_19l24 f0 f1 h0 h1) (lok_all (X := x19 f0 f1) (c := (loopNo (bodyOf Tryz.f19) 0)) (kcast (by kernel_rfl : True = AllB (LoopsP C (x19 f0 f1)) (loopsIn (loopNo (bodyOf Tryz.f19) 0))) trivial)) (cut := c19l24) (alts := [.exit 1]) (F := f0) (fun v out h => h0 v out h C hP hN) h
theorem cn_19 (f0 : ByteArray × Int × Layout × Unit → Option ((ByteArray × Unit))) (f1 : Layout × Unit → Option (ByteArray × Unit)) (h0 : ∀ v r, f0 v = some r → mn_19l24 v r) (h1 : ∀ v r, f1 v = some r → mn_19 v r) : CallerOk prog (x19 f0 f1).call := (by
    intro A fid args S dst k r h
    unfold x19 call19 at h
    simp only at h
    split at h
    ·exact callPure_ok ((fun v r x h hx => h1 v r h x hx)) rfl rfl h
    ·exact callPure_ok (n_37_ok) rfl rfl h
    ·cases h)
theorem sn_19 (f0 : ByteArray × Int × Layout × Unit → Option ((ByteArray × Unit))) (f1 : Layout × Unit → Option (ByteArray × Unit)) (h0 : ∀ v r, f0 v = some r → mn_19l24 v r) (h1 : ∀ v r, f1 v = some r → mn_19 v r) (v : Layout × Unit) (r : ByteArray × Unit) (h : exF (x19 f0 f1) sig19 rfl (bodyOf Tryz.f19) v = some r) : mn_19 v r := fun x hx => fn_ok (X := x19 f0 f1) (sig := sig19) rfl Tryz.func19 (c := bodyOf Tryz.f19) (by kernel_rfl) Tryz.ntmps19 (by kernel_rfl) (by kernel_rfl) rfl Ty.mixed (cn_19 f0 f1 h0 h1) rfl (fun C hP hN => (lok_all (X := x19 f0 f1) (c := (bodyOf Tryz.f19)) (kcast (by kernel_rfl : AllB (LoopsP C (x19 f0 f1)) [(loopNo (bodyOf Tryz.f19) 0)] = AllB (LoopsP C (x19 f0 f1)) (loopsIn (bodyOf Tryz.f19))) ⟨loop_at (X := x19 f0 f1) (b := (loopNo (bodyOf Tryz.f19) 0)) (by kernel_rfl) (show LoopOk C (loopNo (bodyOf Tryz.f19) 0) (sh := sh19) { cut := c19l24, alts := [.exit 1], F := f0 } from fun v out h => h0 v out h C hP hN), trivial⟩))) h x hx
theorem n_19l24_all : (∀ v r, n_19l24 v = some r → mn_19l24 v r) ∧ (∀ v r, n_19 v = some r → mn_19 v r) := by
 refine n_19l24.mutual_partial_correctness
  (motive_1 := mn_19l24)
  (motive_2 := mn_19)
  ?_ ?_
 ·exact (fun f0 f1 h0 h1 v r h => sn_19l24 f0 f1 h0 h1 v r (kcast (by kernel_rfl) h))
 ·exact (fun f0 f1 h0 h1 v r h => sn_19 f0 f1 h0 h1 v r (kcast (by kernel_rfl) h))
theorem n_19_ok : SigOk prog 19 sig19 n_19 := fun v r x h hx => n_19l24_all.2 v r h x hx
noncomputable def sh83 : Shape vw := { rcut := c10z }
noncomputable def sig83 : Sig vw := { params := [.dat .str, .dat .str], rcut := c10z, rvars := [.tmp 4] }
noncomputable def n_83 (v : ByteArray × ByteArray × Unit) : Option (Bool × Unit) :=
 (if decide ((↑v.1.size : Int) ≥ (↑v.2.1.size : Int)) = true then
    if (0 : Int) ≤ (0 : Int) ∧ (0 : Int) ≤ (↑v.2.1.size : Int) ∧ (↑v.2.1.size : Int) ≤ (↑v.1.size : Int) then
     some (((v.1.extract (Int.toNat (0 : Int)) (↑v.2.1.size : Int).toNat).toList == v.2.1.toList, ()))
    else none
   else some ((false, ()))) >>= fun x1 =>
 some ((x1.1, ()))
noncomputable def call83 : Caller vw := fun _ _ _ _ _ => none
noncomputable def x83 : Xc vw := { P := prog, n := 18, call := call83, sh := sh83, regs := fun k => match k with | 1 => some c10z | _ => none }
theorem call83_ok : CallerOk prog call83 := call_none
theorem n_83_ok : SigOk prog 83 sig83 n_83 := fun v r x h hx =>
 fn_ok (X := x83) (sig := sig83) rfl Tryz.func83 (c := bodyOf Tryz.f83) (by kernel_rfl) Tryz.ntmps83 (by kernel_rfl) (by kernel_rfl) rfl Ty.mixed call83_ok rfl (fun C hP hN => (lok_all (kcast (by kernel_rfl) trivial))) (kcast (by kernel_rfl) h) x hx
noncomputable def c70z : Cut SN := ⟨[(4, .dat .str), (5, .dat .bool)], []⟩
noncomputable def sh70 : Shape vw := { rcut := c70z }
noncomputable def sig70 : Sig vw := { params := [.dat .str, .dat .str], rcut := c70z, rvars := [.tmp 4, .tmp 5] }
noncomputable def n_70 (v : ByteArray × ByteArray × Unit) : Option (ByteArray × Bool × Unit) :=
 n_83 (v.1, v.2.1, ()) >>= fun x1 =>
 if (!x1.1) = true then
  some ((v.1, false, ()))
 else if (0 : Int) ≤ (↑v.2.1.size : Int) ∧ (↑v.2.1.size : Int) ≤ (↑v.1.size : Int) ∧ (↑v.1.size : Int) ≤ (↑v.1.size : Int) then
  some ((v.1.extract (↑v.2.1.size : Int).toNat (↑v.1.size : Int).toNat, true, ()))
 else none
noncomputable def call70 : Caller vw := fun A fid args S k => match fid with | 83 => callPure prog sig83 n_83 A args S k | _ => none
noncomputable def x70 : Xc vw := { P := prog, n := 15, call := call70, sh := sh70 }
theorem call70_ok : CallerOk prog call70 := fun A fid args S dst k r h => by
 unfold call70 at h
 split at h
 ·exact callPure_ok (n_83_ok) rfl rfl h
 ·cases h
theorem n_70_ok : SigOk prog 70 sig70 n_70 := fun v r x h hx =>
 fn_ok (X := x70) (sig := sig70) rfl Tryz.func70 (c := bodyOf Tryz.f70) (by kernel_rfl) Tryz.ntmps70 (by kernel_rfl) (by kernel_rfl) rfl Ty.mixed call70_ok rfl (fun C hP hN => (lok_all (kcast (by kernel_rfl) trivial))) (kcast (by kernel_rfl) h) x hx
noncomputable def sh61 : Shape vw := { rcut := c70z }
noncomputable def sig61 : Sig vw := { params := [.dat .str, .dat .str], rcut := c70z, rvars := [.tmp 4, .tmp 5] }
noncomputable def n_61 (v : ByteArray × ByteArray × Unit) : Option (ByteArray × Bool × Unit) :=
 n_70 (v.1, v.2.1, ()) >>= fun x1 =>
 some ((x1.1, x1.2.1, ()))
noncomputable def call61 : Caller vw := fun A fid args S k => match fid with | 70 => callPure prog sig70 n_70 A args S k | _ => none
noncomputable def x61 : Xc vw := { P := prog, n := 11, call := call61, sh := sh61 }
theorem call61_ok : CallerOk prog call61 := fun A fid args S dst k r h => by
 unfold call61 at h
 split at h
 ·exact callPure_ok (n_70_ok) rfl rfl h
 ·cases h
theorem n_61_ok : SigOk prog 61 sig61 n_61 := fun v r x h hx =>
 fn_ok (X := x61) (sig := sig61) rfl Tryz.func61 (c := bodyOf Tryz.f61) (by kernel_rfl) Tryz.ntmps61 (by kernel_rfl) (by kernel_rfl) rfl Ty.mixed call61_ok rfl (fun C hP hN => (lok_all (kcast (by kernel_rfl) trivial))) (kcast (by kernel_rfl) h) x hx
noncomputable def c38s5bd0z : Cut SN := ⟨[(0, .bp 100000 0), (4, .dat .bool)], [(100000, .st .readerT)]⟩
noncomputable def sh38s5bd0 : Shape vw := { rcut := c38s5bd0z }
noncomputable def sig38s5bd0 : Sig vw := { params := [.bp 100000 0, .dat .str], objs := [(100000, .st .readerT)], rcut := c38s5bd0z, rvars := [.tmp 4], keep := [100000] }
noncomputable def n_38s5bd0 (v : ByteArray × Reader × Unit) : Option (Bool × Reader × Unit) :=
 n_61 (v.2.1.s, v.1, ()) >>= fun x1 =>
 some ((x1.2.1, Reader.mk x1.1 v.2.1.bad, ()))
noncomputable def call38s5bd0 : Caller vw := fun A fid args S k => match fid with | 61 => callPure prog sig61 n_61 A args S k | _ => none
noncomputable def x38s5bd0 : Xc vw := { P := prog, n := 21, call := call38s5bd0, sh := sh38s5bd0 }
theorem call38s5bd0_ok : CallerOk prog call38s5bd0 := fun A fid args S dst k r h => by
 unfold call38s5bd0 at h
 split at h
 ·exact callPure_ok (n_61_ok) rfl rfl h
 ·cases h
theorem n_38s5bd0_ok : SigOk prog 38 sig38s5bd0 n_38s5bd0 := fun v r x h hx =>
 fn_ok (X := x38s5bd0) (sig := sig38s5bd0) rfl Tryz.func38 (c := bodyOf Tryz.f38) (by kernel_rfl) Tryz.ntmps38 (by kernel_rfl) (by kernel_rfl) rfl Ty.mixed call38s5bd0_ok rfl (fun C hP hN => (lok_all (kcast (by kernel_rfl) trivial))) (kcast (by kernel_rfl) h) x hx
noncomputable def sig62 : Sig vw := { params := [.dat .str, .dat .str], rcut := c30z, rvars := [.tmp 4] }
noncomputable def n_62 (v : ByteArray × ByteArray × Unit) : Option (ByteArray × Unit) :=
 if v.2.1.size < 4294967281 ∧ v.2.1.data.toList.all (fun b => decide (b.toNat < 128)) = true then some (⟨(Lib.trimLeftS v.1.data.toList v.2.1.data.toList).toArray⟩, ()) else none
theorem n_62_ok : SigOk prog 62 sig62 n_62 := fun v r x h hx => by
 obtain ⟨s, c, u⟩ := v
 unfold n_62 at h
 split at h
 ·rename_i hc
  obtain ⟨h0, h1⟩ := hc
  simp only at h0 h1
  cases h; cases hx
  exact kcast (by kernel_rfl) (FnOk.pure (P := prog) (f := 62) (args := [.d (.v (.string s)), .d (.v (.string c))]) (r := .d (.v (.string ⟨(Lib.trimLeftS s.data.toList c.data.toList).toArray⟩))) (by kernel_rfl) fun E M w vs hg hm hv => by
   obtain ⟨v1, v2, rfl, h2, h3⟩ := hreps_two hv
   rw [h2.dv, h3.dv]
   exact (Tryz.strings_TrimLeft_laid s c w h0 (fun j b hb => of_decide_eq_true (List.all_eq_true.1 h1 b (List.mem_of_getElem? hb)))).mono fun e w' ⟨he, hw⟩ => ⟨_, he, .d (.v _), hw⟩)
 ·cases h
noncomputable def c63z : Cut SN := ⟨[(2, .dat (.int .i64)), (3, .dat .er)], []⟩
noncomputable def sig63 : Sig vw := { params := [.dat .str], rcut := c63z, rvars := [.tmp 2, .tmp 3] }
noncomputable def n_63 (v : ByteArray × Unit) : Option (Int × Bool × Unit) :=
 if v.1.size ≤ 1000000000000 then (match Lib.atoiAll v.1.data.toList with | .ok n => some (n, false, ()) | .range => some (Lib.atoiSat v.1.data.toList, true, ()) | _ => some (0, true, ())) else none
theorem n_63_ok : SigOk prog 63 sig63 n_63 := fun v r x h hx => by
 obtain ⟨s, u⟩ := v
 unfold n_63 at h
 split at h
 ·rename_i hc
  simp only at hc h
  cases hq : Lib.atoiAll s.data.toList with
  | ok n =>
   simp only [hq] at h
   cases h; cases hx
   exact kcast (by kernel_rfl) (FnOk.pure (P := prog) (f := 63) (args := [.d (.v (.string s))]) (r := .tup [.d (.v (.int .i64 n)), .d (.er false)]) (by kernel_rfl) fun E M w vs hg hm hv => by
    obtain ⟨v1, rfl, h1⟩ := hreps_one hv
    rw [h1.dv]
    exact (Tryz.strconv_Atoi_ok s (by omega) n hq w).mono fun e w' ⟨he, hw⟩ => ⟨_, he, hrep_er .ern, below_bytes hw⟩)
  | range =>
   simp only [hq] at h
   cases h; cases hx
   exact kcast (by kernel_rfl) (FnOk.pure (P := prog) (f := 63) (args := [.d (.v (.string s))]) (r := .tup [.d (.v (.int .i64 (Lib.atoiSat s.data.toList))), .d (.er true)]) (by kernel_rfl) fun E M w vs hg hm hv => by
    obtain ⟨v1, rfl, h1⟩ := hreps_one hv
    rw [h1.dv]
    obtain ⟨te, pe, hev⟩ := gm_range hg hm
    exact (Tryz.strconv_Atoi_range s (by omega) hq _ w hev (.inr ⟨te, pe, rfl⟩)).mono fun e w' ⟨N, he, _, _, hw⟩ => ⟨_, he, hrep_er (.ere _ _), hw⟩)
  | _ =>
   simp only [hq] at h
   cases h; cases hx
   exact kcast (by kernel_rfl) (FnOk.pure (P := prog) (f := 63) (args := [.d (.v (.string s))]) (r := .tup [.d (.v (.int .i64 0)), .d (.er true)]) (by kernel_rfl) fun E M w vs hg hm hv => by
    obtain ⟨v1, rfl, h1⟩ := hreps_one hv
    rw [h1.dv]
    obtain ⟨te, pe, hev⟩ := gm_syntax hg hm
    exact (Tryz.strconv_Atoi_syntax s (by omega) ⟨fun n hn => (by rw [hq] at hn; cases hn), fun hn => (by rw [hq] at hn; cases hn)⟩ _ w hev (.inr ⟨te, pe, rfl⟩)).mono fun e w' ⟨N, he, _, _, hw⟩ => ⟨_, he, hrep_er (.ere _ _), hw⟩)
 ·cases h
noncomputable def c39s0e1dr5 : Cut SN := ⟨[(0, .bp 100000 0), (5, .dat (.int .i64))], [(100000, .st .readerT)]⟩
noncomputable def c39s0e1dz : Cut SN := ⟨[(0, .bp 100000 0), (2, .dat (.int .i64))], [(100000, .st .readerT)]⟩
noncomputable def sh39s0e1d : Shape vw := { rcut := c39s0e1dz }
noncomputable def sig39s0e1d : Sig vw := { params := [.bp 100000 0], objs := [(100000, .st .readerT)], rcut := c39s0e1dz, rvars := [.tmp 2], keep := [100000] }
noncomputable def n_39s0e1d (v : Reader × Unit) : Option (Int × Reader × Unit) :=
 n_62 (v.1.s, ByteArray.mk #[48, 49, 50, 51, 52, 53, 54, 55, 56, 57], ()) >>= fun x1 =>
 if (0 : Int) ≤ (0 : Int) ∧ (0 : Int) ≤ i64.wrap ((↑v.1.s.size : Int) - (↑x1.1.size : Int)) ∧ i64.wrap ((↑v.1.s.size : Int) - (↑x1.1.size : Int)) ≤ (↑v.1.s.size : Int) then
  n_63 (v.1.s.extract (Int.toNat (0 : Int)) (i64.wrap ((↑v.1.s.size : Int) - (↑x1.1.size : Int))).toNat, ()) >>= fun x2 =>
  (if v.1.bad = true then
     some ((x2.1, Reader.mk x1.1 true, ()))
    else if x2.2.1 = true then
     some ((x2.1, Reader.mk x1.1 true, ()))
    else n_28 (x2.1, ()) >>= fun x3 =>
    some ((x2.1, Reader.mk x1.1 !x3.1.toList == (v.1.s.extract (Int.toNat (0 : Int)) (i64.wrap ((↑v.1.s.size : Int) - (↑x1.1.size : Int))).toNat).toList, ()))) >>= fun x3 =>
  some ((x3.1, x3.2.1, ()))
 else none
noncomputable def call39s0e1d : Caller vw := fun A fid args S k => match fid with | 28 => callPure prog sig28 n_28 A args S k | 62 => callPure prog sig62 n_62 A args S k | 63 => callPure prog sig63 n_63 A args S k | _ => none
noncomputable def x39s0e1d : Xc vw := { P := prog, n := 52, call := call39s0e1d, sh := sh39s0e1d, regs := fun k => match k with | 5 => some c39s0e1dr5 | _ => none }
theorem call39s0e1d_ok : CallerOk prog call39s0e1d := fun A fid args S dst k r h => by
 unfold call39s0e1d at h
 split at h
 ·exact callPure_ok (n_28_ok) rfl rfl h
 ·exact callPure_ok (n_62_ok) rfl rfl h
 ·exact callPure_ok (n_63_ok) rfl rfl h
 ·cases h
theorem n_39s0e1d_ok : SigOk prog 39 sig39s0e1d n_39s0e1d := fun v r x h hx =>
 fn_ok (X := x39s0e1d) (sig := sig39s0e1d) rfl Tryz.func39 (c := bodyOf Tryz.f39) (by kernel_rfl) Tryz.ntmps39 (by kernel_rfl) (by kernel_rfl) rfl Ty.mixed call39s0e1d_ok rfl (fun C hP hN => (lok_all (kcast (by kernel_rfl) trivial))) (kcast (by kernel_rfl) h) x hx
end Go.Proofs.YtogoamfegaebgaaGreatDoor
end
section
namespace Go.Proofs.YtogoamfegaebgaaGreatDoor
open Go.Awp Go.Tx
open IntKind (i64)
open Go.Proofs.Tryz (prog)
set_option maxRecDepth 100000
noncomputable def c40s5bd0r0 : Cut SN := ⟨[(0, .bp 100000 0)], [(100000, .st .readerT)]⟩
noncomputable def sh40s5bd0 : Shape vw := { rcut := c40s5bd0r0 }
noncomputable def sig40s5bd0 : Sig vw := { params := [.bp 100000 0, .dat .str], objs := [(100000, .st .readerT)], rcut := c40s5bd0r0, rvars := [], keep := [100000] }
noncomputable def n_40s5bd0 (v : ByteArray × Reader × Unit) : Option (Reader × Unit) :=
 (n_38s5bd0 (v.1, v.2.1, ()) >>= fun x1 =>
   if (!x1.1) = true then
    some ((Reader.mk x1.2.1.s true, ()))
   else some ((Reader.mk x1.2.1.s x1.2.1.bad, ()))) >>= fun x1 =>
 some ((x1.1, ()))
noncomputable def call40s5bd0 : Caller vw := fun A fid args S k => match fid with | 38 => callObj prog sig38s5bd0 n_38s5bd0 A args S k | _ => none
noncomputable def x40s5bd0 : Xc vw := { P := prog, n := 17, call := call40s5bd0, sh := sh40s5bd0, regs := fun k => match k with | 0 => some c40s5bd0r0 | _ => none }
theorem call40s5bd0_ok : CallerOk prog call40s5bd0 := fun A fid args S dst k r h => by
 unfold call40s5bd0 at h
 split at h
 ·exact callObj_ok (n_38s5bd0_ok) h
 ·cases h
theorem n_40s5bd0_ok : SigOk prog 40 sig40s5bd0 n_40s5bd0 := fun v r x h hx =>
 fn_ok (X := x40s5bd0) (sig := sig40s5bd0) rfl Tryz.func40 (c := bodyOf Tryz.f40) (by kernel_rfl) Tryz.ntmps40 (by kernel_rfl) (by kernel_rfl) rfl Ty.mixed call40s5bd0_ok rfl (fun C hP hN => (lok_all (kcast (by kernel_rfl) trivial))) (kcast (by kernel_rfl) h) x hx
noncomputable def c20s33bfl22 : Cut SN := ⟨[(0, .bp 100000 0), (1, .dat (.int .i64)), (4, .bp 4 0), (71, .bp 71 0)], [(100000, .st .readerT), (4, .st .layoutT), (71, .miter 90280 (.int .i64) .str)]⟩
noncomputable def c20s33bfr1 : Cut SN := ⟨[(0, .bp 100000 0), (1, .dat (.int .i64)), (4, .bp 4 0)], [(100000, .st .readerT), (4, .st .layoutT)]⟩
noncomputable def c20s33bfe1 : Cut SN := ⟨[(0, .bp 100000 0), (4, .bp 4 0)], [(100000, .st .readerT), (4, .st .layoutT)]⟩
noncomputable def sh20s33bf : Shape vw := { exits := fun id => match id with | 1 => c20s33bfe1 | _ => ⟨[], []⟩, rcut := c20s33bfe1 }
noncomputable def sig20s33bf : Sig vw := { params := [.bp 100000 0, .dat (.int .i64)], objs := [(100000, .st .readerT)], rcut := c20s33bfe1, rvars := [.cell 4 24], keep := [100000] }
noncomputable def c41s33bfl4 : Cut SN := ⟨[(0, .bp 100000 0), (1, .dat (.int .i64)), (5, .vh 1005)], [(100000, .st .readerT), (1005, .vec 24 (.st .layoutT))]⟩
noncomputable def c41s33bfr5 : Cut SN := ⟨[(0, .bp 100000 0), (1, .dat (.int .i64)), (5, .vh 1005), (22, .dat .bool)], [(100000, .st .readerT), (1005, .vec 24 (.st .layoutT))]⟩
noncomputable def c41s33bfz : Cut SN := ⟨[(0, .bp 100000 0), (4, .dat (.sl (.st .layoutT)))], [(100000, .st .readerT)]⟩
noncomputable def sh41s33bf : Shape vw := { rcut := c41s33bfz }
noncomputable def sig41s33bf : Sig vw := { params := [.bp 100000 0, .dat (.int .i64)], objs := [(100000, .st .readerT)], rcut := c41s33bfz, rvars := [.tmp 4], keep := [100000] }
mutual
noncomputable def n_20s33bfl22 (v : Int × Reader × Layout × (List (Int × ByteArray)) × (List (Int × ByteArray)) × Unit) : Option (((Reader × Layout × Unit) ⊕ (Reader × Layout × Unit))) :=
 if v.2.2.2.2.1.isEmpty = true then
  some (Sum.inr (v.2.1, v.2.2.1, ()))
 else List.mapM (fun q1 =>
  if q1.1.2.size + (ByteArray.mk #[40]).size ≤ (4294967296 : Nat) then
   n_38s5bd0 (q1.1.2 ++ ByteArray.mk #[40], v.2.1, ()) >>= fun x2 =>
   if x2.1 = true then
    n_41s33bf (i64.wrap (v.1 + (1 : Int)), x2.2.1, ()) >>= fun x3 =>
    some (Sum.inl (x3.2.1, Layout.mk q1.1.1 (0 : Int) false x3.1, ()))
   else n_20s33bfl22 (v.1, x2.2.1, v.2.2.1, v.2.2.2.1, q1.2, ())
  else none) (Tx.steps v.2.2.2.2.1) >>= same
 partial_fixpoint
noncomputable def n_41s33bf (v : Int × Reader × Unit) : Option ((List Layout) × Reader × Unit) :=
 n_38s5bd0 (ByteArray.mk #[41], v.2.1, ()) >>= fun x1 =>
 if x1.1 = true then
  some (([], x1.2.1, ()))
 else n_41s33bfl4 (v.1, x1.2.1, [], ()) >>= fun x2 =>
 some x2
 partial_fixpoint
noncomputable def n_41s33bfl4 (v : Int × Reader × (List Layout) × Unit) : Option (((List Layout) × Reader × Unit)) :=
 n_20s33bf (v.1, v.2.1, ()) >>= fun x1 =>
 if v.2.2.1.length + [x1.2.1].length ≤ (4294967296 : Nat) then
  (if x1.1.bad = true then
     some ((v.1, true, x1.1, v.2.2.1 ++ [x1.2.1], ()))
    else n_38s5bd0 (ByteArray.mk #[44], x1.1, ()) >>= fun x2 =>
    some ((v.1, !x2.1, x2.2.1, v.2.2.1 ++ [x1.2.1], ()))) >>= fun x2 =>
  if x2.2.1 = true then
   n_40s5bd0 (ByteArray.mk #[41], x2.2.2.1, ()) >>= fun x3 =>
   some ((x2.2.2.2.1, x3.1, ()))
  else n_41s33bfl4 (x2.1, x2.2.2.1, x2.2.2.2.1, ())
 else none
 partial_fixpoint
noncomputable def n_20s33bf (v : Int × Reader × Unit) : Option (Reader × Layout × Unit) :=
 (if v.2.1.bad = true then
    some ((v.1, Reader.mk v.2.1.s true, Layout.mk (0 : Int) (0 : Int) false [], ()))
   else some ((v.1, Reader.mk v.2.1.s (decide (v.1 > (5 : Int))), Layout.mk (0 : Int) (0 : Int) false [], ()))) >>= fun x1 =>
 if x1.2.1.bad = true then
  some ((x1.2.1, Layout.mk (0 : Int) (0 : Int) false [], ()))
 else n_38s5bd0 (ByteArray.mk #[118, 111, 105, 100], x1.2.1, ()) >>= fun x2 =>
 if x2.1 = true then
  some ((x2.2.1, Layout.mk (0 : Int) (0 : Int) false [], ()))
 else n_38s5bd0 (ByteArray.mk #[98, 111, 111, 108], x2.2.1, ()) >>= fun x3 =>
 if x3.1 = true then
  some ((x3.2.1, Layout.mk (1 : Int) (0 : Int) false [], ()))
 else n_38s5bd0 (ByteArray.mk #[119, 111, 114, 100], x3.2.1, ()) >>= fun x4 =>
 if x4.1 = true then
  some ((x4.2.1, Layout.mk (3 : Int) (0 : Int) false [], ()))
 else n_38s5bd0 (ByteArray.mk #[63], x4.2.1, ()) >>= fun x5 =>
 if x5.1 = true then
  n_20s33bf (i64.wrap (x1.1 + (1 : Int)), x5.2.1, ()) >>= fun x6 =>
  some ((x6.1, Layout.mk (4 : Int) (0 : Int) false [x6.2.1], ()))
 else n_38s5bd0 (ByteArray.mk #[91], x5.2.1, ()) >>= fun x6 =>
 if x6.1 = true then
  n_39s0e1d (x6.2.1, ()) >>= fun x7 =>
  n_40s5bd0 (ByteArray.mk #[93], x7.2.1, ()) >>= fun x8 =>
  n_20s33bf (i64.wrap (x1.1 + (1 : Int)), x8.1, ()) >>= fun x9 =>
  some ((x9.1, Layout.mk (Layout.mk (5 : Int) x7.1 false []).kind (Layout.mk (5 : Int) x7.1 false []).n (Layout.mk (5 : Int) x7.1 false []).flag [x9.2.1], ()))
 else n_38s5bd0 (ByteArray.mk #[101, 110, 117, 109, 40], x6.2.1, ()) >>= fun x7 =>
 if x7.1 = true then
  n_39s0e1d (x7.2.1, ()) >>= fun x8 =>
  n_40s5bd0 (ByteArray.mk #[41], x8.2.1, ()) >>= fun x9 =>
  some ((x9.1, Layout.mk (7 : Int) x8.1 false [], ()))
 else n_29 () >>= fun x8 =>
 n_20s33bfl22 (x1.1, x7.2.1, x1.2.2.1, x8.1, x8.1, ()) >>= fun x9 => match x9 with
  | .inl y9 => some y9
  | .inr y9 => n_38s5bd0 (ByteArray.mk #[117], y9.1, ()) >>= fun x10 =>
   if x10.1 = true then
    n_39s0e1d (x10.2.1, ()) >>= fun x11 =>
    some ((x11.2.1, Layout.mk (2 : Int) x11.1 false [], ()))
   else n_40s5bd0 (ByteArray.mk #[105], x10.2.1, ()) >>= fun x11 =>
   n_39s0e1d (x11.1, ()) >>= fun x12 =>
   some ((x12.2.1, Layout.mk (2 : Int) x12.1 true [], ()))
 partial_fixpoint
end
noncomputable def call20s33bf (n_20s33bfl22 : Int × Reader × Layout × (List (Int × ByteArray)) × (List (Int × ByteArray)) × Unit → Option (((Reader × Layout × Unit) ⊕ (Reader × Layout × Unit)))) (n_41s33bf : Int × Reader × Unit → Option ((List Layout) × Reader × Unit)) (n_41s33bfl4 : Int × Reader × (List Layout) × Unit → Option (((List Layout) × Reader × Unit))) (n_20s33bf : Int × Reader × Unit → Option (Reader × Layout × Unit)) : Caller vw := fun A fid args S k => match fid with | 20 => callObj prog sig20s33bf n_20s33bf A args S k | 29 => callObj prog sig29 n_29 A args S k | 38 => callObj prog sig38s5bd0 n_38s5bd0 A args S k | 39 => callObj prog sig39s0e1d n_39s0e1d A args S k | 40 => callObj prog sig40s5bd0 n_40s5bd0 A args S k | 41 => callObj prog sig41s33bf n_41s33bf A args S k | _ => none
noncomputable def x20s33bf (n_20s33bfl22 : Int × Reader × Layout × (List (Int × ByteArray)) × (List (Int × ByteArray)) × Unit → Option (((Reader × Layout × Unit) ⊕ (Reader × Layout × Unit)))) (n_41s33bf : Int × Reader × Unit → Option ((List Layout) × Reader × Unit)) (n_41s33bfl4 : Int × Reader × (List Layout) × Unit → Option (((List Layout) × Reader × Unit))) (n_20s33bf : Int × Reader × Unit → Option (Reader × Layout × Unit)) : Xc vw := { P := prog, n := 97, call := call20s33bf n_20s33bfl22 n_41s33bf n_41s33bfl4 n_20s33bf, sh := sh20s33bf, regs := fun k => match k with | 1 => some c20s33bfr1 | _ => none, loops := fun k => match k with | 22 => some { cut := c20s33bfl22, alts := [.ret, .exit 1], F := n_20s33bfl22 } | _ => none }
noncomputable def call41s33bf (n_20s33bfl22 : Int × Reader × Layout × (List (Int × ByteArray)) × (List (Int × ByteArray)) × Unit → Option (((Reader × Layout × Unit) ⊕ (Reader × Layout × Unit)))) (n_41s33bf : Int × Reader × Unit → Option ((List Layout) × Reader × Unit)) (n_41s33bfl4 : Int × Reader × (List Layout) × Unit → Option (((List Layout) × Reader × Unit))) (n_20s33bf : Int × Reader × Unit → Option (Reader × Layout × Unit)) : Caller vw := fun A fid args S k => match fid with | 20 => callObj prog sig20s33bf n_20s33bf A args S k | 38 => callObj prog sig38s5bd0 n_38s5bd0 A args S k | 40 => callObj prog sig40s5bd0 n_40s5bd0 A args S k | _ => none
noncomputable def x41s33bf (n_20s33bfl22 : Int × Reader × Layout × (List (Int × ByteArray)) × (List (Int × ByteArray)) × Unit → Option (((Reader × Layout × Unit) ⊕ (Reader × Layout × Unit)))) (n_41s33bf : Int × Reader × Unit → Option ((List Layout) × Reader × Unit)) (n_41s33bfl4 : Int × Reader × (List Layout) × Unit → Option (((List Layout) × Reader × Unit))) (n_20s33bf : Int × Reader × Unit → Option (Reader × Layout × Unit)) : Xc vw := { P := prog, n := 26, call := call41s33bf n_20s33bfl22 n_41s33bf n_41s33bfl4 n_20s33bf, sh := sh41s33bf, regs := fun k => match k with | 5 => some c41s33bfr5 | _ => none, loops := fun k => match k with | 4 => some { cut := c41s33bfl4, alts := [.ret], F := n_41s33bfl4 } | _ => none }
abbrev mn_20s33bfl22 (v : Int × Reader × Layout × (List (Int × ByteArray)) × (List (Int × ByteArray)) × Unit) (r : ((Reader × Layout × Unit) ⊕ (Reader × Layout × Unit))) : Prop := (fun v out => ∀ C : Ctx, C.P = prog → C.N = 97 → AWpL C (loopNo (bodyOf Tryz.f20) 0) (encS vw (conc vw c20s33bfl22 v)) (OutQ sh20s33bf [.ret, .exit 1] out)) v r
abbrev mn_41s33bf (v : Int × Reader × Unit) (r : (List Layout) × Reader × Unit) : Prop := (fun v r => ∀ x, resV prog sig41s33bf r = some x → FnOk prog 41 (encL vw (startS sig41s33bf v).len (startOs sig41s33bf v).1) (encOs (startS sig41s33bf v).len (startS sig41s33bf v).own) (encV vw (conc vw sig41s33bf.rcut r).len x) (encOs (conc vw sig41s33bf.rcut r).len (kept sig41s33bf r))) v r
abbrev mn_41s33bfl4 (v : Int × Reader × (List Layout) × Unit) (r : ((List Layout) × Reader × Unit)) : Prop := (fun v out => ∀ C : Ctx, C.P = prog → C.N = 26 → AWpL C (loopNo (bodyOf Tryz.f41) 0) (encS vw (conc vw c41s33bfl4 v)) (OutQ sh41s33bf [.ret] out)) v r
abbrev mn_20s33bf (v : Int × Reader × Unit) (r : Reader × Layout × Unit) : Prop := (fun v r => ∀ x, resV prog sig20s33bf r = some x → FnOk prog 20 (encL vw (startS sig20s33bf v).len (startOs sig20s33bf v).1) (encOs (startS sig20s33bf v).len (startS sig20s33bf v).own) (encV vw (conc vw sig20s33bf.rcut r).len x) (encOs (conc vw sig20s33bf.rcut r).len (kept sig20s33bf r))) v r
theorem cn_20s33bfl22 (f0 : Int × Reader × Layout × (List (Int × ByteArray)) × (List (Int × ByteArray)) × Unit → Option (((Reader × Layout × Unit) ⊕ (Reader × Layout × Unit)))) (f1 : Int × Reader × Unit → Option ((List Layout) × Reader × Unit)) (h0 : ∀ v r, f0 v = some r → mn_20s33bfl22 v r) (h1 : ∀ v r, f1 v = some r → mn_41s33bf v r) : CallerOk prog (x20s33bf f0 f1 (fun _ => none) (fun _ => none)).call := (by
    intro A fid args S dst k r h
    unfold x20s33bf call20s33bf at h
    simp only at h
    split at h
    ·exact callObj_ok ((fun v r x h hx => by cases h)) h
    ·exact callObj_ok (n_29_ok) h
    ·exact callObj_ok (n_38s5bd0_ok) h
    ·exact callObj_ok (n_39s0e1d_ok) h
    ·exact callObj_ok (n_40s5bd0_ok) h
    ·exact callObj_ok ((fun v r x h hx => h1 v r h x hx)) h
    ·cases h)
theorem sn_20s33bfl22 (f0 : Int × Reader × Layout × (List (Int × ByteArray)) × (List (Int × ByteArray)) × Unit → Option (((Reader × Layout × Unit) ⊕ (Reader × Layout × Unit)))) (f1 : Int × Reader × Unit → Option ((List Layout) × Reader × Unit)) (h0 : ∀ v r, f0 v = some r → mn_20s33bfl22 v r) (h1 : ∀ v r, f1 v = some r → mn_41s33bf v r) (v : Int × Reader × Layout × (List (Int × ByteArray)) × (List (Int × ByteArray)) × Unit) (r : ((Reader × Layout × Unit) ⊕ (Reader × Layout × Unit))) (h : exL (x20s33bf f0 f1 (fun _ => none) (fun _ => none)) (loopNo (bodyOf Tryz.f20) 0) c20s33bfl22 [.ret, .exit 1] f0 v = some r) : mn_20s33bfl22 v r := fun C hP hN => loop_step (X := x20s33bf f0 f1 (fun _ => none) (fun _ => none)) (b := (loopNo (bodyOf Tryz.f20) 0)) hP hN Ty.mixed (cn_20s33bfl22 f0 f1 h0 h1) (lok_all (X := x20s33bf f0 f1 (fun _ => none) (fun _ => none)) (c := (loopNo (bodyOf Tryz.f20) 0)) (kcast (by kernel_rfl : True = AllB (LoopsP C (x20s33bf f0 f1 (fun _ => none) (fun _ => none))) (loopsIn (loopNo (bodyOf Tryz.f20) 0))) trivial)) (cut := c20s33bfl22) (alts := [.ret, .exit 1]) (F := f0) (fun v out h => h0 v out h C hP hN) h
theorem cn_41s33bf (f0 : Int × Reader × (List Layout) × Unit → Option (((List Layout) × Reader × Unit))) (h0 : ∀ v r, f0 v = some r → mn_41s33bfl4 v r) : CallerOk prog (x41s33bf (fun _ => none) (fun _ => none) f0 (fun _ => none)).call := (by
    intro A fid args S dst k r h
    unfold x41s33bf call41s33bf at h
    simp only at h
    split at h
    ·exact callObj_ok ((fun v r x h hx => by cases h)) h
    ·exact callObj_ok (n_38s5bd0_ok) h
    ·exact callObj_ok (n_40s5bd0_ok) h
    ·cases h)
theorem sn_41s33bf (f0 : Int × Reader × (List Layout) × Unit → Option (((List Layout) × Reader × Unit))) (h0 : ∀ v r, f0 v = some r → mn_41s33bfl4 v r) (v : Int × Reader × Unit) (r : (List Layout) × Reader × Unit) (h : exF (x41s33bf (fun _ => none) (fun _ => none) f0 (fun _ => none)) sig41s33bf rfl (bodyOf Tryz.f41) v = some r) : mn_41s33bf v r := fun x hx => fn_ok (X := x41s33bf (fun _ => none) (fun _ => none) f0 (fun _ => none)) (sig := sig41s33bf) rfl Tryz.func41 (c := bodyOf Tryz.f41) (by kernel_rfl) Tryz.ntmps41 (by kernel_rfl) (by kernel_rfl) rfl Ty.mixed (cn_41s33bf f0 h0) rfl (fun C hP hN => (lok_all (X := x41s33bf (fun _ => none) (fun _ => none) f0 (fun _ => none)) (c := (bodyOf Tryz.f41)) (kcast (by kernel_rfl : AllB (LoopsP C (x41s33bf (fun _ => none) (fun _ => none) f0 (fun _ => none))) [(loopNo (bodyOf Tryz.f41) 0)] = AllB (LoopsP C (x41s33bf (fun _ => none) (fun _ => none) f0 (fun _ => none))) (loopsIn (bodyOf Tryz.f41))) ⟨loop_at (X := x41s33bf (fun _ => none) (fun _ => none) f0 (fun _ => none)) (b := (loopNo (bodyOf Tryz.f41) 0)) (by kernel_rfl) (show LoopOk C (loopNo (bodyOf Tryz.f41) 0) (sh := sh41s33bf) { cut := c41s33bfl4, alts := [.ret], F := f0 } from fun v out h => h0 v out h C hP hN), trivial⟩))) h x hx
theorem cn_41s33bfl4 (f0 : Int × Reader × (List Layout) × Unit → Option (((List Layout) × Reader × Unit))) (f1 : Int × Reader × Unit → Option (Reader × Layout × Unit)) (h0 : ∀ v r, f0 v = some r → mn_41s33bfl4 v r) (h1 : ∀ v r, f1 v = some r → mn_20s33bf v r) : CallerOk prog (x41s33bf (fun _ => none) (fun _ => none) f0 f1).call := (by
    intro A fid args S dst k r h
    unfold x41s33bf call41s33bf at h
    simp only at h
    split at h
    ·exact callObj_ok ((fun v r x h hx => h1 v r h x hx)) h
    ·exact callObj_ok (n_38s5bd0_ok) h
    ·exact callObj_ok (n_40s5bd0_ok) h
    ·cases h)
theorem sn_41s33bfl4 (f0 : Int × Reader × (List Layout) × Unit → Option (((List Layout) × Reader × Unit))) (f1 : Int × Reader × Unit → Option (Reader × Layout × Unit)) (h0 : ∀ v r, f0 v = some r → mn_41s33bfl4 v r) (h1 : ∀ v r, f1 v = some r → mn_20s33bf v r) (v : Int × Reader × (List Layout) × Unit) (r : ((List Layout) × Reader × Unit)) (h : exL (x41s33bf (fun _ => none) (fun _ => none) f0 f1) (loopNo (bodyOf Tryz.f41) 0) c41s33bfl4 [.ret] f0 v = some r) : mn_41s33bfl4 v r := fun C hP hN => loop_step (X := x41s33bf (fun _ => none) (fun _ => none) f0 f1) (b := (loopNo (bodyOf Tryz.f41) 0)) hP hN Ty.mixed (cn_41s33bfl4 f0 f1 h0 h1) (lok_all (X := x41s33bf (fun _ => none) (fun _ => none) f0 f1) (c := (loopNo (bodyOf Tryz.f41) 0)) (kcast (by kernel_rfl : True = AllB (LoopsP C (x41s33bf (fun _ => none) (fun _ => none) f0 f1)) (loopsIn (loopNo (bodyOf Tryz.f41) 0))) trivial)) (cut := c41s33bfl4) (alts := [.ret]) (F := f0) (fun v out h => h0 v out h C hP hN) h
theorem cn_20s33bf (f0 : Int × Reader × Layout × (List (Int × ByteArray)) × (List (Int × ByteArray)) × Unit → Option (((Reader × Layout × Unit) ⊕ (Reader × Layout × Unit)))) (f1 : Int × Reader × Unit → Option (Reader × Layout × Unit)) (h0 : ∀ v r, f0 v = some r → mn_20s33bfl22 v r) (h1 : ∀ v r, f1 v = some r → mn_20s33bf v r) : CallerOk prog (x20s33bf f0 (fun _ => none) (fun _ => none) f1).call := (by
    intro A fid args S dst k r h
    unfold x20s33bf call20s33bf at h
    simp only at h
    split at h
    ·exact callObj_ok ((fun v r x h hx => h1 v r h x hx)) h
    ·exact callObj_ok (n_29_ok) h
    ·exact callObj_ok (n_38s5bd0_ok) h
    ·exact callObj_ok (n_39s0e1d_ok) h
    ·exact callObj_ok (n_40s5bd0_ok) h
    ·exact callObj_ok ((fun v r x h hx => by cases h)) h
    ·cases h)
theorem sn_20s33bf (f0 : Int × Reader × Layout × (List (Int × ByteArray)) × (List (Int × ByteArray)) × Unit → Option (((Reader × Layout × Unit) ⊕ (Reader × Layout × Unit)))) (f1 : Int × Reader × Unit → Option (Reader × Layout × Unit)) (h0 : ∀ v r, f0 v = some r → mn_20s33bfl22 v r) (h1 : ∀ v r, f1 v = some r → mn_20s33bf v r) (v : Int × Reader × Unit) (r : Reader × Layout × Unit) (h : exF (x20s33bf f0 (fun _ => none) (fun _ => none) f1) sig20s33bf rfl (bodyOf Tryz.f20) v = some r) : mn_20s33bf v r := fun x hx => fn_ok (X := x20s33bf f0 (fun _ => none) (fun _ => none) f1) (sig := sig20s33bf) rfl Tryz.func20 (c := bodyOf Tryz.f20) (by kernel_rfl) Tryz.ntmps20 (by kernel_rfl) (by kernel_rfl) rfl Ty.mixed (cn_20s33bf f0 f1 h0 h1) rfl (fun C hP hN => (lok_all (X := x20s33bf f0 (fun _ => none) (fun _ => none) f1) (c := (bodyOf Tryz.f20)) (kcast (by kernel_rfl : AllB (LoopsP C (x20s33bf f0 (fun _ => none) (fun _ => none) f1)) [(loopNo (bodyOf Tryz.f20) 0)] = AllB (LoopsP C (x20s33bf f0 (fun _ => none) (fun _ => none) f1)) (loopsIn (bodyOf Tryz.f20))) ⟨loop_at (X := x20s33bf f0 (fun _ => none) (fun _ => none) f1) (b := (loopNo (bodyOf Tryz.f20) 0)) (by kernel_rfl) (show LoopOk C (loopNo (bodyOf Tryz.f20) 0) (sh := sh20s33bf) { cut := c20s33bfl22, alts := [.ret, .exit 1], F := f0 } from fun v out h => h0 v out h C hP hN), trivial⟩))) h x hx
theorem n_20s33bfl22_all : (∀ v r, n_20s33bfl22 v = some r → mn_20s33bfl22 v r) ∧ (∀ v r, n_41s33bf v = some r → mn_41s33bf v r) ∧ (∀ v r, n_41s33bfl4 v = some r → mn_41s33bfl4 v r) ∧ (∀ v r, n_20s33bf v = some r → mn_20s33bf v r) := by
 refine n_20s33bfl22.mutual_partial_correctness
  (motive_1 := mn_20s33bfl22)
  (motive_2 := mn_41s33bf)
  (motive_3 := mn_41s33bfl4)
  (motive_4 := mn_20s33bf)
  ?_ ?_ ?_ ?_
 ·exact (fun f0 f1 h0 h1 v r h => sn_20s33bfl22 f0 f1 h0 h1 v r (kcast (by kernel_rfl) h))
 ·exact (fun f0 h0 v r h => sn_41s33bf f0 h0 v r (kcast (by kernel_rfl) h))
 ·exact (fun f0 f1 h0 h1 v r h => sn_41s33bfl4 f0 f1 h0 h1 v r (kcast (by kernel_rfl) h))
 ·exact (fun f0 f1 h0 h1 v r h => sn_20s33bf f0 f1 h0 h1 v r (kcast (by kernel_rfl) h))
theorem n_20s33bf_ok : SigOk prog 20 sig20s33bf n_20s33bf := fun v r x h hx => n_20s33bfl22_all.2.2.2 v r h x hx
noncomputable def sh42 : Shape vw := { rcut := c58r1 }
noncomputable def sig42 : Sig vw := { params := [.dat .str, .dat (.int .i64), .dat .str], rcut := c58r1, rvars := [.tmp 6] }
noncomputable def n_42 (v : ByteArray × Int × ByteArray × Unit) : Option (Bool × Unit) :=
 (if decide (i64.wrap (v.2.1 + (↑v.2.2.1.size : Int)) ≤ (↑v.1.size : Int)) = true then
    if (0 : Int) ≤ v.2.1 ∧ v.2.1 ≤ i64.wrap (v.2.1 + (↑v.2.2.1.size : Int)) ∧ i64.wrap (v.2.1 + (↑v.2.2.1.size : Int)) ≤ (↑v.1.size : Int) then
     some (((v.1.extract v.2.1.toNat (i64.wrap (v.2.1 + (↑v.2.2.1.size : Int))).toNat).toList == v.2.2.1.toList, ()))
    else none
   else some ((false, ()))) >>= fun x1 =>
 some ((x1.1, ()))
noncomputable def call42 : Caller vw := fun _ _ _ _ _ => none
noncomputable def x42 : Xc vw := { P := prog, n := 25, call := call42, sh := sh42, regs := fun k => match k with | 1 => some c58r1 | _ => none }
theorem call42_ok : CallerOk prog call42 := call_none
theorem n_42_ok : SigOk prog 42 sig42 n_42 := fun v r x h hx =>
 fn_ok (X := x42) (sig := sig42) rfl Tryz.func42 (c := bodyOf Tryz.f42) (by kernel_rfl) Tryz.ntmps42 (by kernel_rfl) (by kernel_rfl) rfl Ty.mixed call42_ok rfl (fun C hP hN => (lok_all (kcast (by kernel_rfl) trivial))) (kcast (by kernel_rfl) h) x hx
noncomputable def c43l2 : Cut SN := ⟨[(0, .dat .str), (1, .dat (.int .i64)), (7, .dat (.int .i64)), (8, .dat (.int .i64))], []⟩
noncomputable def c43r2 : Cut SN := ⟨[(0, .dat .str), (1, .dat (.int .i64)), (7, .dat (.int .i64)), (8, .dat (.int .i64)), (31, .dat .bool)], []⟩
noncomputable def c43r5 : Cut SN := ⟨[(4, .dat (.int .i64)), (5, .dat (.int .i64)), (6, .dat .bool)], []⟩
noncomputable def sh43 : Shape vw := { exits := fun id => match id with | 0 => c43l2 | _ => ⟨[], []⟩, rcut := c43r5 }
noncomputable def sig43 : Sig vw := { params := [.dat .str, .dat (.int .i64)], rcut := c43r5, rvars := [.tmp 4, .tmp 5, .tmp 6] }
noncomputable def n_43l2 (v : ByteArray × Int × Int × Int × Unit) : Option ((ByteArray × Int × Int × Int × Unit)) :=
 (if decide (v.2.2.2.1 < (↑v.1.size : Int)) = true then
    if decide (v.2.2.2.1 < i64.wrap (v.2.1 + (6 : Int))) = true then
     if (0 : Int) ≤ v.2.2.2.1 then
      v.1[v.2.2.2.1.toNat]? >>= fun x1 =>
      if decide ((↑x1.toNat : Int) ≥ (48 : Int)) = true then
       if (0 : Int) ≤ v.2.2.2.1 then
        v.1[v.2.2.2.1.toNat]? >>= fun x2 =>
        some ((v.1, v.2.1, v.2.2.1, v.2.2.2.1, decide ((↑x2.toNat : Int) ≤ (57 : Int)), ()))
       else none
      else some ((v.1, v.2.1, v.2.2.1, v.2.2.2.1, false, ()))
     else none
    else some ((v.1, v.2.1, v.2.2.1, v.2.2.2.1, false, ()))
   else some ((v.1, v.2.1, v.2.2.1, v.2.2.2.1, false, ()))) >>= fun x1 =>
 if x1.2.2.2.2.1 = true then
  if (0 : Int) ≤ x1.2.2.2.1 then
   x1.1[x1.2.2.2.1.toNat]? >>= fun x2 =>
   n_43l2 (x1.1, x1.2.1, i64.wrap (i64.wrap (i64.wrap ((10 : Int) * x1.2.2.1) + i64.wrap (↑x2.toNat : Int)) - (48 : Int)), i64.wrap (x1.2.2.2.1 + (1 : Int)), ())
  else none
 else some ((x1.1, x1.2.1, x1.2.2.1, x1.2.2.2.1, ()))
 partial_fixpoint
noncomputable def n_43 (v : ByteArray × Int × Unit) : Option (Int × Int × Bool × Unit) :=
 n_43l2 (v.1, v.2.1, (0 : Int), v.2.1, ()) >>= fun x1 =>
 (if decide (x1.2.2.2.1 > x1.2.1) = true then
    n_37 (x1.2.2.1, ()) >>= fun x2 =>
    if (0 : Int) ≤ x1.2.1 ∧ x1.2.1 ≤ x1.2.2.2.1 ∧ x1.2.2.2.1 ≤ (↑x1.1.size : Int) then
     some ((x1.2.2.1, x1.2.2.2.1, x2.1.toList == (x1.1.extract x1.2.1.toNat x1.2.2.2.1.toNat).toList, ()))
    else none
   else some ((x1.2.2.1, x1.2.2.2.1, false, ()))) >>= fun x2 =>
 some ((x2.1, x2.2.1, x2.2.2.1, ()))
noncomputable def call43 : Caller vw := fun A fid args S k => match fid with | 37 => callPure prog sig37 n_37 A args S k | _ => none
noncomputable def x43 : Xc vw := { P := prog, n := 56, call := call43, sh := sh43, regs := fun k => match k with | 2 => some c43r2 | 5 => some c43r5 | _ => none, loops := fun k => match k with | 2 => some { cut := c43l2, alts := [.exit 0], F := n_43l2 } | _ => none }
theorem call43_ok : CallerOk prog call43 := fun A fid args S dst k r h => by
 unfold call43 at h
 split at h
 ·exact callPure_ok (n_37_ok) rfl rfl h
 ·cases h
theorem n_43l2_ok (C : Ctx) (hP : C.P = prog) (hN : C.N = 56) : LoopOk C (loopNo (bodyOf Tryz.f43) 0) (sh := sh43) { cut := c43l2, alts := [.exit 0], F := n_43l2 } :=
 n_43l2.partial_correctness (motive := fun v out => AWpL C (loopNo (bodyOf Tryz.f43) 0) (encS vw (conc vw c43l2 v)) (OutQ sh43 [.exit 0] out)) fun F ih v out h =>
  loop_step (X := x43) (b := (loopNo (bodyOf Tryz.f43) 0)) hP hN Ty.mixed call43_ok (lok_all (X := x43) (c := (loopNo (bodyOf Tryz.f43) 0)) (kcast (by kernel_rfl : True = AllB (LoopsP C (x43)) (loopsIn (loopNo (bodyOf Tryz.f43) 0))) trivial)) ih (kcast (by kernel_rfl) h)
theorem n_43_ok : SigOk prog 43 sig43 n_43 := fun v r x h hx =>
 fn_ok (X := x43) (sig := sig43) rfl Tryz.func43 (c := bodyOf Tryz.f43) (by kernel_rfl) Tryz.ntmps43 (by kernel_rfl) (by kernel_rfl) rfl Ty.mixed call43_ok rfl (fun C hP hN => (lok_all (kcast (by kernel_rfl : AllB (LoopsP C (x43)) [(loopNo (bodyOf Tryz.f43) 0)] = AllB (LoopsP C (x43)) (loopsIn (bodyOf Tryz.f43))) ⟨loop_at (X := x43) (b := (loopNo (bodyOf Tryz.f43) 0)) (by kernel_rfl) (n_43l2_ok C hP hN), trivial⟩))) (kcast (by kernel_rfl) h) x hx
noncomputable def c21l6 : Cut SN := ⟨[(0, .dat .str), (1, .dat (.int .i64)), (2, .dat (.int .i64)), (6, .bp 6 0), (9, .dat (.sl .str)), (10, .dat (.sl (.int .i64))), (11, .dat (.int .i64))], [(6, .st .layoutT)]⟩
noncomputable def c21l26 : Cut SN := ⟨[(0, .dat .str), (1, .dat (.int .i64)), (2, .dat (.int .i64)), (6, .bp 6 0), (22, .dat (.sl .str)), (23, .dat (.sl (.int .i64))), (24, .dat (.int .i64))], [(6, .st .layoutT)]⟩
noncomputable def c21r1 : Cut SN := ⟨[(0, .dat .str), (1, .dat (.int .i64)), (2, .dat (.int .i64)), (6, .bp 6 0), (38, .dat .bool)], [(6, .st .layoutT)]⟩
noncomputable def c21r16 : Cut SN := ⟨[(0, .dat .str), (2, .dat (.int .i64)), (6, .bp 6 0), (15, .dat (.int .i64)), (16, .dat (.int .i64)), (105, .dat .bool)], [(6, .st .layoutT)]⟩
noncomputable def c21r22 : Cut SN := ⟨[(6, .bp 6 0), (7, .dat (.int .i64)), (8, .dat .bool)], [(6, .st .layoutT)]⟩
noncomputable def c21r31 : Cut SN := ⟨[(0, .dat .str), (1, .dat (.int .i64)), (6, .bp 6 0), (192, .dat .bool)], [(6, .st .layoutT)]⟩
noncomputable def c21e0 : Cut SN := ⟨[(0, .dat .str), (1, .dat (.int .i64)), (2, .dat (.int .i64)), (6, .bp 6 0)], [(6, .st .layoutT)]⟩
noncomputable def c21e3 : Cut SN := ⟨[(0, .dat .str), (1, .dat (.int .i64)), (6, .bp 6 0)], [(6, .st .layoutT)]⟩
noncomputable def sh21 : Shape vw := { exits := fun id => match id with | 0 => c21e0 | 3 => c21e3 | _ => ⟨[], []⟩, rcut := c21r22 }
noncomputable def sig21 : Sig vw := { params := [.dat .str, .dat (.int .i64), .dat (.int .i64)], rcut := c21r22, rvars := [.cell 6 24, .tmp 7, .tmp 8] }
noncomputable def c44l4 : Cut SN := ⟨[(0, .dat .str), (1, .dat (.int .i64)), (2, .dat (.int .i64)), (9, .vh 1009)], [(1009, .vec 24 (.st .layoutT))]⟩
noncomputable def c44e0 : Cut SN := ⟨[(1, .dat (.int .i64))], []⟩
noncomputable def c44z : Cut SN := ⟨[(6, .dat (.sl (.st .layoutT))), (7, .dat (.int .i64)), (8, .dat .bool)], []⟩
noncomputable def sh44 : Shape vw := { exits := fun id => match id with | 0 => c44e0 | _ => ⟨[], []⟩, rcut := c44z }
noncomputable def sig44 : Sig vw := { params := [.dat .str, .dat (.int .i64), .dat (.int .i64)], rcut := c44z, rvars := [.tmp 6, .tmp 7, .tmp 8] }
noncomputable def n_21l6 (v : ByteArray × Int × Int × (List ByteArray) × (List Int) × Int × Layout × Unit) : Option (((Int × Bool × Layout × Unit) ⊕ (ByteArray × Int × Int × Layout × Unit))) :=
 if decide (v.2.2.2.2.2.1 < (↑v.2.2.2.1.length : Int)) = true then
  if (0 : Int) ≤ v.2.2.2.2.2.1 then
   v.2.2.2.1[v.2.2.2.2.2.1.toNat]? >>= fun x1 =>
   n_42 (v.1, v.2.1, x1, ()) >>= fun x2 =>
   if x2.1 = true then
    if (0 : Int) ≤ v.2.2.2.2.2.1 then
     v.2.2.2.2.1[v.2.2.2.2.2.1.toNat]? >>= fun x3 =>
     if (0 : Int) ≤ v.2.2.2.2.2.1 then
      v.2.2.2.1[v.2.2.2.2.2.1.toNat]? >>= fun x4 =>
      some (Sum.inl (i64.wrap (v.2.1 + (↑x4.size : Int)), true, Layout.mk x3 (0 : Int) false [], ()))
     else none
    else none
   else n_21l6 (v.1, v.2.1, v.2.2.1, v.2.2.2.1, v.2.2.2.2.1, i64.wrap (v.2.2.2.2.2.1 + (1 : Int)), v.2.2.2.2.2.2.1, ())
  else none
 else some (Sum.inr (v.1, v.2.1, v.2.2.1, v.2.2.2.2.2.2.1, ()))
 partial_fixpoint
mutual
noncomputable def n_21l26 (v : ByteArray × Int × Int × (List ByteArray) × (List Int) × Int × Layout × Unit) : Option (((Int × Bool × Layout × Unit) ⊕ (ByteArray × Int × Layout × Unit))) :=
 if decide (v.2.2.2.2.2.1 < (↑v.2.2.2.1.length : Int)) = true then
  if (0 : Int) ≤ v.2.2.2.2.2.1 then
   v.2.2.2.1[v.2.2.2.2.2.1.toNat]? >>= fun x1 =>
   n_42 (v.1, v.2.1, x1, ()) >>= fun x2 =>
   if x2.1 = true then
    if (0 : Int) ≤ v.2.2.2.2.2.1 then
     v.2.2.2.1[v.2.2.2.2.2.1.toNat]? >>= fun x3 =>
     n_44 (v.1, i64.wrap (v.2.1 + (↑x3.size : Int)), i64.wrap (v.2.2.1 + (1 : Int)), ()) >>= fun x4 =>
     if (0 : Int) ≤ v.2.2.2.2.2.1 then
      v.2.2.2.2.1[v.2.2.2.2.2.1.toNat]? >>= fun x5 =>
      some (Sum.inl (x4.2.1, x4.2.2.1, Layout.mk x5 (0 : Int) false x4.1, ()))
     else none
    else none
   else n_21l26 (v.1, v.2.1, v.2.2.1, v.2.2.2.1, v.2.2.2.2.1, i64.wrap (v.2.2.2.2.2.1 + (1 : Int)), v.2.2.2.2.2.2.1, ())
  else none
 else some (Sum.inr (v.1, v.2.1, v.2.2.2.2.2.2.1, ()))
 partial_fixpoint
noncomputable def n_44 (v : ByteArray × Int × Int × Unit) : Option ((List Layout) × Int × Bool × Unit) :=
 n_42 (v.1, v.2.1, ByteArray.mk #[41], ()) >>= fun x1 =>
 if x1.1 = true then
  some (([], i64.wrap (v.2.1 + (1 : Int)), true, ()))
 else n_44l4 (v.1, v.2.1, v.2.2.1, [], ()) >>= fun x2 => match x2 with
  | .inl y2 => some y2
  | .inr y2 => some (([], y2.1, false, ()))
 partial_fixpoint
noncomputable def n_44l4 (v : ByteArray × Int × Int × (List Layout) × Unit) : Option ((((List Layout) × Int × Bool × Unit) ⊕ (Int × Unit))) :=
 if decide ((↑v.2.2.2.1.length : Int) ≤ (12 : Int)) = true then
  n_21 (v.1, v.2.1, v.2.2.1, ()) >>= fun x1 =>
  if (!x1.2.1) = true then
   some (Sum.inl ([], x1.1, false, ()))
  else if v.2.2.2.1.length + [x1.2.2.1].length ≤ (4294967296 : Nat) then
   n_42 (v.1, x1.1, ByteArray.mk #[41], ()) >>= fun x2 =>
   if x2.1 = true then
    some (Sum.inl (v.2.2.2.1 ++ [x1.2.2.1], i64.wrap (x1.1 + (1 : Int)), true, ()))
   else n_42 (v.1, x1.1, ByteArray.mk #[44], ()) >>= fun x3 =>
   if (!x3.1) = true then
    some (Sum.inl ([], x1.1, false, ()))
   else n_44l4 (v.1, i64.wrap (x1.1 + (1 : Int)), v.2.2.1, v.2.2.2.1 ++ [x1.2.2.1], ())
  else none
 else some (Sum.inr (v.2.1, ()))
 partial_fixpoint
noncomputable def n_21 (v : ByteArray × Int × Int × Unit) : Option (Int × Bool × Layout × Unit) :=
 (if decide (v.2.2.1 > (5 : Int)) = true then
    some ((v.1, v.2.1, v.2.2.1, true, Layout.mk (0 : Int) (0 : Int) false [], ()))
   else some ((v.1, v.2.1, v.2.2.1, decide (v.2.1 ≥ (↑v.1.size : Int)), Layout.mk (0 : Int) (0 : Int) false [], ()))) >>= fun x1 =>
 if x1.2.2.2.1 = true then
  some ((x1.2.1, false, Layout.mk (0 : Int) (0 : Int) false [], ()))
 else n_21l6 (x1.1, x1.2.1, x1.2.2.1, [ByteArray.mk #[118, 111, 105, 100], ByteArray.mk #[98, 111, 111, 108], ByteArray.mk #[119, 111, 114, 100]], [(0 : Int), (1 : Int), (3 : Int)], (0 : Int), x1.2.2.2.2.1, ()) >>= fun x2 => match x2 with
  | .inl y2 => some y2
  | .inr y2 => if (0 : Int) ≤ y2.2.1 then
    y2.1[y2.2.1.toNat]? >>= fun x3 =>
    if ((↑x3.toNat : Int) == (63 : Int)) = true then
     n_21 (y2.1, i64.wrap (y2.2.1 + (1 : Int)), i64.wrap (y2.2.2.1 + (1 : Int)), ()) >>= fun x4 =>
     some ((x4.1, x4.2.1, Layout.mk (4 : Int) (0 : Int) false [x4.2.2.1], ()))
    else if ((↑x3.toNat : Int) == (91 : Int)) = true then
     n_43 (y2.1, i64.wrap (y2.2.1 + (1 : Int)), ()) >>= fun x4 =>
     (if (!x4.2.2.1) = true then
        some ((y2.1, y2.2.2.1, x4.1, x4.2.1, true, y2.2.2.2.1, ()))
       else n_42 (y2.1, x4.2.1, ByteArray.mk #[93], ()) >>= fun x5 =>
       some ((y2.1, y2.2.2.1, x4.1, x4.2.1, !x5.1, y2.2.2.2.1, ()))) >>= fun x5 =>
     if x5.2.2.2.2.1 = true then
      some ((x5.2.2.2.1, false, Layout.mk (0 : Int) (0 : Int) false [], ()))
     else n_21 (x5.1, i64.wrap (x5.2.2.2.1 + (1 : Int)), i64.wrap (x5.2.1 + (1 : Int)), ()) >>= fun x6 =>
     some ((x6.1, x6.2.1, Layout.mk (5 : Int) x5.2.2.1 false [x6.2.2.1], ()))
    else n_42 (y2.1, y2.2.1, ByteArray.mk #[101, 110, 117, 109, 40], ()) >>= fun x4 =>
    if x4.1 = true then
     n_43 (y2.1, i64.wrap (y2.2.1 + (5 : Int)), ()) >>= fun x5 =>
     (if x5.2.2.1 = true then
        n_42 (y2.1, x5.2.1, ByteArray.mk #[41], ()) >>= fun x6 =>
        some ((i64.wrap (x5.2.1 + (1 : Int)), x6.1, Layout.mk (7 : Int) x5.1 false [], ()))
       else some ((i64.wrap (x5.2.1 + (1 : Int)), false, Layout.mk (7 : Int) x5.1 false [], ()))) >>= fun x6 =>
     some ((x6.1, x6.2.1, x6.2.2.1, ()))
    else n_21l26 (y2.1, y2.2.1, y2.2.2.1, [ByteArray.mk #[115, 116, 114, 117, 99, 116, 40], ByteArray.mk #[117, 110, 105, 111, 110, 40], ByteArray.mk #[112, 97, 99, 107, 101, 100, 40]], [(6 : Int), (8 : Int), (9 : Int)], (0 : Int), y2.2.2.2.1, ()) >>= fun x5 => match x5 with
     | .inl y5 => some y5
     | .inr y5 => (if (0 : Int) ≤ y5.2.1 then
        y5.1[y5.2.1.toNat]? >>= fun x6 =>
        if ((↑x6.toNat : Int) == (117 : Int)) = true then
         some ((y5.1, y5.2.1, true, y5.2.2.1, ()))
        else if (0 : Int) ≤ y5.2.1 then
         y5.1[y5.2.1.toNat]? >>= fun x7 =>
         some ((y5.1, y5.2.1, (↑x7.toNat : Int) == (105 : Int), y5.2.2.1, ()))
        else none
       else none) >>= fun x6 =>
      if x6.2.2.1 = true then
       n_43 (x6.1, i64.wrap (x6.2.1 + (1 : Int)), ()) >>= fun x7 =>
       if (0 : Int) ≤ x6.2.1 then
        x6.1[x6.2.1.toNat]? >>= fun x8 =>
        some ((x7.2.1, x7.2.2.1, Layout.mk (2 : Int) x7.1 ((↑x8.toNat : Int) == (105 : Int)) [], ()))
       else none
      else some ((x6.2.1, false, Layout.mk (0 : Int) (0 : Int) false [], ()))
   else none
 partial_fixpoint
end
noncomputable def call21 (n_21l6 : ByteArray × Int × Int × (List ByteArray) × (List Int) × Int × Layout × Unit → Option (((Int × Bool × Layout × Unit) ⊕ (ByteArray × Int × Int × Layout × Unit)))) (n_21l26 : ByteArray × Int × Int × (List ByteArray) × (List Int) × Int × Layout × Unit → Option (((Int × Bool × Layout × Unit) ⊕ (ByteArray × Int × Layout × Unit)))) (n_44 : ByteArray × Int × Int × Unit → Option ((List Layout) × Int × Bool × Unit)) (n_44l4 : ByteArray × Int × Int × (List Layout) × Unit → Option ((((List Layout) × Int × Bool × Unit) ⊕ (Int × Unit)))) (n_21 : ByteArray × Int × Int × Unit → Option (Int × Bool × Layout × Unit)) : Caller vw := fun A fid args S k => match fid with | 21 => callPure prog sig21 n_21 A args S k | 42 => callPure prog sig42 n_42 A args S k | 43 => callPure prog sig43 n_43 A args S k | 44 => callPure prog sig44 n_44 A args S k | _ => none
noncomputable def x21 (n_21l6 : ByteArray × Int × Int × (List ByteArray) × (List Int) × Int × Layout × Unit → Option (((Int × Bool × Layout × Unit) ⊕ (ByteArray × Int × Int × Layout × Unit)))) (n_21l26 : ByteArray × Int × Int × (List ByteArray) × (List Int) × Int × Layout × Unit → Option (((Int × Bool × Layout × Unit) ⊕ (ByteArray × Int × Layout × Unit)))) (n_44 : ByteArray × Int × Int × Unit → Option ((List Layout) × Int × Bool × Unit)) (n_44l4 : ByteArray × Int × Int × (List Layout) × Unit → Option ((((List Layout) × Int × Bool × Unit) ⊕ (Int × Unit)))) (n_21 : ByteArray × Int × Int × Unit → Option (Int × Bool × Layout × Unit)) : Xc vw := { P := prog, n := 211, call := call21 n_21l6 n_21l26 n_44 n_44l4 n_21, sh := sh21, regs := fun k => match k with | 1 => some c21r1 | 16 => some c21r16 | 22 => some c21r22 | 31 => some c21r31 | _ => none, loops := fun k => match k with | 6 => some { cut := c21l6, alts := [.ret, .exit 0], F := n_21l6 } | 26 => some { cut := c21l26, alts := [.ret, .exit 3], F := n_21l26 } | _ => none }
noncomputable def call44 (n_21l6 : ByteArray × Int × Int × (List ByteArray) × (List Int) × Int × Layout × Unit → Option (((Int × Bool × Layout × Unit) ⊕ (ByteArray × Int × Int × Layout × Unit)))) (n_21l26 : ByteArray × Int × Int × (List ByteArray) × (List Int) × Int × Layout × Unit → Option (((Int × Bool × Layout × Unit) ⊕ (ByteArray × Int × Layout × Unit)))) (n_44 : ByteArray × Int × Int × Unit → Option ((List Layout) × Int × Bool × Unit)) (n_44l4 : ByteArray × Int × Int × (List Layout) × Unit → Option ((((List Layout) × Int × Bool × Unit) ⊕ (Int × Unit)))) (n_21 : ByteArray × Int × Int × Unit → Option (Int × Bool × Layout × Unit)) : Caller vw := fun A fid args S k => match fid with | 21 => callPure prog sig21 n_21 A args S k | 42 => callPure prog sig42 n_42 A args S k | _ => none
noncomputable def x44 (n_21l6 : ByteArray × Int × Int × (List ByteArray) × (List Int) × Int × Layout × Unit → Option (((Int × Bool × Layout × Unit) ⊕ (ByteArray × Int × Int × Layout × Unit)))) (n_21l26 : ByteArray × Int × Int × (List ByteArray) × (List Int) × Int × Layout × Unit → Option (((Int × Bool × Layout × Unit) ⊕ (ByteArray × Int × Layout × Unit)))) (n_44 : ByteArray × Int × Int × Unit → Option ((List Layout) × Int × Bool × Unit)) (n_44l4 : ByteArray × Int × Int × (List Layout) × Unit → Option ((((List Layout) × Int × Bool × Unit) ⊕ (Int × Unit)))) (n_21 : ByteArray × Int × Int × Unit → Option (Int × Bool × Layout × Unit)) : Xc vw := { P := prog, n := 50, call := call44 n_21l6 n_21l26 n_44 n_44l4 n_21, sh := sh44, loops := fun k => match k with | 4 => some { cut := c44l4, alts := [.ret, .exit 0], F := n_44l4 } | _ => none }
abbrev mn_21l6 (v : ByteArray × Int × Int × (List ByteArray) × (List Int) × Int × Layout × Unit) (r : ((Int × Bool × Layout × Unit) ⊕ (ByteArray × Int × Int × Layout × Unit))) : Prop := (fun v out => ∀ C : Ctx, C.P = prog → C.N = 211 → AWpL C (loopNo (bodyOf Tryz.f21) 0) (encS vw (conc vw c21l6 v)) (OutQ sh21 [.ret, .exit 0] out)) v r
theorem cn_21l6 (f0 : ByteArray × Int × Int × (List ByteArray) × (List Int) × Int × Layout × Unit → Option (((Int × Bool × Layout × Unit) ⊕ (ByteArray × Int × Int × Layout × Unit)))) (h0 : ∀ v r, f0 v = some r → mn_21l6 v r) : CallerOk prog (x21 f0 (fun _ => none) (fun _ => none) (fun _ => none) (fun _ => none)).call := (by
    intro A fid args S dst k r h
    unfold x21 call21 at h
    simp only at h
    split at h
    ·exact callPure_ok ((fun v r x h hx => by cases h)) rfl rfl h
    ·exact callPure_ok (n_42_ok) rfl rfl h
    ·exact callPure_ok (n_43_ok) rfl rfl h
    ·exact callPure_ok ((fun v r x h hx => by cases h)) rfl rfl h
    ·cases h)
theorem sn_21l6 (f0 : ByteArray × Int × Int × (List ByteArray) × (List Int) × Int × Layout × Unit → Option (((Int × Bool × Layout × Unit) ⊕ (ByteArray × Int × Int × Layout × Unit)))) (h0 : ∀ v r, f0 v = some r → mn_21l6 v r) (v : ByteArray × Int × Int × (List ByteArray) × (List Int) × Int × Layout × Unit) (r : ((Int × Bool × Layout × Unit) ⊕ (ByteArray × Int × Int × Layout × Unit))) (h : exL (x21 f0 (fun _ => none) (fun _ => none) (fun _ => none) (fun _ => none)) (loopNo (bodyOf Tryz.f21) 0) c21l6 [.ret, .exit 0] f0 v = some r) : mn_21l6 v r := fun C hP hN => loop_step (X := x21 f0 (fun _ => none) (fun _ => none) (fun _ => none) (fun _ => none)) (b := (loopNo (bodyOf Tryz.f21) 0)) hP hN Ty.mixed (cn_21l6 f0 h0) (lok_all (X := x21 f0 (fun _ => none) (fun _ => none) (fun _ => none) (fun _ => none)) (c := (loopNo (bodyOf Tryz.f21) 0)) (kcast (by kernel_rfl : True = AllB (LoopsP C (x21 f0 (fun _ => none) (fun _ => none) (fun _ => none) (fun _ => none))) (loopsIn (loopNo (bodyOf Tryz.f21) 0))) trivial)) (cut := c21l6) (alts := [.ret, .exit 0]) (F := f0) (fun v out h => h0 v out h C hP hN) h
theorem n_21l6_pc : ∀ v out, n_21l6 v = some out → (fun v out => ∀ C : Ctx, C.P = prog → C.N = 211 → AWpL C (loopNo (bodyOf Tryz.f21) 0) (encS vw (conc vw c21l6 v)) (OutQ sh21 [.ret, .exit 0] out)) v out := (n_21l6.partial_correctness (motive := mn_21l6) (fun f0 h0 v r h => sn_21l6 f0 h0 v r (kcast (by kernel_rfl) h)))
abbrev mn_21l26 (v : ByteArray × Int × Int × (List ByteArray) × (List Int) × Int × Layout × Unit) (r : ((Int × Bool × Layout × Unit) ⊕ (ByteArray × Int × Layout × Unit))) : Prop := (fun v out => ∀ C : Ctx, C.P = prog → C.N = 211 → AWpL C (loopNo (bodyOf Tryz.f21) 1) (encS vw (conc vw c21l26 v)) (OutQ sh21 [.ret, .exit 3] out)) v r
abbrev mn_44 (v : ByteArray × Int × Int × Unit) (r : (List Layout) × Int × Bool × Unit) : Prop := (fun v r => ∀ x, resV prog sig44 r = some x → FnOk prog 44 (encL vw (startS sig44 v).len (startOs sig44 v).1) (encOs (startS sig44 v).len (startS sig44 v).own) (encV vw (conc vw sig44.rcut r).len x) (encOs (conc vw sig44.rcut r).len (kept sig44 r))) v r
abbrev mn_44l4 (v : ByteArray × Int × Int × (List Layout) × Unit) (r : (((List Layout) × Int × Bool × Unit) ⊕ (Int × Unit))) : Prop := (fun v out => ∀ C : Ctx, C.P = prog → C.N = 50 → AWpL C (loopNo (bodyOf Tryz.f44) 0) (encS vw (conc vw c44l4 v)) (OutQ sh44 [.ret, .exit 0] out)) v r
abbrev mn_21 (v : ByteArray × Int × Int × Unit) (r : Int × Bool × Layout × Unit) : Prop := (fun v r => ∀ x, resV prog sig21 r = some x → FnOk prog 21 (encL vw (startS sig21 v).len (startOs sig21 v).1) (encOs (startS sig21 v).len (startS sig21 v).own) (encV vw (conc vw sig21.rcut r).len x) (encOs (conc vw sig21.rcut r).len (kept sig21 r))) v r
theorem cn_21l26 (f0 : ByteArray × Int × Int × (List ByteArray) × (List Int) × Int × Layout × Unit → Option (((Int × Bool × Layout × Unit) ⊕ (ByteArray × Int × Layout × Unit)))) (f1 : ByteArray × Int × Int × Unit → Option ((List Layout) × Int × Bool × Unit)) (h0 : ∀ v r, f0 v = some r → mn_21l26 v r) (h1 : ∀ v r, f1 v = some r → mn_44 v r) : CallerOk prog (x21 (fun _ => none) f0 f1 (fun _ => none) (fun _ => none)).call := (by
    intro A fid args S dst k r h
    unfold x21 call21 at h
    simp only at h
    split at h
    ·exact callPure_ok ((fun v r x h hx => by cases h)) rfl rfl h
    ·exact callPure_ok (n_42_ok) rfl rfl h
    ·exact callPure_ok (n_43_ok) rfl rfl h
    ·exact callPure_ok ((fun v r x h hx => h1 v r h x hx)) rfl rfl h
    ·cases h)
theorem sn_21l26 (f0 : ByteArray × Int × Int × (List ByteArray) × (List Int) × Int × Layout × Unit → Option (((Int × Bool × Layout × Unit) ⊕ (ByteArray × Int × Layout × Unit)))) (f1 : ByteArray × Int × Int × Unit → Option ((List Layout) × Int × Bool × Unit)) (h0 : ∀ v r, f0 v = some r → mn_21l26 v r) (h1 : ∀ v r, f1 v = some r → mn_44 v r) (v : ByteArray × Int × Int × (List ByteArray) × (List Int) × Int × Layout × Unit) (r : ((Int × Bool × Layout × Unit) ⊕ (ByteArray × Int × Layout × Unit))) (h : exL (x21 (fun _ => none) f0 f1 (fun _ => none) (fun _ => none)) (loopNo (bodyOf Tryz.f21) 1) c21l26 [.ret, .exit 3] f0 v = some r) : mn_21l26 v r := fun C hP hN => loop_step (X := x21 (fun _ => none) f0 f1 (fun _ => none) (fun _ => none)) (b := (loopNo (bodyOf Tryz.f21) 1)) hP hN Ty.mixed (cn_21l26 f0 f1 h0 h1) (lok_all (X := x21 (fun _ => none) f0 f1 (fun _ => none) (fun _ => none)) (c := (loopNo (bodyOf Tryz.f21) 1)) (kcast (by kernel_rfl : True = AllB (LoopsP C (x21 (fun _ => none) f0 f1 (fun _ => none) (fun _ => none))) (loopsIn (loopNo (bodyOf Tryz.f21) 1))) trivial)) (cut := c21l26) (alts := [.ret, .exit 3]) (F := f0) (fun v out h => h0 v out h C hP hN) h
theorem cn_44 (f0 : ByteArray × Int × Int × (List Layout) × Unit → Option ((((List Layout) × Int × Bool × Unit) ⊕ (Int × Unit)))) (h0 : ∀ v r, f0 v = some r → mn_44l4 v r) : CallerOk prog (x44 (fun _ => none) (fun _ => none) (fun _ => none) f0 (fun _ => none)).call := (by
    intro A fid args S dst k r h
    unfold x44 call44 at h
    simp only at h
    split at h
    ·exact callPure_ok ((fun v r x h hx => by cases h)) rfl rfl h
    ·exact callPure_ok (n_42_ok) rfl rfl h
    ·cases h)
theorem sn_44 (f0 : ByteArray × Int × Int × (List Layout) × Unit → Option ((((List Layout) × Int × Bool × Unit) ⊕ (Int × Unit)))) (h0 : ∀ v r, f0 v = some r → mn_44l4 v r) (v : ByteArray × Int × Int × Unit) (r : (List Layout) × Int × Bool × Unit) (h : exF (x44 (fun _ => none) (fun _ => none) (fun _ => none) f0 (fun _ => none)) sig44 rfl (bodyOf Tryz.f44) v = some r) : mn_44 v r := fun x hx => fn_ok (X := x44 (fun _ => none) (fun _ => none) (fun _ => none) f0 (fun _ => none)) (sig := sig44) rfl Tryz.func44 (c := bodyOf Tryz.f44) (by kernel_rfl) Tryz.ntmps44 (by kernel_rfl) (by kernel_rfl) rfl Ty.mixed (cn_44 f0 h0) rfl (fun C hP hN => (lok_all (X := x44 (fun _ => none) (fun _ => none) (fun _ => none) f0 (fun _ => none)) (c := (bodyOf Tryz.f44)) (kcast (by kernel_rfl : AllB (LoopsP C (x44 (fun _ => none) (fun _ => none) (fun _ => none) f0 (fun _ => none))) [(loopNo (bodyOf Tryz.f44) 0)] = AllB (LoopsP C (x44 (fun _ => none) (fun _ => none) (fun _ => none) f0 (fun _ => none))) (loopsIn (bodyOf Tryz.f44))) ⟨loop_at (X := x44 (fun _ => none) (fun _ => none) (fun _ => none) f0 (fun _ => none)) (b := (loopNo (bodyOf Tryz.f44) 0)) (by kernel_rfl) (show LoopOk C (loopNo (bodyOf Tryz.f44) 0) (sh := sh44) { cut := c44l4, alts := [.ret, .exit 0], F := f0 } from fun v out h => h0 v out h C hP hN), trivial⟩))) h x hx
theorem cn_44l4 (f0 : ByteArray × Int × Int × (List Layout) × Unit → Option ((((List Layout) × Int × Bool × Unit) ⊕ (Int × Unit)))) (f1 : ByteArray × Int × Int × Unit → Option (Int × Bool × Layout × Unit)) (h0 : ∀ v r, f0 v = some r → mn_44l4 v r) (h1 : ∀ v r, f1 v = some r → mn_21 v r) : CallerOk prog (x44 (fun _ => none) (fun _ => none) (fun _ => none) f0 f1).call := (by
    intro A fid args S dst k r h
    unfold x44 call44 at h
    simp only at h
    split at h
    ·exact callPure_ok ((fun v r x h hx => h1 v r h x hx)) rfl rfl h
    ·exact callPure_ok (n_42_ok) rfl rfl h
    ·cases h)
theorem sn_44l4 (f0 : ByteArray × Int × Int × (List Layout) × Unit → Option ((((List Layout) × Int × Bool × Unit) ⊕ (Int × Unit)))) (f1 : ByteArray × Int × Int × Unit → Option (Int × Bool × Layout × Unit)) (h0 : ∀ v r, f0 v = some r → mn_44l4 v r) (h1 : ∀ v r, f1 v = some r → mn_21 v r) (v : ByteArray × Int × Int × (List Layout) × Unit) (r : (((List Layout) × Int × Bool × Unit) ⊕ (Int × Unit))) (h : exL (x44 (fun _ => none) (fun _ => none) (fun _ => none) f0 f1) (loopNo (bodyOf Tryz.f44) 0) c44l4 [.ret, .exit 0] f0 v = some r) : mn_44l4 v r := fun C hP hN => loop_step (X := x44 (fun _ => none) (fun _ => none) (fun _ => none) f0 f1) (b := (loopNo (bodyOf Tryz.f44) 0)) hP hN Ty.mixed (cn_44l4 f0 f1 h0 h1) (lok_all (X := x44 (fun _ => none) (fun _ => none) (fun _ => none) f0 f1) (c := (loopNo (bodyOf Tryz.f44) 0)) (kcast (by kernel_rfl : True = AllB (LoopsP C (x44 (fun _ => none) (fun _ => none) (fun _ => none) f0 f1)) (loopsIn (loopNo (bodyOf Tryz.f44) 0))) trivial)) (cut := c44l4) (alts := [.ret, .exit 0]) (F := f0) (fun v out h => h0 v out h C hP hN) h
theorem cn_21 (f0 : ByteArray × Int × Int × (List ByteArray) × (List Int) × Int × Layout × Unit → Option (((Int × Bool × Layout × Unit) ⊕ (ByteArray × Int × Layout × Unit)))) (f1 : ByteArray × Int × Int × Unit → Option (Int × Bool × Layout × Unit)) (h0 : ∀ v r, f0 v = some r → mn_21l26 v r) (h1 : ∀ v r, f1 v = some r → mn_21 v r) : CallerOk prog (x21 n_21l6 f0 (fun _ => none) (fun _ => none) f1).call := (by
    intro A fid args S dst k r h
    unfold x21 call21 at h
    simp only at h
    split at h
    ·exact callPure_ok ((fun v r x h hx => h1 v r h x hx)) rfl rfl h
    ·exact callPure_ok (n_42_ok) rfl rfl h
    ·exact callPure_ok (n_43_ok) rfl rfl h
    ·exact callPure_ok ((fun v r x h hx => by cases h)) rfl rfl h
    ·cases h)
theorem sn_21 (f0 : ByteArray × Int × Int × (List ByteArray) × (List Int) × Int × Layout × Unit → Option (((Int × Bool × Layout × Unit) ⊕ (ByteArray × Int × Layout × Unit)))) (f1 : ByteArray × Int × Int × Unit → Option (Int × Bool × Layout × Unit)) (h0 : ∀ v r, f0 v = some r → mn_21l26 v r) (h1 : ∀ v r, f1 v = some r → mn_21 v r) (v : ByteArray × Int × Int × Unit) (r : Int × Bool × Layout × Unit) (h : exF (x21 n_21l6 f0 (fun _ => none) (fun _ => none) f1) sig21 rfl (bodyOf Tryz.f21) v = some r) : mn_21 v r := fun x hx => fn_ok (X := x21 n_21l6 f0 (fun _ => none) (fun _ => none) f1) (sig := sig21) rfl Tryz.func21 (c := bodyOf Tryz.f21) (by kernel_rfl) Tryz.ntmps21 (by kernel_rfl) (by kernel_rfl) rfl Ty.mixed (cn_21 f0 f1 h0 h1) rfl (fun C hP hN => (lok_all (X := x21 n_21l6 f0 (fun _ => none) (fun _ => none) f1) (c := (bodyOf Tryz.f21)) (kcast (by kernel_rfl : AllB (LoopsP C (x21 n_21l6 f0 (fun _ => none) (fun _ => none) f1)) [(loopNo (bodyOf Tryz.f21) 0), (loopNo (bodyOf Tryz.f21) 1)] = AllB (LoopsP C (x21 n_21l6 f0 (fun _ => none) (fun _ => none) f1)) (loopsIn (bodyOf Tryz.f21))) ⟨loop_at (X := x21 n_21l6 f0 (fun _ => none) (fun _ => none) f1) (b := (loopNo (bodyOf Tryz.f21) 0)) (by kernel_rfl) (show LoopOk C (loopNo (bodyOf Tryz.f21) 0) (sh := sh21) { cut := c21l6, alts := [.ret, .exit 0], F := n_21l6 } from fun v out h => n_21l6_pc v out h C hP hN), loop_at (X := x21 n_21l6 f0 (fun _ => none) (fun _ => none) f1) (b := (loopNo (bodyOf Tryz.f21) 1)) (by kernel_rfl) (show LoopOk C (loopNo (bodyOf Tryz.f21) 1) (sh := sh21) { cut := c21l26, alts := [.ret, .exit 3], F := f0 } from fun v out h => h0 v out h C hP hN), trivial⟩))) h x hx
theorem n_21l26_all : (∀ v r, n_21l26 v = some r → mn_21l26 v r) ∧ (∀ v r, n_44 v = some r → mn_44 v r) ∧ (∀ v r, n_44l4 v = some r → mn_44l4 v r) ∧ (∀ v r, n_21 v = some r → mn_21 v r) := by
 refine n_21l26.mutual_partial_correctness
  (motive_1 := mn_21l26)
  (motive_2 := mn_44)
  (motive_3 := mn_44l4)
  (motive_4 := mn_21)
  ?_ ?_ ?_ ?_
 ·exact (fun f0 f1 h0 h1 v r h => sn_21l26 f0 f1 h0 h1 v r (kcast (by kernel_rfl) h))
 ·exact (fun f0 h0 v r h => sn_44 f0 h0 v r (kcast (by kernel_rfl) h))
 ·exact (fun f0 f1 h0 h1 v r h => sn_44l4 f0 f1 h0 h1 v r (kcast (by kernel_rfl) h))
 ·exact (fun f0 f1 h0 h1 v r h => sn_21 f0 f1 h0 h1 v r (kcast (by kernel_rfl) h))
theorem n_21_ok : SigOk prog 21 sig21 n_21 := fun v r x h hx => n_21l26_all.2.2.2 v r h x hx
noncomputable def sh4 : Shape vw := { rcut := c51r1 }
noncomputable def sig4 : Sig vw := { params := [.dat (.st .layoutT)], rcut := c51r1, rvars := [.tmp 2] }
noncomputable def n_4 (v : Layout × Unit) : Option (Bool × Unit) :=
 (n_11 (v.1, (30 : Int), ()) >>= fun x1 =>
   if decide (x1.1 > (20 : Int)) = true then
    some ((true, ()))
   else n_12 (v.1, (600 : Int), ()) >>= fun x2 =>
   some ((decide (x2.1 > (500 : Int)), ()))) >>= fun x1 =>
 some ((x1.1, ()))
noncomputable def call4 : Caller vw := fun A fid args S k => match fid with | 11 => callPure prog sig11 n_11 A args S k | 12 => callPure prog sig12 n_12 A args S k | _ => none
noncomputable def x4 : Xc vw := { P := prog, n := 11, call := call4, sh := sh4, regs := fun k => match k with | 1 => some c51r1 | _ => none }
theorem call4_ok : CallerOk prog call4 := fun A fid args S dst k r h => by
 unfold call4 at h
 split at h
 ·exact callPure_ok (n_11_ok) rfl rfl h
 ·exact callPure_ok (n_12_ok) rfl rfl h
 ·cases h
theorem n_4_ok : SigOk prog 4 sig4 n_4 := fun v r x h hx =>
 fn_ok (X := x4) (sig := sig4) rfl Tryz.func4 (c := bodyOf Tryz.f4) (by kernel_rfl) Tryz.ntmps4 (by kernel_rfl) (by kernel_rfl) rfl Ty.mixed call4_ok rfl (fun C hP hN => (lok_all (kcast (by kernel_rfl) trivial))) (kcast (by kernel_rfl) h) x hx
noncomputable def c5r4 : Cut SN := ⟨[(0, .dat .bool)], []⟩
noncomputable def sh5 : Shape vw := { rcut := c5r4 }
noncomputable def sig5 : Sig vw := { params := [], rcut := c5r4, rvars := [.tmp 0] }
noncomputable def n_5 (v : Unit) : Option (Bool × Unit) :=
 n_13 (Layout.mk (6 : Int) (0 : Int) false [Layout.mk (1 : Int) (0 : Int) false [], Layout.mk (3 : Int) (0 : Int) false []], Target.mk (4 : Int) false, ()) >>= fun x1 =>
 n_14 (Layout.mk (4 : Int) (0 : Int) false [Layout.mk (2 : Int) (16 : Int) false []], Target.mk (4 : Int) false, ()) >>= fun x2 =>
 (n_15 (x1.1, [(0 : Int), (4 : Int)], ()) >>= fun x3 =>
   if x3.1 = true then
    if (x1.2.1 == (0 : Int)) = true then
     if (x2.1 == (4 : Int)) = true then
      some ((x2.2.1 == (0 : Int), ()))
     else some ((false, ()))
    else some ((false, ()))
   else some ((false, ()))) >>= fun x3 =>
 some ((x3.1, ()))
noncomputable def call5 : Caller vw := fun A fid args S k => match fid with | 13 => callPure prog sig13 n_13 A args S k | 14 => callPure prog sig14 n_14 A args S k | 15 => callPure prog sig15 n_15 A args S k | _ => none
noncomputable def x5 : Xc vw := { P := prog, n := 39, call := call5, sh := sh5, regs := fun k => match k with | 4 => some c5r4 | _ => none }
theorem call5_ok : CallerOk prog call5 := fun A fid args S dst k r h => by
 unfold call5 at h
 split at h
 ·exact callPure_ok (n_13_ok) rfl rfl h
 ·exact callPure_ok (n_14_ok) rfl rfl h
 ·exact callPure_ok (n_15_ok) rfl rfl h
 ·cases h
theorem n_5_ok : SigOk prog 5 sig5 n_5 := fun v r x h hx =>
 fn_ok (X := x5) (sig := sig5) rfl Tryz.func5 (c := bodyOf Tryz.f5) (by kernel_rfl) Tryz.ntmps5 (by kernel_rfl) (by kernel_rfl) rfl Ty.mixed call5_ok rfl (fun C hP hN => (lok_all (kcast (by kernel_rfl) trivial))) (kcast (by kernel_rfl) h) x hx
noncomputable def c6z : Cut SN := ⟨[(2, .dat .str), (3, .dat (.int .i64))], []⟩
noncomputable def sh6 : Shape vw := { rcut := c6z }
noncomputable def sig6 : Sig vw := { params := [.dat (.st .layoutT)], rcut := c6z, rvars := [.tmp 2, .tmp 3] }
noncomputable def n_6 (v : Layout × Unit) : Option (ByteArray × Int × Unit) :=
 n_16 (v.1, ()) >>= fun x1 =>
 if (x1.1 != (0 : Int)) = true then
  some ((ByteArray.mk #[], x1.1, ()))
 else n_17 (v.1, ()) >>= fun x2 =>
 some ((x2.1, (0 : Int), ()))
noncomputable def call6 : Caller vw := fun A fid args S k => match fid with | 16 => callPure prog sig16 n_16 A args S k | 17 => callPure prog sig17 n_17 A args S k | _ => none
noncomputable def x6 : Xc vw := { P := prog, n := 12, call := call6, sh := sh6 }
theorem call6_ok : CallerOk prog call6 := fun A fid args S dst k r h => by
 unfold call6 at h
 split at h
 ·exact callPure_ok (n_16_ok) rfl rfl h
 ·exact callPure_ok (n_17_ok) rfl rfl h
 ·cases h
theorem n_6_ok : SigOk prog 6 sig6 n_6 := fun v r x h hx =>
 fn_ok (X := x6) (sig := sig6) rfl Tryz.func6 (c := bodyOf Tryz.f6) (by kernel_rfl) Tryz.ntmps6 (by kernel_rfl) (by kernel_rfl) rfl Ty.mixed call6_ok rfl (fun C hP hN => (lok_all (kcast (by kernel_rfl) trivial))) (kcast (by kernel_rfl) h) x hx
noncomputable def sh7 : Shape vw := { rcut := c6z }
noncomputable def sig7 : Sig vw := { params := [.dat (.st .layoutT)], rcut := c6z, rvars := [.tmp 2, .tmp 3] }
noncomputable def n_7 (v : Layout × Unit) : Option (ByteArray × Int × Unit) :=
 n_18 (v.1, ()) >>= fun x1 =>
 if (x1.1 != (0 : Int)) = true then
  some ((ByteArray.mk #[], x1.1, ()))
 else n_19 (v.1, ()) >>= fun x2 =>
 some ((x2.1, (0 : Int), ()))
noncomputable def call7 : Caller vw := fun A fid args S k => match fid with | 18 => callPure prog sig18 n_18 A args S k | 19 => callPure prog sig19 n_19 A args S k | _ => none
noncomputable def x7 : Xc vw := { P := prog, n := 12, call := call7, sh := sh7 }
theorem call7_ok : CallerOk prog call7 := fun A fid args S dst k r h => by
 unfold call7 at h
 split at h
 ·exact callPure_ok (n_18_ok) rfl rfl h
 ·exact callPure_ok (n_19_ok) rfl rfl h
 ·cases h
theorem n_7_ok : SigOk prog 7 sig7 n_7 := fun v r x h hx =>
 fn_ok (X := x7) (sig := sig7) rfl Tryz.func7 (c := bodyOf Tryz.f7) (by kernel_rfl) Tryz.ntmps7 (by kernel_rfl) (by kernel_rfl) rfl Ty.mixed call7_ok rfl (fun C hP hN => (lok_all (kcast (by kernel_rfl) trivial))) (kcast (by kernel_rfl) h) x hx
noncomputable def c8r3 : Cut SN := ⟨[(2, .bp 2 0), (5, .bp 5 0), (26, .dat .bool)], [(2, .st .layoutT), (5, .st .layoutT)]⟩
noncomputable def c8z : Cut SN := ⟨[(2, .bp 2 0), (3, .dat (.int .i64))], [(2, .st .layoutT)]⟩
noncomputable def sh8 : Shape vw := { rcut := c8z }
noncomputable def sig8 : Sig vw := { params := [.dat .str], rcut := c8z, rvars := [.cell 2 24, .tmp 3] }
noncomputable def n_8 (v : ByteArray × Unit) : Option (Int × Layout × Unit) :=
 n_20s33bf ((1 : Int), Reader.mk v.1 false, ()) >>= fun x1 =>
 (if x1.1.bad = true then
    some ((true, Layout.mk (0 : Int) (0 : Int) false [], x1.2.1, ()))
   else if (!x1.1.s.toList == (ByteArray.mk #[]).toList) = true then
    some ((true, Layout.mk (0 : Int) (0 : Int) false [], x1.2.1, ()))
   else n_16 (x1.2.1, ()) >>= fun x2 =>
   some ((x2.1 != (0 : Int), Layout.mk (0 : Int) (0 : Int) false [], x1.2.1, ()))) >>= fun x2 =>
 if x2.1 = true then
  some (((2 : Int), Layout.mk (0 : Int) (0 : Int) false [], ()))
 else some (((0 : Int), x2.2.2.1, ()))
noncomputable def call8 : Caller vw := fun A fid args S k => match fid with | 16 => callPure prog sig16 n_16 A args S k | 20 => callObj prog sig20s33bf n_20s33bf A args S k | _ => none
noncomputable def x8 : Xc vw := { P := prog, n := 29, call := call8, sh := sh8, regs := fun k => match k with | 3 => some c8r3 | _ => none }
theorem call8_ok : CallerOk prog call8 := fun A fid args S dst k r h => by
 unfold call8 at h
 split at h
 ·exact callPure_ok (n_16_ok) rfl rfl h
 ·exact callObj_ok (n_20s33bf_ok) h
 ·cases h
theorem n_8_ok : SigOk prog 8 sig8 n_8 := fun v r x h hx =>
 fn_ok (X := x8) (sig := sig8) rfl Tryz.func8 (c := bodyOf Tryz.f8) (by kernel_rfl) Tryz.ntmps8 (by kernel_rfl) (by kernel_rfl) rfl Ty.mixed call8_ok rfl (fun C hP hN => (lok_all (kcast (by kernel_rfl) trivial))) (kcast (by kernel_rfl) h) x hx
noncomputable def c9r2 : Cut SN := ⟨[(2, .bp 2 0), (4, .bp 4 0), (25, .dat .bool)], [(2, .st .layoutT), (4, .st .layoutT)]⟩
noncomputable def sh9 : Shape vw := { rcut := c8z }
noncomputable def sig9 : Sig vw := { params := [.dat .str], rcut := c8z, rvars := [.cell 2 24, .tmp 3] }
noncomputable def n_9 (v : ByteArray × Unit) : Option (Int × Layout × Unit) :=
 n_21 (v.1, (0 : Int), (1 : Int), ()) >>= fun x1 =>
 (if (!x1.2.1) = true then
    some ((true, Layout.mk (0 : Int) (0 : Int) false [], x1.2.2.1, ()))
   else if (x1.1 != (↑v.1.size : Int)) = true then
    some ((true, Layout.mk (0 : Int) (0 : Int) false [], x1.2.2.1, ()))
   else n_18 (x1.2.2.1, ()) >>= fun x2 =>
   some ((x2.1 != (0 : Int), Layout.mk (0 : Int) (0 : Int) false [], x1.2.2.1, ()))) >>= fun x2 =>
 if x2.1 = true then
  some (((2 : Int), Layout.mk (0 : Int) (0 : Int) false [], ()))
 else some (((0 : Int), x2.2.2.1, ()))
noncomputable def call9 : Caller vw := fun A fid args S k => match fid with | 18 => callPure prog sig18 n_18 A args S k | 21 => callPure prog sig21 n_21 A args S k | _ => none
noncomputable def x9 : Xc vw := { P := prog, n := 28, call := call9, sh := sh9, regs := fun k => match k with | 2 => some c9r2 | _ => none }
theorem call9_ok : CallerOk prog call9 := fun A fid args S dst k r h => by
 unfold call9 at h
 split at h
 ·exact callPure_ok (n_18_ok) rfl rfl h
 ·exact callPure_ok (n_21_ok) rfl rfl h
 ·cases h
theorem n_9_ok : SigOk prog 9 sig9 n_9 := fun v r x h hx =>
 fn_ok (X := x9) (sig := sig9) rfl Tryz.func9 (c := bodyOf Tryz.f9) (by kernel_rfl) Tryz.ntmps9 (by kernel_rfl) (by kernel_rfl) rfl Ty.mixed call9_ok rfl (fun C hP hN => (lok_all (kcast (by kernel_rfl) trivial))) (kcast (by kernel_rfl) h) x hx
noncomputable def c3r1 : Cut SN := ⟨[(1, .dat .str), (2, .bp 2 0), (23, .dat .bool)], [(2, .st .layoutT)]⟩
noncomputable def c3r7 : Cut SN := ⟨[(1, .dat .str), (2, .bp 2 0), (5, .dat .str), (6, .dat (.int .i64)), (9, .bp 9 0), (10, .dat (.int .i64)), (63, .dat .bool)], [(2, .st .layoutT), (9, .st .layoutT)]⟩
noncomputable def sh3 : Shape vw := { rcut := c10z }
noncomputable def sig3 : Sig vw := { params := [.dat (.st .layoutT), .dat .str], rcut := c10z, rvars := [.tmp 4] }
noncomputable def n_3 (v : Layout × ByteArray × Unit) : Option (Bool × Unit) :=
 (n_4 (v.1, ()) >>= fun x1 =>
   if x1.1 = true then
    some ((v.2.1, true, v.1, ()))
   else some ((v.2.1, decide ((↑v.2.1.size : Int) > (2000 : Int)), v.1, ()))) >>= fun x1 =>
 if x1.2.1 = true then
  n_5 () >>= fun x2 =>
  some ((x2.1, ()))
 else n_6 (x1.2.2.1, ()) >>= fun x2 =>
 n_7 (x1.2.2.1, ()) >>= fun x3 =>
 n_8 (x1.1, ()) >>= fun x4 =>
 n_9 (x1.1, ()) >>= fun x5 =>
 (if (!x2.1.toList == x3.1.toList) = true then
    some ((x1.1, x2.1, x2.2.1, x4.1, true, x1.2.2.1, x4.2.1, ()))
   else if (x2.2.1 != x3.2.1) = true then
    some ((x1.1, x2.1, x2.2.1, x4.1, true, x1.2.2.1, x4.2.1, ()))
   else if (x4.1 != x5.1) = true then
    some ((x1.1, x2.1, x2.2.1, x4.1, true, x1.2.2.1, x4.2.1, ()))
   else n_10 (x4.2.1, x5.2.1, ()) >>= fun x6 =>
   some ((x1.1, x2.1, x2.2.1, x4.1, !x6.1, x1.2.2.1, x4.2.1, ()))) >>= fun x6 =>
 if x6.2.2.2.2.1 = true then
  some ((false, ()))
 else n_8 (x6.2.1, ()) >>= fun x7 =>
 n_6 (x6.2.2.2.2.2.2.1, ()) >>= fun x8 =>
 (if (x6.2.2.1 != (0 : Int)) = true then
    if (x6.2.2.2.1 != (0 : Int)) = true then
     n_5 () >>= fun x9 =>
     some ((x9.1, ()))
    else if (x8.2.1 == (0 : Int)) = true then
     if (x8.1.toList == x6.1.toList) = true then
      n_5 () >>= fun x9 =>
      some ((x9.1, ()))
     else some ((false, ()))
    else some ((false, ()))
   else if (x7.1 == (0 : Int)) = true then
    n_10 (x7.2.1, x6.2.2.2.2.2.1, ()) >>= fun x9 =>
    if x9.1 = true then
     if (x6.2.2.2.1 != (0 : Int)) = true then
      n_5 () >>= fun x10 =>
      some ((x10.1, ()))
     else if (x8.2.1 == (0 : Int)) = true then
      if (x8.1.toList == x6.1.toList) = true then
       n_5 () >>= fun x10 =>
       some ((x10.1, ()))
      else some ((false, ()))
     else some ((false, ()))
    else some ((false, ()))
   else some ((false, ()))) >>= fun x9 =>
 some ((x9.1, ()))
noncomputable def call3 : Caller vw := fun A fid args S k => match fid with | 4 => callPure prog sig4 n_4 A args S k | 5 => callPure prog sig5 n_5 A args S k | 6 => callPure prog sig6 n_6 A args S k | 7 => callPure prog sig7 n_7 A args S k | 8 => callPure prog sig8 n_8 A args S k | 9 => callPure prog sig9 n_9 A args S k | 10 => callPure prog sig10 n_10 A args S k | _ => none
noncomputable def x3 : Xc vw := { P := prog, n := 101, call := call3, sh := sh3, regs := fun k => match k with | 1 => some c3r1 | 7 => some c3r7 | 11 => some c10z | _ => none }
theorem call3_ok : CallerOk prog call3 := fun A fid args S dst k r h => by
 unfold call3 at h
 split at h
 ·exact callPure_ok (n_4_ok) rfl rfl h
 ·exact callPure_ok (n_5_ok) rfl rfl h
 ·exact callPure_ok (n_6_ok) rfl rfl h
 ·exact callPure_ok (n_7_ok) rfl rfl h
 ·exact callPure_ok (n_8_ok) rfl rfl h
 ·exact callPure_ok (n_9_ok) rfl rfl h
 ·exact callPure_ok (n_10_ok) rfl rfl h
 ·cases h
theorem n_3_ok : SigOk prog 3 sig3 n_3 := fun v r x h hx =>
 fn_ok (X := x3) (sig := sig3) rfl Tryz.func3 (c := bodyOf Tryz.f3) (by kernel_rfl) Tryz.ntmps3 (by kernel_rfl) (by kernel_rfl) rfl Ty.mixed call3_ok rfl (fun C hP hN => (lok_all (kcast (by kernel_rfl) trivial))) (kcast (by kernel_rfl) h) x hx
end Go.Proofs.YtogoamfegaebgaaGreatDoor
end
section
namespace Go.Proofs.YtogoamfegaebgaaGreatDoor
set_option maxRecDepth 20000
theorem f56 (l : Layout) : n_49 (l, ()) = some (bitsS l, ()) := by
 simp only [n_49, bitsS, beq_iff_eq]; (repeat' split) <;> simp_all
theorem f58 (l : Layout) : n_57 (l, ()) = some (bitsS l, ()) := by
 simp only [n_57, bitsS, beq_iff_eq]; (repeat' split) <;> simp_all
theorem at_lt {α : Type} {xs : List α} {k : Nat} (h : k < xs.length) : ∃ p, xs[k]? = some p ∧ p ∈ xs ∧ xs.drop k = p :: xs.drop (k + 1) ∧ ((k : Int) < (xs.length : Int)) ∧ (0 : Int) ≤ (k : Int) :=
 let ⟨p, a, b, c⟩ := drop_step h
 ⟨p, a, b, c, by omega, by omega⟩
theorem at_end {α : Type} {xs : List α} {k : Nat} (h : ¬ k < xs.length) : xs.drop k = [] ∧ ¬ ((k : Int) < (xs.length : Int)) := ⟨drop_end h, by omega⟩
theorem f72l (xs : List Int) (hx : ∀ x ∈ xs, 0 ≤ x) (hl : xs.length ≤ 1000000) (k : Nat) (a : Int) (h0 : 0 ≤ a) (h1 : a ≤ far) :
  n_48l3 (a, xs, xs.length, k, ()) = some ((xs.drop k).foldl (fun n x => min far (n + min x far)) a, ()) := by
 have hf : far = 1099511627776 := rfl
 rw [n_48l3]
 by_cases hlt : k < xs.length
 ·obtain ⟨p, hp, hm, hd, g1, g2⟩ := at_lt hlt
  have hp0 := hx p hm
  have e1 : IntKind.i64.wrap (a + min p 1099511627776) = a + min p 1099511627776 := wrap64 (by omega) (by omega)
  simp only [Option.bind_eq_bind, Option.bind_some, Option.bind_none, if_true, if_false, Bool.false_eq_true, Bool.true_eq_false, Int.toNat_natCast, Int.natCast_nonneg, beq_iff_eq, decide_eq_true_eq, Int.ofNat_lt, g1, g2, hp, e1, wrap_succ hlt (Nat.le_trans hl (by decide)), hd, List.foldl_cons, hlt]
  exact f72l xs hx hl (k + 1) _ (by omega) (by omega)
 ·obtain ⟨hd, g1⟩ := at_end hlt
  simp only [Option.bind_eq_bind, Option.bind_some, Option.bind_none, if_true, if_false, Bool.false_eq_true, Bool.true_eq_false, Int.toNat_natCast, Int.natCast_nonneg, beq_iff_eq, decide_eq_true_eq, Int.ofNat_lt, g1, hd, List.foldl_nil, hlt]
termination_by xs.length - k
theorem f72 (xs : List Int) (hx : ∀ x ∈ xs, 0 ≤ x) (hl : xs.length ≤ 1000000) : n_48 (xs, ()) = some (sumS xs, ()) := by
 have := f72l xs hx hl 0 0 (by omega) (by decide)
 simp only [Int.ofNat_eq_natCast, Int.natCast_zero] at this
 simp only [n_48, this, Option.bind_eq_bind, Option.bind_some, Option.bind_none, if_true, if_false, Bool.false_eq_true, Bool.true_eq_false, Int.toNat_natCast, Int.natCast_nonneg, beq_iff_eq, decide_eq_true_eq, Int.ofNat_lt, List.drop_zero, sumS]
theorem f72p {a b : Int} (ha : 0 ≤ a) (hb : 0 ≤ b) : n_48 ([a, b], ()) = some (min far (a + b), ()) := by
 rw [f72 [a, b] (by simp; omega) (by simp), sumS2 a b ha hb]
theorem f55l (ps : List Layout) (hn : ps.length ≤ 9223372036854775807) (k : Nat) (a : Int) (h0 : 0 ≤ a) (hb : a + sumBits (ps.drop k) ≤ 4611686018427387904) : n_65l3 (a, ps, ps.length, k, ()) = some (a + sumBits (ps.drop k), ()) := by
 rw [n_65l3]
 by_cases hlt : k < ps.length
 ·obtain ⟨p, hp, hm, hd, g1, g2⟩ := at_lt hlt
  rw [hd] at hb ⊢
  simp only [sumBits] at hb ⊢
  have b1 := bitsS_nonneg p
  have b2 := sumBits_nonneg (ps.drop (k + 1))
  have e1 : IntKind.i64.wrap (a + bitsS p) = a + bitsS p := wrap64 (by omega) (by omega)
  simp only [Option.bind_eq_bind, Option.bind_some, Option.bind_none, if_true, if_false, Bool.false_eq_true, Bool.true_eq_false, Int.toNat_natCast, Int.natCast_nonneg, beq_iff_eq, decide_eq_true_eq, Int.ofNat_lt, g1, g2, hp, f56, e1, wrap_succ hlt hn, hlt]
  rw [f55l ps hn (k + 1) _ (by omega) (by omega), Int.add_assoc]
 ·obtain ⟨hd, g1⟩ := at_end hlt
  simp only [Option.bind_eq_bind, Option.bind_some, Option.bind_none, if_true, if_false, Bool.false_eq_true, Bool.true_eq_false, Int.toNat_natCast, Int.natCast_nonneg, beq_iff_eq, decide_eq_true_eq, Int.ofNat_lt, g1, hd, sumBits, Int.add_zero, hlt]
termination_by ps.length - k
theorem f55 (l : Layout) (hn : l.parts.length ≤ 9223372036854775807) (hb : sumBits l.parts ≤ 4611686018427387904) : n_65 (l, ()) = some (sumBits l.parts, ()) := by
 have := f55l l.parts hn 0 0 (by omega) (by simpa using hb)
 simp only [Int.natCast_zero, Int.ofNat_eq_natCast, Int.zero_add, List.drop_zero] at this
 simp only [n_65, this, Option.bind_eq_bind, Option.bind_some, Option.bind_none, if_true, if_false, Bool.false_eq_true, Bool.true_eq_false, Int.toNat_natCast, Int.natCast_nonneg, beq_iff_eq, decide_eq_true_eq, Int.ofNat_lt]
theorem f52l (l : Layout) (hn : l.parts.length ≤ 9223372036854775807) (k : Nat) (a : Int) (h0 : 0 ≤ a) (h1 : a ≤ 100000) : n_35l3 (a, k, l, ()) = some ((l.parts.drop k).foldl (fun n p => min (n + min (bitsS p) 1000) 100000) a, ()) := by
 rw [n_35l3]
 by_cases hlt : k < l.parts.length
 ·obtain ⟨p, hp, hm, hd, g1, g2⟩ := at_lt hlt
  have b1 := bitsS_nonneg p
  have e1 : IntKind.i64.wrap (a + min (bitsS p) 1000) = a + min (bitsS p) 1000 := wrap64 (by omega) (by omega)
  simp only [Option.bind_eq_bind, Option.bind_some, Option.bind_none, if_true, if_false, Bool.false_eq_true, Bool.true_eq_false, Int.toNat_natCast, Int.natCast_nonneg, beq_iff_eq, decide_eq_true_eq, Int.ofNat_lt, g1, g2, hp, f58, e1, wrap_succ hlt hn, hd, List.foldl_cons, hlt]
  exact f52l l hn (k + 1) _ (by omega) (by omega)
 ·obtain ⟨hd, g1⟩ := at_end hlt
  simp only [Option.bind_eq_bind, Option.bind_some, Option.bind_none, if_true, if_false, Bool.false_eq_true, Bool.true_eq_false, Int.toNat_natCast, Int.natCast_nonneg, beq_iff_eq, decide_eq_true_eq, Int.ofNat_lt, g1, hd, List.foldl_nil, hlt]
termination_by l.parts.length - k
theorem f52 (l : Layout) (hn : l.parts.length ≤ 9223372036854775807) : n_35 (l, ()) = some (satBits l.parts, ()) := by
 have := f52l l hn 0 0 (by omega) (by omega)
 simp only [Int.natCast_zero, Int.ofNat_eq_natCast, List.drop_zero] at this
 simp only [n_35, this, Option.bind_eq_bind, Option.bind_some, Option.bind_none, if_true, if_false, Bool.false_eq_true, Bool.true_eq_false, Int.toNat_natCast, Int.natCast_nonneg, beq_iff_eq, decide_eq_true_eq, Int.ofNat_lt, satBits]
end Go.Proofs.YtogoamfegaebgaaGreatDoor
end
