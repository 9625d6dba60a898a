/-
  Functions of the program as functions of Lean, and that they say what the program does. Made by a program of mine.
-/
import Derived.Test.YtdknkfioigcfiaaView
namespace Go.Proofs.Ytdknkfioigcfiaa
open Go.Awp Go.Tx
set_option linter.unusedVariables false
set_option maxRecDepth 100000

noncomputable def c37l3 : Cut SN := { slots := [(1, .dat (.int .i64)), (2, .bp 2 0), (5, .dat (.int .i64)), (6, .dat (.int .i64))], objs := [(2, .st .layoutT)] }
noncomputable def c37r3 : Cut SN := { slots := [(1, .dat (.int .i64)), (2, .bp 2 0), (5, .dat (.int .i64)), (6, .dat (.int .i64)), (15, .dat .bool)], objs := [(2, .st .layoutT)] }
noncomputable def c37e0 : Cut SN := { slots := [(5, .dat (.int .i64))], objs := [] }
noncomputable def c37z : Cut SN := { slots := [(4, .dat (.int .i64))], objs := [] }
noncomputable def sh37 : Shape vw := { exits := fun id => match id with | 0 => c37e0 | _ => { slots := [], objs := [] }, rcut := c37z }
noncomputable def sig37 : Sig vw := { params := [.dat (.st .layoutT), .dat (.int .i64)], objs := [], rcut := c37z, rvars := [.tmp 4], keep := [] }
mutual
noncomputable def n_37l3 (v : Int × Int × Int × Layout × Unit) : Option ((Int × Unit)) :=
  (if decide (v.snd.snd.fst < (↑v.snd.snd.snd.fst.parts.length : Int)) = true then
      some ((v.fst, v.snd.fst, v.snd.snd.fst, decide (v.fst > (0 : Int)), v.snd.snd.snd.fst, ()))
    else some ((v.fst, v.snd.fst, v.snd.snd.fst, false, v.snd.snd.snd.fst, ()))) >>= fun x1 =>
  if x1.snd.snd.snd.fst = true then
    if (0 : Int) ≤ x1.snd.snd.fst then
      x1.snd.snd.snd.snd.fst.parts[x1.snd.snd.fst.toNat]? >>= fun x2 =>
      n_37 (x2, IntKind.i64.wrap (x1.fst - (1 : Int)), ()) >>= fun x3 =>
      n_37l3 (x1.fst, max x1.snd.fst x3.fst, IntKind.i64.wrap (x1.snd.snd.fst + (1 : Int)), x1.snd.snd.snd.snd.fst, ())
    else none
  else some ((x1.snd.fst, ()))
  partial_fixpoint
noncomputable def n_37 (v : Layout × Int × Unit) : Option (Int × Unit) :=
  n_37l3 (v.snd.fst, (0 : Int), (0 : Int), v.fst, ()) >>= fun x1 =>
  some ((IntKind.i64.wrap (x1.fst + (1 : Int)), ()))
  partial_fixpoint
end
noncomputable def call37 (n_37l3 : Int × Int × Int × Layout × Unit → Option ((Int × Unit))) (n_37 : Layout × Int × Unit → Option (Int × Unit)) : Caller vw := fun A fid args S k => match fid with | 37 => callPure Try.prog sig37 n_37 A args S k | _ => none
noncomputable def x37 (n_37l3 : Int × Int × Int × Layout × Unit → Option ((Int × Unit))) (n_37 : Layout × Int × Unit → Option (Int × Unit)) : Xc vw := { P := Try.prog, n := 30, nm := id, call := call37 n_37l3 n_37, pre := fun _ => false, sh := sh37, joins := fun _ => none, regs := fun k => match k with | 3 => some c37r3 | _ => none, loops := fun k => match k with | 3 => some { cut := c37l3, alts := [.exit 0], F := n_37l3 } | _ => none }
abbrev mn_37l3 (v : Int × Int × Int × Layout × Unit) (r : (Int × Unit)) : Prop := (fun v out => ∀ C : Ctx, C.P = Try.prog → C.N = 30 → AWpL C (loopNo (bodyOf Try.f37) 0) (encS vw (conc vw c37l3 v)) (OutQ sh37 [.exit 0] out)) v r
abbrev mn_37 (v : Layout × Int × Unit) (r : Int × Unit) : Prop := (fun v r => ∀ x, resV Try.prog sig37 r = some x → FnOk Try.prog 37 (encL vw (startS sig37 v).len (startOs sig37 v).1) (encOs (startS sig37 v).len (startS sig37 v).own) (encV vw (conc vw sig37.rcut r).len x) (encOs (conc vw sig37.rcut r).len (kept sig37 r))) v r
theorem n_37l3_all : (∀ v r, n_37l3 v = some r → mn_37l3 v r) ∧ (∀ v r, n_37 v = some r → mn_37 v r) := by
  refine n_37l3.mutual_partial_correctness
    (motive_1 := mn_37l3)
    (motive_2 := mn_37)
    ?_ ?_
  · exact (fun f0 f1 h0 h1 v out h C hP hN => loop_step (X := x37 f0 f1) (b := (loopNo (bodyOf Try.f37) 0)) hP hN Ty.mixed (by
        intro A fid args S dst k r h
        unfold x37 call37 at h
        simp only at h
        split at h
        · exact callPure_ok ((fun v r x h hx => h1 v r h x hx)) rfl rfl h
        · cases h) (lok_all (X := x37 f0 f1) (c := (loopNo (bodyOf Try.f37) 0)) (kcast (by kernel_rfl : True = AllB (LoopsP C (x37 f0 f1)) (loopsIn (loopNo (bodyOf Try.f37) 0))) trivial)) (cut := c37l3) (alts := [.exit 0]) (F := f0) (fun v out h => h0 v out h C hP hN) (kcast (by kernel_rfl) h))
  · exact (fun f0 h0 v r h x hx => fn_ok (X := x37 f0 (fun _ => none)) (sig := sig37) rfl Try.func37 (c := bodyOf Try.f37) (by kernel_rfl) Try.ntmps37 (by kernel_rfl) (by kernel_rfl) rfl Ty.mixed (by
        intro A fid args S dst k r h
        unfold x37 call37 at h
        simp only at h
        split at h
        · exact callPure_ok ((fun v r x h hx => by cases h)) rfl rfl h
        · cases h) rfl (fun C hP hN => (lok_all (X := x37 f0 (fun _ => none)) (c := (bodyOf Try.f37)) (kcast (by kernel_rfl : AllB (LoopsP C (x37 f0 (fun _ => none))) [(loopNo (bodyOf Try.f37) 0)] = AllB (LoopsP C (x37 f0 (fun _ => none))) (loopsIn (bodyOf Try.f37))) ⟨loop_at (X := x37 f0 (fun _ => none)) (b := (loopNo (bodyOf Try.f37) 0)) (by kernel_rfl) (show LoopOk C (loopNo (bodyOf Try.f37) 0) (sh := sh37) { cut := c37l3, alts := [.exit 0], F := f0 } from fun v out h => h0 v out h C hP hN), trivial⟩))) (kcast (by kernel_rfl) h) x hx)
theorem n_37l3_pc : ∀ v out, n_37l3 v = some out → (fun v out => ∀ C : Ctx, C.P = Try.prog → C.N = 30 → AWpL C (loopNo (bodyOf Try.f37) 0) (encS vw (conc vw c37l3 v)) (OutQ sh37 [.exit 0] out)) v out := n_37l3_all.1
theorem n_37_ok : SigOk Try.prog 37 sig37 n_37 := fun v r x h hx => n_37l3_all.2 v r h x hx

noncomputable def c38l3 : Cut SN := { slots := [(1, .dat (.int .i64)), (2, .bp 2 0), (5, .dat (.int .i64)), (6, .dat (.int .i64))], objs := [(2, .st .layoutT)] }
noncomputable def c38r3 : Cut SN := { slots := [(1, .dat (.int .i64)), (2, .bp 2 0), (5, .dat (.int .i64)), (6, .dat (.int .i64)), (16, .dat .bool)], objs := [(2, .st .layoutT)] }
noncomputable def c38e0 : Cut SN := { slots := [(5, .dat (.int .i64))], objs := [] }
noncomputable def c38z : Cut SN := { slots := [(4, .dat (.int .i64))], objs := [] }
noncomputable def sh38 : Shape vw := { exits := fun id => match id with | 0 => c38e0 | _ => { slots := [], objs := [] }, rcut := c38z }
noncomputable def sig38 : Sig vw := { params := [.dat (.st .layoutT), .dat (.int .i64)], objs := [], rcut := c38z, rvars := [.tmp 4], keep := [] }
mutual
noncomputable def n_38l3 (v : Int × Int × Int × Layout × Unit) : Option ((Int × Unit)) :=
  (if decide (v.snd.snd.fst < (↑v.snd.snd.snd.fst.parts.length : Int)) = true then
      some ((v.fst, v.snd.fst, v.snd.snd.fst, decide (v.snd.fst < v.fst), v.snd.snd.snd.fst, ()))
    else some ((v.fst, v.snd.fst, v.snd.snd.fst, false, v.snd.snd.snd.fst, ()))) >>= fun x1 =>
  if x1.snd.snd.snd.fst = true then
    if (0 : Int) ≤ x1.snd.snd.fst then
      x1.snd.snd.snd.snd.fst.parts[x1.snd.snd.fst.toNat]? >>= fun x2 =>
      n_38 (x2, IntKind.i64.wrap (x1.fst - x1.snd.fst), ()) >>= fun x3 =>
      n_38l3 (x1.fst, IntKind.i64.wrap (x1.snd.fst + x3.fst), IntKind.i64.wrap (x1.snd.snd.fst + (1 : Int)), x1.snd.snd.snd.snd.fst, ())
    else none
  else some ((x1.snd.fst, ()))
  partial_fixpoint
noncomputable def n_38 (v : Layout × Int × Unit) : Option (Int × Unit) :=
  n_38l3 (v.snd.fst, (1 : Int), (0 : Int), v.fst, ()) >>= fun x1 =>
  some ((x1.fst, ()))
  partial_fixpoint
end
noncomputable def call38 (n_38l3 : Int × Int × Int × Layout × Unit → Option ((Int × Unit))) (n_38 : Layout × Int × Unit → Option (Int × Unit)) : Caller vw := fun A fid args S k => match fid with | 38 => callPure Try.prog sig38 n_38 A args S k | _ => none
noncomputable def x38 (n_38l3 : Int × Int × Int × Layout × Unit → Option ((Int × Unit))) (n_38 : Layout × Int × Unit → Option (Int × Unit)) : Xc vw := { P := Try.prog, n := 31, nm := id, call := call38 n_38l3 n_38, pre := fun _ => false, sh := sh38, joins := fun _ => none, regs := fun k => match k with | 3 => some c38r3 | _ => none, loops := fun k => match k with | 3 => some { cut := c38l3, alts := [.exit 0], F := n_38l3 } | _ => none }
abbrev mn_38l3 (v : Int × Int × Int × Layout × Unit) (r : (Int × Unit)) : Prop := (fun v out => ∀ C : Ctx, C.P = Try.prog → C.N = 31 → AWpL C (loopNo (bodyOf Try.f38) 0) (encS vw (conc vw c38l3 v)) (OutQ sh38 [.exit 0] out)) v r
abbrev mn_38 (v : Layout × Int × Unit) (r : Int × Unit) : Prop := (fun v r => ∀ x, resV Try.prog sig38 r = some x → FnOk Try.prog 38 (encL vw (startS sig38 v).len (startOs sig38 v).1) (encOs (startS sig38 v).len (startS sig38 v).own) (encV vw (conc vw sig38.rcut r).len x) (encOs (conc vw sig38.rcut r).len (kept sig38 r))) v r
theorem n_38l3_all : (∀ v r, n_38l3 v = some r → mn_38l3 v r) ∧ (∀ v r, n_38 v = some r → mn_38 v r) := by
  refine n_38l3.mutual_partial_correctness
    (motive_1 := mn_38l3)
    (motive_2 := mn_38)
    ?_ ?_
  · exact (fun f0 f1 h0 h1 v out h C hP hN => loop_step (X := x38 f0 f1) (b := (loopNo (bodyOf Try.f38) 0)) hP hN Ty.mixed (by
        intro A fid args S dst k r h
        unfold x38 call38 at h
        simp only at h
        split at h
        · exact callPure_ok ((fun v r x h hx => h1 v r h x hx)) rfl rfl h
        · cases h) (lok_all (X := x38 f0 f1) (c := (loopNo (bodyOf Try.f38) 0)) (kcast (by kernel_rfl : True = AllB (LoopsP C (x38 f0 f1)) (loopsIn (loopNo (bodyOf Try.f38) 0))) trivial)) (cut := c38l3) (alts := [.exit 0]) (F := f0) (fun v out h => h0 v out h C hP hN) (kcast (by kernel_rfl) h))
  · exact (fun f0 h0 v r h x hx => fn_ok (X := x38 f0 (fun _ => none)) (sig := sig38) rfl Try.func38 (c := bodyOf Try.f38) (by kernel_rfl) Try.ntmps38 (by kernel_rfl) (by kernel_rfl) rfl Ty.mixed (by
        intro A fid args S dst k r h
        unfold x38 call38 at h
        simp only at h
        split at h
        · exact callPure_ok ((fun v r x h hx => by cases h)) rfl rfl h
        · cases h) rfl (fun C hP hN => (lok_all (X := x38 f0 (fun _ => none)) (c := (bodyOf Try.f38)) (kcast (by kernel_rfl : AllB (LoopsP C (x38 f0 (fun _ => none))) [(loopNo (bodyOf Try.f38) 0)] = AllB (LoopsP C (x38 f0 (fun _ => none))) (loopsIn (bodyOf Try.f38))) ⟨loop_at (X := x38 f0 (fun _ => none)) (b := (loopNo (bodyOf Try.f38) 0)) (by kernel_rfl) (show LoopOk C (loopNo (bodyOf Try.f38) 0) (sh := sh38) { cut := c38l3, alts := [.exit 0], F := f0 } from fun v out h => h0 v out h C hP hN), trivial⟩))) (kcast (by kernel_rfl) h) x hx)
theorem n_38l3_pc : ∀ v out, n_38l3 v = some out → (fun v out => ∀ C : Ctx, C.P = Try.prog → C.N = 31 → AWpL C (loopNo (bodyOf Try.f38) 0) (encS vw (conc vw c38l3 v)) (OutQ sh38 [.exit 0] out)) v out := n_38l3_all.1
theorem n_38_ok : SigOk Try.prog 38 sig38 n_38 := fun v r x h hx => n_38l3_all.2 v r h x hx

noncomputable def c11r1 : Cut SN := { slots := [(2, .dat .bool)], objs := [] }
noncomputable def c11z : Cut SN := { slots := [(2, .dat .bool)], objs := [] }
noncomputable def sh11 : Shape vw := { exits := fun _ => { slots := [], objs := [] }, rcut := c11z }
noncomputable def sig11 : Sig vw := { params := [.dat (.st .layoutT)], objs := [], rcut := c11z, rvars := [.tmp 2], keep := [] }
noncomputable def n_11 (v : Layout × Unit) : Option (Bool × Unit) :=
  (n_37 (v.fst, (30 : Int), ()) >>= fun x1 =>
    if decide (x1.fst > (20 : Int)) = true then
      some ((true, ()))
    else n_38 (v.fst, (600 : Int), ()) >>= fun x2 =>
    some ((decide (x2.fst > (500 : Int)), ()))) >>= fun x1 =>
  some ((x1.fst, ()))
noncomputable def call11 : Caller vw := fun A fid args S k => match fid with | 37 => callPure Try.prog sig37 n_37 A args S k | 38 => callPure Try.prog sig38 n_38 A args S k | _ => none
noncomputable def x11 : Xc vw := { P := Try.prog, n := 11, nm := id, call := call11, pre := fun _ => false, sh := sh11, joins := fun _ => none, regs := fun k => match k with | 1 => some c11r1 | _ => none, loops := fun _ => none }
theorem call11_ok : CallerOk Try.prog call11 := fun A fid args S dst k r h => by
  unfold call11 at h
  split at h
  · exact callPure_ok (n_37_ok) rfl rfl h
  · exact callPure_ok (n_38_ok) rfl rfl h
  · cases h
theorem n_11_ok : SigOk Try.prog 11 sig11 n_11 := fun v r x h hx =>
  fn_ok (X := x11) (sig := sig11) rfl Try.func11 (c := bodyOf Try.f11) (by kernel_rfl) Try.ntmps11 (by kernel_rfl) (by kernel_rfl) rfl Ty.mixed call11_ok rfl (fun C hP hN => (lok_all (X := x11) (c := (bodyOf Try.f11)) (kcast (by kernel_rfl : True = AllB (LoopsP C (x11)) (loopsIn (bodyOf Try.f11))) trivial))) (kcast (by kernel_rfl) h) x hx

noncomputable def c56z : Cut SN := { slots := [(2, .dat (.int .i64))], objs := [] }
noncomputable def sh56 : Shape vw := { exits := fun _ => { slots := [], objs := [] }, rcut := c56z }
noncomputable def sig56 : Sig vw := { params := [.dat (.st .layoutT)], objs := [], rcut := c56z, rvars := [.tmp 2], keep := [] }
noncomputable def n_56 (v : Layout × Unit) : Option (Int × Unit) :=
  if (v.fst.kind == (1 : Int)) = true then
    some (((1 : Int), ()))
  else if (v.fst.kind == (2 : Int)) = true then
    some ((max v.fst.n (0 : Int), ()))
  else some (((0 : Int), ()))
noncomputable def call56 : Caller vw := fun _ _ _ _ _ => none
noncomputable def x56 : Xc vw := { P := Try.prog, n := 12, nm := id, call := call56, pre := fun _ => false, sh := sh56, joins := fun _ => none, regs := fun _ => none, loops := fun _ => none }
theorem call56_ok : CallerOk Try.prog call56 := call_none
theorem n_56_ok : SigOk Try.prog 56 sig56 n_56 := fun v r x h hx =>
  fn_ok (X := x56) (sig := sig56) rfl Try.func56 (c := bodyOf Try.f56) (by kernel_rfl) Try.ntmps56 (by kernel_rfl) (by kernel_rfl) rfl Ty.mixed call56_ok rfl (fun C hP hN => (lok_all (X := x56) (c := (bodyOf Try.f56)) (kcast (by kernel_rfl : True = AllB (LoopsP C (x56)) (loopsIn (bodyOf Try.f56))) trivial))) (kcast (by kernel_rfl) h) x hx

noncomputable def c72l3 : Cut SN := { slots := [(3, .dat (.int .i64)), (6, .dat (.sl (.int .i64))), (7, .dat (.int .i64)), (8, .dat (.int .i64))], objs := [] }
noncomputable def c72e0 : Cut SN := { slots := [(3, .dat (.int .i64))], objs := [] }
noncomputable def c72z : Cut SN := { slots := [(2, .dat (.int .i64))], objs := [] }
noncomputable def sh72 : Shape vw := { exits := fun id => match id with | 0 => c72e0 | _ => { slots := [], objs := [] }, rcut := c72z }
noncomputable def sig72 : Sig vw := { params := [.dat (.sl (.int .i64))], objs := [], rcut := c72z, rvars := [.tmp 2], keep := [] }
noncomputable def n_72l3 (v : Int × (List Int) × Int × Int × Unit) : Option ((Int × Unit)) :=
  if decide (v.snd.snd.snd.fst < v.snd.snd.fst) = true then
    if (0 : Int) ≤ v.snd.snd.snd.fst then
      v.snd.fst[v.snd.snd.snd.fst.toNat]? >>= fun x1 =>
      n_72l3 (min (1099511627776 : Int) (IntKind.i64.wrap (v.fst + min x1 (1099511627776 : Int))), v.snd.fst, v.snd.snd.fst, IntKind.i64.wrap (v.snd.snd.snd.fst + (1 : Int)), ())
    else none
  else some ((v.fst, ()))
  partial_fixpoint
noncomputable def n_72 (v : (List Int) × Unit) : Option (Int × Unit) :=
  n_72l3 ((0 : Int), v.fst, (↑v.fst.length : Int), (0 : Int), ()) >>= fun x1 =>
  some ((x1.fst, ()))
noncomputable def call72 : Caller vw := fun _ _ _ _ _ => none
noncomputable def x72 : Xc vw := { P := Try.prog, n := 19, nm := id, call := call72, pre := fun _ => false, sh := sh72, joins := fun _ => none, regs := fun _ => none, loops := fun k => match k with | 3 => some { cut := c72l3, alts := [.exit 0], F := n_72l3 } | _ => none }
theorem call72_ok : CallerOk Try.prog call72 := call_none
theorem n_72l3_ok (C : Ctx) (hP : C.P = Try.prog) (hN : C.N = 19) : LoopOk C (loopNo (bodyOf Try.f72) 0) (sh := sh72) { cut := c72l3, alts := [.exit 0], F := n_72l3 } :=
  n_72l3.partial_correctness (motive := fun v out => AWpL C (loopNo (bodyOf Try.f72) 0) (encS vw (conc vw c72l3 v)) (OutQ sh72 [.exit 0] out)) fun F ih v out h =>
    loop_step (X := x72) (b := (loopNo (bodyOf Try.f72) 0)) hP hN Ty.mixed call72_ok (lok_all (X := x72) (c := (loopNo (bodyOf Try.f72) 0)) (kcast (by kernel_rfl : True = AllB (LoopsP C (x72)) (loopsIn (loopNo (bodyOf Try.f72) 0))) trivial)) ih (kcast (by kernel_rfl) h)
theorem n_72_ok : SigOk Try.prog 72 sig72 n_72 := fun v r x h hx =>
  fn_ok (X := x72) (sig := sig72) rfl Try.func72 (c := bodyOf Try.f72) (by kernel_rfl) Try.ntmps72 (by kernel_rfl) (by kernel_rfl) rfl Ty.mixed call72_ok rfl (fun C hP hN => (lok_all (X := x72) (c := (bodyOf Try.f72)) (kcast (by kernel_rfl : AllB (LoopsP C (x72)) [(loopNo (bodyOf Try.f72) 0)] = AllB (LoopsP C (x72)) (loopsIn (bodyOf Try.f72))) ⟨loop_at (X := x72) (b := (loopNo (bodyOf Try.f72) 0)) (by kernel_rfl) (n_72l3_ok C hP hN), trivial⟩))) (kcast (by kernel_rfl) h) x hx

noncomputable def c45sf4a5l14 : Cut SN := { slots := [(0, .bp 100000 0), (2, .dat (.int .i64)), (4, .bp 4 0), (6, .dat (.int .i64)), (98, .dat (.sl (.st .layoutT))), (99, .dat (.int .i64)), (100, .dat (.int .i64))], objs := [(100000, .st .countedT), (4, .st .layoutT)] }
noncomputable def c45sf4a5l21 : Cut SN := { slots := [(0, .bp 100000 0), (2, .dat (.int .i64)), (126, .dat (.sl (.st .layoutT))), (127, .dat (.int .i64)), (128, .dat (.int .i64))], objs := [(100000, .st .countedT)] }
noncomputable def c45sf4a5j19 : Cut SN := { slots := [(0, .bp 100000 0), (2, .dat (.int .i64)), (4, .bp 4 0)], objs := [(100000, .st .countedT), (4, .st .layoutT)] }
noncomputable def c45sf4a5r3 : Cut SN := { slots := [(0, .bp 100000 0), (2, .dat (.int .i64)), (4, .bp 4 0)], objs := [(100000, .st .countedT), (4, .st .layoutT)] }
noncomputable def c45sf4a5r6 : Cut SN := { slots := [(0, .bp 100000 0), (2, .dat (.int .i64)), (4, .bp 4 0)], objs := [(100000, .st .countedT), (4, .st .layoutT)] }
noncomputable def c45sf4a5r8 : Cut SN := { slots := [(0, .bp 100000 0), (2, .dat (.int .i64)), (4, .bp 4 0)], objs := [(100000, .st .countedT), (4, .st .layoutT)] }
noncomputable def c45sf4a5r10 : Cut SN := { slots := [(0, .bp 100000 0), (2, .dat (.int .i64)), (4, .bp 4 0)], objs := [(100000, .st .countedT), (4, .st .layoutT)] }
noncomputable def c45sf4a5r18 : Cut SN := { slots := [(0, .bp 100000 0), (2, .dat (.int .i64)), (4, .bp 4 0)], objs := [(100000, .st .countedT), (4, .st .layoutT)] }
noncomputable def c45sf4a5e1 : Cut SN := { slots := [(0, .bp 100000 0), (2, .dat (.int .i64)), (4, .bp 4 0), (6, .dat (.int .i64))], objs := [(100000, .st .countedT), (4, .st .layoutT)] }
noncomputable def c45sf4a5e3 : Cut SN := { slots := [(0, .bp 100000 0)], objs := [(100000, .st .countedT)] }
noncomputable def c45sf4a5z : Cut SN := { slots := [(0, .bp 100000 0)], objs := [(100000, .st .countedT)] }
noncomputable def sh45sf4a5 : Shape vw := { exits := fun id => match id with | 1 => c45sf4a5e1 | 3 => c45sf4a5e3 | _ => { slots := [], objs := [] }, rcut := c45sf4a5z }
noncomputable def sig45sf4a5 : Sig vw := { params := [.bp 100000 0, .dat (.st .layoutT), .dat (.int .i64)], objs := [(100000, .st .countedT)], rcut := c45sf4a5z, rvars := [], keep := [100000] }
noncomputable def n_45sf4a5l14 (v : Int × Int × (List Layout) × Int × Int × Counted × Layout × Unit) : Option ((Int × Int × Counted × Layout × Unit)) :=
  if decide (v.snd.snd.snd.snd.fst < v.snd.snd.snd.fst) = true then
    if (0 : Int) ≤ v.snd.snd.snd.snd.fst then
      v.snd.snd.fst[v.snd.snd.snd.snd.fst.toNat]? >>= fun x1 =>
      n_56 (x1, ()) >>= fun x2 =>
      n_72 ([v.snd.fst, x2.fst], ()) >>= fun x3 =>
      n_45sf4a5l14 (v.fst, x3.fst, v.snd.snd.fst, v.snd.snd.snd.fst, IntKind.i64.wrap (v.snd.snd.snd.snd.fst + (1 : Int)), v.snd.snd.snd.snd.snd.fst, v.snd.snd.snd.snd.snd.snd.fst, ())
    else none
  else some ((v.fst, v.snd.fst, v.snd.snd.snd.snd.snd.fst, v.snd.snd.snd.snd.snd.snd.fst, ()))
  partial_fixpoint
mutual
noncomputable def n_45sf4a5l21 (v : Int × (List Layout) × Int × Int × Counted × Unit) : Option ((Counted × Unit)) :=
  if decide (v.snd.snd.snd.fst < v.snd.snd.fst) = true then
    if (0 : Int) ≤ v.snd.snd.snd.fst then
      v.snd.fst[v.snd.snd.snd.fst.toNat]? >>= fun x1 =>
      n_45sf4a5 (x1, IntKind.i64.wrap (v.fst + (1 : Int)), v.snd.snd.snd.snd.fst, ()) >>= fun x2 =>
      n_45sf4a5l21 (v.fst, v.snd.fst, v.snd.snd.fst, IntKind.i64.wrap (v.snd.snd.snd.fst + (1 : Int)), x2.fst, ())
    else none
  else some ((v.snd.snd.snd.snd.fst, ()))
  partial_fixpoint
noncomputable def n_45sf4a5 (v : Layout × Int × Counted × Unit) : Option (Counted × Unit) :=
  (if v.snd.snd.fst.large = true then
      some ((v.snd.fst, Counted.mk (IntKind.i64.wrap (v.snd.snd.fst.count + (1 : Int))) (max v.snd.snd.fst.deep v.snd.fst) true, v.fst, ()))
    else if decide (IntKind.i64.wrap (v.snd.snd.fst.count + (1 : Int)) > (60 : Int)) = true then
      some ((v.snd.fst, Counted.mk (IntKind.i64.wrap (v.snd.snd.fst.count + (1 : Int))) (max v.snd.snd.fst.deep v.snd.fst) true, v.fst, ()))
    else if decide (v.snd.fst > (5 : Int)) = true then
      some ((v.snd.fst, Counted.mk (IntKind.i64.wrap (v.snd.snd.fst.count + (1 : Int))) (max v.snd.snd.fst.deep v.snd.fst) true, v.fst, ()))
    else some ((v.snd.fst, Counted.mk (IntKind.i64.wrap (v.snd.snd.fst.count + (1 : Int))) (max v.snd.snd.fst.deep v.snd.fst) (decide ((↑v.fst.parts.length : Int) > (12 : Int))), v.fst, ()))) >>= fun x1 =>
  (if (x1.snd.snd.fst.kind == (2 : Int)) = true then
      (if x1.snd.fst.large = true then
          some ((x1.fst, Counted.mk x1.snd.fst.count x1.snd.fst.deep true, x1.snd.snd.fst, ()))
        else some ((x1.fst, Counted.mk x1.snd.fst.count x1.snd.fst.deep (decide (x1.snd.snd.fst.n > (64 : Int))), x1.snd.snd.fst, ()))) >>= fun x2 =>
      some ((x2.fst, x2.snd.fst, x2.snd.snd.fst, ()))
    else if (x1.snd.snd.fst.kind == (5 : Int)) = true then
      (if x1.snd.fst.large = true then
          some ((x1.fst, Counted.mk x1.snd.fst.count x1.snd.fst.deep true, x1.snd.snd.fst, ()))
        else some ((x1.fst, Counted.mk x1.snd.fst.count x1.snd.fst.deep (decide (x1.snd.snd.fst.n > (1000 : Int))), x1.snd.snd.fst, ()))) >>= fun x2 =>
      some ((x2.fst, x2.snd.fst, x2.snd.snd.fst, ()))
    else if (x1.snd.snd.fst.kind == (7 : Int)) = true then
      (if x1.snd.fst.large = true then
          some ((x1.fst, Counted.mk x1.snd.fst.count x1.snd.fst.deep true, x1.snd.snd.fst, ()))
        else some ((x1.fst, Counted.mk x1.snd.fst.count x1.snd.fst.deep (decide (x1.snd.snd.fst.n > (65536 : Int))), x1.snd.snd.fst, ()))) >>= fun x2 =>
      some ((x2.fst, x2.snd.fst, x2.snd.snd.fst, ()))
    else if (x1.snd.snd.fst.kind == (9 : Int)) = true then
      n_45sf4a5l14 (x1.fst, (0 : Int), x1.snd.snd.fst.parts, (↑x1.snd.snd.fst.parts.length : Int), (0 : Int), x1.snd.fst, x1.snd.snd.fst, ()) >>= fun x2 =>
      (if x2.snd.snd.fst.large = true then
          some ((x2.fst, Counted.mk x2.snd.snd.fst.count x2.snd.snd.fst.deep true, x2.snd.snd.snd.fst, ()))
        else some ((x2.fst, Counted.mk x2.snd.snd.fst.count x2.snd.snd.fst.deep (decide (x2.snd.fst > (64 : Int))), x2.snd.snd.snd.fst, ()))) >>= fun x3 =>
      some ((x3.fst, x3.snd.fst, x3.snd.snd.fst, ()))
    else some ((x1.fst, x1.snd.fst, x1.snd.snd.fst, ()))) >>= fun x2 =>
  if x2.snd.fst.large = true then
    some ((x2.snd.fst, ()))
  else n_45sf4a5l21 (x2.fst, x2.snd.snd.fst.parts, (↑x2.snd.snd.fst.parts.length : Int), (0 : Int), x2.snd.fst, ()) >>= fun x3 =>
  some ((x3.fst, ()))
  partial_fixpoint
end
noncomputable def call45sf4a5 (n_45sf4a5l14 : Int × Int × (List Layout) × Int × Int × Counted × Layout × Unit → Option ((Int × Int × Counted × Layout × Unit))) (n_45sf4a5l21 : Int × (List Layout) × Int × Int × Counted × Unit → Option ((Counted × Unit))) (n_45sf4a5 : Layout × Int × Counted × Unit → Option (Counted × Unit)) : Caller vw := fun A fid args S k => match fid with | 45 => callObj Try.prog sig45sf4a5 n_45sf4a5 A args S k | 56 => callPure Try.prog sig56 n_56 A args S k | 72 => callPure Try.prog sig72 n_72 A args S k | _ => none
noncomputable def x45sf4a5 (n_45sf4a5l14 : Int × Int × (List Layout) × Int × Int × Counted × Layout × Unit → Option ((Int × Int × Counted × Layout × Unit))) (n_45sf4a5l21 : Int × (List Layout) × Int × Int × Counted × Unit → Option ((Counted × Unit))) (n_45sf4a5 : Layout × Int × Counted × Unit → Option (Counted × Unit)) : Xc vw := { P := Try.prog, n := 138, nm := id, call := call45sf4a5 n_45sf4a5l14 n_45sf4a5l21 n_45sf4a5, pre := fun _ => false, sh := sh45sf4a5, joins := fun k => match k with | 19 => some (c45sf4a5j19, [.norm]) | _ => none, regs := fun k => match k with | 3 => some c45sf4a5r3 | 6 => some c45sf4a5r6 | 8 => some c45sf4a5r8 | 10 => some c45sf4a5r10 | 18 => some c45sf4a5r18 | _ => none, loops := fun k => match k with | 14 => some { cut := c45sf4a5l14, alts := [.exit 1], F := n_45sf4a5l14 } | 21 => some { cut := c45sf4a5l21, alts := [.exit 3], F := n_45sf4a5l21 } | _ => none }
theorem n_45sf4a5l14_pc : ∀ v out, n_45sf4a5l14 v = some out → (fun v out => ∀ C : Ctx, C.P = Try.prog → C.N = 138 → AWpL C (loopNo (bodyOf Try.f45) 0) (encS vw (conc vw c45sf4a5l14 v)) (OutQ sh45sf4a5 [.exit 1] out)) v out := (n_45sf4a5l14.partial_correctness (motive := fun v out => ∀ C : Ctx, C.P = Try.prog → C.N = 138 → AWpL C (loopNo (bodyOf Try.f45) 0) (encS vw (conc vw c45sf4a5l14 v)) (OutQ sh45sf4a5 [.exit 1] out)) (fun f0 h0 v out h C hP hN => loop_step (X := x45sf4a5 f0 (fun _ => none) (fun _ => none)) (b := (loopNo (bodyOf Try.f45) 0)) hP hN Ty.mixed (by
        intro A fid args S dst k r h
        unfold x45sf4a5 call45sf4a5 at h
        simp only at h
        split at h
        · exact callObj_ok ((fun v r x h hx => by cases h)) h
        · exact callPure_ok (n_56_ok) rfl rfl h
        · exact callPure_ok (n_72_ok) rfl rfl h
        · cases h) (lok_all (X := x45sf4a5 f0 (fun _ => none) (fun _ => none)) (c := (loopNo (bodyOf Try.f45) 0)) (kcast (by kernel_rfl : True = AllB (LoopsP C (x45sf4a5 f0 (fun _ => none) (fun _ => none))) (loopsIn (loopNo (bodyOf Try.f45) 0))) trivial)) (cut := c45sf4a5l14) (alts := [.exit 1]) (F := f0) (fun v out h => h0 v out h C hP hN) (kcast (by kernel_rfl) h)))
abbrev mn_45sf4a5l21 (v : Int × (List Layout) × Int × Int × Counted × Unit) (r : (Counted × Unit)) : Prop := (fun v out => ∀ C : Ctx, C.P = Try.prog → C.N = 138 → AWpL C (loopNo (bodyOf Try.f45) 1) (encS vw (conc vw c45sf4a5l21 v)) (OutQ sh45sf4a5 [.exit 3] out)) v r
abbrev mn_45sf4a5 (v : Layout × Int × Counted × Unit) (r : Counted × Unit) : Prop := (fun v r => ∀ x, resV Try.prog sig45sf4a5 r = some x → FnOk Try.prog 45 (encL vw (startS sig45sf4a5 v).len (startOs sig45sf4a5 v).1) (encOs (startS sig45sf4a5 v).len (startS sig45sf4a5 v).own) (encV vw (conc vw sig45sf4a5.rcut r).len x) (encOs (conc vw sig45sf4a5.rcut r).len (kept sig45sf4a5 r))) v r
theorem n_45sf4a5l21_all : (∀ v r, n_45sf4a5l21 v = some r → mn_45sf4a5l21 v r) ∧ (∀ v r, n_45sf4a5 v = some r → mn_45sf4a5 v r) := by
  refine n_45sf4a5l21.mutual_partial_correctness
    (motive_1 := mn_45sf4a5l21)
    (motive_2 := mn_45sf4a5)
    ?_ ?_
  · exact (fun f0 f1 h0 h1 v out h C hP hN => loop_step (X := x45sf4a5 (fun _ => none) f0 f1) (b := (loopNo (bodyOf Try.f45) 1)) hP hN Ty.mixed (by
        intro A fid args S dst k r h
        unfold x45sf4a5 call45sf4a5 at h
        simp only at h
        split at h
        · exact callObj_ok ((fun v r x h hx => h1 v r h x hx)) h
        · exact callPure_ok (n_56_ok) rfl rfl h
        · exact callPure_ok (n_72_ok) rfl rfl h
        · cases h) (lok_all (X := x45sf4a5 (fun _ => none) f0 f1) (c := (loopNo (bodyOf Try.f45) 1)) (kcast (by kernel_rfl : True = AllB (LoopsP C (x45sf4a5 (fun _ => none) f0 f1)) (loopsIn (loopNo (bodyOf Try.f45) 1))) trivial)) (cut := c45sf4a5l21) (alts := [.exit 3]) (F := f0) (fun v out h => h0 v out h C hP hN) (kcast (by kernel_rfl) h))
  · exact (fun f0 h0 v r h x hx => fn_ok (X := x45sf4a5 n_45sf4a5l14 f0 (fun _ => none)) (sig := sig45sf4a5) rfl Try.func45 (c := bodyOf Try.f45) (by kernel_rfl) Try.ntmps45 (by kernel_rfl) (by kernel_rfl) rfl Ty.mixed (by
        intro A fid args S dst k r h
        unfold x45sf4a5 call45sf4a5 at h
        simp only at h
        split at h
        · exact callObj_ok ((fun v r x h hx => by cases h)) h
        · exact callPure_ok (n_56_ok) rfl rfl h
        · exact callPure_ok (n_72_ok) rfl rfl h
        · cases h) rfl (fun C hP hN => (lok_all (X := x45sf4a5 n_45sf4a5l14 f0 (fun _ => none)) (c := (bodyOf Try.f45)) (kcast (by kernel_rfl : AllB (LoopsP C (x45sf4a5 n_45sf4a5l14 f0 (fun _ => none))) [(loopNo (bodyOf Try.f45) 0), (loopNo (bodyOf Try.f45) 1)] = AllB (LoopsP C (x45sf4a5 n_45sf4a5l14 f0 (fun _ => none))) (loopsIn (bodyOf Try.f45))) ⟨loop_at (X := x45sf4a5 n_45sf4a5l14 f0 (fun _ => none)) (b := (loopNo (bodyOf Try.f45) 0)) (by kernel_rfl) (show LoopOk C (loopNo (bodyOf Try.f45) 0) (sh := sh45sf4a5) { cut := c45sf4a5l14, alts := [.exit 1], F := n_45sf4a5l14 } from fun v out h => n_45sf4a5l14_pc v out h C hP hN), loop_at (X := x45sf4a5 n_45sf4a5l14 f0 (fun _ => none)) (b := (loopNo (bodyOf Try.f45) 1)) (by kernel_rfl) (show LoopOk C (loopNo (bodyOf Try.f45) 1) (sh := sh45sf4a5) { cut := c45sf4a5l21, alts := [.exit 3], F := f0 } from fun v out h => h0 v out h C hP hN), trivial⟩))) (kcast (by kernel_rfl) h) x hx)
theorem n_45sf4a5l21_pc : ∀ v out, n_45sf4a5l21 v = some out → (fun v out => ∀ C : Ctx, C.P = Try.prog → C.N = 138 → AWpL C (loopNo (bodyOf Try.f45) 1) (encS vw (conc vw c45sf4a5l21 v)) (OutQ sh45sf4a5 [.exit 3] out)) v out := n_45sf4a5l21_all.1
theorem n_45sf4a5_ok : SigOk Try.prog 45 sig45sf4a5 n_45sf4a5 := fun v r x h hx => n_45sf4a5l21_all.2 v r h x hx

noncomputable def c48l3 : Cut SN := { slots := [(1, .bp 1 0), (3, .dat (.int .i64)), (7, .dat (.sl (.st .layoutT))), (8, .dat (.int .i64)), (9, .dat (.int .i64))], objs := [(1, .st .layoutT)] }
noncomputable def c48e0 : Cut SN := { slots := [(1, .bp 1 0), (3, .dat (.int .i64))], objs := [(1, .st .layoutT)] }
noncomputable def c48z : Cut SN := { slots := [(2, .dat (.int .i64))], objs := [] }
noncomputable def sh48 : Shape vw := { exits := fun id => match id with | 0 => c48e0 | _ => { slots := [], objs := [] }, rcut := c48z }
noncomputable def sig48 : Sig vw := { params := [.dat (.st .layoutT)], objs := [], rcut := c48z, rvars := [.tmp 2], keep := [] }
mutual
noncomputable def n_48l3 (v : Int × (List Layout) × Int × Int × Layout × Unit) : Option ((Int × Layout × Unit)) :=
  if decide (v.snd.snd.snd.fst < v.snd.snd.fst) = true then
    if (0 : Int) ≤ v.snd.snd.snd.fst then
      v.snd.fst[v.snd.snd.snd.fst.toNat]? >>= fun x1 =>
      n_48 (x1, ()) >>= fun x2 =>
      n_72 ([v.fst, x2.fst], ()) >>= fun x3 =>
      n_48l3 (x3.fst, v.snd.fst, v.snd.snd.fst, IntKind.i64.wrap (v.snd.snd.snd.fst + (1 : Int)), v.snd.snd.snd.snd.fst, ())
    else none
  else some ((v.fst, v.snd.snd.snd.snd.fst, ()))
  partial_fixpoint
noncomputable def n_48 (v : Layout × Unit) : Option (Int × Unit) :=
  n_48l3 ((0 : Int), v.fst.parts, (↑v.fst.parts.length : Int), (0 : Int), v.fst, ()) >>= fun x1 =>
  if (x1.snd.fst.kind == (5 : Int)) = true then
    n_72 ([(1 : Int), IntKind.i64.wrap (max (0 : Int) x1.snd.fst.n * x1.fst)], ()) >>= fun x2 =>
    some ((x2.fst, ()))
  else n_72 ([(1 : Int), x1.fst], ()) >>= fun x2 =>
  some ((x2.fst, ()))
  partial_fixpoint
end
noncomputable def call48 (n_48l3 : Int × (List Layout) × Int × Int × Layout × Unit → Option ((Int × Layout × Unit))) (n_48 : Layout × Unit → Option (Int × Unit)) : Caller vw := fun A fid args S k => match fid with | 48 => callPure Try.prog sig48 n_48 A args S k | 72 => callPure Try.prog sig72 n_72 A args S k | _ => none
noncomputable def x48 (n_48l3 : Int × (List Layout) × Int × Int × Layout × Unit → Option ((Int × Layout × Unit))) (n_48 : Layout × Unit → Option (Int × Unit)) : Xc vw := { P := Try.prog, n := 32, nm := id, call := call48 n_48l3 n_48, pre := fun _ => false, sh := sh48, joins := fun _ => none, regs := fun _ => none, loops := fun k => match k with | 3 => some { cut := c48l3, alts := [.exit 0], F := n_48l3 } | _ => none }
abbrev mn_48l3 (v : Int × (List Layout) × Int × Int × Layout × Unit) (r : (Int × Layout × Unit)) : Prop := (fun v out => ∀ C : Ctx, C.P = Try.prog → C.N = 32 → AWpL C (loopNo (bodyOf Try.f48) 0) (encS vw (conc vw c48l3 v)) (OutQ sh48 [.exit 0] out)) v r
abbrev mn_48 (v : Layout × Unit) (r : Int × Unit) : Prop := (fun v r => ∀ x, resV Try.prog sig48 r = some x → FnOk Try.prog 48 (encL vw (startS sig48 v).len (startOs sig48 v).1) (encOs (startS sig48 v).len (startS sig48 v).own) (encV vw (conc vw sig48.rcut r).len x) (encOs (conc vw sig48.rcut r).len (kept sig48 r))) v r
theorem n_48l3_all : (∀ v r, n_48l3 v = some r → mn_48l3 v r) ∧ (∀ v r, n_48 v = some r → mn_48 v r) := by
  refine n_48l3.mutual_partial_correctness
    (motive_1 := mn_48l3)
    (motive_2 := mn_48)
    ?_ ?_
  · exact (fun f0 f1 h0 h1 v out h C hP hN => loop_step (X := x48 f0 f1) (b := (loopNo (bodyOf Try.f48) 0)) hP hN Ty.mixed (by
        intro A fid args S dst k r h
        unfold x48 call48 at h
        simp only at h
        split at h
        · exact callPure_ok ((fun v r x h hx => h1 v r h x hx)) rfl rfl h
        · exact callPure_ok (n_72_ok) rfl rfl h
        · cases h) (lok_all (X := x48 f0 f1) (c := (loopNo (bodyOf Try.f48) 0)) (kcast (by kernel_rfl : True = AllB (LoopsP C (x48 f0 f1)) (loopsIn (loopNo (bodyOf Try.f48) 0))) trivial)) (cut := c48l3) (alts := [.exit 0]) (F := f0) (fun v out h => h0 v out h C hP hN) (kcast (by kernel_rfl) h))
  · exact (fun f0 h0 v r h x hx => fn_ok (X := x48 f0 (fun _ => none)) (sig := sig48) rfl Try.func48 (c := bodyOf Try.f48) (by kernel_rfl) Try.ntmps48 (by kernel_rfl) (by kernel_rfl) rfl Ty.mixed (by
        intro A fid args S dst k r h
        unfold x48 call48 at h
        simp only at h
        split at h
        · exact callPure_ok ((fun v r x h hx => by cases h)) rfl rfl h
        · exact callPure_ok (n_72_ok) rfl rfl h
        · cases h) rfl (fun C hP hN => (lok_all (X := x48 f0 (fun _ => none)) (c := (bodyOf Try.f48)) (kcast (by kernel_rfl : AllB (LoopsP C (x48 f0 (fun _ => none))) [(loopNo (bodyOf Try.f48) 0)] = AllB (LoopsP C (x48 f0 (fun _ => none))) (loopsIn (bodyOf Try.f48))) ⟨loop_at (X := x48 f0 (fun _ => none)) (b := (loopNo (bodyOf Try.f48) 0)) (by kernel_rfl) (show LoopOk C (loopNo (bodyOf Try.f48) 0) (sh := sh48) { cut := c48l3, alts := [.exit 0], F := f0 } from fun v out h => h0 v out h C hP hN), trivial⟩))) (kcast (by kernel_rfl) h) x hx)
theorem n_48l3_pc : ∀ v out, n_48l3 v = some out → (fun v out => ∀ C : Ctx, C.P = Try.prog → C.N = 32 → AWpL C (loopNo (bodyOf Try.f48) 0) (encS vw (conc vw c48l3 v)) (OutQ sh48 [.exit 0] out)) v out := n_48l3_all.1
theorem n_48_ok : SigOk Try.prog 48 sig48 n_48 := fun v r x h hx => n_48l3_all.2 v r h x hx

noncomputable def c74r1 : Cut SN := { slots := [(2, .dat .bool)], objs := [] }
noncomputable def c74z : Cut SN := { slots := [(2, .dat .bool)], objs := [] }
noncomputable def sh74 : Shape vw := { exits := fun _ => { slots := [], objs := [] }, rcut := c74z }
noncomputable def sig74 : Sig vw := { params := [.dat (.st .layoutT)], objs := [], rcut := c74z, rvars := [.tmp 2], keep := [] }
noncomputable def n_74 (v : Layout × Unit) : Option (Bool × Unit) :=
  (if (v.fst.kind != (1 : Int)) = true then
      some ((v.fst.kind != (2 : Int), ()))
    else some ((false, ()))) >>= fun x1 =>
  some ((x1.fst, ()))
noncomputable def call74 : Caller vw := fun _ _ _ _ _ => none
noncomputable def x74 : Xc vw := { P := Try.prog, n := 11, nm := id, call := call74, pre := fun _ => false, sh := sh74, joins := fun _ => none, regs := fun k => match k with | 1 => some c74r1 | _ => none, loops := fun _ => none }
theorem call74_ok : CallerOk Try.prog call74 := call_none
theorem n_74_ok : SigOk Try.prog 74 sig74 n_74 := fun v r x h hx =>
  fn_ok (X := x74) (sig := sig74) rfl Try.func74 (c := bodyOf Try.f74) (by kernel_rfl) Try.ntmps74 (by kernel_rfl) (by kernel_rfl) rfl Ty.mixed call74_ok rfl (fun C hP hN => (lok_all (X := x74) (c := (bodyOf Try.f74)) (kcast (by kernel_rfl : True = AllB (LoopsP C (x74)) (loopsIn (bodyOf Try.f74))) trivial))) (kcast (by kernel_rfl) h) x hx

noncomputable def c80c74l2 : Cut SN := { slots := [(0, .dat (.sl (.st .layoutT))), (1, .fn 74 [] []), (7, .dat (.int .i64)), (8, .dat (.int .i64))], objs := [] }
noncomputable def c80c74e0 : Cut SN := { slots := [], objs := [] }
noncomputable def c80c74z : Cut SN := { slots := [(4, .dat (.int .i64))], objs := [] }
noncomputable def sh80c74 : Shape vw := { exits := fun id => match id with | 0 => c80c74e0 | _ => { slots := [], objs := [] }, rcut := c80c74z }
noncomputable def sig80c74 : Sig vw := { params := [.dat (.sl (.st .layoutT)), .fn 74 [] []], objs := [], rcut := c80c74z, rvars := [.tmp 4], keep := [] }
noncomputable def n_80c74l2 (v : (List Layout) × Int × Int × Unit) : Option (((Int × Unit) ⊕ (Unit))) :=
  if decide (v.snd.snd.fst < v.snd.fst) = true then
    if (0 : Int) ≤ v.snd.snd.fst then
      v.fst[v.snd.snd.fst.toNat]? >>= fun x1 =>
      n_74 (x1, ()) >>= fun x2 =>
      if x2.fst = true then
        some (Sum.inl (v.snd.snd.fst, ()))
      else n_80c74l2 (v.fst, v.snd.fst, IntKind.i64.wrap (v.snd.snd.fst + (1 : Int)), ())
    else none
  else some (Sum.inr ())
  partial_fixpoint
noncomputable def n_80c74 (v : (List Layout) × Unit) : Option (Int × Unit) :=
  n_80c74l2 (v.fst, (↑v.fst.length : Int), (0 : Int), ()) >>= fun x1 => match x1 with
    | .inl y1 => some y1
    | .inr y1 => some (((-1 : Int), ()))
noncomputable def call80c74 : Caller vw := fun A fid args S k => match fid with | 74 => callPure Try.prog sig74 n_74 A args S k | _ => none
noncomputable def x80c74 : Xc vw := { P := Try.prog, n := 19, nm := id, call := call80c74, pre := fun _ => false, sh := sh80c74, joins := fun _ => none, regs := fun _ => none, loops := fun k => match k with | 2 => some { cut := c80c74l2, alts := [.ret, .exit 0], F := n_80c74l2 } | _ => none }
theorem call80c74_ok : CallerOk Try.prog call80c74 := fun A fid args S dst k r h => by
  unfold call80c74 at h
  split at h
  · exact callPure_ok (n_74_ok) rfl rfl h
  · cases h
theorem n_80c74l2_ok (C : Ctx) (hP : C.P = Try.prog) (hN : C.N = 19) : LoopOk C (loopNo (bodyOf Try.f80) 0) (sh := sh80c74) { cut := c80c74l2, alts := [.ret, .exit 0], F := n_80c74l2 } :=
  n_80c74l2.partial_correctness (motive := fun v out => AWpL C (loopNo (bodyOf Try.f80) 0) (encS vw (conc vw c80c74l2 v)) (OutQ sh80c74 [.ret, .exit 0] out)) fun F ih v out h =>
    loop_step (X := x80c74) (b := (loopNo (bodyOf Try.f80) 0)) hP hN Ty.mixed call80c74_ok (lok_all (X := x80c74) (c := (loopNo (bodyOf Try.f80) 0)) (kcast (by kernel_rfl : True = AllB (LoopsP C (x80c74)) (loopsIn (loopNo (bodyOf Try.f80) 0))) trivial)) ih (kcast (by kernel_rfl) h)
theorem n_80c74_ok : SigOk Try.prog 80 sig80c74 n_80c74 := fun v r x h hx =>
  fn_ok (X := x80c74) (sig := sig80c74) rfl Try.func80 (c := bodyOf Try.f80) (by kernel_rfl) Try.ntmps80 (by kernel_rfl) (by kernel_rfl) rfl Ty.mixed call80c74_ok rfl (fun C hP hN => (lok_all (X := x80c74) (c := (bodyOf Try.f80)) (kcast (by kernel_rfl : AllB (LoopsP C (x80c74)) [(loopNo (bodyOf Try.f80) 0)] = AllB (LoopsP C (x80c74)) (loopsIn (bodyOf Try.f80))) ⟨loop_at (X := x80c74) (b := (loopNo (bodyOf Try.f80) 0)) (by kernel_rfl) (n_80c74l2_ok C hP hN), trivial⟩))) (kcast (by kernel_rfl) h) x hx

noncomputable def c73c74z : Cut SN := { slots := [(4, .dat .bool)], objs := [] }
noncomputable def sh73c74 : Shape vw := { exits := fun _ => { slots := [], objs := [] }, rcut := c73c74z }
noncomputable def sig73c74 : Sig vw := { params := [.dat (.sl (.st .layoutT)), .fn 74 [] []], objs := [], rcut := c73c74z, rvars := [.tmp 4], keep := [] }
noncomputable def n_73c74 (v : (List Layout) × Unit) : Option (Bool × Unit) :=
  n_80c74 (v.fst, ()) >>= fun x1 =>
  some ((decide (x1.fst ≥ (0 : Int)), ()))
noncomputable def call73c74 : Caller vw := fun A fid args S k => match fid with | 80 => callPure Try.prog sig80c74 n_80c74 A args S k | _ => none
noncomputable def x73c74 : Xc vw := { P := Try.prog, n := 9, nm := id, call := call73c74, pre := fun _ => false, sh := sh73c74, joins := fun _ => none, regs := fun _ => none, loops := fun _ => none }
theorem call73c74_ok : CallerOk Try.prog call73c74 := fun A fid args S dst k r h => by
  unfold call73c74 at h
  split at h
  · exact callPure_ok (n_80c74_ok) rfl rfl h
  · cases h
theorem n_73c74_ok : SigOk Try.prog 73 sig73c74 n_73c74 := fun v r x h hx =>
  fn_ok (X := x73c74) (sig := sig73c74) rfl Try.func73 (c := bodyOf Try.f73) (by kernel_rfl) Try.ntmps73 (by kernel_rfl) (by kernel_rfl) rfl Ty.mixed call73c74_ok rfl (fun C hP hN => (lok_all (X := x73c74) (c := (bodyOf Try.f73)) (kcast (by kernel_rfl : True = AllB (LoopsP C (x73c74)) (loopsIn (bodyOf Try.f73))) trivial))) (kcast (by kernel_rfl) h) x hx

noncomputable def c49j6 : Cut SN := { slots := [(1, .bp 1 0), (3, .dat (.int .i64)), (4, .dat .bool), (9, .dat (.int .i64))], objs := [(1, .st .layoutT)] }
noncomputable def c49j16 : Cut SN := { slots := [(1, .bp 1 0), (4, .dat .bool)], objs := [(1, .st .layoutT)] }
noncomputable def c49j18 : Cut SN := { slots := [(1, .bp 1 0), (4, .dat .bool)], objs := [(1, .st .layoutT)] }
noncomputable def c49j20 : Cut SN := { slots := [(1, .bp 1 0), (3, .dat (.int .i64)), (4, .dat .bool)], objs := [(1, .st .layoutT)] }
noncomputable def c49r17 : Cut SN := { slots := [(1, .bp 1 0), (4, .dat .bool)], objs := [(1, .st .layoutT)] }
noncomputable def c49r20 : Cut SN := { slots := [(1, .bp 1 0), (63, .dat .bool)], objs := [(1, .st .layoutT)] }
noncomputable def c49r22 : Cut SN := { slots := [(1, .bp 1 0), (71, .dat .bool)], objs := [(1, .st .layoutT)] }
noncomputable def c49e0 : Cut SN := { slots := [(1, .bp 1 0), (3, .dat (.int .i64)), (4, .dat .bool)], objs := [(1, .st .layoutT)] }
noncomputable def c49e1 : Cut SN := { slots := [(1, .bp 1 0), (3, .dat (.int .i64)), (4, .dat .bool)], objs := [(1, .st .layoutT)] }
noncomputable def c49e6 : Cut SN := { slots := [(1, .bp 1 0), (4, .dat .bool)], objs := [(1, .st .layoutT)] }
noncomputable def c49e7 : Cut SN := { slots := [(1, .bp 1 0), (4, .dat .bool)], objs := [(1, .st .layoutT)] }
noncomputable def c49e8 : Cut SN := { slots := [], objs := [] }
noncomputable def c49z : Cut SN := { slots := [(2, .dat .bool)], objs := [] }
noncomputable def sh49 : Shape vw := { exits := fun id => match id with | 0 => c49e0 | 1 => c49e1 | 6 => c49e6 | 7 => c49e7 | 8 => c49e8 | _ => { slots := [], objs := [] }, rcut := c49z }
noncomputable def sig49 : Sig vw := { params := [.dat (.st .layoutT)], objs := [], rcut := c49z, rvars := [.tmp 2], keep := [] }
noncomputable def c73c75z : Cut SN := { slots := [(4, .dat .bool)], objs := [] }
noncomputable def sh73c75 : Shape vw := { exits := fun _ => { slots := [], objs := [] }, rcut := c73c75z }
noncomputable def sig73c75 : Sig vw := { params := [.dat (.sl (.st .layoutT)), .fn 75 [] []], objs := [], rcut := c73c75z, rvars := [.tmp 4], keep := [] }
noncomputable def c75z : Cut SN := { slots := [(2, .dat .bool)], objs := [] }
noncomputable def sh75 : Shape vw := { exits := fun _ => { slots := [], objs := [] }, rcut := c75z }
noncomputable def sig75 : Sig vw := { params := [.dat (.st .layoutT)], objs := [], rcut := c75z, rvars := [.tmp 2], keep := [] }
noncomputable def c80c75l2 : Cut SN := { slots := [(0, .dat (.sl (.st .layoutT))), (1, .fn 75 [] []), (7, .dat (.int .i64)), (8, .dat (.int .i64))], objs := [] }
noncomputable def c80c75e0 : Cut SN := { slots := [], objs := [] }
noncomputable def c80c75z : Cut SN := { slots := [(4, .dat (.int .i64))], objs := [] }
noncomputable def sh80c75 : Shape vw := { exits := fun id => match id with | 0 => c80c75e0 | _ => { slots := [], objs := [] }, rcut := c80c75z }
noncomputable def sig80c75 : Sig vw := { params := [.dat (.sl (.st .layoutT)), .fn 75 [] []], objs := [], rcut := c80c75z, rvars := [.tmp 4], keep := [] }
mutual
noncomputable def n_49 (v : Layout × Unit) : Option (Bool × Unit) :=
  ((((if (v.fst.kind == (0 : Int)) = true then
            some (Sum.inr ((0 : Int), v.fst.n == (0 : Int), v.fst, ()))
          else if (v.fst.kind == (1 : Int)) = true then
            some (Sum.inr ((0 : Int), v.fst.n == (0 : Int), v.fst, ()))
          else if (v.fst.kind == (3 : Int)) = true then
            some (Sum.inr ((0 : Int), v.fst.n == (0 : Int), v.fst, ()))
          else some (Sum.inl ((0 : Int), v.fst.n == (0 : Int), v.fst.kind, v.fst, ()))) >>= fun x1 => match x1 with
          | .inl y1 => if (y1.snd.snd.fst == (2 : Int)) = true then
              some (Sum.inr (Sum.inl (y1.fst, decide (y1.snd.snd.snd.fst.n ≥ (1 : Int)), y1.snd.snd.snd.fst, ())))
            else if (y1.snd.snd.fst == (7 : Int)) = true then
              some (Sum.inr (Sum.inl (y1.fst, decide (y1.snd.snd.snd.fst.n ≥ (1 : Int)), y1.snd.snd.snd.fst, ())))
            else if (y1.snd.snd.fst == (5 : Int)) = true then
              some (Sum.inl (decide (y1.snd.snd.snd.fst.n ≥ (0 : Int)), y1.snd.snd.snd.fst, ()))
            else if (y1.snd.snd.fst == (4 : Int)) = true then
              some (Sum.inl (y1.snd.fst, y1.snd.snd.snd.fst, ()))
            else if (y1.snd.snd.fst == (8 : Int)) = true then
              some (Sum.inr (Sum.inr (Sum.inl (y1.snd.fst, y1.snd.snd.snd.fst, ()))))
            else if (y1.snd.snd.fst == (6 : Int)) = true then
              some (Sum.inr (Sum.inr (Sum.inr (Sum.inl (y1.snd.fst, y1.snd.snd.snd.fst, ())))))
            else if (y1.snd.snd.fst == (9 : Int)) = true then
              some (Sum.inr (Sum.inr (Sum.inr (Sum.inl (y1.snd.fst, y1.snd.snd.snd.fst, ())))))
            else some (Sum.inr (Sum.inr (Sum.inr (Sum.inr ()))))
          | .inr y1 => some (Sum.inr (Sum.inl (y1.fst, y1.snd.fst, y1.snd.snd.fst, ())))) >>= fun x1 => match x1 with
        | .inl y1 => some (Sum.inr (Sum.inl ((1 : Int), y1.fst, y1.snd.fst, ())))
        | .inr (.inl y1) => some (Sum.inr (Sum.inl (y1.fst, y1.snd.fst, y1.snd.snd.fst, ())))
        | .inr (.inr (.inl y1)) => (if y1.fst = true then
              some ((decide ((↑y1.snd.fst.parts.length : Int) ≥ (1 : Int)), y1.snd.fst, ()))
            else some ((false, y1.snd.fst, ()))) >>= fun x2 =>
          some (Sum.inl (x2.fst, x2.snd.fst, ()))
        | .inr (.inr (.inr (.inl y1))) => some (Sum.inl (y1.fst, y1.snd.fst, ()))
        | .inr (.inr (.inr (.inr y1))) => some (Sum.inr (Sum.inr ()))) >>= fun x1 => match x1 with
      | .inl y1 => some (Sum.inl ((↑y1.snd.fst.parts.length : Int), y1.fst, y1.snd.fst, ()))
      | .inr (.inl y1) => some (Sum.inl (y1.fst, y1.snd.fst, y1.snd.snd.fst, ()))
      | .inr (.inr y1) => some (Sum.inr (false, ()))) >>= fun x1 => match x1 with
    | .inl y1 => (if (!y1.snd.fst) = true then
          some ((true, y1.snd.snd.fst, ()))
        else if ((↑y1.snd.snd.fst.parts.length : Int) != y1.fst) = true then
          some ((true, y1.snd.snd.fst, ()))
        else if y1.snd.snd.fst.flag = true then
          some ((y1.snd.snd.fst.kind != (2 : Int), y1.snd.snd.fst, ()))
        else some ((false, y1.snd.snd.fst, ()))) >>= fun x2 =>
      if x2.fst = true then
        some ((false, ()))
      else (if (x2.snd.fst.kind == (9 : Int)) = true then
          n_73c74 (x2.snd.fst.parts, ()) >>= fun x3 =>
          some ((x3.fst, x2.snd.fst, ()))
        else some ((false, x2.snd.fst, ()))) >>= fun x3 =>
      if x3.fst = true then
        some ((false, ()))
      else n_73c75 (x3.snd.fst.parts, ()) >>= fun x4 =>
      some ((!x4.fst, ()))
    | .inr y1 => some y1
  partial_fixpoint
noncomputable def n_73c75 (v : (List Layout) × Unit) : Option (Bool × Unit) :=
  n_80c75 (v.fst, ()) >>= fun x1 =>
  some ((decide (x1.fst ≥ (0 : Int)), ()))
  partial_fixpoint
noncomputable def n_80c75 (v : (List Layout) × Unit) : Option (Int × Unit) :=
  n_80c75l2 (v.fst, (↑v.fst.length : Int), (0 : Int), ()) >>= fun x1 => match x1 with
    | .inl y1 => some y1
    | .inr y1 => some (((-1 : Int), ()))
  partial_fixpoint
noncomputable def n_80c75l2 (v : (List Layout) × Int × Int × Unit) : Option (((Int × Unit) ⊕ (Unit))) :=
  if decide (v.snd.snd.fst < v.snd.fst) = true then
    if (0 : Int) ≤ v.snd.snd.fst then
      v.fst[v.snd.snd.fst.toNat]? >>= fun x1 =>
      n_75 (x1, ()) >>= fun x2 =>
      if x2.fst = true then
        some (Sum.inl (v.snd.snd.fst, ()))
      else n_80c75l2 (v.fst, v.snd.fst, IntKind.i64.wrap (v.snd.snd.fst + (1 : Int)), ())
    else none
  else some (Sum.inr ())
  partial_fixpoint
noncomputable def n_75 (v : Layout × Unit) : Option (Bool × Unit) :=
  n_49 (v.fst, ()) >>= fun x1 =>
  some ((!x1.fst, ()))
  partial_fixpoint
end
noncomputable def call49 (n_49 : Layout × Unit → Option (Bool × Unit)) (n_73c75 : (List Layout) × Unit → Option (Bool × Unit)) (n_80c75 : (List Layout) × Unit → Option (Int × Unit)) (n_80c75l2 : (List Layout) × Int × Int × Unit → Option (((Int × Unit) ⊕ (Unit)))) (n_75 : Layout × Unit → Option (Bool × Unit)) : Caller vw := fun A fid args S k => match fid with | 73 => (match args with | [_, .fn 74 _ _] => callPure Try.prog sig73c74 n_73c74 A args S k | [_, .fn 75 _ _] => callPure Try.prog sig73c75 n_73c75 A args S k | _ => none) | _ => none
noncomputable def x49 (n_49 : Layout × Unit → Option (Bool × Unit)) (n_73c75 : (List Layout) × Unit → Option (Bool × Unit)) (n_80c75 : (List Layout) × Unit → Option (Int × Unit)) (n_80c75l2 : (List Layout) × Int × Int × Unit → Option (((Int × Unit) ⊕ (Unit)))) (n_75 : Layout × Unit → Option (Bool × Unit)) : Xc vw := { P := Try.prog, n := 76, nm := id, call := call49 n_49 n_73c75 n_80c75 n_80c75l2 n_75, pre := fun _ => false, sh := sh49, joins := fun k => match k with | 6 => some (c49j6, [.norm, .exit 1]) | 16 => some (c49j16, [.norm, .exit 0, .exit 6, .exit 7, .exit 8]) | 18 => some (c49j18, [.norm, .exit 0, .exit 8]) | 20 => some (c49j20, [.norm, .ret]) | _ => none, regs := fun k => match k with | 17 => some c49r17 | 20 => some c49r20 | 22 => some c49r22 | _ => none, loops := fun _ => none }
noncomputable def call73c75 (n_49 : Layout × Unit → Option (Bool × Unit)) (n_73c75 : (List Layout) × Unit → Option (Bool × Unit)) (n_80c75 : (List Layout) × Unit → Option (Int × Unit)) (n_80c75l2 : (List Layout) × Int × Int × Unit → Option (((Int × Unit) ⊕ (Unit)))) (n_75 : Layout × Unit → Option (Bool × Unit)) : Caller vw := fun A fid args S k => match fid with | 80 => callPure Try.prog sig80c75 n_80c75 A args S k | _ => none
noncomputable def x73c75 (n_49 : Layout × Unit → Option (Bool × Unit)) (n_73c75 : (List Layout) × Unit → Option (Bool × Unit)) (n_80c75 : (List Layout) × Unit → Option (Int × Unit)) (n_80c75l2 : (List Layout) × Int × Int × Unit → Option (((Int × Unit) ⊕ (Unit)))) (n_75 : Layout × Unit → Option (Bool × Unit)) : Xc vw := { P := Try.prog, n := 9, nm := id, call := call73c75 n_49 n_73c75 n_80c75 n_80c75l2 n_75, pre := fun _ => false, sh := sh73c75, joins := fun _ => none, regs := fun _ => none, loops := fun _ => none }
noncomputable def call75 (n_49 : Layout × Unit → Option (Bool × Unit)) (n_73c75 : (List Layout) × Unit → Option (Bool × Unit)) (n_80c75 : (List Layout) × Unit → Option (Int × Unit)) (n_80c75l2 : (List Layout) × Int × Int × Unit → Option (((Int × Unit) ⊕ (Unit)))) (n_75 : Layout × Unit → Option (Bool × Unit)) : Caller vw := fun A fid args S k => match fid with | 49 => callPure Try.prog sig49 n_49 A args S k | _ => none
noncomputable def x75 (n_49 : Layout × Unit → Option (Bool × Unit)) (n_73c75 : (List Layout) × Unit → Option (Bool × Unit)) (n_80c75 : (List Layout) × Unit → Option (Int × Unit)) (n_80c75l2 : (List Layout) × Int × Int × Unit → Option (((Int × Unit) ⊕ (Unit)))) (n_75 : Layout × Unit → Option (Bool × Unit)) : Xc vw := { P := Try.prog, n := 6, nm := id, call := call75 n_49 n_73c75 n_80c75 n_80c75l2 n_75, pre := fun _ => false, sh := sh75, joins := fun _ => none, regs := fun _ => none, loops := fun _ => none }
noncomputable def call80c75 (n_49 : Layout × Unit → Option (Bool × Unit)) (n_73c75 : (List Layout) × Unit → Option (Bool × Unit)) (n_80c75 : (List Layout) × Unit → Option (Int × Unit)) (n_80c75l2 : (List Layout) × Int × Int × Unit → Option (((Int × Unit) ⊕ (Unit)))) (n_75 : Layout × Unit → Option (Bool × Unit)) : Caller vw := fun A fid args S k => match fid with | 75 => callPure Try.prog sig75 n_75 A args S k | _ => none
noncomputable def x80c75 (n_49 : Layout × Unit → Option (Bool × Unit)) (n_73c75 : (List Layout) × Unit → Option (Bool × Unit)) (n_80c75 : (List Layout) × Unit → Option (Int × Unit)) (n_80c75l2 : (List Layout) × Int × Int × Unit → Option (((Int × Unit) ⊕ (Unit)))) (n_75 : Layout × Unit → Option (Bool × Unit)) : Xc vw := { P := Try.prog, n := 19, nm := id, call := call80c75 n_49 n_73c75 n_80c75 n_80c75l2 n_75, pre := fun _ => false, sh := sh80c75, joins := fun _ => none, regs := fun _ => none, loops := fun k => match k with | 2 => some { cut := c80c75l2, alts := [.ret, .exit 0], F := n_80c75l2 } | _ => none }
abbrev mn_49 (v : Layout × Unit) (r : Bool × Unit) : Prop := (fun v r => ∀ x, resV Try.prog sig49 r = some x → FnOk Try.prog 49 (encL vw (startS sig49 v).len (startOs sig49 v).1) (encOs (startS sig49 v).len (startS sig49 v).own) (encV vw (conc vw sig49.rcut r).len x) (encOs (conc vw sig49.rcut r).len (kept sig49 r))) v r
abbrev mn_73c75 (v : (List Layout) × Unit) (r : Bool × Unit) : Prop := (fun v r => ∀ x, resV Try.prog sig73c75 r = some x → FnOk Try.prog 73 (encL vw (startS sig73c75 v).len (startOs sig73c75 v).1) (encOs (startS sig73c75 v).len (startS sig73c75 v).own) (encV vw (conc vw sig73c75.rcut r).len x) (encOs (conc vw sig73c75.rcut r).len (kept sig73c75 r))) v r
abbrev mn_80c75 (v : (List Layout) × Unit) (r : Int × Unit) : Prop := (fun v r => ∀ x, resV Try.prog sig80c75 r = some x → FnOk Try.prog 80 (encL vw (startS sig80c75 v).len (startOs sig80c75 v).1) (encOs (startS sig80c75 v).len (startS sig80c75 v).own) (encV vw (conc vw sig80c75.rcut r).len x) (encOs (conc vw sig80c75.rcut r).len (kept sig80c75 r))) v r
abbrev mn_80c75l2 (v : (List Layout) × Int × Int × Unit) (r : ((Int × Unit) ⊕ (Unit))) : Prop := (fun v out => ∀ C : Ctx, C.P = Try.prog → C.N = 19 → AWpL C (loopNo (bodyOf Try.f80) 0) (encS vw (conc vw c80c75l2 v)) (OutQ sh80c75 [.ret, .exit 0] out)) v r
abbrev mn_75 (v : Layout × Unit) (r : Bool × Unit) : Prop := (fun v r => ∀ x, resV Try.prog sig75 r = some x → FnOk Try.prog 75 (encL vw (startS sig75 v).len (startOs sig75 v).1) (encOs (startS sig75 v).len (startS sig75 v).own) (encV vw (conc vw sig75.rcut r).len x) (encOs (conc vw sig75.rcut r).len (kept sig75 r))) v r
theorem n_49_all : (∀ v r, n_49 v = some r → mn_49 v r) ∧ (∀ v r, n_73c75 v = some r → mn_73c75 v r) ∧ (∀ v r, n_80c75 v = some r → mn_80c75 v r) ∧ (∀ v r, n_80c75l2 v = some r → mn_80c75l2 v r) ∧ (∀ v r, n_75 v = some r → mn_75 v r) := by
  refine n_49.mutual_partial_correctness
    (motive_1 := mn_49)
    (motive_2 := mn_73c75)
    (motive_3 := mn_80c75)
    (motive_4 := mn_80c75l2)
    (motive_5 := mn_75)
    ?_ ?_ ?_ ?_ ?_
  · exact (fun f0 h0 v r h x hx => fn_ok (X := x49 (fun _ => none) f0 (fun _ => none) (fun _ => none) (fun _ => none)) (sig := sig49) rfl Try.func49 (c := bodyOf Try.f49) (by kernel_rfl) Try.ntmps49 (by kernel_rfl) (by kernel_rfl) rfl Ty.mixed (by
        intro A fid args S dst k r h
        unfold x49 call49 at h
        simp only at h
        split at h
        · split at h
          · exact callPure_ok (n_73c74_ok) rfl rfl h
          · exact callPure_ok ((fun v r x h hx => h0 v r h x hx)) rfl rfl h
          · cases h
        · cases h) rfl (fun C hP hN => (lok_all (X := x49 (fun _ => none) f0 (fun _ => none) (fun _ => none) (fun _ => none)) (c := (bodyOf Try.f49)) (kcast (by kernel_rfl : True = AllB (LoopsP C (x49 (fun _ => none) f0 (fun _ => none) (fun _ => none) (fun _ => none))) (loopsIn (bodyOf Try.f49))) trivial))) (kcast (by kernel_rfl) h) x hx)
  · exact (fun f0 h0 v r h x hx => fn_ok (X := x73c75 (fun _ => none) (fun _ => none) f0 (fun _ => none) (fun _ => none)) (sig := sig73c75) rfl Try.func73 (c := bodyOf Try.f73) (by kernel_rfl) Try.ntmps73 (by kernel_rfl) (by kernel_rfl) rfl Ty.mixed (by
        intro A fid args S dst k r h
        unfold x73c75 call73c75 at h
        simp only at h
        split at h
        · exact callPure_ok ((fun v r x h hx => h0 v r h x hx)) rfl rfl h
        · cases h) rfl (fun C hP hN => (lok_all (X := x73c75 (fun _ => none) (fun _ => none) f0 (fun _ => none) (fun _ => none)) (c := (bodyOf Try.f73)) (kcast (by kernel_rfl : True = AllB (LoopsP C (x73c75 (fun _ => none) (fun _ => none) f0 (fun _ => none) (fun _ => none))) (loopsIn (bodyOf Try.f73))) trivial))) (kcast (by kernel_rfl) h) x hx)
  · exact (fun f0 h0 v r h x hx => fn_ok (X := x80c75 (fun _ => none) (fun _ => none) (fun _ => none) f0 (fun _ => none)) (sig := sig80c75) rfl Try.func80 (c := bodyOf Try.f80) (by kernel_rfl) Try.ntmps80 (by kernel_rfl) (by kernel_rfl) rfl Ty.mixed (by
        intro A fid args S dst k r h
        unfold x80c75 call80c75 at h
        simp only at h
        split at h
        · exact callPure_ok ((fun v r x h hx => by cases h)) rfl rfl h
        · cases h) rfl (fun C hP hN => (lok_all (X := x80c75 (fun _ => none) (fun _ => none) (fun _ => none) f0 (fun _ => none)) (c := (bodyOf Try.f80)) (kcast (by kernel_rfl : AllB (LoopsP C (x80c75 (fun _ => none) (fun _ => none) (fun _ => none) f0 (fun _ => none))) [(loopNo (bodyOf Try.f80) 0)] = AllB (LoopsP C (x80c75 (fun _ => none) (fun _ => none) (fun _ => none) f0 (fun _ => none))) (loopsIn (bodyOf Try.f80))) ⟨loop_at (X := x80c75 (fun _ => none) (fun _ => none) (fun _ => none) f0 (fun _ => none)) (b := (loopNo (bodyOf Try.f80) 0)) (by kernel_rfl) (show LoopOk C (loopNo (bodyOf Try.f80) 0) (sh := sh80c75) { cut := c80c75l2, alts := [.ret, .exit 0], F := f0 } from fun v out h => h0 v out h C hP hN), trivial⟩))) (kcast (by kernel_rfl) h) x hx)
  · exact (fun f0 f1 h0 h1 v out h C hP hN => loop_step (X := x80c75 (fun _ => none) (fun _ => none) (fun _ => none) f0 f1) (b := (loopNo (bodyOf Try.f80) 0)) hP hN Ty.mixed (by
        intro A fid args S dst k r h
        unfold x80c75 call80c75 at h
        simp only at h
        split at h
        · exact callPure_ok ((fun v r x h hx => h1 v r h x hx)) rfl rfl h
        · cases h) (lok_all (X := x80c75 (fun _ => none) (fun _ => none) (fun _ => none) f0 f1) (c := (loopNo (bodyOf Try.f80) 0)) (kcast (by kernel_rfl : True = AllB (LoopsP C (x80c75 (fun _ => none) (fun _ => none) (fun _ => none) f0 f1)) (loopsIn (loopNo (bodyOf Try.f80) 0))) trivial)) (cut := c80c75l2) (alts := [.ret, .exit 0]) (F := f0) (fun v out h => h0 v out h C hP hN) (kcast (by kernel_rfl) h))
  · exact (fun f0 h0 v r h x hx => fn_ok (X := x75 f0 (fun _ => none) (fun _ => none) (fun _ => none) (fun _ => none)) (sig := sig75) rfl Try.func75 (c := bodyOf Try.f75) (by kernel_rfl) Try.ntmps75 (by kernel_rfl) (by kernel_rfl) rfl Ty.mixed (by
        intro A fid args S dst k r h
        unfold x75 call75 at h
        simp only at h
        split at h
        · exact callPure_ok ((fun v r x h hx => h0 v r h x hx)) rfl rfl h
        · cases h) rfl (fun C hP hN => (lok_all (X := x75 f0 (fun _ => none) (fun _ => none) (fun _ => none) (fun _ => none)) (c := (bodyOf Try.f75)) (kcast (by kernel_rfl : True = AllB (LoopsP C (x75 f0 (fun _ => none) (fun _ => none) (fun _ => none) (fun _ => none))) (loopsIn (bodyOf Try.f75))) trivial))) (kcast (by kernel_rfl) h) x hx)
theorem n_49_ok : SigOk Try.prog 49 sig49 n_49 := fun v r x h hx => n_49_all.1 v r h x hx
theorem n_73c75_ok : SigOk Try.prog 73 sig73c75 n_73c75 := fun v r x h hx => n_49_all.2.1 v r h x hx
theorem n_80c75_ok : SigOk Try.prog 80 sig80c75 n_80c75 := fun v r x h hx => n_49_all.2.2.1 v r h x hx
theorem n_80c75l2_pc : ∀ v out, n_80c75l2 v = some out → (fun v out => ∀ C : Ctx, C.P = Try.prog → C.N = 19 → AWpL C (loopNo (bodyOf Try.f80) 0) (encS vw (conc vw c80c75l2 v)) (OutQ sh80c75 [.ret, .exit 0] out)) v out := n_49_all.2.2.2.1
theorem n_75_ok : SigOk Try.prog 75 sig75 n_75 := fun v r x h hx => n_49_all.2.2.2.2 v r h x hx

noncomputable def c20r3 : Cut SN := { slots := [(1, .bp 1 0), (12, .dat .bool)], objs := [(1, .st .layoutT)] }
noncomputable def c20z : Cut SN := { slots := [(2, .dat (.int .i64))], objs := [] }
noncomputable def sh20 : Shape vw := { exits := fun _ => { slots := [], objs := [] }, rcut := c20z }
noncomputable def sig20 : Sig vw := { params := [.dat (.st .layoutT)], objs := [], rcut := c20z, rvars := [.tmp 2], keep := [] }
noncomputable def n_20 (v : Layout × Unit) : Option (Int × Unit) :=
  n_45sf4a5 (v.fst, (1 : Int), Counted.mk (0 : Int) (0 : Int) false, ()) >>= fun x1 =>
  (if x1.fst.large = true then
      some ((true, v.fst, ()))
    else n_48 (v.fst, ()) >>= fun x2 =>
    some ((decide (x2.fst > (4096 : Int)), v.fst, ()))) >>= fun x2 =>
  if x2.fst = true then
    some (((3 : Int), ()))
  else n_49 (x2.snd.fst, ()) >>= fun x3 =>
  if (!x3.fst) = true then
    some (((1 : Int), ()))
  else some (((0 : Int), ()))
noncomputable def call20 : Caller vw := fun A fid args S k => match fid with | 45 => callObj Try.prog sig45sf4a5 n_45sf4a5 A args S k | 48 => callPure Try.prog sig48 n_48 A args S k | 49 => callPure Try.prog sig49 n_49 A args S k | _ => none
noncomputable def x20 : Xc vw := { P := Try.prog, n := 16, nm := id, call := call20, pre := fun _ => false, sh := sh20, joins := fun _ => none, regs := fun k => match k with | 3 => some c20r3 | _ => none, loops := fun _ => none }
theorem call20_ok : CallerOk Try.prog call20 := fun A fid args S dst k r h => by
  unfold call20 at h
  split at h
  · exact callObj_ok (n_45sf4a5_ok) h
  · exact callPure_ok (n_48_ok) rfl rfl h
  · exact callPure_ok (n_49_ok) rfl rfl h
  · cases h
theorem n_20_ok : SigOk Try.prog 20 sig20 n_20 := fun v r x h hx =>
  fn_ok (X := x20) (sig := sig20) rfl Try.func20 (c := bodyOf Try.f20) (by kernel_rfl) Try.ntmps20 (by kernel_rfl) (by kernel_rfl) rfl Ty.mixed call20_ok rfl (fun C hP hN => (lok_all (X := x20) (c := (bodyOf Try.f20)) (kcast (by kernel_rfl : True = AllB (LoopsP C (x20)) (loopsIn (bodyOf Try.f20))) trivial))) (kcast (by kernel_rfl) h) x hx

noncomputable def c22r1 : Cut SN := { slots := [(15, .dat .bool)], objs := [] }
noncomputable def c22z : Cut SN := { slots := [(2, .dat (.int .i64))], objs := [] }
noncomputable def sh22 : Shape vw := { exits := fun _ => { slots := [], objs := [] }, rcut := c22z }
noncomputable def sig22 : Sig vw := { params := [.dat (.st .targetT)], objs := [], rcut := c22z, rvars := [.tmp 2], keep := [] }
noncomputable def n_22 (v : Target × Unit) : Option (Int × Unit) :=
  (if (v.fst.word != (2 : Int)) = true then
      if (v.fst.word != (4 : Int)) = true then
        some ((v.fst.word != (8 : Int), ()))
      else some ((false, ()))
    else some ((false, ()))) >>= fun x1 =>
  if x1.fst = true then
    some (((1 : Int), ()))
  else some (((0 : Int), ()))
noncomputable def call22 : Caller vw := fun _ _ _ _ _ => none
noncomputable def x22 : Xc vw := { P := Try.prog, n := 16, nm := id, call := call22, pre := fun _ => false, sh := sh22, joins := fun _ => none, regs := fun k => match k with | 1 => some c22r1 | _ => none, loops := fun _ => none }
theorem call22_ok : CallerOk Try.prog call22 := call_none
theorem n_22_ok : SigOk Try.prog 22 sig22 n_22 := fun v r x h hx =>
  fn_ok (X := x22) (sig := sig22) rfl Try.func22 (c := bodyOf Try.f22) (by kernel_rfl) Try.ntmps22 (by kernel_rfl) (by kernel_rfl) rfl Ty.mixed call22_ok rfl (fun C hP hN => (lok_all (X := x22) (c := (bodyOf Try.f22)) (kcast (by kernel_rfl : True = AllB (LoopsP C (x22)) (loopsIn (bodyOf Try.f22))) trivial))) (kcast (by kernel_rfl) h) x hx

noncomputable def c39z : Cut SN := { slots := [(4, .dat (.int .i64))], objs := [] }
noncomputable def sh39 : Shape vw := { exits := fun _ => { slots := [], objs := [] }, rcut := c39z }
noncomputable def sig39 : Sig vw := { params := [.dat (.st .layoutT), .dat (.st .targetT)], objs := [], rcut := c39z, rvars := [.tmp 4], keep := [] }
noncomputable def n_39 (v : Layout × Target × Unit) : Option (Int × Unit) :=
  n_20 (v.fst, ()) >>= fun x1 =>
  if (x1.fst != (0 : Int)) = true then
    some ((x1.fst, ()))
  else n_22 (v.snd.fst, ()) >>= fun x2 =>
  some ((x2.fst, ()))
noncomputable def call39 : Caller vw := fun A fid args S k => match fid with | 20 => callPure Try.prog sig20 n_20 A args S k | 22 => callPure Try.prog sig22 n_22 A args S k | _ => none
noncomputable def x39 : Xc vw := { P := Try.prog, n := 13, nm := id, call := call39, pre := fun _ => false, sh := sh39, joins := fun _ => none, regs := fun _ => none, loops := fun _ => none }
theorem call39_ok : CallerOk Try.prog call39 := fun A fid args S dst k r h => by
  unfold call39 at h
  split at h
  · exact callPure_ok (n_20_ok) rfl rfl h
  · exact callPure_ok (n_22_ok) rfl rfl h
  · cases h
theorem n_39_ok : SigOk Try.prog 39 sig39 n_39 := fun v r x h hx =>
  fn_ok (X := x39) (sig := sig39) rfl Try.func39 (c := bodyOf Try.f39) (by kernel_rfl) Try.ntmps39 (by kernel_rfl) (by kernel_rfl) rfl Ty.mixed call39_ok rfl (fun C hP hN => (lok_all (X := x39) (c := (bodyOf Try.f39)) (kcast (by kernel_rfl : True = AllB (LoopsP C (x39)) (loopsIn (bodyOf Try.f39))) trivial))) (kcast (by kernel_rfl) h) x hx

noncomputable def c71z : Cut SN := { slots := [(4, .dat (.int .i64))], objs := [] }
noncomputable def sh71 : Shape vw := { exits := fun _ => { slots := [], objs := [] }, rcut := c71z }
noncomputable def sig71 : Sig vw := { params := [.dat (.int .i64), .dat (.int .i64)], objs := [], rcut := c71z, rvars := [.tmp 4], keep := [] }
noncomputable def n_71 (v : Int × Int × Unit) : Option (Int × Unit) :=
  if v.snd.fst = (0 : Int) then
    none
  else some ((IntKind.i64.wrap (IntKind.i64.wrap ((IntKind.i64.wrap (IntKind.i64.wrap (v.fst + v.snd.fst) - (1 : Int))).tdiv v.snd.fst) * v.snd.fst), ()))
noncomputable def call71 : Caller vw := fun _ _ _ _ _ => none
noncomputable def x71 : Xc vw := { P := Try.prog, n := 13, nm := id, call := call71, pre := fun _ => false, sh := sh71, joins := fun _ => none, regs := fun _ => none, loops := fun _ => none }
theorem call71_ok : CallerOk Try.prog call71 := call_none
theorem n_71_ok : SigOk Try.prog 71 sig71 n_71 := fun v r x h hx =>
  fn_ok (X := x71) (sig := sig71) rfl Try.func71 (c := bodyOf Try.f71) (by kernel_rfl) Try.ntmps71 (by kernel_rfl) (by kernel_rfl) rfl Ty.mixed call71_ok rfl (fun C hP hN => (lok_all (X := x71) (c := (bodyOf Try.f71)) (kcast (by kernel_rfl : True = AllB (LoopsP C (x71)) (loopsIn (bodyOf Try.f71))) trivial))) (kcast (by kernel_rfl) h) x hx

noncomputable def c55l3 : Cut SN := { slots := [(3, .dat (.int .i64)), (7, .dat (.sl (.st .layoutT))), (8, .dat (.int .i64)), (9, .dat (.int .i64))], objs := [] }
noncomputable def c55e0 : Cut SN := { slots := [(3, .dat (.int .i64))], objs := [] }
noncomputable def c55z : Cut SN := { slots := [(2, .dat (.int .i64))], objs := [] }
noncomputable def sh55 : Shape vw := { exits := fun id => match id with | 0 => c55e0 | _ => { slots := [], objs := [] }, rcut := c55z }
noncomputable def sig55 : Sig vw := { params := [.dat (.st .layoutT)], objs := [], rcut := c55z, rvars := [.tmp 2], keep := [] }
noncomputable def n_55l3 (v : Int × (List Layout) × Int × Int × Unit) : Option ((Int × Unit)) :=
  if decide (v.snd.snd.snd.fst < v.snd.snd.fst) = true then
    if (0 : Int) ≤ v.snd.snd.snd.fst then
      v.snd.fst[v.snd.snd.snd.fst.toNat]? >>= fun x1 =>
      n_56 (x1, ()) >>= fun x2 =>
      n_55l3 (IntKind.i64.wrap (v.fst + x2.fst), v.snd.fst, v.snd.snd.fst, IntKind.i64.wrap (v.snd.snd.snd.fst + (1 : Int)), ())
    else none
  else some ((v.fst, ()))
  partial_fixpoint
noncomputable def n_55 (v : Layout × Unit) : Option (Int × Unit) :=
  n_55l3 ((0 : Int), v.fst.parts, (↑v.fst.parts.length : Int), (0 : Int), ()) >>= fun x1 =>
  some ((x1.fst, ()))
noncomputable def call55 : Caller vw := fun A fid args S k => match fid with | 56 => callPure Try.prog sig56 n_56 A args S k | _ => none
noncomputable def x55 : Xc vw := { P := Try.prog, n := 19, nm := id, call := call55, pre := fun _ => false, sh := sh55, joins := fun _ => none, regs := fun _ => none, loops := fun k => match k with | 3 => some { cut := c55l3, alts := [.exit 0], F := n_55l3 } | _ => none }
theorem call55_ok : CallerOk Try.prog call55 := fun A fid args S dst k r h => by
  unfold call55 at h
  split at h
  · exact callPure_ok (n_56_ok) rfl rfl h
  · cases h
theorem n_55l3_ok (C : Ctx) (hP : C.P = Try.prog) (hN : C.N = 19) : LoopOk C (loopNo (bodyOf Try.f55) 0) (sh := sh55) { cut := c55l3, alts := [.exit 0], F := n_55l3 } :=
  n_55l3.partial_correctness (motive := fun v out => AWpL C (loopNo (bodyOf Try.f55) 0) (encS vw (conc vw c55l3 v)) (OutQ sh55 [.exit 0] out)) fun F ih v out h =>
    loop_step (X := x55) (b := (loopNo (bodyOf Try.f55) 0)) hP hN Ty.mixed call55_ok (lok_all (X := x55) (c := (loopNo (bodyOf Try.f55) 0)) (kcast (by kernel_rfl : True = AllB (LoopsP C (x55)) (loopsIn (loopNo (bodyOf Try.f55) 0))) trivial)) ih (kcast (by kernel_rfl) h)
theorem n_55_ok : SigOk Try.prog 55 sig55 n_55 := fun v r x h hx =>
  fn_ok (X := x55) (sig := sig55) rfl Try.func55 (c := bodyOf Try.f55) (by kernel_rfl) Try.ntmps55 (by kernel_rfl) (by kernel_rfl) rfl Ty.mixed call55_ok rfl (fun C hP hN => (lok_all (X := x55) (c := (bodyOf Try.f55)) (kcast (by kernel_rfl : AllB (LoopsP C (x55)) [(loopNo (bodyOf Try.f55) 0)] = AllB (LoopsP C (x55)) (loopsIn (bodyOf Try.f55))) ⟨loop_at (X := x55) (b := (loopNo (bodyOf Try.f55) 0)) (by kernel_rfl) (n_55l3_ok C hP hN), trivial⟩))) (kcast (by kernel_rfl) h) x hx

noncomputable def c77l4 : Cut SN := { slots := [(0, .dat (.int .i64)), (3, .dat (.int .i64))], objs := [] }
noncomputable def c77e0 : Cut SN := { slots := [(3, .dat (.int .i64))], objs := [] }
noncomputable def c77z : Cut SN := { slots := [(2, .dat (.int .i64))], objs := [] }
noncomputable def sh77 : Shape vw := { exits := fun id => match id with | 0 => c77e0 | _ => { slots := [], objs := [] }, rcut := c77z }
noncomputable def sig77 : Sig vw := { params := [.dat (.int .i64)], objs := [], rcut := c77z, rvars := [.tmp 2], keep := [] }
noncomputable def n_77l4 (v : Int × Int × Unit) : Option ((Int × Unit)) :=
  if decide (IntKind.i64.wrap ((8 : Int) * v.snd.fst) < v.fst) = true then
    n_77l4 (v.fst, IntKind.i64.wrap (v.snd.fst * (2 : Int)), ())
  else some ((v.snd.fst, ()))
  partial_fixpoint
noncomputable def n_77 (v : Int × Unit) : Option (Int × Unit) :=
  if (v.fst == (0 : Int)) = true then
    some (((0 : Int), ()))
  else n_77l4 (v.fst, (1 : Int), ()) >>= fun x1 =>
  some ((x1.fst, ()))
noncomputable def call77 : Caller vw := fun _ _ _ _ _ => none
noncomputable def x77 : Xc vw := { P := Try.prog, n := 13, nm := id, call := call77, pre := fun _ => false, sh := sh77, joins := fun _ => none, regs := fun _ => none, loops := fun k => match k with | 4 => some { cut := c77l4, alts := [.exit 0], F := n_77l4 } | _ => none }
theorem call77_ok : CallerOk Try.prog call77 := call_none
theorem n_77l4_ok (C : Ctx) (hP : C.P = Try.prog) (hN : C.N = 13) : LoopOk C (loopNo (bodyOf Try.f77) 0) (sh := sh77) { cut := c77l4, alts := [.exit 0], F := n_77l4 } :=
  n_77l4.partial_correctness (motive := fun v out => AWpL C (loopNo (bodyOf Try.f77) 0) (encS vw (conc vw c77l4 v)) (OutQ sh77 [.exit 0] out)) fun F ih v out h =>
    loop_step (X := x77) (b := (loopNo (bodyOf Try.f77) 0)) hP hN Ty.mixed call77_ok (lok_all (X := x77) (c := (loopNo (bodyOf Try.f77) 0)) (kcast (by kernel_rfl : True = AllB (LoopsP C (x77)) (loopsIn (loopNo (bodyOf Try.f77) 0))) trivial)) ih (kcast (by kernel_rfl) h)
theorem n_77_ok : SigOk Try.prog 77 sig77 n_77 := fun v r x h hx =>
  fn_ok (X := x77) (sig := sig77) rfl Try.func77 (c := bodyOf Try.f77) (by kernel_rfl) Try.ntmps77 (by kernel_rfl) (by kernel_rfl) rfl Ty.mixed call77_ok rfl (fun C hP hN => (lok_all (X := x77) (c := (bodyOf Try.f77)) (kcast (by kernel_rfl : AllB (LoopsP C (x77)) [(loopNo (bodyOf Try.f77) 0)] = AllB (LoopsP C (x77)) (loopsIn (bodyOf Try.f77))) ⟨loop_at (X := x77) (b := (loopNo (bodyOf Try.f77) 0)) (by kernel_rfl) (n_77l4_ok C hP hN), trivial⟩))) (kcast (by kernel_rfl) h) x hx

noncomputable def c44l4 : Cut SN := { slots := [(3, .bp 3 0), (5, .bp 5 0), (6, .vh 1006), (7, .dat (.int .i64)), (8, .dat (.int .i64)), (14, .dat (.sl (.st .layoutT))), (15, .dat (.int .i64)), (16, .dat (.int .i64))], objs := [(3, .st .targetT), (5, .st .roomT), (1006, .vec 3 (.int .i64))] }
noncomputable def c44e0 : Cut SN := { slots := [(5, .bp 5 0), (6, .vh 1006), (7, .dat (.int .i64)), (8, .dat (.int .i64))], objs := [(5, .st .roomT), (1006, .vec 3 (.int .i64))] }
noncomputable def c44z : Cut SN := { slots := [(4, .dat (.sl (.int .i64))), (5, .bp 5 0)], objs := [(5, .st .roomT)] }
noncomputable def sh44 : Shape vw := { exits := fun id => match id with | 0 => c44e0 | _ => { slots := [], objs := [] }, rcut := c44z }
noncomputable def sig44 : Sig vw := { params := [.dat (.st .layoutT), .dat (.st .targetT)], objs := [], rcut := c44z, rvars := [.tmp 4, .cell 5 53], keep := [] }
noncomputable def c59l25 : Cut SN := { slots := [(3, .bp 3 0), (4, .bp 4 0), (10, .bp 10 0), (98, .dat (.sl (.st .layoutT))), (99, .dat (.int .i64)), (100, .dat (.int .i64))], objs := [(3, .st .targetT), (4, .st .roomT), (10, .st .roomT)] }
noncomputable def c59j21 : Cut SN := { slots := [(3, .bp 3 0), (4, .bp 4 0), (9, .dat (.int .i64))], objs := [(3, .st .targetT), (4, .st .roomT)] }
noncomputable def c59e1 : Cut SN := { slots := [(4, .bp 4 0), (10, .bp 10 0)], objs := [(4, .st .roomT), (10, .st .roomT)] }
noncomputable def c59z : Cut SN := { slots := [(4, .bp 4 0)], objs := [(4, .st .roomT)] }
noncomputable def sh59 : Shape vw := { exits := fun id => match id with | 1 => c59e1 | _ => { slots := [], objs := [] }, rcut := c59z }
noncomputable def sig59 : Sig vw := { params := [.dat (.st .layoutT), .dat (.st .targetT)], objs := [], rcut := c59z, rvars := [.cell 4 53], keep := [] }
mutual
noncomputable def n_44l4 (v : Int × Int × (List Layout) × Int × Int × Target × Room × (List Int) × Unit) : Option ((Int × Int × Room × (List Int) × Unit)) :=
  if decide (v.snd.snd.snd.snd.fst < v.snd.snd.snd.fst) = true then
    if (0 : Int) ≤ v.snd.snd.snd.snd.fst then
      v.snd.snd.fst[v.snd.snd.snd.snd.fst.toNat]? >>= fun x1 =>
      n_59 (x1, v.snd.snd.snd.snd.snd.fst, ()) >>= fun x2 =>
      n_71 (v.fst, x2.fst.align, ()) >>= fun x3 =>
      if v.snd.snd.snd.snd.snd.snd.snd.fst.length + [x3.fst].length ≤ (4294967296 : Nat) then
        n_72 ([x3.fst, x2.fst.size], ()) >>= fun x4 =>
        n_44l4 (x4.fst, max v.snd.fst x2.fst.align, v.snd.snd.fst, v.snd.snd.snd.fst, IntKind.i64.wrap (v.snd.snd.snd.snd.fst + (1 : Int)), v.snd.snd.snd.snd.snd.fst, v.snd.snd.snd.snd.snd.snd.fst, v.snd.snd.snd.snd.snd.snd.snd.fst ++ [x3.fst], ())
      else none
    else none
  else some ((v.fst, v.snd.fst, v.snd.snd.snd.snd.snd.snd.fst, v.snd.snd.snd.snd.snd.snd.snd.fst, ()))
  partial_fixpoint
noncomputable def n_59 (v : Layout × Target × Unit) : Option (Room × Unit) :=
  if (v.fst.kind == (1 : Int)) = true then
    some ((Room.mk (1 : Int) (1 : Int), ()))
  else if (v.fst.kind == (2 : Int)) = true then
    n_77 (v.fst.n, ()) >>= fun x1 =>
    n_77 (v.fst.n, ()) >>= fun x2 =>
    some ((Room.mk x1.fst (min x2.fst v.snd.fst.word), ()))
  else if (v.fst.kind == (3 : Int)) = true then
    some ((Room.mk v.snd.fst.word v.snd.fst.word, ()))
  else if (v.fst.kind == (4 : Int)) = true then
    v.fst.parts[Int.toNat (0 : Int)]? >>= fun x1 =>
    n_59 (x1, v.snd.fst, ()) >>= fun x2 =>
    n_72 ([x2.fst.size, (1 : Int)], ()) >>= fun x3 =>
    n_71 (x3.fst, x2.fst.align, ()) >>= fun x4 =>
    some ((Room.mk x4.fst x2.fst.align, ()))
  else if (v.fst.kind == (5 : Int)) = true then
    v.fst.parts[Int.toNat (0 : Int)]? >>= fun x1 =>
    n_59 (x1, v.snd.fst, ()) >>= fun x2 =>
    some ((Room.mk (min (1099511627776 : Int) (IntKind.i64.wrap (v.fst.n * x2.fst.size))) x2.fst.align, ()))
  else if (v.fst.kind == (6 : Int)) = true then
    n_44 (v.fst, v.snd.fst, ()) >>= fun x1 =>
    some ((x1.snd.fst, ()))
  else if (v.fst.kind == (7 : Int)) = true then
    (if decide (v.fst.n > (256 : Int)) = true then
        some (((2 : Int), v.snd.fst, Room.mk (0 : Int) (0 : Int), ()))
      else some (((1 : Int), v.snd.fst, Room.mk (0 : Int) (0 : Int), ()))) >>= fun x1 =>
    some ((Room.mk x1.fst (min x1.fst x1.snd.fst.word), ()))
  else if (v.fst.kind == (8 : Int)) = true then
    n_59l25 (v.fst.parts, (↑v.fst.parts.length : Int), (0 : Int), v.snd.fst, Room.mk (0 : Int) (0 : Int), Room.mk (0 : Int) (1 : Int), ()) >>= fun x1 =>
    n_72 ([x1.snd.fst.size, (1 : Int)], ()) >>= fun x2 =>
    n_71 (x2.fst, x1.snd.fst.align, ()) >>= fun x3 =>
    some ((Room.mk x3.fst x1.snd.fst.align, ()))
  else if (v.fst.kind == (9 : Int)) = true then
    n_55 (v.fst, ()) >>= fun x1 =>
    n_77 (x1.fst, ()) >>= fun x2 =>
    some ((Room.mk x2.fst (max (1 : Int) (min x2.fst v.snd.fst.word)), ()))
  else some ((Room.mk (0 : Int) (1 : Int), ()))
  partial_fixpoint
noncomputable def n_59l25 (v : (List Layout) × Int × Int × Target × Room × Room × Unit) : Option ((Room × Room × Unit)) :=
  if decide (v.snd.snd.fst < v.snd.fst) = true then
    if (0 : Int) ≤ v.snd.snd.fst then
      v.fst[v.snd.snd.fst.toNat]? >>= fun x1 =>
      n_59 (x1, v.snd.snd.snd.fst, ()) >>= fun x2 =>
      n_59l25 (v.fst, v.snd.fst, IntKind.i64.wrap (v.snd.snd.fst + (1 : Int)), v.snd.snd.snd.fst, v.snd.snd.snd.snd.fst, Room.mk (max v.snd.snd.snd.snd.snd.fst.size x2.fst.size) (max v.snd.snd.snd.snd.snd.fst.align x2.fst.align), ())
    else none
  else some ((v.snd.snd.snd.snd.fst, v.snd.snd.snd.snd.snd.fst, ()))
  partial_fixpoint
noncomputable def n_44 (v : Layout × Target × Unit) : Option ((List Int) × Room × Unit) :=
  n_44l4 ((0 : Int), (1 : Int), v.fst.parts, (↑v.fst.parts.length : Int), (0 : Int), v.snd.fst, Room.mk (0 : Int) (0 : Int), [], ()) >>= fun x1 =>
  n_71 (x1.fst, x1.snd.fst, ()) >>= fun x2 =>
  some ((x1.snd.snd.snd.fst, Room.mk x2.fst x1.snd.fst, ()))
  partial_fixpoint
end
noncomputable def call44 (n_44l4 : Int × Int × (List Layout) × Int × Int × Target × Room × (List Int) × Unit → Option ((Int × Int × Room × (List Int) × Unit))) (n_59 : Layout × Target × Unit → Option (Room × Unit)) (n_59l25 : (List Layout) × Int × Int × Target × Room × Room × Unit → Option ((Room × Room × Unit))) (n_44 : Layout × Target × Unit → Option ((List Int) × Room × Unit)) : Caller vw := fun A fid args S k => match fid with | 59 => callPure Try.prog sig59 n_59 A args S k | 71 => callPure Try.prog sig71 n_71 A args S k | 72 => callPure Try.prog sig72 n_72 A args S k | _ => none
noncomputable def x44 (n_44l4 : Int × Int × (List Layout) × Int × Int × Target × Room × (List Int) × Unit → Option ((Int × Int × Room × (List Int) × Unit))) (n_59 : Layout × Target × Unit → Option (Room × Unit)) (n_59l25 : (List Layout) × Int × Int × Target × Room × Room × Unit → Option ((Room × Room × Unit))) (n_44 : Layout × Target × Unit → Option ((List Int) × Room × Unit)) : Xc vw := { P := Try.prog, n := 47, nm := id, call := call44 n_44l4 n_59 n_59l25 n_44, pre := fun _ => false, sh := sh44, joins := fun _ => none, regs := fun _ => none, loops := fun k => match k with | 4 => some { cut := c44l4, alts := [.exit 0], F := n_44l4 } | _ => none }
noncomputable def call59 (n_44l4 : Int × Int × (List Layout) × Int × Int × Target × Room × (List Int) × Unit → Option ((Int × Int × Room × (List Int) × Unit))) (n_59 : Layout × Target × Unit → Option (Room × Unit)) (n_59l25 : (List Layout) × Int × Int × Target × Room × Room × Unit → Option ((Room × Room × Unit))) (n_44 : Layout × Target × Unit → Option ((List Int) × Room × Unit)) : Caller vw := fun A fid args S k => match fid with | 44 => callPure Try.prog sig44 n_44 A args S k | 55 => callPure Try.prog sig55 n_55 A args S k | 59 => callPure Try.prog sig59 n_59 A args S k | 71 => callPure Try.prog sig71 n_71 A args S k | 72 => callPure Try.prog sig72 n_72 A args S k | 77 => callPure Try.prog sig77 n_77 A args S k | _ => none
noncomputable def x59 (n_44l4 : Int × Int × (List Layout) × Int × Int × Target × Room × (List Int) × Unit → Option ((Int × Int × Room × (List Int) × Unit))) (n_59 : Layout × Target × Unit → Option (Room × Unit)) (n_59l25 : (List Layout) × Int × Int × Target × Room × Room × Unit → Option ((Room × Room × Unit))) (n_44 : Layout × Target × Unit → Option ((List Int) × Room × Unit)) : Xc vw := { P := Try.prog, n := 142, nm := id, call := call59 n_44l4 n_59 n_59l25 n_44, pre := fun _ => false, sh := sh59, joins := fun k => match k with | 21 => some (c59j21, [.norm]) | _ => none, regs := fun _ => none, loops := fun k => match k with | 25 => some { cut := c59l25, alts := [.exit 1], F := n_59l25 } | _ => none }
abbrev mn_44l4 (v : Int × Int × (List Layout) × Int × Int × Target × Room × (List Int) × Unit) (r : (Int × Int × Room × (List Int) × Unit)) : Prop := (fun v out => ∀ C : Ctx, C.P = Try.prog → C.N = 47 → AWpL C (loopNo (bodyOf Try.f44) 0) (encS vw (conc vw c44l4 v)) (OutQ sh44 [.exit 0] out)) v r
abbrev mn_59 (v : Layout × Target × Unit) (r : Room × Unit) : Prop := (fun v r => ∀ x, resV Try.prog sig59 r = some x → FnOk Try.prog 59 (encL vw (startS sig59 v).len (startOs sig59 v).1) (encOs (startS sig59 v).len (startS sig59 v).own) (encV vw (conc vw sig59.rcut r).len x) (encOs (conc vw sig59.rcut r).len (kept sig59 r))) v r
abbrev mn_59l25 (v : (List Layout) × Int × Int × Target × Room × Room × Unit) (r : (Room × Room × Unit)) : Prop := (fun v out => ∀ C : Ctx, C.P = Try.prog → C.N = 142 → AWpL C (loopNo (bodyOf Try.f59) 0) (encS vw (conc vw c59l25 v)) (OutQ sh59 [.exit 1] out)) v r
abbrev mn_44 (v : Layout × Target × Unit) (r : (List Int) × Room × Unit) : Prop := (fun v r => ∀ x, resV Try.prog sig44 r = some x → FnOk Try.prog 44 (encL vw (startS sig44 v).len (startOs sig44 v).1) (encOs (startS sig44 v).len (startS sig44 v).own) (encV vw (conc vw sig44.rcut r).len x) (encOs (conc vw sig44.rcut r).len (kept sig44 r))) v r
theorem n_44l4_all : (∀ v r, n_44l4 v = some r → mn_44l4 v r) ∧ (∀ v r, n_59 v = some r → mn_59 v r) ∧ (∀ v r, n_59l25 v = some r → mn_59l25 v r) ∧ (∀ v r, n_44 v = some r → mn_44 v r) := by
  refine n_44l4.mutual_partial_correctness
    (motive_1 := mn_44l4)
    (motive_2 := mn_59)
    (motive_3 := mn_59l25)
    (motive_4 := mn_44)
    ?_ ?_ ?_ ?_
  · exact (fun f0 f1 h0 h1 v out h C hP hN => loop_step (X := x44 f0 f1 (fun _ => none) (fun _ => none)) (b := (loopNo (bodyOf Try.f44) 0)) hP hN Ty.mixed (by
        intro A fid args S dst k r h
        unfold x44 call44 at h
        simp only at h
        split at h
        · exact callPure_ok ((fun v r x h hx => h1 v r h x hx)) rfl rfl h
        · exact callPure_ok (n_71_ok) rfl rfl h
        · exact callPure_ok (n_72_ok) rfl rfl h
        · cases h) (lok_all (X := x44 f0 f1 (fun _ => none) (fun _ => none)) (c := (loopNo (bodyOf Try.f44) 0)) (kcast (by kernel_rfl : True = AllB (LoopsP C (x44 f0 f1 (fun _ => none) (fun _ => none))) (loopsIn (loopNo (bodyOf Try.f44) 0))) trivial)) (cut := c44l4) (alts := [.exit 0]) (F := f0) (fun v out h => h0 v out h C hP hN) (kcast (by kernel_rfl) h))
  · exact (fun f0 f1 f2 h0 h1 h2 v r h x hx => fn_ok (X := x59 (fun _ => none) f0 f1 f2) (sig := sig59) rfl Try.func59 (c := bodyOf Try.f59) (by kernel_rfl) Try.ntmps59 (by kernel_rfl) (by kernel_rfl) rfl Ty.mixed (by
        intro A fid args S dst k r h
        unfold x59 call59 at h
        simp only at h
        split at h
        · exact callPure_ok ((fun v r x h hx => h2 v r h x hx)) rfl rfl h
        · exact callPure_ok (n_55_ok) rfl rfl h
        · exact callPure_ok ((fun v r x h hx => h0 v r h x hx)) rfl rfl h
        · exact callPure_ok (n_71_ok) rfl rfl h
        · exact callPure_ok (n_72_ok) rfl rfl h
        · exact callPure_ok (n_77_ok) rfl rfl h
        · cases h) rfl (fun C hP hN => (lok_all (X := x59 (fun _ => none) f0 f1 f2) (c := (bodyOf Try.f59)) (kcast (by kernel_rfl : AllB (LoopsP C (x59 (fun _ => none) f0 f1 f2)) [(loopNo (bodyOf Try.f59) 0)] = AllB (LoopsP C (x59 (fun _ => none) f0 f1 f2)) (loopsIn (bodyOf Try.f59))) ⟨loop_at (X := x59 (fun _ => none) f0 f1 f2) (b := (loopNo (bodyOf Try.f59) 0)) (by kernel_rfl) (show LoopOk C (loopNo (bodyOf Try.f59) 0) (sh := sh59) { cut := c59l25, alts := [.exit 1], F := f1 } from fun v out h => h1 v out h C hP hN), trivial⟩))) (kcast (by kernel_rfl) h) x hx)
  · exact (fun f0 f1 h0 h1 v out h C hP hN => loop_step (X := x59 (fun _ => none) f0 f1 (fun _ => none)) (b := (loopNo (bodyOf Try.f59) 0)) hP hN Ty.mixed (by
        intro A fid args S dst k r h
        unfold x59 call59 at h
        simp only at h
        split at h
        · exact callPure_ok ((fun v r x h hx => by cases h)) rfl rfl h
        · exact callPure_ok (n_55_ok) rfl rfl h
        · exact callPure_ok ((fun v r x h hx => h0 v r h x hx)) rfl rfl h
        · exact callPure_ok (n_71_ok) rfl rfl h
        · exact callPure_ok (n_72_ok) rfl rfl h
        · exact callPure_ok (n_77_ok) rfl rfl h
        · cases h) (lok_all (X := x59 (fun _ => none) f0 f1 (fun _ => none)) (c := (loopNo (bodyOf Try.f59) 0)) (kcast (by kernel_rfl : True = AllB (LoopsP C (x59 (fun _ => none) f0 f1 (fun _ => none))) (loopsIn (loopNo (bodyOf Try.f59) 0))) trivial)) (cut := c59l25) (alts := [.exit 1]) (F := f1) (fun v out h => h1 v out h C hP hN) (kcast (by kernel_rfl) h))
  · exact (fun f0 h0 v r h x hx => fn_ok (X := x44 f0 (fun _ => none) (fun _ => none) (fun _ => none)) (sig := sig44) rfl Try.func44 (c := bodyOf Try.f44) (by kernel_rfl) Try.ntmps44 (by kernel_rfl) (by kernel_rfl) rfl Ty.mixed (by
        intro A fid args S dst k r h
        unfold x44 call44 at h
        simp only at h
        split at h
        · exact callPure_ok ((fun v r x h hx => by cases h)) rfl rfl h
        · exact callPure_ok (n_71_ok) rfl rfl h
        · exact callPure_ok (n_72_ok) rfl rfl h
        · cases h) rfl (fun C hP hN => (lok_all (X := x44 f0 (fun _ => none) (fun _ => none) (fun _ => none)) (c := (bodyOf Try.f44)) (kcast (by kernel_rfl : AllB (LoopsP C (x44 f0 (fun _ => none) (fun _ => none) (fun _ => none))) [(loopNo (bodyOf Try.f44) 0)] = AllB (LoopsP C (x44 f0 (fun _ => none) (fun _ => none) (fun _ => none))) (loopsIn (bodyOf Try.f44))) ⟨loop_at (X := x44 f0 (fun _ => none) (fun _ => none) (fun _ => none)) (b := (loopNo (bodyOf Try.f44) 0)) (by kernel_rfl) (show LoopOk C (loopNo (bodyOf Try.f44) 0) (sh := sh44) { cut := c44l4, alts := [.exit 0], F := f0 } from fun v out h => h0 v out h C hP hN), trivial⟩))) (kcast (by kernel_rfl) h) x hx)
theorem n_44l4_pc : ∀ v out, n_44l4 v = some out → (fun v out => ∀ C : Ctx, C.P = Try.prog → C.N = 47 → AWpL C (loopNo (bodyOf Try.f44) 0) (encS vw (conc vw c44l4 v)) (OutQ sh44 [.exit 0] out)) v out := n_44l4_all.1
theorem n_59_ok : SigOk Try.prog 59 sig59 n_59 := fun v r x h hx => n_44l4_all.2.1 v r h x hx
theorem n_59l25_pc : ∀ v out, n_59l25 v = some out → (fun v out => ∀ C : Ctx, C.P = Try.prog → C.N = 142 → AWpL C (loopNo (bodyOf Try.f59) 0) (encS vw (conc vw c59l25 v)) (OutQ sh59 [.exit 1] out)) v out := n_44l4_all.2.2.1
theorem n_44_ok : SigOk Try.prog 44 sig44 n_44 := fun v r x h hx => n_44l4_all.2.2.2 v r h x hx

noncomputable def c40z : Cut SN := { slots := [(4, .bp 4 0), (5, .dat (.int .i64))], objs := [(4, .st .roomT)] }
noncomputable def sh40 : Shape vw := { exits := fun _ => { slots := [], objs := [] }, rcut := c40z }
noncomputable def sig40 : Sig vw := { params := [.dat (.st .layoutT), .dat (.st .targetT)], objs := [], rcut := c40z, rvars := [.cell 4 53, .tmp 5], keep := [] }
noncomputable def n_40 (v : Layout × Target × Unit) : Option (Int × Room × Unit) :=
  n_59 (v.fst, v.snd.fst, ()) >>= fun x1 =>
  if decide (x1.fst.size > (4096 : Int)) = true then
    some (((3 : Int), Room.mk (0 : Int) (0 : Int), ()))
  else some (((0 : Int), x1.fst, ()))
noncomputable def call40 : Caller vw := fun A fid args S k => match fid with | 59 => callPure Try.prog sig59 n_59 A args S k | _ => none
noncomputable def x40 : Xc vw := { P := Try.prog, n := 15, nm := id, call := call40, pre := fun _ => false, sh := sh40, joins := fun _ => none, regs := fun _ => none, loops := fun _ => none }
theorem call40_ok : CallerOk Try.prog call40 := fun A fid args S dst k r h => by
  unfold call40 at h
  split at h
  · exact callPure_ok (n_59_ok) rfl rfl h
  · cases h
theorem n_40_ok : SigOk Try.prog 40 sig40 n_40 := fun v r x h hx =>
  fn_ok (X := x40) (sig := sig40) rfl Try.func40 (c := bodyOf Try.f40) (by kernel_rfl) Try.ntmps40 (by kernel_rfl) (by kernel_rfl) rfl Ty.mixed call40_ok rfl (fun C hP hN => (lok_all (X := x40) (c := (bodyOf Try.f40)) (kcast (by kernel_rfl : True = AllB (LoopsP C (x40)) (loopsIn (bodyOf Try.f40))) trivial))) (kcast (by kernel_rfl) h) x hx

noncomputable def c13z : Cut SN := { slots := [(4, .dat (.int .i64)), (5, .dat (.int .i64))], objs := [] }
noncomputable def sh13 : Shape vw := { exits := fun _ => { slots := [], objs := [] }, rcut := c13z }
noncomputable def sig13 : Sig vw := { params := [.dat (.st .layoutT), .dat (.st .targetT)], objs := [], rcut := c13z, rvars := [.tmp 4, .tmp 5], keep := [] }
noncomputable def n_13 (v : Layout × Target × Unit) : Option (Int × Int × Unit) :=
  n_39 (v.fst, v.snd.fst, ()) >>= fun x1 =>
  if (x1.fst != (0 : Int)) = true then
    some (((0 : Int), x1.fst, ()))
  else n_40 (v.fst, v.snd.fst, ()) >>= fun x2 =>
  some ((x2.snd.fst.size, x2.fst, ()))
noncomputable def call13 : Caller vw := fun A fid args S k => match fid with | 39 => callPure Try.prog sig39 n_39 A args S k | 40 => callPure Try.prog sig40 n_40 A args S k | _ => none
noncomputable def x13 : Xc vw := { P := Try.prog, n := 24, nm := id, call := call13, pre := fun _ => false, sh := sh13, joins := fun _ => none, regs := fun _ => none, loops := fun _ => none }
theorem call13_ok : CallerOk Try.prog call13 := fun A fid args S dst k r h => by
  unfold call13 at h
  split at h
  · exact callPure_ok (n_39_ok) rfl rfl h
  · exact callPure_ok (n_40_ok) rfl rfl h
  · cases h
theorem n_13_ok : SigOk Try.prog 13 sig13 n_13 := fun v r x h hx =>
  fn_ok (X := x13) (sig := sig13) rfl Try.func13 (c := bodyOf Try.f13) (by kernel_rfl) Try.ntmps13 (by kernel_rfl) (by kernel_rfl) rfl Ty.mixed call13_ok rfl (fun C hP hN => (lok_all (X := x13) (c := (bodyOf Try.f13)) (kcast (by kernel_rfl : True = AllB (LoopsP C (x13)) (loopsIn (bodyOf Try.f13))) trivial))) (kcast (by kernel_rfl) h) x hx

noncomputable def c17z : Cut SN := { slots := [(4, .dat (.sl (.int .i64))), (5, .dat (.int .i64))], objs := [] }
noncomputable def sh17 : Shape vw := { exits := fun _ => { slots := [], objs := [] }, rcut := c17z }
noncomputable def sig17 : Sig vw := { params := [.dat (.st .layoutT), .dat (.st .targetT)], objs := [], rcut := c17z, rvars := [.tmp 4, .tmp 5], keep := [] }
noncomputable def n_17 (v : Layout × Target × Unit) : Option ((List Int) × Int × Unit) :=
  n_39 (v.fst, v.snd.fst, ()) >>= fun x1 =>
  if (x1.fst != (0 : Int)) = true then
    some (([], x1.fst, ()))
  else if (v.fst.kind != (6 : Int)) = true then
    some (([], (6 : Int), ()))
  else n_40 (v.fst, v.snd.fst, ()) >>= fun x2 =>
  if (x2.fst != (0 : Int)) = true then
    some (([], x2.fst, ()))
  else n_44 (v.fst, v.snd.fst, ()) >>= fun x3 =>
  some ((x3.fst, (0 : Int), ()))
noncomputable def call17 : Caller vw := fun A fid args S k => match fid with | 39 => callPure Try.prog sig39 n_39 A args S k | 40 => callPure Try.prog sig40 n_40 A args S k | 44 => callPure Try.prog sig44 n_44 A args S k | _ => none
noncomputable def x17 : Xc vw := { P := Try.prog, n := 36, nm := id, call := call17, pre := fun _ => false, sh := sh17, joins := fun _ => none, regs := fun _ => none, loops := fun _ => none }
theorem call17_ok : CallerOk Try.prog call17 := fun A fid args S dst k r h => by
  unfold call17 at h
  split at h
  · exact callPure_ok (n_39_ok) rfl rfl h
  · exact callPure_ok (n_40_ok) rfl rfl h
  · exact callPure_ok (n_44_ok) rfl rfl h
  · cases h
theorem n_17_ok : SigOk Try.prog 17 sig17 n_17 := fun v r x h hx =>
  fn_ok (X := x17) (sig := sig17) rfl Try.func17 (c := bodyOf Try.f17) (by kernel_rfl) Try.ntmps17 (by kernel_rfl) (by kernel_rfl) rfl Ty.mixed call17_ok rfl (fun C hP hN => (lok_all (X := x17) (c := (bodyOf Try.f17)) (kcast (by kernel_rfl : True = AllB (LoopsP C (x17)) (loopsIn (bodyOf Try.f17))) trivial))) (kcast (by kernel_rfl) h) x hx

noncomputable def c31l4 : Cut SN := { slots := [(0, .dat (.sl (.int .i64))), (1, .dat (.sl (.int .i64))), (5, .dat (.int .i64))], objs := [] }
noncomputable def c31e0 : Cut SN := { slots := [], objs := [] }
noncomputable def c31z : Cut SN := { slots := [(4, .dat .bool)], objs := [] }
noncomputable def sh31 : Shape vw := { exits := fun id => match id with | 0 => c31e0 | _ => { slots := [], objs := [] }, rcut := c31z }
noncomputable def sig31 : Sig vw := { params := [.dat (.sl (.int .i64)), .dat (.sl (.int .i64))], objs := [], rcut := c31z, rvars := [.tmp 4], keep := [] }
noncomputable def n_31l4 (v : (List Int) × (List Int) × Int × Unit) : Option (((Bool × Unit) ⊕ (Unit))) :=
  if decide (v.snd.snd.fst < (↑v.fst.length : Int)) = true then
    if (0 : Int) ≤ v.snd.snd.fst then
      v.fst[v.snd.snd.fst.toNat]? >>= fun x1 =>
      if (0 : Int) ≤ v.snd.snd.fst then
        v.snd.fst[v.snd.snd.fst.toNat]? >>= fun x2 =>
        if (x1 != x2) = true then
          some (Sum.inl (false, ()))
        else n_31l4 (v.fst, v.snd.fst, IntKind.i64.wrap (v.snd.snd.fst + (1 : Int)), ())
      else none
    else none
  else some (Sum.inr ())
  partial_fixpoint
noncomputable def n_31 (v : (List Int) × (List Int) × Unit) : Option (Bool × Unit) :=
  if ((↑v.fst.length : Int) != (↑v.snd.fst.length : Int)) = true then
    some ((false, ()))
  else n_31l4 (v.fst, v.snd.fst, (0 : Int), ()) >>= fun x1 => match x1 with
    | .inl y1 => some y1
    | .inr y1 => some ((true, ()))
noncomputable def call31 : Caller vw := fun _ _ _ _ _ => none
noncomputable def x31 : Xc vw := { P := Try.prog, n := 26, nm := id, call := call31, pre := fun _ => false, sh := sh31, joins := fun _ => none, regs := fun _ => none, loops := fun k => match k with | 4 => some { cut := c31l4, alts := [.ret, .exit 0], F := n_31l4 } | _ => none }
theorem call31_ok : CallerOk Try.prog call31 := call_none
theorem n_31l4_ok (C : Ctx) (hP : C.P = Try.prog) (hN : C.N = 26) : LoopOk C (loopNo (bodyOf Try.f31) 0) (sh := sh31) { cut := c31l4, alts := [.ret, .exit 0], F := n_31l4 } :=
  n_31l4.partial_correctness (motive := fun v out => AWpL C (loopNo (bodyOf Try.f31) 0) (encS vw (conc vw c31l4 v)) (OutQ sh31 [.ret, .exit 0] out)) fun F ih v out h =>
    loop_step (X := x31) (b := (loopNo (bodyOf Try.f31) 0)) hP hN Ty.mixed call31_ok (lok_all (X := x31) (c := (loopNo (bodyOf Try.f31) 0)) (kcast (by kernel_rfl : True = AllB (LoopsP C (x31)) (loopsIn (loopNo (bodyOf Try.f31) 0))) trivial)) ih (kcast (by kernel_rfl) h)
theorem n_31_ok : SigOk Try.prog 31 sig31 n_31 := fun v r x h hx =>
  fn_ok (X := x31) (sig := sig31) rfl Try.func31 (c := bodyOf Try.f31) (by kernel_rfl) Try.ntmps31 (by kernel_rfl) (by kernel_rfl) rfl Ty.mixed call31_ok rfl (fun C hP hN => (lok_all (X := x31) (c := (bodyOf Try.f31)) (kcast (by kernel_rfl : AllB (LoopsP C (x31)) [(loopNo (bodyOf Try.f31) 0)] = AllB (LoopsP C (x31)) (loopsIn (bodyOf Try.f31))) ⟨loop_at (X := x31) (b := (loopNo (bodyOf Try.f31) 0)) (by kernel_rfl) (n_31l4_ok C hP hN), trivial⟩))) (kcast (by kernel_rfl) h) x hx

noncomputable def c12r4 : Cut SN := { slots := [(0, .dat .bool)], objs := [] }
noncomputable def c12z : Cut SN := { slots := [(0, .dat .bool)], objs := [] }
noncomputable def sh12 : Shape vw := { exits := fun _ => { slots := [], objs := [] }, rcut := c12z }
noncomputable def sig12 : Sig vw := { params := [], objs := [], rcut := c12z, rvars := [.tmp 0], keep := [] }
noncomputable def n_12 (v : Unit) : Option (Bool × Unit) :=
  n_17 (Layout.mk (6 : Int) (0 : Int) false [Layout.mk (1 : Int) (0 : Int) false [], Layout.mk (3 : Int) (0 : Int) false []], Target.mk (4 : Int) false, ()) >>= fun x1 =>
  n_13 (Layout.mk (4 : Int) (0 : Int) false [Layout.mk (2 : Int) (16 : Int) false []], Target.mk (4 : Int) false, ()) >>= fun x2 =>
  (n_31 (x1.fst, [(0 : Int), (4 : Int)], ()) >>= fun x3 =>
    if x3.fst = true then
      if (x1.snd.fst == (0 : Int)) = true then
        if (x2.fst == (4 : Int)) = true then
          some ((x2.snd.fst == (0 : Int), ()))
        else some ((false, ()))
      else some ((false, ()))
    else some ((false, ()))) >>= fun x3 =>
  some ((x3.fst, ()))
noncomputable def call12 : Caller vw := fun A fid args S k => match fid with | 13 => callPure Try.prog sig13 n_13 A args S k | 17 => callPure Try.prog sig17 n_17 A args S k | 31 => callPure Try.prog sig31 n_31 A args S k | _ => none
noncomputable def x12 : Xc vw := { P := Try.prog, n := 39, nm := id, call := call12, pre := fun _ => false, sh := sh12, joins := fun _ => none, regs := fun k => match k with | 4 => some c12r4 | _ => none, loops := fun _ => none }
theorem call12_ok : CallerOk Try.prog call12 := fun A fid args S dst k r h => by
  unfold call12 at h
  split at h
  · exact callPure_ok (n_13_ok) rfl rfl h
  · exact callPure_ok (n_17_ok) rfl rfl h
  · exact callPure_ok (n_31_ok) rfl rfl h
  · cases h
theorem n_12_ok : SigOk Try.prog 12 sig12 n_12 := fun v r x h hx =>
  fn_ok (X := x12) (sig := sig12) rfl Try.func12 (c := bodyOf Try.f12) (by kernel_rfl) Try.ntmps12 (by kernel_rfl) (by kernel_rfl) rfl Ty.mixed call12_ok rfl (fun C hP hN => (lok_all (X := x12) (c := (bodyOf Try.f12)) (kcast (by kernel_rfl : True = AllB (LoopsP C (x12)) (loopsIn (bodyOf Try.f12))) trivial))) (kcast (by kernel_rfl) h) x hx

noncomputable def c15z : Cut SN := { slots := [(4, .dat (.int .i64)), (5, .dat (.int .i64))], objs := [] }
noncomputable def sh15 : Shape vw := { exits := fun _ => { slots := [], objs := [] }, rcut := c15z }
noncomputable def sig15 : Sig vw := { params := [.dat (.st .layoutT), .dat (.st .targetT)], objs := [], rcut := c15z, rvars := [.tmp 4, .tmp 5], keep := [] }
noncomputable def n_15 (v : Layout × Target × Unit) : Option (Int × Int × Unit) :=
  n_39 (v.fst, v.snd.fst, ()) >>= fun x1 =>
  if (x1.fst != (0 : Int)) = true then
    some (((0 : Int), x1.fst, ()))
  else n_40 (v.fst, v.snd.fst, ()) >>= fun x2 =>
  some ((x2.snd.fst.align, x2.fst, ()))
noncomputable def call15 : Caller vw := fun A fid args S k => match fid with | 39 => callPure Try.prog sig39 n_39 A args S k | 40 => callPure Try.prog sig40 n_40 A args S k | _ => none
noncomputable def x15 : Xc vw := { P := Try.prog, n := 24, nm := id, call := call15, pre := fun _ => false, sh := sh15, joins := fun _ => none, regs := fun _ => none, loops := fun _ => none }
theorem call15_ok : CallerOk Try.prog call15 := fun A fid args S dst k r h => by
  unfold call15 at h
  split at h
  · exact callPure_ok (n_39_ok) rfl rfl h
  · exact callPure_ok (n_40_ok) rfl rfl h
  · cases h
theorem n_15_ok : SigOk Try.prog 15 sig15 n_15 := fun v r x h hx =>
  fn_ok (X := x15) (sig := sig15) rfl Try.func15 (c := bodyOf Try.f15) (by kernel_rfl) Try.ntmps15 (by kernel_rfl) (by kernel_rfl) rfl Ty.mixed call15_ok rfl (fun C hP hN => (lok_all (X := x15) (c := (bodyOf Try.f15)) (kcast (by kernel_rfl : True = AllB (LoopsP C (x15)) (loopsIn (bodyOf Try.f15))) trivial))) (kcast (by kernel_rfl) h) x hx

noncomputable def c67z : Cut SN := { slots := [(2, .dat (.sl (.int .i64)))], objs := [] }
noncomputable def sh67 : Shape vw := { exits := fun _ => { slots := [], objs := [] }, rcut := c67z }
noncomputable def sig67 : Sig vw := { params := [.dat (.sl (.int .i64))], objs := [], rcut := c67z, rvars := [.tmp 2], keep := [] }
noncomputable def n_67 (v : (List Int) × Unit) : Option ((List Int) × Unit) :=
  if v.fst.length ≤ 4294967296 then some (v.fst, ()) else none
noncomputable def call67 : Caller vw := fun _ _ _ _ _ => none
noncomputable def x67 : Xc vw := { P := Try.prog, n := 8, nm := fun d => match d with | 5 => 40005 | _ => d, call := call67, pre := fun _ => false, sh := sh67, joins := fun _ => none, regs := fun _ => none, loops := fun _ => none }
theorem call67_ok : CallerOk Try.prog call67 := call_none
theorem n_67_ok : SigOk Try.prog 67 sig67 n_67 := fun v r x h hx => by
  unfold n_67 at h
  split at h
  · rename_i hlen
    cases h; cases hx
    refine kcast (by kernel_rfl) (fn_split (P := Try.prog) (f := 67) (sz := 1) (rows := (v.fst.map fun y => encR szN encN (.int .i64) y)) (r := .d (.sl 1 (v.fst.map fun y => encR szN encN (.int .i64) y))) (own' := []) (fun hne => ?_) (fun he => ?_) (fun he a cap => ?_))
    · obtain ⟨l, u⟩ := v
      cases l with
      | nil => simp at hne
      | cons y ys =>
        have e : exF x67 sig67 rfl (bodyOf Try.f67) (y :: ys, ()) = if ([] : (List Int)).length + (y :: ys).length ≤ most then some ([] ++ (y :: ys), ()) else none := by kernel_rfl
        rw [if_pos (by simp only [List.length_nil, Nat.zero_add]; exact hlen)] at e
        exact kcast (by kernel_rfl) (fn_ok (X := x67) (sig := sig67) rfl Try.func67 (c := bodyOf Try.f67) (by kernel_rfl) Try.ntmps67 (by kernel_rfl) (by kernel_rfl) rfl Ty.mixed call67_ok rfl (fun C hP hN => (lok_all (X := x67) (c := (bodyOf Try.f67)) (kcast (by kernel_rfl : True = AllB (LoopsP C (x67)) (loopsIn (bodyOf Try.f67))) trivial))) (v := (y :: ys, ())) e (.lf (.sl (.int .i64)) (y :: ys)) rfl)
    · have hv : v.fst = [] := by simpa using he
      obtain ⟨l, u⟩ := v
      cases hv
      exact kcast (by kernel_rfl) (fn_okS (X := x67) (sig := sig67) rfl Try.func67 (c := bodyOf Try.f67) (by kernel_rfl) Try.ntmps67 (by kernel_rfl) (by kernel_rfl) Ty.mixed call67_ok rfl (fun C hP hN => (lok_all (X := x67) (c := (bodyOf Try.f67)) (kcast (by kernel_rfl : True = AllB (LoopsP C (x67)) (loopsIn (bodyOf Try.f67))) trivial))) (xs := [.raw (.slice none 0 0)]) (by kernel_rfl) (r := ([], ())) (by kernel_rfl) (.lf (.sl (.int .i64)) []) rfl)
    · have hv : v.fst = [] := by simpa using he
      obtain ⟨l, u⟩ := v
      cases hv
      exact kcast (by kernel_rfl) (fn_okS (X := x67) (sig := sig67) rfl Try.func67 (c := bodyOf Try.f67) (by kernel_rfl) Try.ntmps67 (by kernel_rfl) (by kernel_rfl) Ty.mixed call67_ok rfl (fun C hP hN => (lok_all (X := x67) (c := (bodyOf Try.f67)) (kcast (by kernel_rfl : True = AllB (LoopsP C (x67)) (loopsIn (bodyOf Try.f67))) trivial))) (xs := [.raw (.slice (some a) 0 cap)]) (by kernel_rfl) (r := ([], ())) (by kernel_rfl) (.lf (.sl (.int .i64)) []) rfl)
  · cases h

noncomputable def c66sb128l2 : Cut SN := { slots := [(0, .dat (.sl (.int .i64))), (1, .bp 100000 0), (2, .bp 100001 0), (3, .bp 100002 0), (4, .bp 100003 0), (6, .bp 6 0), (11, .dat (.sl (.int .i64))), (12, .dat (.int .i64)), (13, .dat (.int .i64))], objs := [(100000, .st .layoutT), (100001, .st .targetT), (100002, .box [.dat (.int .i64)]), (100003, .box [.dat (.sl (.int .i64))]), (6, .box [.dat (.int .i64), .dat (.int .i64), .dat .bool, .vh 3063]), (3063, .vec 24 (.st .layoutT))] }
noncomputable def c66sb128e0 : Cut SN := { slots := [(0, .dat (.sl (.int .i64))), (1, .bp 100000 0), (2, .bp 100001 0), (3, .bp 100002 0), (4, .bp 100003 0), (6, .bp 6 0)], objs := [(100000, .st .layoutT), (100001, .st .targetT), (100002, .box [.dat (.int .i64)]), (100003, .box [.dat (.sl (.int .i64))]), (6, .box [.dat (.int .i64), .dat (.int .i64), .dat .bool, .vh 3063]), (3063, .vec 24 (.st .layoutT))] }
noncomputable def c66sb128z : Cut SN := { slots := [(1, .bp 100000 0), (2, .bp 100001 0), (3, .bp 100002 0), (4, .bp 100003 0)], objs := [(100000, .st .layoutT), (100001, .st .targetT), (100002, .box [.dat (.int .i64)]), (100003, .box [.dat (.sl (.int .i64))])] }
noncomputable def sh66sb128 : Shape vw := { exits := fun id => match id with | 0 => c66sb128e0 | _ => { slots := [], objs := [] }, rcut := c66sb128z }
noncomputable def sig66sb128 : Sig vw := { params := [.dat (.sl (.int .i64)), .bp 100000 0, .bp 100001 0, .bp 100002 0, .bp 100003 0], objs := [(100000, .st .layoutT), (100001, .st .targetT), (100002, .box [.dat (.int .i64)]), (100003, .box [.dat (.sl (.int .i64))])], rcut := c66sb128z, rvars := [], keep := [100000, 100001, 100002, 100003] }
noncomputable def n_66sb128l2 (v : (List Int) × (List Int) × Int × Int × Layout × Target × Int × (List Int) × Int × Int × Bool × (List Layout) × Unit) : Option (((List Int) × Layout × Target × Int × (List Int) × Int × Int × Bool × (List Layout) × Unit)) :=
  if decide (v.snd.snd.snd.fst < v.snd.snd.fst) = true then
    if (0 : Int) ≤ v.snd.snd.snd.fst then
      v.snd.fst[v.snd.snd.snd.fst.toNat]? >>= fun x1 =>
      if (0 : Int) ≤ x1 then
        v.snd.snd.snd.snd.fst.parts[x1.toNat]? >>= fun x2 =>
        if v.snd.snd.snd.snd.snd.snd.snd.snd.snd.snd.snd.fst.length + [x2].length ≤ (4294967296 : Nat) then
          n_66sb128l2 (v.fst, v.snd.fst, v.snd.snd.fst, IntKind.i64.wrap (v.snd.snd.snd.fst + (1 : Int)), v.snd.snd.snd.snd.fst, v.snd.snd.snd.snd.snd.fst, v.snd.snd.snd.snd.snd.snd.fst, v.snd.snd.snd.snd.snd.snd.snd.fst, v.snd.snd.snd.snd.snd.snd.snd.snd.fst, v.snd.snd.snd.snd.snd.snd.snd.snd.snd.fst, v.snd.snd.snd.snd.snd.snd.snd.snd.snd.snd.fst, v.snd.snd.snd.snd.snd.snd.snd.snd.snd.snd.snd.fst ++ [x2], ())
        else none
      else none
    else none
  else some ((v.fst, v.snd.snd.snd.snd.fst, v.snd.snd.snd.snd.snd.fst, v.snd.snd.snd.snd.snd.snd.fst, v.snd.snd.snd.snd.snd.snd.snd.fst, v.snd.snd.snd.snd.snd.snd.snd.snd.fst, v.snd.snd.snd.snd.snd.snd.snd.snd.snd.fst, v.snd.snd.snd.snd.snd.snd.snd.snd.snd.snd.fst, v.snd.snd.snd.snd.snd.snd.snd.snd.snd.snd.snd.fst, ()))
  partial_fixpoint
noncomputable def n_66sb128 (v : (List Int) × Layout × Target × Int × (List Int) × Unit) : Option (Layout × Target × Int × (List Int) × Unit) :=
  n_66sb128l2 (v.fst, v.fst, (↑v.fst.length : Int), (0 : Int), v.snd.fst, v.snd.snd.fst, v.snd.snd.snd.fst, v.snd.snd.snd.snd.fst, (0 : Int), (0 : Int), false, [], ()) >>= fun x1 =>
  n_44 (Layout.mk x1.snd.snd.snd.snd.snd.fst x1.snd.snd.snd.snd.snd.snd.fst x1.snd.snd.snd.snd.snd.snd.snd.fst x1.snd.snd.snd.snd.snd.snd.snd.snd.fst, x1.snd.snd.fst, ()) >>= fun x2 =>
  if decide (x2.snd.fst.size < x1.snd.snd.snd.fst) = true then
    n_67 (x1.fst, ()) >>= fun x3 =>
    some ((x1.snd.fst, x1.snd.snd.fst, x2.snd.fst.size, x3.fst, ()))
  else some ((x1.snd.fst, x1.snd.snd.fst, x1.snd.snd.snd.fst, x1.snd.snd.snd.snd.fst, ()))
noncomputable def call66sb128 : Caller vw := fun A fid args S k => match fid with | 44 => callPure Try.prog sig44 n_44 A args S k | 67 => callPure Try.prog sig67 n_67 A args S k | _ => none
noncomputable def x66sb128 : Xc vw := { P := Try.prog, n := 42, nm := id, call := call66sb128, pre := fun k => match k with | 44 => true | _ => false, sh := sh66sb128, joins := fun _ => none, regs := fun _ => none, loops := fun k => match k with | 2 => some { cut := c66sb128l2, alts := [.exit 0], F := n_66sb128l2 } | _ => none }
theorem call66sb128_ok : CallerOk Try.prog call66sb128 := fun A fid args S dst k r h => by
  unfold call66sb128 at h
  split at h
  · exact callPure_ok (n_44_ok) rfl rfl h
  · exact callPure_ok (n_67_ok) rfl rfl h
  · cases h
theorem n_66sb128l2_ok (C : Ctx) (hP : C.P = Try.prog) (hN : C.N = 42) : LoopOk C (loopNo (bodyOf Try.f66) 0) (sh := sh66sb128) { cut := c66sb128l2, alts := [.exit 0], F := n_66sb128l2 } :=
  n_66sb128l2.partial_correctness (motive := fun v out => AWpL C (loopNo (bodyOf Try.f66) 0) (encS vw (conc vw c66sb128l2 v)) (OutQ sh66sb128 [.exit 0] out)) fun F ih v out h =>
    loop_step (X := x66sb128) (b := (loopNo (bodyOf Try.f66) 0)) hP hN Ty.mixed call66sb128_ok (lok_all (X := x66sb128) (c := (loopNo (bodyOf Try.f66) 0)) (kcast (by kernel_rfl : True = AllB (LoopsP C (x66sb128)) (loopsIn (loopNo (bodyOf Try.f66) 0))) trivial)) ih (kcast (by kernel_rfl) h)
theorem n_66sb128_ok : SigOk Try.prog 66 sig66sb128 n_66sb128 := fun v r x h hx =>
  fn_ok (X := x66sb128) (sig := sig66sb128) rfl Try.func66 (c := bodyOf Try.f66) (by kernel_rfl) Try.ntmps66 (by kernel_rfl) (by kernel_rfl) rfl Ty.mixed call66sb128_ok rfl (fun C hP hN => (lok_all (X := x66sb128) (c := (bodyOf Try.f66)) (kcast (by kernel_rfl : AllB (LoopsP C (x66sb128)) [(loopNo (bodyOf Try.f66) 0)] = AllB (LoopsP C (x66sb128)) (loopsIn (bodyOf Try.f66))) ⟨loop_at (X := x66sb128) (b := (loopNo (bodyOf Try.f66) 0)) (by kernel_rfl) (n_66sb128l2_ok C hP hN), trivial⟩))) (kcast (by kernel_rfl) h) x hx

noncomputable def c67s0ba5z : Cut SN := { slots := [(2, .vh 2002)], objs := [(2002, .vec 3 (.int .i64))] }
noncomputable def sh67s0ba5 : Shape vw := { exits := fun _ => { slots := [], objs := [] }, rcut := c67s0ba5z }
noncomputable def sig67s0ba5 : Sig vw := { params := [.dat (.sl (.int .i64))], objs := [], rcut := c67s0ba5z, rvars := [.tmp 2], keep := [2002] }
noncomputable def n_67s0ba5 (v : (List Int) × Unit) : Option ((List Int) × Unit) :=
  if v.fst.length ≤ 4294967296 then some (v.fst, ()) else none
noncomputable def call67s0ba5 : Caller vw := fun _ _ _ _ _ => none
noncomputable def x67s0ba5 : Xc vw := { P := Try.prog, n := 8, nm := fun d => match d with | 5 => 40005 | _ => d, call := call67s0ba5, pre := fun _ => false, sh := sh67s0ba5, joins := fun _ => none, regs := fun _ => none, loops := fun _ => none }
theorem call67s0ba5_ok : CallerOk Try.prog call67s0ba5 := call_none
theorem n_67s0ba5_ok : SigOk Try.prog 67 sig67s0ba5 n_67s0ba5 := fun v r x h hx => by
  unfold n_67s0ba5 at h
  split at h
  · rename_i hlen
    cases h; cases hx
    refine kcast (by kernel_rfl) (fn_split (P := Try.prog) (f := 67) (sz := 1) (rows := (v.fst.map fun y => encR szN encN (.int .i64) y)) (r := .vh 2002 v.fst.length) (own' := [(2002, .vec 3 1 (v.fst.map fun y => encR szN encN (.int .i64) y))]) (fun hne => ?_) (fun he => ?_) (fun he a cap => ?_))
    · obtain ⟨l, u⟩ := v
      cases l with
      | nil => simp at hne
      | cons y ys =>
        have e : exF x67s0ba5 sig67s0ba5 rfl (bodyOf Try.f67) (y :: ys, ()) = if ([] : (List Int)).length + (y :: ys).length ≤ most then some ([] ++ (y :: ys), ()) else none := by kernel_rfl
        rw [if_pos (by simp only [List.length_nil, Nat.zero_add]; exact hlen)] at e
        exact kcast (by kernel_rfl) (fn_ok (X := x67s0ba5) (sig := sig67s0ba5) rfl Try.func67 (c := bodyOf Try.f67) (by kernel_rfl) Try.ntmps67 (by kernel_rfl) (by kernel_rfl) rfl Ty.mixed call67s0ba5_ok rfl (fun C hP hN => (lok_all (X := x67s0ba5) (c := (bodyOf Try.f67)) (kcast (by kernel_rfl : True = AllB (LoopsP C (x67s0ba5)) (loopsIn (bodyOf Try.f67))) trivial))) (v := (y :: ys, ())) e (.vh 2002) rfl)
    · have hv : v.fst = [] := by simpa using he
      obtain ⟨l, u⟩ := v
      cases hv
      exact kcast (by kernel_rfl) (fn_okS (X := x67s0ba5) (sig := sig67s0ba5) rfl Try.func67 (c := bodyOf Try.f67) (by kernel_rfl) Try.ntmps67 (by kernel_rfl) (by kernel_rfl) Ty.mixed call67s0ba5_ok rfl (fun C hP hN => (lok_all (X := x67s0ba5) (c := (bodyOf Try.f67)) (kcast (by kernel_rfl : True = AllB (LoopsP C (x67s0ba5)) (loopsIn (bodyOf Try.f67))) trivial))) (xs := [.raw (.slice none 0 0)]) (by kernel_rfl) (r := ([], ())) (by kernel_rfl) (.vh 2002) rfl)
    · have hv : v.fst = [] := by simpa using he
      obtain ⟨l, u⟩ := v
      cases hv
      exact kcast (by kernel_rfl) (fn_okS (X := x67s0ba5) (sig := sig67s0ba5) rfl Try.func67 (c := bodyOf Try.f67) (by kernel_rfl) Try.ntmps67 (by kernel_rfl) (by kernel_rfl) Ty.mixed call67s0ba5_ok rfl (fun C hP hN => (lok_all (X := x67s0ba5) (c := (bodyOf Try.f67)) (kcast (by kernel_rfl : True = AllB (LoopsP C (x67s0ba5)) (loopsIn (bodyOf Try.f67))) trivial))) (xs := [.raw (.slice (some a) 0 cap)]) (by kernel_rfl) (r := ([], ())) (by kernel_rfl) (.vh 2002) rfl)
  · cases h

noncomputable def c81l2 : Cut SN := { slots := [(0, .dat (.sl (.int .i64))), (1, .dat (.int .i64)), (7, .dat (.int .i64)), (8, .dat (.int .i64))], objs := [] }
noncomputable def c81e0 : Cut SN := { slots := [], objs := [] }
noncomputable def c81z : Cut SN := { slots := [(4, .dat (.int .i64))], objs := [] }
noncomputable def sh81 : Shape vw := { exits := fun id => match id with | 0 => c81e0 | _ => { slots := [], objs := [] }, rcut := c81z }
noncomputable def sig81 : Sig vw := { params := [.dat (.sl (.int .i64)), .dat (.int .i64)], objs := [], rcut := c81z, rvars := [.tmp 4], keep := [] }
noncomputable def n_81l2 (v : (List Int) × Int × Int × Int × Unit) : Option (((Int × Unit) ⊕ (Unit))) :=
  if decide (v.snd.snd.snd.fst < v.snd.snd.fst) = true then
    if (0 : Int) ≤ v.snd.snd.snd.fst then
      v.fst[v.snd.snd.snd.fst.toNat]? >>= fun x1 =>
      if (v.snd.fst == x1) = true then
        some (Sum.inl (v.snd.snd.snd.fst, ()))
      else n_81l2 (v.fst, v.snd.fst, v.snd.snd.fst, IntKind.i64.wrap (v.snd.snd.snd.fst + (1 : Int)), ())
    else none
  else some (Sum.inr ())
  partial_fixpoint
noncomputable def n_81 (v : (List Int) × Int × Unit) : Option (Int × Unit) :=
  n_81l2 (v.fst, v.snd.fst, (↑v.fst.length : Int), (0 : Int), ()) >>= fun x1 => match x1 with
    | .inl y1 => some y1
    | .inr y1 => some (((-1 : Int), ()))
noncomputable def call81 : Caller vw := fun _ _ _ _ _ => none
noncomputable def x81 : Xc vw := { P := Try.prog, n := 19, nm := id, call := call81, pre := fun _ => false, sh := sh81, joins := fun _ => none, regs := fun _ => none, loops := fun k => match k with | 2 => some { cut := c81l2, alts := [.ret, .exit 0], F := n_81l2 } | _ => none }
theorem call81_ok : CallerOk Try.prog call81 := call_none
theorem n_81l2_ok (C : Ctx) (hP : C.P = Try.prog) (hN : C.N = 19) : LoopOk C (loopNo (bodyOf Try.f81) 0) (sh := sh81) { cut := c81l2, alts := [.ret, .exit 0], F := n_81l2 } :=
  n_81l2.partial_correctness (motive := fun v out => AWpL C (loopNo (bodyOf Try.f81) 0) (encS vw (conc vw c81l2 v)) (OutQ sh81 [.ret, .exit 0] out)) fun F ih v out h =>
    loop_step (X := x81) (b := (loopNo (bodyOf Try.f81) 0)) hP hN Ty.mixed call81_ok (lok_all (X := x81) (c := (loopNo (bodyOf Try.f81) 0)) (kcast (by kernel_rfl : True = AllB (LoopsP C (x81)) (loopsIn (loopNo (bodyOf Try.f81) 0))) trivial)) ih (kcast (by kernel_rfl) h)
theorem n_81_ok : SigOk Try.prog 81 sig81 n_81 := fun v r x h hx =>
  fn_ok (X := x81) (sig := sig81) rfl Try.func81 (c := bodyOf Try.f81) (by kernel_rfl) Try.ntmps81 (by kernel_rfl) (by kernel_rfl) rfl Ty.mixed call81_ok rfl (fun C hP hN => (lok_all (X := x81) (c := (bodyOf Try.f81)) (kcast (by kernel_rfl : AllB (LoopsP C (x81)) [(loopNo (bodyOf Try.f81) 0)] = AllB (LoopsP C (x81)) (loopsIn (bodyOf Try.f81))) ⟨loop_at (X := x81) (b := (loopNo (bodyOf Try.f81) 0)) (by kernel_rfl) (n_81l2_ok C hP hN), trivial⟩))) (kcast (by kernel_rfl) h) x hx

noncomputable def c78z : Cut SN := { slots := [(4, .dat .bool)], objs := [] }
noncomputable def sh78 : Shape vw := { exits := fun _ => { slots := [], objs := [] }, rcut := c78z }
noncomputable def sig78 : Sig vw := { params := [.dat (.sl (.int .i64)), .dat (.int .i64)], objs := [], rcut := c78z, rvars := [.tmp 4], keep := [] }
noncomputable def n_78 (v : (List Int) × Int × Unit) : Option (Bool × Unit) :=
  n_81 (v.fst, v.snd.fst, ()) >>= fun x1 =>
  some ((decide (x1.fst ≥ (0 : Int)), ()))
noncomputable def call78 : Caller vw := fun A fid args S k => match fid with | 81 => callPure Try.prog sig81 n_81 A args S k | _ => none
noncomputable def x78 : Xc vw := { P := Try.prog, n := 9, nm := id, call := call78, pre := fun _ => false, sh := sh78, joins := fun _ => none, regs := fun _ => none, loops := fun _ => none }
theorem call78_ok : CallerOk Try.prog call78 := fun A fid args S dst k r h => by
  unfold call78 at h
  split at h
  · exact callPure_ok (n_81_ok) rfl rfl h
  · cases h
theorem n_78_ok : SigOk Try.prog 78 sig78 n_78 := fun v r x h hx =>
  fn_ok (X := x78) (sig := sig78) rfl Try.func78 (c := bodyOf Try.f78) (by kernel_rfl) Try.ntmps78 (by kernel_rfl) (by kernel_rfl) rfl Ty.mixed call78_ok rfl (fun C hP hN => (lok_all (X := x78) (c := (bodyOf Try.f78)) (kcast (by kernel_rfl : True = AllB (LoopsP C (x78)) (loopsIn (bodyOf Try.f78))) trivial))) (kcast (by kernel_rfl) h) x hx

noncomputable def c65sb043l3 : Cut SN := { slots := [(0, .dat (.sl (.int .i64))), (1, .dat (.int .i64)), (2, .fn 66 [] [100000, 100001, 100002, 100003]), (14, .dat (.int .i64)), (15, .dat (.int .i64))], objs := [(100000, .st .layoutT), (100001, .st .targetT), (100002, .box [.dat (.int .i64)]), (100003, .box [.dat (.sl (.int .i64))])] }
noncomputable def c65sb043j7 : Cut SN := { slots := [(0, .dat (.sl (.int .i64))), (1, .dat (.int .i64)), (2, .fn 66 [] [100000, 100001, 100002, 100003]), (14, .dat (.int .i64)), (15, .dat (.int .i64))], objs := [(100000, .st .layoutT), (100001, .st .targetT), (100002, .box [.dat (.int .i64)]), (100003, .box [.dat (.sl (.int .i64))])] }
noncomputable def c65sb043e0 : Cut SN := { slots := [(2, .fn 66 [] [100000, 100001, 100002, 100003])], objs := [(100000, .st .layoutT), (100001, .st .targetT), (100002, .box [.dat (.int .i64)]), (100003, .box [.dat (.sl (.int .i64))])] }
noncomputable def c65sb043z : Cut SN := { slots := [(2, .fn 66 [] [100000, 100001, 100002, 100003])], objs := [(100000, .st .layoutT), (100001, .st .targetT), (100002, .box [.dat (.int .i64)]), (100003, .box [.dat (.sl (.int .i64))])] }
noncomputable def sh65sb043 : Shape vw := { exits := fun id => match id with | 0 => c65sb043e0 | _ => { slots := [], objs := [] }, rcut := c65sb043z }
noncomputable def sig65sb043 : Sig vw := { params := [.dat (.sl (.int .i64)), .dat (.int .i64), .fn 66 [] [100000, 100001, 100002, 100003]], objs := [(100000, .st .layoutT), (100001, .st .targetT), (100002, .box [.dat (.int .i64)]), (100003, .box [.dat (.sl (.int .i64))])], rcut := c65sb043z, rvars := [], keep := [100000, 100001, 100002, 100003] }
mutual
noncomputable def n_65sb043l3 (v : (List Int) × Int × Int × Int × Layout × Target × Int × (List Int) × Unit) : Option ((Layout × Target × Int × (List Int) × Unit)) :=
  if decide (v.snd.snd.snd.fst < v.snd.snd.fst) = true then
    (n_78 (v.fst, v.snd.snd.snd.fst, ()) >>= fun x1 =>
      if (!x1.fst) = true then
        n_67s0ba5 (v.fst, ()) >>= fun x2 =>
        if x2.fst.length + [v.snd.snd.snd.fst].length ≤ (4294967296 : Nat) then
          n_65sb043 (x2.fst ++ [v.snd.snd.snd.fst], v.snd.fst, v.snd.snd.snd.snd.fst, v.snd.snd.snd.snd.snd.fst, v.snd.snd.snd.snd.snd.snd.fst, v.snd.snd.snd.snd.snd.snd.snd.fst, ()) >>= fun x3 =>
          some ((v.fst, v.snd.fst, v.snd.snd.fst, v.snd.snd.snd.fst, x3.fst, x3.snd.fst, x3.snd.snd.fst, x3.snd.snd.snd.fst, ()))
        else none
      else some ((v.fst, v.snd.fst, v.snd.snd.fst, v.snd.snd.snd.fst, v.snd.snd.snd.snd.fst, v.snd.snd.snd.snd.snd.fst, v.snd.snd.snd.snd.snd.snd.fst, v.snd.snd.snd.snd.snd.snd.snd.fst, ()))) >>= fun x1 =>
    n_65sb043l3 (x1.fst, x1.snd.fst, x1.snd.snd.fst, IntKind.i64.wrap (x1.snd.snd.snd.fst + (1 : Int)), x1.snd.snd.snd.snd.fst, x1.snd.snd.snd.snd.snd.fst, x1.snd.snd.snd.snd.snd.snd.fst, x1.snd.snd.snd.snd.snd.snd.snd.fst, ())
  else some ((v.snd.snd.snd.snd.fst, v.snd.snd.snd.snd.snd.fst, v.snd.snd.snd.snd.snd.snd.fst, v.snd.snd.snd.snd.snd.snd.snd.fst, ()))
  partial_fixpoint
noncomputable def n_65sb043 (v : (List Int) × Int × Layout × Target × Int × (List Int) × Unit) : Option (Layout × Target × Int × (List Int) × Unit) :=
  if ((↑v.fst.length : Int) == v.snd.fst) = true then
    n_66sb128 (v.fst, v.snd.snd.fst, v.snd.snd.snd.fst, v.snd.snd.snd.snd.fst, v.snd.snd.snd.snd.snd.fst, ()) >>= fun x1 =>
    some ((x1.fst, x1.snd.fst, x1.snd.snd.fst, x1.snd.snd.snd.fst, ()))
  else n_65sb043l3 (v.fst, v.snd.fst, v.snd.fst, (0 : Int), v.snd.snd.fst, v.snd.snd.snd.fst, v.snd.snd.snd.snd.fst, v.snd.snd.snd.snd.snd.fst, ()) >>= fun x1 =>
  some ((x1.fst, x1.snd.fst, x1.snd.snd.fst, x1.snd.snd.snd.fst, ()))
  partial_fixpoint
end
noncomputable def call65sb043 (n_65sb043l3 : (List Int) × Int × Int × Int × Layout × Target × Int × (List Int) × Unit → Option ((Layout × Target × Int × (List Int) × Unit))) (n_65sb043 : (List Int) × Int × Layout × Target × Int × (List Int) × Unit → Option (Layout × Target × Int × (List Int) × Unit)) : Caller vw := fun A fid args S k => match fid with | 65 => callObj Try.prog sig65sb043 n_65sb043 A args S k | 66 => callObj Try.prog sig66sb128 n_66sb128 A args S k | 67 => callObj Try.prog sig67s0ba5 n_67s0ba5 A args S k | 78 => callPure Try.prog sig78 n_78 A args S k | _ => none
noncomputable def x65sb043 (n_65sb043l3 : (List Int) × Int × Int × Int × Layout × Target × Int × (List Int) × Unit → Option ((Layout × Target × Int × (List Int) × Unit))) (n_65sb043 : (List Int) × Int × Layout × Target × Int × (List Int) × Unit → Option (Layout × Target × Int × (List Int) × Unit)) : Xc vw := { P := Try.prog, n := 31, nm := id, call := call65sb043 n_65sb043l3 n_65sb043, pre := fun k => match k with | 65 => true | _ => false, sh := sh65sb043, joins := fun k => match k with | 7 => some (c65sb043j7, [.norm]) | _ => none, regs := fun _ => none, loops := fun k => match k with | 3 => some { cut := c65sb043l3, alts := [.exit 0], F := n_65sb043l3 } | _ => none }
abbrev mn_65sb043l3 (v : (List Int) × Int × Int × Int × Layout × Target × Int × (List Int) × Unit) (r : (Layout × Target × Int × (List Int) × Unit)) : Prop := (fun v out => ∀ C : Ctx, C.P = Try.prog → C.N = 31 → AWpL C (loopNo (bodyOf Try.f65) 0) (encS vw (conc vw c65sb043l3 v)) (OutQ sh65sb043 [.exit 0] out)) v r
abbrev mn_65sb043 (v : (List Int) × Int × Layout × Target × Int × (List Int) × Unit) (r : Layout × Target × Int × (List Int) × Unit) : Prop := (fun v r => ∀ x, resV Try.prog sig65sb043 r = some x → FnOk Try.prog 65 (encL vw (startS sig65sb043 v).len (startOs sig65sb043 v).1) (encOs (startS sig65sb043 v).len (startS sig65sb043 v).own) (encV vw (conc vw sig65sb043.rcut r).len x) (encOs (conc vw sig65sb043.rcut r).len (kept sig65sb043 r))) v r
theorem n_65sb043l3_all : (∀ v r, n_65sb043l3 v = some r → mn_65sb043l3 v r) ∧ (∀ v r, n_65sb043 v = some r → mn_65sb043 v r) := by
  refine n_65sb043l3.mutual_partial_correctness
    (motive_1 := mn_65sb043l3)
    (motive_2 := mn_65sb043)
    ?_ ?_
  · exact (fun f0 f1 h0 h1 v out h C hP hN => loop_step (X := x65sb043 f0 f1) (b := (loopNo (bodyOf Try.f65) 0)) hP hN Ty.mixed (by
        intro A fid args S dst k r h
        unfold x65sb043 call65sb043 at h
        simp only at h
        split at h
        · exact callObj_ok ((fun v r x h hx => h1 v r h x hx)) h
        · exact callObj_ok (n_66sb128_ok) h
        · exact callObj_ok (n_67s0ba5_ok) h
        · exact callPure_ok (n_78_ok) rfl rfl h
        · cases h) (lok_all (X := x65sb043 f0 f1) (c := (loopNo (bodyOf Try.f65) 0)) (kcast (by kernel_rfl : True = AllB (LoopsP C (x65sb043 f0 f1)) (loopsIn (loopNo (bodyOf Try.f65) 0))) trivial)) (cut := c65sb043l3) (alts := [.exit 0]) (F := f0) (fun v out h => h0 v out h C hP hN) (kcast (by kernel_rfl) h))
  · exact (fun f0 h0 v r h x hx => fn_ok (X := x65sb043 f0 (fun _ => none)) (sig := sig65sb043) rfl Try.func65 (c := bodyOf Try.f65) (by kernel_rfl) Try.ntmps65 (by kernel_rfl) (by kernel_rfl) rfl Ty.mixed (by
        intro A fid args S dst k r h
        unfold x65sb043 call65sb043 at h
        simp only at h
        split at h
        · exact callObj_ok ((fun v r x h hx => by cases h)) h
        · exact callObj_ok (n_66sb128_ok) h
        · exact callObj_ok (n_67s0ba5_ok) h
        · exact callPure_ok (n_78_ok) rfl rfl h
        · cases h) rfl (fun C hP hN => (lok_all (X := x65sb043 f0 (fun _ => none)) (c := (bodyOf Try.f65)) (kcast (by kernel_rfl : AllB (LoopsP C (x65sb043 f0 (fun _ => none))) [(loopNo (bodyOf Try.f65) 0)] = AllB (LoopsP C (x65sb043 f0 (fun _ => none))) (loopsIn (bodyOf Try.f65))) ⟨loop_at (X := x65sb043 f0 (fun _ => none)) (b := (loopNo (bodyOf Try.f65) 0)) (by kernel_rfl) (show LoopOk C (loopNo (bodyOf Try.f65) 0) (sh := sh65sb043) { cut := c65sb043l3, alts := [.exit 0], F := f0 } from fun v out h => h0 v out h C hP hN), trivial⟩))) (kcast (by kernel_rfl) h) x hx)
theorem n_65sb043l3_pc : ∀ v out, n_65sb043l3 v = some out → (fun v out => ∀ C : Ctx, C.P = Try.prog → C.N = 31 → AWpL C (loopNo (bodyOf Try.f65) 0) (encS vw (conc vw c65sb043l3 v)) (OutQ sh65sb043 [.exit 0] out)) v out := n_65sb043l3_all.1
theorem n_65sb043_ok : SigOk Try.prog 65 sig65sb043 n_65sb043 := fun v r x h hx => n_65sb043l3_all.2 v r h x hx

noncomputable def c35z : Cut SN := { slots := [(4, .dat (.sl (.int .i64))), (5, .dat (.int .i64)), (6, .dat (.int .i64))], objs := [] }
noncomputable def sh35 : Shape vw := { exits := fun _ => { slots := [], objs := [] }, rcut := c35z }
noncomputable def sig35 : Sig vw := { params := [.dat (.st .layoutT), .dat (.st .targetT)], objs := [], rcut := c35z, rvars := [.tmp 4, .tmp 5, .tmp 6], keep := [] }
noncomputable def n_35 (v : Layout × Target × Unit) : Option ((List Int) × Int × Int × Unit) :=
  n_39 (v.fst, v.snd.fst, ()) >>= fun x1 =>
  if (x1.fst != (0 : Int)) = true then
    some (([], (0 : Int), x1.fst, ()))
  else if (v.fst.kind != (6 : Int)) = true then
    some (([], (0 : Int), (6 : Int), ()))
  else if decide ((↑v.fst.parts.length : Int) > (7 : Int)) = true then
    some (([], (0 : Int), (3 : Int), ()))
  else n_40 (v.fst, v.snd.fst, ()) >>= fun x2 =>
  if (x2.fst != (0 : Int)) = true then
    some (([], (0 : Int), x2.fst, ()))
  else n_65sb043 ([], (↑v.fst.parts.length : Int), v.fst, v.snd.fst, (1099511627776 : Int), [], ()) >>= fun x3 =>
  some ((x3.snd.snd.snd.fst, x3.snd.snd.fst, (0 : Int), ()))
noncomputable def call35 : Caller vw := fun A fid args S k => match fid with | 39 => callPure Try.prog sig39 n_39 A args S k | 40 => callPure Try.prog sig40 n_40 A args S k | 65 => callObj Try.prog sig65sb043 n_65sb043 A args S k | _ => none
noncomputable def x35 : Xc vw := { P := Try.prog, n := 41, nm := id, call := call35, pre := fun _ => false, sh := sh35, joins := fun _ => none, regs := fun _ => none, loops := fun _ => none }
theorem call35_ok : CallerOk Try.prog call35 := fun A fid args S dst k r h => by
  unfold call35 at h
  split at h
  · exact callPure_ok (n_39_ok) rfl rfl h
  · exact callPure_ok (n_40_ok) rfl rfl h
  · exact callObj_ok (n_65sb043_ok) h
  · cases h
theorem n_35_ok : SigOk Try.prog 35 sig35 n_35 := fun v r x h hx =>
  fn_ok (X := x35) (sig := sig35) rfl Try.func35 (c := bodyOf Try.f35) (by kernel_rfl) Try.ntmps35 (by kernel_rfl) (by kernel_rfl) rfl Ty.mixed call35_ok rfl (fun C hP hN => (lok_all (X := x35) (c := (bodyOf Try.f35)) (kcast (by kernel_rfl : True = AllB (LoopsP C (x35)) (loopsIn (bodyOf Try.f35))) trivial))) (kcast (by kernel_rfl) h) x hx

noncomputable def c10l8 : Cut SN := { slots := [(2, .dat (.sl (.int .i64))), (3, .bp 3 0), (4, .bp 4 0), (8, .dat (.int .i64)), (10, .vh 1010), (11, .vh 1011), (12, .dat (.int .i64))], objs := [(3, .st .layoutT), (4, .st .targetT), (1010, .vec 24 (.st .layoutT)), (1011, .vec 24 (.st .layoutT))] }
noncomputable def c10l11 : Cut SN := { slots := [(2, .dat (.sl (.int .i64))), (3, .bp 3 0), (4, .bp 4 0), (8, .dat (.int .i64)), (10, .vh 1010), (11, .vh 1011), (12, .dat (.int .i64)), (13, .dat (.int .i64))], objs := [(3, .st .layoutT), (4, .st .targetT), (1010, .vec 24 (.st .layoutT)), (1011, .vec 24 (.st .layoutT))] }
noncomputable def c10l20 : Cut SN := { slots := [(2, .dat (.sl (.int .i64))), (3, .bp 3 0), (4, .bp 4 0), (8, .dat (.int .i64)), (10, .vh 1010), (11, .vh 1011), (16, .mp 71), (17, .dat (.int .i64))], objs := [(3, .st .layoutT), (4, .st .targetT), (1010, .vec 24 (.st .layoutT)), (1011, .vec 24 (.st .layoutT)), (71, .map (.int .i64) .bool)] }
noncomputable def c10l27 : Cut SN := { slots := [(3, .bp 3 0), (4, .bp 4 0), (8, .dat (.int .i64)), (10, .vh 1010), (11, .vh 1011), (16, .mp 71), (19, .dat (.int .i64))], objs := [(3, .st .layoutT), (4, .st .targetT), (1010, .vec 24 (.st .layoutT)), (1011, .vec 24 (.st .layoutT)), (71, .map (.int .i64) .bool)] }
noncomputable def c10j12 : Cut SN := { slots := [(2, .dat (.sl (.int .i64))), (3, .bp 3 0), (4, .bp 4 0), (8, .dat (.int .i64)), (10, .vh 1010), (11, .vh 1011), (12, .dat (.int .i64)), (13, .dat (.int .i64))], objs := [(3, .st .layoutT), (4, .st .targetT), (1010, .vec 24 (.st .layoutT)), (1011, .vec 24 (.st .layoutT))] }
noncomputable def c10j21 : Cut SN := { slots := [(2, .dat (.sl (.int .i64))), (3, .bp 3 0), (4, .bp 4 0), (8, .dat (.int .i64)), (10, .vh 1010), (11, .vh 1011), (16, .mp 71), (17, .dat (.int .i64))], objs := [(3, .st .layoutT), (4, .st .targetT), (1010, .vec 24 (.st .layoutT)), (1011, .vec 24 (.st .layoutT)), (71, .map (.int .i64) .bool)] }
noncomputable def c10j28 : Cut SN := { slots := [(3, .bp 3 0), (4, .bp 4 0), (8, .dat (.int .i64)), (10, .vh 1010), (11, .vh 1011), (16, .mp 71), (19, .dat (.int .i64))], objs := [(3, .st .layoutT), (4, .st .targetT), (1010, .vec 24 (.st .layoutT)), (1011, .vec 24 (.st .layoutT)), (71, .map (.int .i64) .bool)] }
noncomputable def c10r23 : Cut SN := { slots := [(2, .dat (.sl (.int .i64))), (3, .bp 3 0), (4, .bp 4 0), (8, .dat (.int .i64)), (10, .vh 1010), (11, .vh 1011), (16, .mp 71), (17, .dat (.int .i64)), (18, .dat (.int .i64)), (96, .dat .bool)], objs := [(3, .st .layoutT), (4, .st .targetT), (1010, .vec 24 (.st .layoutT)), (1011, .vec 24 (.st .layoutT)), (71, .map (.int .i64) .bool)] }
noncomputable def c10r33 : Cut SN := { slots := [(6, .dat .bool)], objs := [] }
noncomputable def c10e0 : Cut SN := { slots := [(2, .dat (.sl (.int .i64))), (3, .bp 3 0), (4, .bp 4 0), (8, .dat (.int .i64)), (10, .vh 1010), (11, .vh 1011)], objs := [(3, .st .layoutT), (4, .st .targetT), (1010, .vec 24 (.st .layoutT)), (1011, .vec 24 (.st .layoutT))] }
noncomputable def c10e2 : Cut SN := { slots := [(2, .dat (.sl (.int .i64))), (3, .bp 3 0), (4, .bp 4 0), (8, .dat (.int .i64)), (10, .vh 1010), (11, .vh 1011), (12, .dat (.int .i64))], objs := [(3, .st .layoutT), (4, .st .targetT), (1010, .vec 24 (.st .layoutT)), (1011, .vec 24 (.st .layoutT))] }
noncomputable def c10e4 : Cut SN := { slots := [(3, .bp 3 0), (4, .bp 4 0), (8, .dat (.int .i64)), (10, .vh 1010), (11, .vh 1011), (16, .mp 71)], objs := [(3, .st .layoutT), (4, .st .targetT), (1010, .vec 24 (.st .layoutT)), (1011, .vec 24 (.st .layoutT)), (71, .map (.int .i64) .bool)] }
noncomputable def c10e6 : Cut SN := { slots := [(4, .bp 4 0), (8, .dat (.int .i64)), (10, .vh 1010), (11, .vh 1011)], objs := [(4, .st .targetT), (1010, .vec 24 (.st .layoutT)), (1011, .vec 24 (.st .layoutT))] }
noncomputable def c10z : Cut SN := { slots := [(6, .dat .bool)], objs := [] }
noncomputable def sh10 : Shape vw := { exits := fun id => match id with | 0 => c10e0 | 2 => c10e2 | 4 => c10e4 | 6 => c10e6 | _ => { slots := [], objs := [] }, rcut := c10z }
noncomputable def sig10 : Sig vw := { params := [.dat (.st .layoutT), .dat (.st .targetT), .dat (.sl (.int .i64))], objs := [], rcut := c10z, rvars := [.tmp 6], keep := [] }
noncomputable def n_10l11 (v : (List Int) × Int × Int × Int × Layout × Target × (List Layout) × (List Layout) × Unit) : Option (((Bool × Unit) ⊕ ((List Int) × Int × Int × Layout × Target × (List Layout) × (List Layout) × Unit))) :=
  if decide (v.snd.snd.snd.fst < (↑v.snd.snd.snd.snd.fst.parts.length : Int)) = true then
    (if (0 : Int) ≤ v.snd.snd.snd.fst then
        v.snd.snd.snd.snd.fst.parts[v.snd.snd.snd.fst.toNat]? >>= fun x1 =>
        n_15 (x1, v.snd.snd.snd.snd.snd.fst, ()) >>= fun x2 =>
        if (x2.snd.fst != (0 : Int)) = true then
          some (Sum.inr (false, ()))
        else if (x2.fst == v.snd.snd.fst) = true then
          if (0 : Int) ≤ v.snd.snd.snd.fst then
            v.snd.snd.snd.snd.fst.parts[v.snd.snd.snd.fst.toNat]? >>= fun x3 =>
            if v.snd.snd.snd.snd.snd.snd.fst.length + [x3].length ≤ (4294967296 : Nat) then
              some (Sum.inl (v.fst, v.snd.fst, v.snd.snd.fst, v.snd.snd.snd.fst, v.snd.snd.snd.snd.fst, v.snd.snd.snd.snd.snd.fst, v.snd.snd.snd.snd.snd.snd.fst ++ [x3], v.snd.snd.snd.snd.snd.snd.snd.fst, ()))
            else none
          else none
        else some (Sum.inl (v.fst, v.snd.fst, v.snd.snd.fst, v.snd.snd.snd.fst, v.snd.snd.snd.snd.fst, v.snd.snd.snd.snd.snd.fst, v.snd.snd.snd.snd.snd.snd.fst, v.snd.snd.snd.snd.snd.snd.snd.fst, ()))
      else none) >>= fun x1 => match x1 with
      | .inl y1 => n_10l11 (y1.fst, y1.snd.fst, y1.snd.snd.fst, IntKind.i64.wrap (y1.snd.snd.snd.fst + (1 : Int)), y1.snd.snd.snd.snd.fst, y1.snd.snd.snd.snd.snd.fst, y1.snd.snd.snd.snd.snd.snd.fst, y1.snd.snd.snd.snd.snd.snd.snd.fst, ())
      | .inr y1 => some (Sum.inl y1)
  else some (Sum.inr (v.fst, v.snd.fst, v.snd.snd.fst, v.snd.snd.snd.snd.fst, v.snd.snd.snd.snd.snd.fst, v.snd.snd.snd.snd.snd.snd.fst, v.snd.snd.snd.snd.snd.snd.snd.fst, ()))
  partial_fixpoint
noncomputable def n_10l8 (v : (List Int) × Int × Int × Layout × Target × (List Layout) × (List Layout) × Unit) : Option (((Bool × Unit) ⊕ ((List Int) × Int × Layout × Target × (List Layout) × (List Layout) × Unit))) :=
  if decide (v.snd.snd.fst ≥ (1 : Int)) = true then
    n_10l11 (v.fst, v.snd.fst, v.snd.snd.fst, (0 : Int), v.snd.snd.snd.fst, v.snd.snd.snd.snd.fst, v.snd.snd.snd.snd.snd.fst, v.snd.snd.snd.snd.snd.snd.fst, ()) >>= fun x1 => match x1 with
      | .inl y1 => some (Sum.inl y1)
      | .inr y1 => n_10l8 (y1.fst, y1.snd.fst, IntKind.i64.wrap (y1.snd.snd.fst.tdiv (2 : Int)), y1.snd.snd.snd.fst, y1.snd.snd.snd.snd.fst, y1.snd.snd.snd.snd.snd.fst, y1.snd.snd.snd.snd.snd.snd.fst, ())
  else some (Sum.inr (v.fst, v.snd.fst, v.snd.snd.snd.fst, v.snd.snd.snd.snd.fst, v.snd.snd.snd.snd.snd.fst, v.snd.snd.snd.snd.snd.snd.fst, ()))
  partial_fixpoint
noncomputable def n_10l20 (v : (List Int) × Int × Int × Layout × Target × (List Layout) × (List Layout) × (List (Int × Bool)) × Unit) : Option ((Int × Layout × Target × (List Layout) × (List Layout) × (List (Int × Bool)) × Unit)) :=
  if decide (v.snd.snd.fst < (↑v.fst.length : Int)) = true then
    (if (0 : Int) ≤ v.snd.snd.fst then
        v.fst[v.snd.snd.fst.toNat]? >>= fun x1 =>
        (if decide (x1 ≥ (0 : Int)) = true then
            if decide (x1 < (↑v.snd.snd.snd.fst.parts.length : Int)) = true then
              some ((v.fst, v.snd.fst, v.snd.snd.fst, x1, !(Mp.get Mp.ieq x1 v.snd.snd.snd.snd.snd.snd.snd.fst).getD false, v.snd.snd.snd.fst, v.snd.snd.snd.snd.fst, v.snd.snd.snd.snd.snd.fst, v.snd.snd.snd.snd.snd.snd.fst, v.snd.snd.snd.snd.snd.snd.snd.fst, ()))
            else some ((v.fst, v.snd.fst, v.snd.snd.fst, x1, false, v.snd.snd.snd.fst, v.snd.snd.snd.snd.fst, v.snd.snd.snd.snd.snd.fst, v.snd.snd.snd.snd.snd.snd.fst, v.snd.snd.snd.snd.snd.snd.snd.fst, ()))
          else some ((v.fst, v.snd.fst, v.snd.snd.fst, x1, false, v.snd.snd.snd.fst, v.snd.snd.snd.snd.fst, v.snd.snd.snd.snd.snd.fst, v.snd.snd.snd.snd.snd.snd.fst, v.snd.snd.snd.snd.snd.snd.snd.fst, ()))) >>= fun x2 =>
        if x2.snd.snd.snd.snd.fst = true then
          if (0 : Int) ≤ x2.snd.snd.snd.fst then
            x2.snd.snd.snd.snd.snd.fst.parts[x2.snd.snd.snd.fst.toNat]? >>= fun x3 =>
            if x2.snd.snd.snd.snd.snd.snd.snd.snd.fst.length + [x3].length ≤ (4294967296 : Nat) then
              some ((x2.fst, x2.snd.fst, x2.snd.snd.fst, x2.snd.snd.snd.snd.snd.fst, x2.snd.snd.snd.snd.snd.snd.fst, x2.snd.snd.snd.snd.snd.snd.snd.fst, x2.snd.snd.snd.snd.snd.snd.snd.snd.fst ++ [x3], Mp.set Mp.ieq x2.snd.snd.snd.fst true x2.snd.snd.snd.snd.snd.snd.snd.snd.snd.fst, ()))
            else none
          else none
        else some ((x2.fst, x2.snd.fst, x2.snd.snd.fst, x2.snd.snd.snd.snd.snd.fst, x2.snd.snd.snd.snd.snd.snd.fst, x2.snd.snd.snd.snd.snd.snd.snd.fst, x2.snd.snd.snd.snd.snd.snd.snd.snd.fst, x2.snd.snd.snd.snd.snd.snd.snd.snd.snd.fst, ()))
      else none) >>= fun x1 =>
    n_10l20 (x1.fst, x1.snd.fst, IntKind.i64.wrap (x1.snd.snd.fst + (1 : Int)), x1.snd.snd.snd.fst, x1.snd.snd.snd.snd.fst, x1.snd.snd.snd.snd.snd.fst, x1.snd.snd.snd.snd.snd.snd.fst, x1.snd.snd.snd.snd.snd.snd.snd.fst, ())
  else some ((v.snd.fst, v.snd.snd.snd.fst, v.snd.snd.snd.snd.fst, v.snd.snd.snd.snd.snd.fst, v.snd.snd.snd.snd.snd.snd.fst, v.snd.snd.snd.snd.snd.snd.snd.fst, ()))
  partial_fixpoint
noncomputable def n_10l27 (v : Int × Int × Layout × Target × (List Layout) × (List Layout) × (List (Int × Bool)) × Unit) : Option ((Int × Target × (List Layout) × (List Layout) × Unit)) :=
  if decide (v.snd.fst < (↑v.snd.snd.fst.parts.length : Int)) = true then
    (if (!(Mp.get Mp.ieq v.snd.fst v.snd.snd.snd.snd.snd.snd.fst).getD false) = true then
        if (0 : Int) ≤ v.snd.fst then
          v.snd.snd.fst.parts[v.snd.fst.toNat]? >>= fun x1 =>
          if v.snd.snd.snd.snd.snd.fst.length + [x1].length ≤ (4294967296 : Nat) then
            some ((v.fst, v.snd.fst, v.snd.snd.fst, v.snd.snd.snd.fst, v.snd.snd.snd.snd.fst, v.snd.snd.snd.snd.snd.fst ++ [x1], v.snd.snd.snd.snd.snd.snd.fst, ()))
          else none
        else none
      else some ((v.fst, v.snd.fst, v.snd.snd.fst, v.snd.snd.snd.fst, v.snd.snd.snd.snd.fst, v.snd.snd.snd.snd.snd.fst, v.snd.snd.snd.snd.snd.snd.fst, ()))) >>= fun x1 =>
    n_10l27 (x1.fst, IntKind.i64.wrap (x1.snd.fst + (1 : Int)), x1.snd.snd.fst, x1.snd.snd.snd.fst, x1.snd.snd.snd.snd.fst, x1.snd.snd.snd.snd.snd.fst, x1.snd.snd.snd.snd.snd.snd.fst, ())
  else some ((v.fst, v.snd.snd.snd.fst, v.snd.snd.snd.snd.fst, v.snd.snd.snd.snd.snd.fst, ()))
  partial_fixpoint
noncomputable def n_10 (v : Layout × Target × (List Int) × Unit) : Option (Bool × Unit) :=
  n_11 (v.fst, ()) >>= fun x1 =>
  if x1.fst = true then
    n_12 () >>= fun x2 =>
    some ((x2.fst, ()))
  else n_35 (v.fst, v.snd.fst, ()) >>= fun x2 =>
  if (x2.snd.snd.fst != (0 : Int)) = true then
    n_12 () >>= fun x3 =>
    some ((x3.fst, ()))
  else n_10l8 (v.snd.snd.fst, x2.snd.fst, (8 : Int), v.fst, v.snd.fst, [], [], ()) >>= fun x3 => match x3 with
    | .inl y3 => some y3
    | .inr y3 => if true = true then
        n_10l20 (y3.fst, y3.snd.fst, (0 : Int), y3.snd.snd.fst, y3.snd.snd.snd.fst, y3.snd.snd.snd.snd.fst, y3.snd.snd.snd.snd.snd.fst, [], ()) >>= fun x4 =>
        n_10l27 (x4.fst, (0 : Int), x4.snd.fst, x4.snd.snd.fst, x4.snd.snd.snd.fst, x4.snd.snd.snd.snd.fst, x4.snd.snd.snd.snd.snd.fst, ()) >>= fun x5 =>
        n_13 (Layout.mk (6 : Int) (0 : Int) false x5.snd.snd.fst, x5.snd.fst, ()) >>= fun x6 =>
        n_13 (Layout.mk (6 : Int) (0 : Int) false x5.snd.snd.snd.fst, x5.snd.fst, ()) >>= fun x7 =>
        (if (x6.snd.fst == (0 : Int)) = true then
            if (x6.fst == x5.fst) = true then
              if (x7.snd.fst != (0 : Int)) = true then
                n_12 () >>= fun x8 =>
                some ((x8.fst, ()))
              else if decide (x6.fst ≤ x7.fst) = true then
                n_12 () >>= fun x8 =>
                some ((x8.fst, ()))
              else some ((false, ()))
            else some ((false, ()))
          else some ((false, ()))) >>= fun x8 =>
        some ((x8.fst, ()))
      else none
noncomputable def call10 : Caller vw := fun A fid args S k => match fid with | 11 => callPure Try.prog sig11 n_11 A args S k | 12 => callPure Try.prog sig12 n_12 A args S k | 13 => callPure Try.prog sig13 n_13 A args S k | 15 => callPure Try.prog sig15 n_15 A args S k | 35 => callPure Try.prog sig35 n_35 A args S k | _ => none
noncomputable def x10 : Xc vw := { P := Try.prog, n := 159, nm := id, call := call10, pre := fun _ => false, sh := sh10, joins := fun k => match k with | 12 => some (c10j12, [.norm, .ret]) | 21 => some (c10j21, [.norm]) | 28 => some (c10j28, [.norm]) | _ => none, regs := fun k => match k with | 23 => some c10r23 | 33 => some c10r33 | _ => none, loops := fun k => match k with | 8 => some { cut := c10l8, alts := [.ret, .exit 0], F := n_10l8 } | 11 => some { cut := c10l11, alts := [.ret, .exit 2], F := n_10l11 } | 20 => some { cut := c10l20, alts := [.exit 4], F := n_10l20 } | 27 => some { cut := c10l27, alts := [.exit 6], F := n_10l27 } | _ => none }
theorem call10_ok : CallerOk Try.prog call10 := fun A fid args S dst k r h => by
  unfold call10 at h
  split at h
  · exact callPure_ok (n_11_ok) rfl rfl h
  · exact callPure_ok (n_12_ok) rfl rfl h
  · exact callPure_ok (n_13_ok) rfl rfl h
  · exact callPure_ok (n_15_ok) rfl rfl h
  · exact callPure_ok (n_35_ok) rfl rfl h
  · cases h
theorem n_10l11_ok (C : Ctx) (hP : C.P = Try.prog) (hN : C.N = 159) : LoopOk C (loopNo (loopNo (bodyOf Try.f10) 0) 0) (sh := sh10) { cut := c10l11, alts := [.ret, .exit 2], F := n_10l11 } :=
  n_10l11.partial_correctness (motive := fun v out => AWpL C (loopNo (loopNo (bodyOf Try.f10) 0) 0) (encS vw (conc vw c10l11 v)) (OutQ sh10 [.ret, .exit 2] out)) fun F ih v out h =>
    loop_step (X := x10) (b := (loopNo (loopNo (bodyOf Try.f10) 0) 0)) hP hN Ty.mixed call10_ok (lok_all (X := x10) (c := (loopNo (loopNo (bodyOf Try.f10) 0) 0)) (kcast (by kernel_rfl : True = AllB (LoopsP C (x10)) (loopsIn (loopNo (loopNo (bodyOf Try.f10) 0) 0))) trivial)) ih (kcast (by kernel_rfl) h)
theorem n_10l8_ok (C : Ctx) (hP : C.P = Try.prog) (hN : C.N = 159) : LoopOk C (loopNo (bodyOf Try.f10) 0) (sh := sh10) { cut := c10l8, alts := [.ret, .exit 0], F := n_10l8 } :=
  n_10l8.partial_correctness (motive := fun v out => AWpL C (loopNo (bodyOf Try.f10) 0) (encS vw (conc vw c10l8 v)) (OutQ sh10 [.ret, .exit 0] out)) fun F ih v out h =>
    loop_step (X := x10) (b := (loopNo (bodyOf Try.f10) 0)) hP hN Ty.mixed call10_ok (lok_all (X := x10) (c := (loopNo (bodyOf Try.f10) 0)) (kcast (by kernel_rfl : AllB (LoopsP C (x10)) [(loopNo (loopNo (bodyOf Try.f10) 0) 0)] = AllB (LoopsP C (x10)) (loopsIn (loopNo (bodyOf Try.f10) 0))) ⟨loop_at (X := x10) (b := (loopNo (loopNo (bodyOf Try.f10) 0) 0)) (by kernel_rfl) (n_10l11_ok C hP hN), trivial⟩)) ih (kcast (by kernel_rfl) h)
theorem n_10l20_ok (C : Ctx) (hP : C.P = Try.prog) (hN : C.N = 159) : LoopOk C (loopNo (bodyOf Try.f10) 1) (sh := sh10) { cut := c10l20, alts := [.exit 4], F := n_10l20 } :=
  n_10l20.partial_correctness (motive := fun v out => AWpL C (loopNo (bodyOf Try.f10) 1) (encS vw (conc vw c10l20 v)) (OutQ sh10 [.exit 4] out)) fun F ih v out h =>
    loop_step (X := x10) (b := (loopNo (bodyOf Try.f10) 1)) hP hN Ty.mixed call10_ok (lok_all (X := x10) (c := (loopNo (bodyOf Try.f10) 1)) (kcast (by kernel_rfl : True = AllB (LoopsP C (x10)) (loopsIn (loopNo (bodyOf Try.f10) 1))) trivial)) ih (kcast (by kernel_rfl) h)
theorem n_10l27_ok (C : Ctx) (hP : C.P = Try.prog) (hN : C.N = 159) : LoopOk C (loopNo (bodyOf Try.f10) 2) (sh := sh10) { cut := c10l27, alts := [.exit 6], F := n_10l27 } :=
  n_10l27.partial_correctness (motive := fun v out => AWpL C (loopNo (bodyOf Try.f10) 2) (encS vw (conc vw c10l27 v)) (OutQ sh10 [.exit 6] out)) fun F ih v out h =>
    loop_step (X := x10) (b := (loopNo (bodyOf Try.f10) 2)) hP hN Ty.mixed call10_ok (lok_all (X := x10) (c := (loopNo (bodyOf Try.f10) 2)) (kcast (by kernel_rfl : True = AllB (LoopsP C (x10)) (loopsIn (loopNo (bodyOf Try.f10) 2))) trivial)) ih (kcast (by kernel_rfl) h)
theorem n_10_ok : SigOk Try.prog 10 sig10 n_10 := fun v r x h hx =>
  fn_ok (X := x10) (sig := sig10) rfl Try.func10 (c := bodyOf Try.f10) (by kernel_rfl) Try.ntmps10 (by kernel_rfl) (by kernel_rfl) rfl Ty.mixed call10_ok rfl (fun C hP hN => (lok_all (X := x10) (c := (bodyOf Try.f10)) (kcast (by kernel_rfl : AllB (LoopsP C (x10)) [(loopNo (bodyOf Try.f10) 0), (loopNo (bodyOf Try.f10) 1), (loopNo (bodyOf Try.f10) 2)] = AllB (LoopsP C (x10)) (loopsIn (bodyOf Try.f10))) ⟨loop_at (X := x10) (b := (loopNo (bodyOf Try.f10) 0)) (by kernel_rfl) (n_10l8_ok C hP hN), loop_at (X := x10) (b := (loopNo (bodyOf Try.f10) 1)) (by kernel_rfl) (n_10l20_ok C hP hN), loop_at (X := x10) (b := (loopNo (bodyOf Try.f10) 2)) (by kernel_rfl) (n_10l27_ok C hP hN), trivial⟩))) (kcast (by kernel_rfl) h) x hx

noncomputable def c46l3 : Cut SN := { slots := [(1, .bp 1 0), (3, .vh 1003), (4, .dat (.int .i64))], objs := [(1, .st .layoutT), (1003, .vec 24 (.st .layoutT))] }
noncomputable def c46e0 : Cut SN := { slots := [(3, .vh 1003)], objs := [(1003, .vec 24 (.st .layoutT))] }
noncomputable def c46z : Cut SN := { slots := [(2, .dat (.sl (.st .layoutT)))], objs := [] }
noncomputable def sh46 : Shape vw := { exits := fun id => match id with | 0 => c46e0 | _ => { slots := [], objs := [] }, rcut := c46z }
noncomputable def sig46 : Sig vw := { params := [.dat (.st .layoutT)], objs := [], rcut := c46z, rvars := [.tmp 2], keep := [] }
mutual
noncomputable def n_46l3 (v : Int × Layout × (List Layout) × Unit) : Option (((List Layout) × Unit)) :=
  if decide (v.fst < (↑v.snd.fst.parts.length : Int)) = true then
    if (0 : Int) ≤ v.fst then
      v.snd.fst.parts[v.fst.toNat]? >>= fun x1 =>
      n_46 (x1, ()) >>= fun x2 =>
      if v.snd.snd.fst.length + x2.fst.length ≤ (4294967296 : Nat) then
        n_46l3 (IntKind.i64.wrap (v.fst + (1 : Int)), v.snd.fst, v.snd.snd.fst ++ x2.fst, ())
      else none
    else none
  else some ((v.snd.snd.fst, ()))
  partial_fixpoint
noncomputable def n_46 (v : Layout × Unit) : Option ((List Layout) × Unit) :=
  n_46l3 ((0 : Int), v.fst, [v.fst], ()) >>= fun x1 =>
  some ((x1.fst, ()))
  partial_fixpoint
end
noncomputable def call46 (n_46l3 : Int × Layout × (List Layout) × Unit → Option (((List Layout) × Unit))) (n_46 : Layout × Unit → Option ((List Layout) × Unit)) : Caller vw := fun A fid args S k => match fid with | 46 => callPure Try.prog sig46 n_46 A args S k | _ => none
noncomputable def x46 (n_46l3 : Int × Layout × (List Layout) × Unit → Option (((List Layout) × Unit))) (n_46 : Layout × Unit → Option ((List Layout) × Unit)) : Xc vw := { P := Try.prog, n := 23, nm := fun d => match d with | 6 => 40006 | _ => d, call := call46 n_46l3 n_46, pre := fun _ => false, sh := sh46, joins := fun _ => none, regs := fun _ => none, loops := fun k => match k with | 3 => some { cut := c46l3, alts := [.exit 0], F := n_46l3 } | _ => none }
abbrev mn_46l3 (v : Int × Layout × (List Layout) × Unit) (r : ((List Layout) × Unit)) : Prop := (fun v out => ∀ C : Ctx, C.P = Try.prog → C.N = 23 → AWpL C (loopNo (bodyOf Try.f46) 0) (encS vw (conc vw c46l3 v)) (OutQ sh46 [.exit 0] out)) v r
abbrev mn_46 (v : Layout × Unit) (r : (List Layout) × Unit) : Prop := (fun v r => ∀ x, resV Try.prog sig46 r = some x → FnOk Try.prog 46 (encL vw (startS sig46 v).len (startOs sig46 v).1) (encOs (startS sig46 v).len (startS sig46 v).own) (encV vw (conc vw sig46.rcut r).len x) (encOs (conc vw sig46.rcut r).len (kept sig46 r))) v r
theorem n_46l3_all : (∀ v r, n_46l3 v = some r → mn_46l3 v r) ∧ (∀ v r, n_46 v = some r → mn_46 v r) := by
  refine n_46l3.mutual_partial_correctness
    (motive_1 := mn_46l3)
    (motive_2 := mn_46)
    ?_ ?_
  · exact (fun f0 f1 h0 h1 v out h C hP hN => loop_step (X := x46 f0 f1) (b := (loopNo (bodyOf Try.f46) 0)) hP hN Ty.mixed (by
        intro A fid args S dst k r h
        unfold x46 call46 at h
        simp only at h
        split at h
        · exact callPure_ok ((fun v r x h hx => h1 v r h x hx)) rfl rfl h
        · cases h) (lok_all (X := x46 f0 f1) (c := (loopNo (bodyOf Try.f46) 0)) (kcast (by kernel_rfl : True = AllB (LoopsP C (x46 f0 f1)) (loopsIn (loopNo (bodyOf Try.f46) 0))) trivial)) (cut := c46l3) (alts := [.exit 0]) (F := f0) (fun v out h => h0 v out h C hP hN) (kcast (by kernel_rfl) h))
  · exact (fun f0 h0 v r h x hx => fn_ok (X := x46 f0 (fun _ => none)) (sig := sig46) rfl Try.func46 (c := bodyOf Try.f46) (by kernel_rfl) Try.ntmps46 (by kernel_rfl) (by kernel_rfl) rfl Ty.mixed (by
        intro A fid args S dst k r h
        unfold x46 call46 at h
        simp only at h
        split at h
        · exact callPure_ok ((fun v r x h hx => by cases h)) rfl rfl h
        · cases h) rfl (fun C hP hN => (lok_all (X := x46 f0 (fun _ => none)) (c := (bodyOf Try.f46)) (kcast (by kernel_rfl : AllB (LoopsP C (x46 f0 (fun _ => none))) [(loopNo (bodyOf Try.f46) 0)] = AllB (LoopsP C (x46 f0 (fun _ => none))) (loopsIn (bodyOf Try.f46))) ⟨loop_at (X := x46 f0 (fun _ => none)) (b := (loopNo (bodyOf Try.f46) 0)) (by kernel_rfl) (show LoopOk C (loopNo (bodyOf Try.f46) 0) (sh := sh46) { cut := c46l3, alts := [.exit 0], F := f0 } from fun v out h => h0 v out h C hP hN), trivial⟩))) (kcast (by kernel_rfl) h) x hx)
theorem n_46l3_pc : ∀ v out, n_46l3 v = some out → (fun v out => ∀ C : Ctx, C.P = Try.prog → C.N = 23 → AWpL C (loopNo (bodyOf Try.f46) 0) (encS vw (conc vw c46l3 v)) (OutQ sh46 [.exit 0] out)) v out := n_46l3_all.1
theorem n_46_ok : SigOk Try.prog 46 sig46 n_46 := fun v r x h hx => n_46l3_all.2 v r h x hx

noncomputable def c47l3 : Cut SN := { slots := [(1, .bp 1 0), (3, .dat (.int .i64)), (4, .dat (.int .i64))], objs := [(1, .st .layoutT)] }
noncomputable def c47e0 : Cut SN := { slots := [(3, .dat (.int .i64))], objs := [] }
noncomputable def c47z : Cut SN := { slots := [(2, .dat (.int .i64))], objs := [] }
noncomputable def sh47 : Shape vw := { exits := fun id => match id with | 0 => c47e0 | _ => { slots := [], objs := [] }, rcut := c47z }
noncomputable def sig47 : Sig vw := { params := [.dat (.st .layoutT)], objs := [], rcut := c47z, rvars := [.tmp 2], keep := [] }
mutual
noncomputable def n_47l3 (v : Int × Int × Layout × Unit) : Option ((Int × Unit)) :=
  if decide (v.snd.fst < (↑v.snd.snd.fst.parts.length : Int)) = true then
    if (0 : Int) ≤ v.snd.fst then
      v.snd.snd.fst.parts[v.snd.fst.toNat]? >>= fun x1 =>
      n_47 (x1, ()) >>= fun x2 =>
      n_47l3 (max v.fst x2.fst, IntKind.i64.wrap (v.snd.fst + (1 : Int)), v.snd.snd.fst, ())
    else none
  else some ((v.fst, ()))
  partial_fixpoint
noncomputable def n_47 (v : Layout × Unit) : Option (Int × Unit) :=
  n_47l3 ((0 : Int), (0 : Int), v.fst, ()) >>= fun x1 =>
  some ((IntKind.i64.wrap (x1.fst + (1 : Int)), ()))
  partial_fixpoint
end
noncomputable def call47 (n_47l3 : Int × Int × Layout × Unit → Option ((Int × Unit))) (n_47 : Layout × Unit → Option (Int × Unit)) : Caller vw := fun A fid args S k => match fid with | 47 => callPure Try.prog sig47 n_47 A args S k | _ => none
noncomputable def x47 (n_47l3 : Int × Int × Layout × Unit → Option ((Int × Unit))) (n_47 : Layout × Unit → Option (Int × Unit)) : Xc vw := { P := Try.prog, n := 22, nm := id, call := call47 n_47l3 n_47, pre := fun _ => false, sh := sh47, joins := fun _ => none, regs := fun _ => none, loops := fun k => match k with | 3 => some { cut := c47l3, alts := [.exit 0], F := n_47l3 } | _ => none }
abbrev mn_47l3 (v : Int × Int × Layout × Unit) (r : (Int × Unit)) : Prop := (fun v out => ∀ C : Ctx, C.P = Try.prog → C.N = 22 → AWpL C (loopNo (bodyOf Try.f47) 0) (encS vw (conc vw c47l3 v)) (OutQ sh47 [.exit 0] out)) v r
abbrev mn_47 (v : Layout × Unit) (r : Int × Unit) : Prop := (fun v r => ∀ x, resV Try.prog sig47 r = some x → FnOk Try.prog 47 (encL vw (startS sig47 v).len (startOs sig47 v).1) (encOs (startS sig47 v).len (startS sig47 v).own) (encV vw (conc vw sig47.rcut r).len x) (encOs (conc vw sig47.rcut r).len (kept sig47 r))) v r
theorem n_47l3_all : (∀ v r, n_47l3 v = some r → mn_47l3 v r) ∧ (∀ v r, n_47 v = some r → mn_47 v r) := by
  refine n_47l3.mutual_partial_correctness
    (motive_1 := mn_47l3)
    (motive_2 := mn_47)
    ?_ ?_
  · exact (fun f0 f1 h0 h1 v out h C hP hN => loop_step (X := x47 f0 f1) (b := (loopNo (bodyOf Try.f47) 0)) hP hN Ty.mixed (by
        intro A fid args S dst k r h
        unfold x47 call47 at h
        simp only at h
        split at h
        · exact callPure_ok ((fun v r x h hx => h1 v r h x hx)) rfl rfl h
        · cases h) (lok_all (X := x47 f0 f1) (c := (loopNo (bodyOf Try.f47) 0)) (kcast (by kernel_rfl : True = AllB (LoopsP C (x47 f0 f1)) (loopsIn (loopNo (bodyOf Try.f47) 0))) trivial)) (cut := c47l3) (alts := [.exit 0]) (F := f0) (fun v out h => h0 v out h C hP hN) (kcast (by kernel_rfl) h))
  · exact (fun f0 h0 v r h x hx => fn_ok (X := x47 f0 (fun _ => none)) (sig := sig47) rfl Try.func47 (c := bodyOf Try.f47) (by kernel_rfl) Try.ntmps47 (by kernel_rfl) (by kernel_rfl) rfl Ty.mixed (by
        intro A fid args S dst k r h
        unfold x47 call47 at h
        simp only at h
        split at h
        · exact callPure_ok ((fun v r x h hx => by cases h)) rfl rfl h
        · cases h) rfl (fun C hP hN => (lok_all (X := x47 f0 (fun _ => none)) (c := (bodyOf Try.f47)) (kcast (by kernel_rfl : AllB (LoopsP C (x47 f0 (fun _ => none))) [(loopNo (bodyOf Try.f47) 0)] = AllB (LoopsP C (x47 f0 (fun _ => none))) (loopsIn (bodyOf Try.f47))) ⟨loop_at (X := x47 f0 (fun _ => none)) (b := (loopNo (bodyOf Try.f47) 0)) (by kernel_rfl) (show LoopOk C (loopNo (bodyOf Try.f47) 0) (sh := sh47) { cut := c47l3, alts := [.exit 0], F := f0 } from fun v out h => h0 v out h C hP hN), trivial⟩))) (kcast (by kernel_rfl) h) x hx)
theorem n_47l3_pc : ∀ v out, n_47l3 v = some out → (fun v out => ∀ C : Ctx, C.P = Try.prog → C.N = 22 → AWpL C (loopNo (bodyOf Try.f47) 0) (encS vw (conc vw c47l3 v)) (OutQ sh47 [.exit 0] out)) v out := n_47l3_all.1
theorem n_47_ok : SigOk Try.prog 47 sig47 n_47 := fun v r x h hx => n_47l3_all.2 v r h x hx

noncomputable def c50l3 : Cut SN := { slots := [(1, .bp 1 0), (3, .dat (.int .i64)), (4, .dat (.int .i64))], objs := [(1, .st .layoutT)] }
noncomputable def c50j8 : Cut SN := { slots := [(3, .dat (.int .i64))], objs := [] }
noncomputable def c50e0 : Cut SN := { slots := [(1, .bp 1 0), (3, .dat (.int .i64))], objs := [(1, .st .layoutT)] }
noncomputable def c50z : Cut SN := { slots := [(2, .dat (.int .i64))], objs := [] }
noncomputable def sh50 : Shape vw := { exits := fun id => match id with | 0 => c50e0 | _ => { slots := [], objs := [] }, rcut := c50z }
noncomputable def sig50 : Sig vw := { params := [.dat (.st .layoutT)], objs := [], rcut := c50z, rvars := [.tmp 2], keep := [] }
mutual
noncomputable def n_50l3 (v : Int × Int × Layout × Unit) : Option ((Int × Layout × Unit)) :=
  if decide (v.snd.fst < (↑v.snd.snd.fst.parts.length : Int)) = true then
    if (0 : Int) ≤ v.snd.fst then
      v.snd.snd.fst.parts[v.snd.fst.toNat]? >>= fun x1 =>
      n_50 (x1, ()) >>= fun x2 =>
      n_50l3 (min (IntKind.i64.wrap (v.fst + x2.fst)) (100000 : Int), IntKind.i64.wrap (v.snd.fst + (1 : Int)), v.snd.snd.fst, ())
    else none
  else some ((v.fst, v.snd.snd.fst, ()))
  partial_fixpoint
noncomputable def n_50 (v : Layout × Unit) : Option (Int × Unit) :=
  n_50l3 ((0 : Int), (0 : Int), v.fst, ()) >>= fun x1 =>
  (if (x1.snd.fst.kind == (5 : Int)) = true then
      some ((IntKind.i64.wrap (min (max x1.snd.fst.n (0 : Int)) (100000 : Int) * x1.fst), ()))
    else some ((x1.fst, ()))) >>= fun x2 =>
  some ((min (IntKind.i64.wrap (x2.fst + (1 : Int))) (100000 : Int), ()))
  partial_fixpoint
end
noncomputable def call50 (n_50l3 : Int × Int × Layout × Unit → Option ((Int × Layout × Unit))) (n_50 : Layout × Unit → Option (Int × Unit)) : Caller vw := fun A fid args S k => match fid with | 50 => callPure Try.prog sig50 n_50 A args S k | _ => none
noncomputable def x50 (n_50l3 : Int × Int × Layout × Unit → Option ((Int × Layout × Unit))) (n_50 : Layout × Unit → Option (Int × Unit)) : Xc vw := { P := Try.prog, n := 33, nm := id, call := call50 n_50l3 n_50, pre := fun _ => false, sh := sh50, joins := fun k => match k with | 8 => some (c50j8, [.norm]) | _ => none, regs := fun _ => none, loops := fun k => match k with | 3 => some { cut := c50l3, alts := [.exit 0], F := n_50l3 } | _ => none }
abbrev mn_50l3 (v : Int × Int × Layout × Unit) (r : (Int × Layout × Unit)) : Prop := (fun v out => ∀ C : Ctx, C.P = Try.prog → C.N = 33 → AWpL C (loopNo (bodyOf Try.f50) 0) (encS vw (conc vw c50l3 v)) (OutQ sh50 [.exit 0] out)) v r
abbrev mn_50 (v : Layout × Unit) (r : Int × Unit) : Prop := (fun v r => ∀ x, resV Try.prog sig50 r = some x → FnOk Try.prog 50 (encL vw (startS sig50 v).len (startOs sig50 v).1) (encOs (startS sig50 v).len (startS sig50 v).own) (encV vw (conc vw sig50.rcut r).len x) (encOs (conc vw sig50.rcut r).len (kept sig50 r))) v r
theorem n_50l3_all : (∀ v r, n_50l3 v = some r → mn_50l3 v r) ∧ (∀ v r, n_50 v = some r → mn_50 v r) := by
  refine n_50l3.mutual_partial_correctness
    (motive_1 := mn_50l3)
    (motive_2 := mn_50)
    ?_ ?_
  · exact (fun f0 f1 h0 h1 v out h C hP hN => loop_step (X := x50 f0 f1) (b := (loopNo (bodyOf Try.f50) 0)) hP hN Ty.mixed (by
        intro A fid args S dst k r h
        unfold x50 call50 at h
        simp only at h
        split at h
        · exact callPure_ok ((fun v r x h hx => h1 v r h x hx)) rfl rfl h
        · cases h) (lok_all (X := x50 f0 f1) (c := (loopNo (bodyOf Try.f50) 0)) (kcast (by kernel_rfl : True = AllB (LoopsP C (x50 f0 f1)) (loopsIn (loopNo (bodyOf Try.f50) 0))) trivial)) (cut := c50l3) (alts := [.exit 0]) (F := f0) (fun v out h => h0 v out h C hP hN) (kcast (by kernel_rfl) h))
  · exact (fun f0 h0 v r h x hx => fn_ok (X := x50 f0 (fun _ => none)) (sig := sig50) rfl Try.func50 (c := bodyOf Try.f50) (by kernel_rfl) Try.ntmps50 (by kernel_rfl) (by kernel_rfl) rfl Ty.mixed (by
        intro A fid args S dst k r h
        unfold x50 call50 at h
        simp only at h
        split at h
        · exact callPure_ok ((fun v r x h hx => by cases h)) rfl rfl h
        · cases h) rfl (fun C hP hN => (lok_all (X := x50 f0 (fun _ => none)) (c := (bodyOf Try.f50)) (kcast (by kernel_rfl : AllB (LoopsP C (x50 f0 (fun _ => none))) [(loopNo (bodyOf Try.f50) 0)] = AllB (LoopsP C (x50 f0 (fun _ => none))) (loopsIn (bodyOf Try.f50))) ⟨loop_at (X := x50 f0 (fun _ => none)) (b := (loopNo (bodyOf Try.f50) 0)) (by kernel_rfl) (show LoopOk C (loopNo (bodyOf Try.f50) 0) (sh := sh50) { cut := c50l3, alts := [.exit 0], F := f0 } from fun v out h => h0 v out h C hP hN), trivial⟩))) (kcast (by kernel_rfl) h) x hx)
theorem n_50l3_pc : ∀ v out, n_50l3 v = some out → (fun v out => ∀ C : Ctx, C.P = Try.prog → C.N = 33 → AWpL C (loopNo (bodyOf Try.f50) 0) (encS vw (conc vw c50l3 v)) (OutQ sh50 [.exit 0] out)) v out := n_50l3_all.1
theorem n_50_ok : SigOk Try.prog 50 sig50 n_50 := fun v r x h hx => n_50l3_all.2 v r h x hx

noncomputable def c51z : Cut SN := { slots := [(2, .dat (.int .i64))], objs := [] }
noncomputable def sh51 : Shape vw := { exits := fun _ => { slots := [], objs := [] }, rcut := c51z }
noncomputable def sig51 : Sig vw := { params := [.dat (.int .i64)], objs := [], rcut := c51z, rvars := [.tmp 2], keep := [] }
noncomputable def n_51 (v : Int × Unit) : Option (Int × Unit) :=
  if (v.fst == (2 : Int)) = true then
    some (((64 : Int), ()))
  else if (v.fst == (5 : Int)) = true then
    some (((1000 : Int), ()))
  else if (v.fst == (7 : Int)) = true then
    some (((65536 : Int), ()))
  else some (((9223372036854775807 : Int), ()))
noncomputable def call51 : Caller vw := fun _ _ _ _ _ => none
noncomputable def x51 : Xc vw := { P := Try.prog, n := 10, nm := id, call := call51, pre := fun _ => false, sh := sh51, joins := fun _ => none, regs := fun _ => none, loops := fun _ => none }
theorem call51_ok : CallerOk Try.prog call51 := call_none
theorem n_51_ok : SigOk Try.prog 51 sig51 n_51 := fun v r x h hx =>
  fn_ok (X := x51) (sig := sig51) rfl Try.func51 (c := bodyOf Try.f51) (by kernel_rfl) Try.ntmps51 (by kernel_rfl) (by kernel_rfl) rfl Ty.mixed call51_ok rfl (fun C hP hN => (lok_all (X := x51) (c := (bodyOf Try.f51)) (kcast (by kernel_rfl : True = AllB (LoopsP C (x51)) (loopsIn (bodyOf Try.f51))) trivial))) (kcast (by kernel_rfl) h) x hx

noncomputable def c58z : Cut SN := { slots := [(2, .dat (.int .i64))], objs := [] }
noncomputable def sh58 : Shape vw := { exits := fun _ => { slots := [], objs := [] }, rcut := c58z }
noncomputable def sig58 : Sig vw := { params := [.dat (.st .layoutT)], objs := [], rcut := c58z, rvars := [.tmp 2], keep := [] }
noncomputable def n_58 (v : Layout × Unit) : Option (Int × Unit) :=
  if (v.fst.kind == (1 : Int)) = true then
    some (((1 : Int), ()))
  else if (v.fst.kind == (2 : Int)) = true then
    some ((max v.fst.n (0 : Int), ()))
  else some (((0 : Int), ()))
noncomputable def call58 : Caller vw := fun _ _ _ _ _ => none
noncomputable def x58 : Xc vw := { P := Try.prog, n := 12, nm := id, call := call58, pre := fun _ => false, sh := sh58, joins := fun _ => none, regs := fun _ => none, loops := fun _ => none }
theorem call58_ok : CallerOk Try.prog call58 := call_none
theorem n_58_ok : SigOk Try.prog 58 sig58 n_58 := fun v r x h hx =>
  fn_ok (X := x58) (sig := sig58) rfl Try.func58 (c := bodyOf Try.f58) (by kernel_rfl) Try.ntmps58 (by kernel_rfl) (by kernel_rfl) rfl Ty.mixed call58_ok rfl (fun C hP hN => (lok_all (X := x58) (c := (bodyOf Try.f58)) (kcast (by kernel_rfl : True = AllB (LoopsP C (x58)) (loopsIn (bodyOf Try.f58))) trivial))) (kcast (by kernel_rfl) h) x hx

noncomputable def c52l3 : Cut SN := { slots := [(1, .bp 1 0), (3, .dat (.int .i64)), (4, .dat (.int .i64))], objs := [(1, .st .layoutT)] }
noncomputable def c52e0 : Cut SN := { slots := [(3, .dat (.int .i64))], objs := [] }
noncomputable def c52z : Cut SN := { slots := [(2, .dat (.int .i64))], objs := [] }
noncomputable def sh52 : Shape vw := { exits := fun id => match id with | 0 => c52e0 | _ => { slots := [], objs := [] }, rcut := c52z }
noncomputable def sig52 : Sig vw := { params := [.dat (.st .layoutT)], objs := [], rcut := c52z, rvars := [.tmp 2], keep := [] }
noncomputable def n_52l3 (v : Int × Int × Layout × Unit) : Option ((Int × Unit)) :=
  if decide (v.snd.fst < (↑v.snd.snd.fst.parts.length : Int)) = true then
    if (0 : Int) ≤ v.snd.fst then
      v.snd.snd.fst.parts[v.snd.fst.toNat]? >>= fun x1 =>
      n_58 (x1, ()) >>= fun x2 =>
      n_52l3 (min (IntKind.i64.wrap (v.fst + min x2.fst (1000 : Int))) (100000 : Int), IntKind.i64.wrap (v.snd.fst + (1 : Int)), v.snd.snd.fst, ())
    else none
  else some ((v.fst, ()))
  partial_fixpoint
noncomputable def n_52 (v : Layout × Unit) : Option (Int × Unit) :=
  n_52l3 ((0 : Int), (0 : Int), v.fst, ()) >>= fun x1 =>
  some ((x1.fst, ()))
noncomputable def call52 : Caller vw := fun A fid args S k => match fid with | 58 => callPure Try.prog sig58 n_58 A args S k | _ => none
noncomputable def x52 : Xc vw := { P := Try.prog, n := 23, nm := id, call := call52, pre := fun _ => false, sh := sh52, joins := fun _ => none, regs := fun _ => none, loops := fun k => match k with | 3 => some { cut := c52l3, alts := [.exit 0], F := n_52l3 } | _ => none }
theorem call52_ok : CallerOk Try.prog call52 := fun A fid args S dst k r h => by
  unfold call52 at h
  split at h
  · exact callPure_ok (n_58_ok) rfl rfl h
  · cases h
theorem n_52l3_ok (C : Ctx) (hP : C.P = Try.prog) (hN : C.N = 23) : LoopOk C (loopNo (bodyOf Try.f52) 0) (sh := sh52) { cut := c52l3, alts := [.exit 0], F := n_52l3 } :=
  n_52l3.partial_correctness (motive := fun v out => AWpL C (loopNo (bodyOf Try.f52) 0) (encS vw (conc vw c52l3 v)) (OutQ sh52 [.exit 0] out)) fun F ih v out h =>
    loop_step (X := x52) (b := (loopNo (bodyOf Try.f52) 0)) hP hN Ty.mixed call52_ok (lok_all (X := x52) (c := (loopNo (bodyOf Try.f52) 0)) (kcast (by kernel_rfl : True = AllB (LoopsP C (x52)) (loopsIn (loopNo (bodyOf Try.f52) 0))) trivial)) ih (kcast (by kernel_rfl) h)
theorem n_52_ok : SigOk Try.prog 52 sig52 n_52 := fun v r x h hx =>
  fn_ok (X := x52) (sig := sig52) rfl Try.func52 (c := bodyOf Try.f52) (by kernel_rfl) Try.ntmps52 (by kernel_rfl) (by kernel_rfl) rfl Ty.mixed call52_ok rfl (fun C hP hN => (lok_all (X := x52) (c := (bodyOf Try.f52)) (kcast (by kernel_rfl : AllB (LoopsP C (x52)) [(loopNo (bodyOf Try.f52) 0)] = AllB (LoopsP C (x52)) (loopsIn (bodyOf Try.f52))) ⟨loop_at (X := x52) (b := (loopNo (bodyOf Try.f52) 0)) (by kernel_rfl) (n_52l3_ok C hP hN), trivial⟩))) (kcast (by kernel_rfl) h) x hx

noncomputable def c62r1 : Cut SN := { slots := [(6, .dat .bool)], objs := [] }
noncomputable def c62z : Cut SN := { slots := [(6, .dat .bool)], objs := [] }
noncomputable def sh62 : Shape vw := { exits := fun _ => { slots := [], objs := [] }, rcut := c62z }
noncomputable def sig62 : Sig vw := { params := [.dat (.int .i64), .dat (.int .i64), .dat (.int .i64)], objs := [], rcut := c62z, rvars := [.tmp 6], keep := [] }
noncomputable def n_62 (v : Int × Int × Int × Unit) : Option (Bool × Unit) :=
  (if decide (v.fst ≥ v.snd.fst) = true then
      some ((decide (v.fst ≤ v.snd.snd.fst), ()))
    else some ((false, ()))) >>= fun x1 =>
  some ((x1.fst, ()))
noncomputable def call62 : Caller vw := fun _ _ _ _ _ => none
noncomputable def x62 : Xc vw := { P := Try.prog, n := 15, nm := id, call := call62, pre := fun _ => false, sh := sh62, joins := fun _ => none, regs := fun k => match k with | 1 => some c62r1 | _ => none, loops := fun _ => none }
theorem call62_ok : CallerOk Try.prog call62 := call_none
theorem n_62_ok : SigOk Try.prog 62 sig62 n_62 := fun v r x h hx =>
  fn_ok (X := x62) (sig := sig62) rfl Try.func62 (c := bodyOf Try.f62) (by kernel_rfl) Try.ntmps62 (by kernel_rfl) (by kernel_rfl) rfl Ty.mixed call62_ok rfl (fun C hP hN => (lok_all (X := x62) (c := (bodyOf Try.f62)) (kcast (by kernel_rfl : True = AllB (LoopsP C (x62)) (loopsIn (bodyOf Try.f62))) trivial))) (kcast (by kernel_rfl) h) x hx

noncomputable def c76j4 : Cut SN := { slots := [(1, .bp 1 0), (4, .dat (.int .i64)), (5, .dat .bool)], objs := [(1, .st .layoutT)] }
noncomputable def c76j7 : Cut SN := { slots := [(1, .bp 1 0), (4, .dat (.int .i64)), (12, .dat .bool)], objs := [(1, .st .layoutT)] }
noncomputable def c76z : Cut SN := { slots := [(2, .dat .bool)], objs := [] }
noncomputable def sh76 : Shape vw := { exits := fun _ => { slots := [], objs := [] }, rcut := c76z }
noncomputable def sig76 : Sig vw := { params := [.dat (.st .layoutT)], objs := [], rcut := c76z, rvars := [.tmp 2], keep := [] }
noncomputable def n_76 (v : Layout × Unit) : Option (Bool × Unit) :=
  (if (v.fst.kind == (4 : Int)) = true then
      some ((v.fst.kind, true, v.fst, ()))
    else some ((v.fst.kind, v.fst.kind == (5 : Int), v.fst, ()))) >>= fun x1 =>
  if x1.snd.fst = true then
    some (((↑x1.snd.snd.fst.parts.length : Int) == (1 : Int), ()))
  else (if (x1.fst == (6 : Int)) = true then
      some ((x1.fst, true, x1.snd.snd.fst, ()))
    else some ((x1.fst, x1.fst == (9 : Int), x1.snd.snd.fst, ()))) >>= fun x2 =>
  if x2.snd.fst = true then
    some ((true, ()))
  else if (x2.fst == (8 : Int)) = true then
    some ((decide ((↑x2.snd.snd.fst.parts.length : Int) ≥ (1 : Int)), ()))
  else some (((↑x2.snd.snd.fst.parts.length : Int) == (0 : Int), ()))
noncomputable def call76 : Caller vw := fun _ _ _ _ _ => none
noncomputable def x76 : Xc vw := { P := Try.prog, n := 25, nm := id, call := call76, pre := fun _ => false, sh := sh76, joins := fun k => match k with | 4 => some (c76j4, [.norm]) | 7 => some (c76j7, [.norm]) | _ => none, regs := fun _ => none, loops := fun _ => none }
theorem call76_ok : CallerOk Try.prog call76 := call_none
theorem n_76_ok : SigOk Try.prog 76 sig76 n_76 := fun v r x h hx =>
  fn_ok (X := x76) (sig := sig76) rfl Try.func76 (c := bodyOf Try.f76) (by kernel_rfl) Try.ntmps76 (by kernel_rfl) (by kernel_rfl) rfl Ty.mixed call76_ok rfl (fun C hP hN => (lok_all (X := x76) (c := (bodyOf Try.f76)) (kcast (by kernel_rfl : True = AllB (LoopsP C (x76)) (loopsIn (bodyOf Try.f76))) trivial))) (kcast (by kernel_rfl) h) x hx

noncomputable def c53l11 : Cut SN := { slots := [(1, .bp 1 0), (3, .dat (.int .i64))], objs := [(1, .st .layoutT)] }
noncomputable def c53j6 : Cut SN := { slots := [(1, .bp 1 0), (23, .dat (.int .i64)), (24, .dat .bool)], objs := [(1, .st .layoutT)] }
noncomputable def c53j15 : Cut SN := { slots := [(1, .bp 1 0)], objs := [(1, .st .layoutT)] }
noncomputable def c53r1 : Cut SN := { slots := [(1, .bp 1 0), (21, .dat .bool)], objs := [(1, .st .layoutT)] }
noncomputable def c53r13 : Cut SN := { slots := [(1, .bp 1 0), (3, .dat (.int .i64)), (59, .dat .bool)], objs := [(1, .st .layoutT)] }
noncomputable def c53e1 : Cut SN := { slots := [(1, .bp 1 0)], objs := [(1, .st .layoutT)] }
noncomputable def c53z : Cut SN := { slots := [(2, .dat .bool)], objs := [] }
noncomputable def sh53 : Shape vw := { exits := fun id => match id with | 1 => c53e1 | _ => { slots := [], objs := [] }, rcut := c53z }
noncomputable def sig53 : Sig vw := { params := [.dat (.st .layoutT)], objs := [], rcut := c53z, rvars := [.tmp 2], keep := [] }
noncomputable def n_53l11 (v : Int × Layout × Unit) : Option (((Bool × Unit) ⊕ (Layout × Unit))) :=
  if decide (v.fst < (↑v.snd.fst.parts.length : Int)) = true then
    (if (0 : Int) ≤ v.fst then
        v.snd.fst.parts[v.fst.toNat]? >>= fun x1 =>
        if (x1.kind != (1 : Int)) = true then
          if (0 : Int) ≤ v.fst then
            v.snd.fst.parts[v.fst.toNat]? >>= fun x2 =>
            some ((v.fst, x2.kind != (2 : Int), v.snd.fst, ()))
          else none
        else some ((v.fst, false, v.snd.fst, ()))
      else none) >>= fun x1 =>
    if x1.snd.fst = true then
      some (Sum.inl (false, ()))
    else n_53l11 (IntKind.i64.wrap (x1.fst + (1 : Int)), x1.snd.snd.fst, ())
  else some (Sum.inr (v.snd.fst, ()))
  partial_fixpoint
noncomputable def n_53 (v : Layout × Unit) : Option (Bool × Unit) :=
  (n_62 (v.fst.kind, (0 : Int), (9 : Int), ()) >>= fun x1 =>
    if (!x1.fst) = true then
      some ((true, v.fst, ()))
    else n_76 (v.fst, ()) >>= fun x2 =>
    if (!x2.fst) = true then
      some ((true, v.fst, ()))
    else if v.fst.flag = true then
      some ((v.fst.kind != (2 : Int), v.fst, ()))
    else some ((false, v.fst, ()))) >>= fun x1 =>
  if x1.fst = true then
    some ((false, ()))
  else ((if (x1.snd.fst.kind == (2 : Int)) = true then
        some ((x1.snd.fst.kind, true, x1.snd.fst, ()))
      else some ((x1.snd.fst.kind, x1.snd.fst.kind == (7 : Int), x1.snd.fst, ()))) >>= fun x2 =>
    if x2.snd.fst = true then
      some (Sum.inr (decide (x2.snd.snd.fst.n ≥ (1 : Int)), ()))
    else if (x2.fst == (5 : Int)) = true then
      some (Sum.inr (decide (x2.snd.snd.fst.n ≥ (0 : Int)), ()))
    else if (x2.fst == (9 : Int)) = true then
      n_53l11 ((0 : Int), x2.snd.snd.fst, ()) >>= fun x3 => match x3 with
        | .inl y3 => some (Sum.inr y3)
        | .inr y3 => some (Sum.inl (y3.fst, ()))
    else some (Sum.inl (x2.snd.snd.fst, ()))) >>= fun x2 => match x2 with
    | .inl y2 => some ((y2.fst.n == (0 : Int), ()))
    | .inr y2 => some y2
noncomputable def call53 : Caller vw := fun A fid args S k => match fid with | 62 => callPure Try.prog sig62 n_62 A args S k | 76 => callPure Try.prog sig76 n_76 A args S k | _ => none
noncomputable def x53 : Xc vw := { P := Try.prog, n := 63, nm := id, call := call53, pre := fun _ => false, sh := sh53, joins := fun k => match k with | 6 => some (c53j6, [.norm]) | 15 => some (c53j15, [.norm, .ret]) | _ => none, regs := fun k => match k with | 1 => some c53r1 | 13 => some c53r13 | _ => none, loops := fun k => match k with | 11 => some { cut := c53l11, alts := [.ret, .exit 1], F := n_53l11 } | _ => none }
theorem call53_ok : CallerOk Try.prog call53 := fun A fid args S dst k r h => by
  unfold call53 at h
  split at h
  · exact callPure_ok (n_62_ok) rfl rfl h
  · exact callPure_ok (n_76_ok) rfl rfl h
  · cases h
theorem n_53l11_ok (C : Ctx) (hP : C.P = Try.prog) (hN : C.N = 63) : LoopOk C (loopNo (bodyOf Try.f53) 0) (sh := sh53) { cut := c53l11, alts := [.ret, .exit 1], F := n_53l11 } :=
  n_53l11.partial_correctness (motive := fun v out => AWpL C (loopNo (bodyOf Try.f53) 0) (encS vw (conc vw c53l11 v)) (OutQ sh53 [.ret, .exit 1] out)) fun F ih v out h =>
    loop_step (X := x53) (b := (loopNo (bodyOf Try.f53) 0)) hP hN Ty.mixed call53_ok (lok_all (X := x53) (c := (loopNo (bodyOf Try.f53) 0)) (kcast (by kernel_rfl : True = AllB (LoopsP C (x53)) (loopsIn (loopNo (bodyOf Try.f53) 0))) trivial)) ih (kcast (by kernel_rfl) h)
theorem n_53_ok : SigOk Try.prog 53 sig53 n_53 := fun v r x h hx =>
  fn_ok (X := x53) (sig := sig53) rfl Try.func53 (c := bodyOf Try.f53) (by kernel_rfl) Try.ntmps53 (by kernel_rfl) (by kernel_rfl) rfl Ty.mixed call53_ok rfl (fun C hP hN => (lok_all (X := x53) (c := (bodyOf Try.f53)) (kcast (by kernel_rfl : AllB (LoopsP C (x53)) [(loopNo (bodyOf Try.f53) 0)] = AllB (LoopsP C (x53)) (loopsIn (bodyOf Try.f53))) ⟨loop_at (X := x53) (b := (loopNo (bodyOf Try.f53) 0)) (by kernel_rfl) (n_53l11_ok C hP hN), trivial⟩))) (kcast (by kernel_rfl) h) x hx

noncomputable def c21l5 : Cut SN := { slots := [(3, .dat (.sl (.st .layoutT))), (4, .dat (.int .i64))], objs := [] }
noncomputable def c21l11 : Cut SN := { slots := [(3, .dat (.sl (.st .layoutT))), (6, .dat (.int .i64))], objs := [] }
noncomputable def c21r2 : Cut SN := { slots := [(3, .dat (.sl (.st .layoutT))), (21, .dat .bool)], objs := [] }
noncomputable def c21r8 : Cut SN := { slots := [(3, .dat (.sl (.st .layoutT))), (4, .dat (.int .i64)), (53, .dat .bool)], objs := [] }
noncomputable def c21e0 : Cut SN := { slots := [(3, .dat (.sl (.st .layoutT)))], objs := [] }
noncomputable def c21e2 : Cut SN := { slots := [], objs := [] }
noncomputable def c21z : Cut SN := { slots := [(2, .dat (.int .i64))], objs := [] }
noncomputable def sh21 : Shape vw := { exits := fun id => match id with | 0 => c21e0 | 2 => c21e2 | _ => { slots := [], objs := [] }, rcut := c21z }
noncomputable def sig21 : Sig vw := { params := [.dat (.st .layoutT)], objs := [], rcut := c21z, rvars := [.tmp 2], keep := [] }
noncomputable def n_21l5 (v : (List Layout) × Int × Unit) : Option (((Int × Unit) ⊕ ((List Layout) × Unit))) :=
  if decide (v.snd.fst < (↑v.fst.length : Int)) = true then
    if (0 : Int) ≤ v.snd.fst then
      v.fst[v.snd.fst.toNat]? >>= fun x1 =>
      (if decide ((↑x1.parts.length : Int) > (12 : Int)) = true then
          some ((v.fst, v.snd.fst, true, ()))
        else n_51 (x1.kind, ()) >>= fun x2 =>
        if decide (x1.n > x2.fst) = true then
          some ((v.fst, v.snd.fst, true, ()))
        else if (x1.kind == (9 : Int)) = true then
          n_52 (x1, ()) >>= fun x3 =>
          some ((v.fst, v.snd.fst, decide (x3.fst > (64 : Int)), ()))
        else some ((v.fst, v.snd.fst, false, ()))) >>= fun x2 =>
      if x2.snd.snd.fst = true then
        some (Sum.inl ((3 : Int), ()))
      else n_21l5 (x2.fst, IntKind.i64.wrap (x2.snd.fst + (1 : Int)), ())
    else none
  else some (Sum.inr (v.fst, ()))
  partial_fixpoint
noncomputable def n_21l11 (v : (List Layout) × Int × Unit) : Option (((Int × Unit) ⊕ (Unit))) :=
  if decide (v.snd.fst < (↑v.fst.length : Int)) = true then
    if (0 : Int) ≤ v.snd.fst then
      v.fst[v.snd.fst.toNat]? >>= fun x1 =>
      n_53 (x1, ()) >>= fun x2 =>
      if (!x2.fst) = true then
        some (Sum.inl ((1 : Int), ()))
      else n_21l11 (v.fst, IntKind.i64.wrap (v.snd.fst + (1 : Int)), ())
    else none
  else some (Sum.inr ())
  partial_fixpoint
noncomputable def n_21 (v : Layout × Unit) : Option (Int × Unit) :=
  n_46 (v.fst, ()) >>= fun x1 =>
  (if decide ((↑x1.fst.length : Int) > (60 : Int)) = true then
      some ((x1.fst, true, ()))
    else n_47 (v.fst, ()) >>= fun x2 =>
    if decide (x2.fst > (5 : Int)) = true then
      some ((x1.fst, true, ()))
    else n_50 (v.fst, ()) >>= fun x3 =>
    some ((x1.fst, decide (x3.fst > (4096 : Int)), ()))) >>= fun x2 =>
  if x2.snd.fst = true then
    some (((3 : Int), ()))
  else n_21l5 (x2.fst, (0 : Int), ()) >>= fun x3 => match x3 with
    | .inl y3 => some y3
    | .inr y3 => n_21l11 (y3.fst, (0 : Int), ()) >>= fun x4 => match x4 with
        | .inl y4 => some y4
        | .inr y4 => some (((0 : Int), ()))
noncomputable def call21 : Caller vw := fun A fid args S k => match fid with | 46 => callPure Try.prog sig46 n_46 A args S k | 47 => callPure Try.prog sig47 n_47 A args S k | 50 => callPure Try.prog sig50 n_50 A args S k | 51 => callPure Try.prog sig51 n_51 A args S k | 52 => callPure Try.prog sig52 n_52 A args S k | 53 => callPure Try.prog sig53 n_53 A args S k | _ => none
noncomputable def x21 : Xc vw := { P := Try.prog, n := 66, nm := id, call := call21, pre := fun _ => false, sh := sh21, joins := fun _ => none, regs := fun k => match k with | 2 => some c21r2 | 8 => some c21r8 | _ => none, loops := fun k => match k with | 5 => some { cut := c21l5, alts := [.ret, .exit 0], F := n_21l5 } | 11 => some { cut := c21l11, alts := [.ret, .exit 2], F := n_21l11 } | _ => none }
theorem call21_ok : CallerOk Try.prog call21 := fun A fid args S dst k r h => by
  unfold call21 at h
  split at h
  · exact callPure_ok (n_46_ok) rfl rfl h
  · exact callPure_ok (n_47_ok) rfl rfl h
  · exact callPure_ok (n_50_ok) rfl rfl h
  · exact callPure_ok (n_51_ok) rfl rfl h
  · exact callPure_ok (n_52_ok) rfl rfl h
  · exact callPure_ok (n_53_ok) rfl rfl h
  · cases h
theorem n_21l5_ok (C : Ctx) (hP : C.P = Try.prog) (hN : C.N = 66) : LoopOk C (loopNo (bodyOf Try.f21) 0) (sh := sh21) { cut := c21l5, alts := [.ret, .exit 0], F := n_21l5 } :=
  n_21l5.partial_correctness (motive := fun v out => AWpL C (loopNo (bodyOf Try.f21) 0) (encS vw (conc vw c21l5 v)) (OutQ sh21 [.ret, .exit 0] out)) fun F ih v out h =>
    loop_step (X := x21) (b := (loopNo (bodyOf Try.f21) 0)) hP hN Ty.mixed call21_ok (lok_all (X := x21) (c := (loopNo (bodyOf Try.f21) 0)) (kcast (by kernel_rfl : True = AllB (LoopsP C (x21)) (loopsIn (loopNo (bodyOf Try.f21) 0))) trivial)) ih (kcast (by kernel_rfl) h)
theorem n_21l11_ok (C : Ctx) (hP : C.P = Try.prog) (hN : C.N = 66) : LoopOk C (loopNo (bodyOf Try.f21) 1) (sh := sh21) { cut := c21l11, alts := [.ret, .exit 2], F := n_21l11 } :=
  n_21l11.partial_correctness (motive := fun v out => AWpL C (loopNo (bodyOf Try.f21) 1) (encS vw (conc vw c21l11 v)) (OutQ sh21 [.ret, .exit 2] out)) fun F ih v out h =>
    loop_step (X := x21) (b := (loopNo (bodyOf Try.f21) 1)) hP hN Ty.mixed call21_ok (lok_all (X := x21) (c := (loopNo (bodyOf Try.f21) 1)) (kcast (by kernel_rfl : True = AllB (LoopsP C (x21)) (loopsIn (loopNo (bodyOf Try.f21) 1))) trivial)) ih (kcast (by kernel_rfl) h)
theorem n_21_ok : SigOk Try.prog 21 sig21 n_21 := fun v r x h hx =>
  fn_ok (X := x21) (sig := sig21) rfl Try.func21 (c := bodyOf Try.f21) (by kernel_rfl) Try.ntmps21 (by kernel_rfl) (by kernel_rfl) rfl Ty.mixed call21_ok rfl (fun C hP hN => (lok_all (X := x21) (c := (bodyOf Try.f21)) (kcast (by kernel_rfl : AllB (LoopsP C (x21)) [(loopNo (bodyOf Try.f21) 0), (loopNo (bodyOf Try.f21) 1)] = AllB (LoopsP C (x21)) (loopsIn (bodyOf Try.f21))) ⟨loop_at (X := x21) (b := (loopNo (bodyOf Try.f21) 0)) (by kernel_rfl) (n_21l5_ok C hP hN), loop_at (X := x21) (b := (loopNo (bodyOf Try.f21) 1)) (by kernel_rfl) (n_21l11_ok C hP hN), trivial⟩))) (kcast (by kernel_rfl) h) x hx

noncomputable def c23r1 : Cut SN := { slots := [(15, .dat .bool)], objs := [] }
noncomputable def c23z : Cut SN := { slots := [(2, .dat (.int .i64))], objs := [] }
noncomputable def sh23 : Shape vw := { exits := fun _ => { slots := [], objs := [] }, rcut := c23z }
noncomputable def sig23 : Sig vw := { params := [.dat (.st .targetT)], objs := [], rcut := c23z, rvars := [.tmp 2], keep := [] }
noncomputable def n_23 (v : Target × Unit) : Option (Int × Unit) :=
  (if (v.fst.word != (2 : Int)) = true then
      if (v.fst.word != (4 : Int)) = true then
        some ((v.fst.word != (8 : Int), ()))
      else some ((false, ()))
    else some ((false, ()))) >>= fun x1 =>
  if x1.fst = true then
    some (((1 : Int), ()))
  else some (((0 : Int), ()))
noncomputable def call23 : Caller vw := fun _ _ _ _ _ => none
noncomputable def x23 : Xc vw := { P := Try.prog, n := 16, nm := id, call := call23, pre := fun _ => false, sh := sh23, joins := fun _ => none, regs := fun k => match k with | 1 => some c23r1 | _ => none, loops := fun _ => none }
theorem call23_ok : CallerOk Try.prog call23 := call_none
theorem n_23_ok : SigOk Try.prog 23 sig23 n_23 := fun v r x h hx =>
  fn_ok (X := x23) (sig := sig23) rfl Try.func23 (c := bodyOf Try.f23) (by kernel_rfl) Try.ntmps23 (by kernel_rfl) (by kernel_rfl) rfl Ty.mixed call23_ok rfl (fun C hP hN => (lok_all (X := x23) (c := (bodyOf Try.f23)) (kcast (by kernel_rfl : True = AllB (LoopsP C (x23)) (loopsIn (bodyOf Try.f23))) trivial))) (kcast (by kernel_rfl) h) x hx

noncomputable def c41z : Cut SN := { slots := [(4, .dat (.int .i64))], objs := [] }
noncomputable def sh41 : Shape vw := { exits := fun _ => { slots := [], objs := [] }, rcut := c41z }
noncomputable def sig41 : Sig vw := { params := [.dat (.st .layoutT), .dat (.st .targetT)], objs := [], rcut := c41z, rvars := [.tmp 4], keep := [] }
noncomputable def n_41 (v : Layout × Target × Unit) : Option (Int × Unit) :=
  n_21 (v.fst, ()) >>= fun x1 =>
  if (x1.fst != (0 : Int)) = true then
    some ((x1.fst, ()))
  else n_23 (v.snd.fst, ()) >>= fun x2 =>
  some ((x2.fst, ()))
noncomputable def call41 : Caller vw := fun A fid args S k => match fid with | 21 => callPure Try.prog sig21 n_21 A args S k | 23 => callPure Try.prog sig23 n_23 A args S k | _ => none
noncomputable def x41 : Xc vw := { P := Try.prog, n := 13, nm := id, call := call41, pre := fun _ => false, sh := sh41, joins := fun _ => none, regs := fun _ => none, loops := fun _ => none }
theorem call41_ok : CallerOk Try.prog call41 := fun A fid args S dst k r h => by
  unfold call41 at h
  split at h
  · exact callPure_ok (n_21_ok) rfl rfl h
  · exact callPure_ok (n_23_ok) rfl rfl h
  · cases h
theorem n_41_ok : SigOk Try.prog 41 sig41 n_41 := fun v r x h hx =>
  fn_ok (X := x41) (sig := sig41) rfl Try.func41 (c := bodyOf Try.f41) (by kernel_rfl) Try.ntmps41 (by kernel_rfl) (by kernel_rfl) rfl Ty.mixed call41_ok rfl (fun C hP hN => (lok_all (X := x41) (c := (bodyOf Try.f41)) (kcast (by kernel_rfl : True = AllB (LoopsP C (x41)) (loopsIn (bodyOf Try.f41))) trivial))) (kcast (by kernel_rfl) h) x hx

noncomputable def c70l1 : Cut SN := { slots := [(0, .dat (.int .i64)), (1, .dat (.int .i64))], objs := [] }
noncomputable def c70e0 : Cut SN := { slots := [(0, .dat (.int .i64))], objs := [] }
noncomputable def c70z : Cut SN := { slots := [(4, .dat (.int .i64))], objs := [] }
noncomputable def sh70 : Shape vw := { exits := fun id => match id with | 0 => c70e0 | _ => { slots := [], objs := [] }, rcut := c70z }
noncomputable def sig70 : Sig vw := { params := [.dat (.int .i64), .dat (.int .i64)], objs := [], rcut := c70z, rvars := [.tmp 4], keep := [] }
noncomputable def n_70l1 (v : Int × Int × Unit) : Option ((Int × Unit)) :=
  if v.snd.fst = (0 : Int) then
    none
  else if (v.fst.tmod v.snd.fst != (0 : Int)) = true then
    n_70l1 (IntKind.i64.wrap (v.fst + (1 : Int)), v.snd.fst, ())
  else some ((v.fst, ()))
  partial_fixpoint
noncomputable def n_70 (v : Int × Int × Unit) : Option (Int × Unit) :=
  n_70l1 (v.fst, v.snd.fst, ()) >>= fun x1 =>
  some ((x1.fst, ()))
noncomputable def call70 : Caller vw := fun _ _ _ _ _ => none
noncomputable def x70 : Xc vw := { P := Try.prog, n := 12, nm := id, call := call70, pre := fun _ => false, sh := sh70, joins := fun _ => none, regs := fun _ => none, loops := fun k => match k with | 1 => some { cut := c70l1, alts := [.exit 0], F := n_70l1 } | _ => none }
theorem call70_ok : CallerOk Try.prog call70 := call_none
theorem n_70l1_ok (C : Ctx) (hP : C.P = Try.prog) (hN : C.N = 12) : LoopOk C (loopNo (bodyOf Try.f70) 0) (sh := sh70) { cut := c70l1, alts := [.exit 0], F := n_70l1 } :=
  n_70l1.partial_correctness (motive := fun v out => AWpL C (loopNo (bodyOf Try.f70) 0) (encS vw (conc vw c70l1 v)) (OutQ sh70 [.exit 0] out)) fun F ih v out h =>
    loop_step (X := x70) (b := (loopNo (bodyOf Try.f70) 0)) hP hN Ty.mixed call70_ok (lok_all (X := x70) (c := (loopNo (bodyOf Try.f70) 0)) (kcast (by kernel_rfl : True = AllB (LoopsP C (x70)) (loopsIn (loopNo (bodyOf Try.f70) 0))) trivial)) ih (kcast (by kernel_rfl) h)
theorem n_70_ok : SigOk Try.prog 70 sig70 n_70 := fun v r x h hx =>
  fn_ok (X := x70) (sig := sig70) rfl Try.func70 (c := bodyOf Try.f70) (by kernel_rfl) Try.ntmps70 (by kernel_rfl) (by kernel_rfl) rfl Ty.mixed call70_ok rfl (fun C hP hN => (lok_all (X := x70) (c := (bodyOf Try.f70)) (kcast (by kernel_rfl : AllB (LoopsP C (x70)) [(loopNo (bodyOf Try.f70) 0)] = AllB (LoopsP C (x70)) (loopsIn (bodyOf Try.f70))) ⟨loop_at (X := x70) (b := (loopNo (bodyOf Try.f70) 0)) (by kernel_rfl) (n_70l1_ok C hP hN), trivial⟩))) (kcast (by kernel_rfl) h) x hx

noncomputable def c69l2 : Cut SN := { slots := [(0, .dat (.int .i64)), (1, .dat (.int .i64)), (4, .bp 4 0), (5, .dat (.int .i64))], objs := [(4, .st .placeT)] }
noncomputable def c69e0 : Cut SN := { slots := [(1, .dat (.int .i64)), (4, .bp 4 0), (5, .dat (.int .i64))], objs := [(4, .st .placeT)] }
noncomputable def c69z : Cut SN := { slots := [(4, .bp 4 0)], objs := [(4, .st .placeT)] }
noncomputable def sh69 : Shape vw := { exits := fun id => match id with | 0 => c69e0 | _ => { slots := [], objs := [] }, rcut := c69z }
noncomputable def sig69 : Sig vw := { params := [.dat (.int .i64), .dat (.int .i64)], objs := [], rcut := c69z, rvars := [.cell 4 57], keep := [] }
noncomputable def n_69l2 (v : Int × Int × Int × Place × Unit) : Option ((Int × Int × Place × Unit)) :=
  if decide (IntKind.i64.wrap ((8 : Int) * v.snd.snd.fst) < v.fst) = true then
    n_69l2 (v.fst, v.snd.fst, IntKind.i64.wrap ((2 : Int) * v.snd.snd.fst), v.snd.snd.snd.fst, ())
  else some ((v.snd.fst, v.snd.snd.fst, v.snd.snd.snd.fst, ()))
  partial_fixpoint
noncomputable def n_69 (v : Int × Int × Unit) : Option (Place × Unit) :=
  n_69l2 (v.fst, v.snd.fst, (1 : Int), Place.mk (0 : Int) (0 : Int), ()) >>= fun x1 =>
  some ((Place.mk x1.snd.fst (min x1.snd.fst x1.fst), ()))
noncomputable def call69 : Caller vw := fun _ _ _ _ _ => none
noncomputable def x69 : Xc vw := { P := Try.prog, n := 17, nm := id, call := call69, pre := fun _ => false, sh := sh69, joins := fun _ => none, regs := fun _ => none, loops := fun k => match k with | 2 => some { cut := c69l2, alts := [.exit 0], F := n_69l2 } | _ => none }
theorem call69_ok : CallerOk Try.prog call69 := call_none
theorem n_69l2_ok (C : Ctx) (hP : C.P = Try.prog) (hN : C.N = 17) : LoopOk C (loopNo (bodyOf Try.f69) 0) (sh := sh69) { cut := c69l2, alts := [.exit 0], F := n_69l2 } :=
  n_69l2.partial_correctness (motive := fun v out => AWpL C (loopNo (bodyOf Try.f69) 0) (encS vw (conc vw c69l2 v)) (OutQ sh69 [.exit 0] out)) fun F ih v out h =>
    loop_step (X := x69) (b := (loopNo (bodyOf Try.f69) 0)) hP hN Ty.mixed call69_ok (lok_all (X := x69) (c := (loopNo (bodyOf Try.f69) 0)) (kcast (by kernel_rfl : True = AllB (LoopsP C (x69)) (loopsIn (loopNo (bodyOf Try.f69) 0))) trivial)) ih (kcast (by kernel_rfl) h)
theorem n_69_ok : SigOk Try.prog 69 sig69 n_69 := fun v r x h hx =>
  fn_ok (X := x69) (sig := sig69) rfl Try.func69 (c := bodyOf Try.f69) (by kernel_rfl) Try.ntmps69 (by kernel_rfl) (by kernel_rfl) rfl Ty.mixed call69_ok rfl (fun C hP hN => (lok_all (X := x69) (c := (bodyOf Try.f69)) (kcast (by kernel_rfl : AllB (LoopsP C (x69)) [(loopNo (bodyOf Try.f69) 0)] = AllB (LoopsP C (x69)) (loopsIn (bodyOf Try.f69))) ⟨loop_at (X := x69) (b := (loopNo (bodyOf Try.f69) 0)) (by kernel_rfl) (n_69l2_ok C hP hN), trivial⟩))) (kcast (by kernel_rfl) h) x hx
end Go.Proofs.Ytdknkfioigcfiaa
