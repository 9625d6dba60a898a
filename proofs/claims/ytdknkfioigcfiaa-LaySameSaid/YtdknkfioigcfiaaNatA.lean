/-
  Functions of the program as functions of Lean, and that they say what the program does. Made by a program of mine.
-/
import Derived.Test.YtdknkfioigcfiaaView
import Derived.Test.YtdknkfioigcfiaaNatA1
namespace Go.Proofs.Ytdknkfioigcfiaa
open Go.Awp Go.Tx
set_option linter.unusedVariables false
set_option maxRecDepth 100000
noncomputable def c43l26 : Cut SN := { slots := [(2, .bp 2 0), (3, .bp 3 0), (4, .bp 4 0), (9, .bp 9 0), (10, .dat (.int .i64))], objs := [(2, .st .layoutT), (3, .st .targetT), (4, .st .placeT), (9, .st .placeT)] }
noncomputable def c43e1 : Cut SN := { slots := [(4, .bp 4 0), (9, .bp 9 0)], objs := [(4, .st .placeT), (9, .st .placeT)] }
noncomputable def c43z : Cut SN := { slots := [(4, .bp 4 0)], objs := [(4, .st .placeT)] }
noncomputable def sh43 : Shape vw := { exits := fun id => match id with | 1 => c43e1 | _ => { slots := [], objs := [] }, rcut := c43z }
noncomputable def sig43 : Sig vw := { params := [.dat (.st .layoutT), .dat (.st .targetT)], objs := [], rcut := c43z, rvars := [.cell 4 57], keep := [] }
noncomputable def c61l4 : Cut SN := { slots := [(0, .dat (.sl (.st .layoutT))), (3, .bp 3 0), (5, .bp 5 0), (6, .vh 1006), (7, .dat (.int .i64)), (8, .dat (.int .i64)), (9, .dat (.int .i64))], objs := [(3, .st .targetT), (5, .st .placeT), (1006, .vec 3 (.int .i64))] }
noncomputable def c61e0 : Cut SN := { slots := [(5, .bp 5 0), (6, .vh 1006), (7, .dat (.int .i64)), (8, .dat (.int .i64))], objs := [(5, .st .placeT), (1006, .vec 3 (.int .i64))] }
noncomputable def c61z : Cut SN := { slots := [(4, .dat (.sl (.int .i64))), (5, .bp 5 0)], objs := [(5, .st .placeT)] }
noncomputable def sh61 : Shape vw := { exits := fun id => match id with | 0 => c61e0 | _ => { slots := [], objs := [] }, rcut := c61z }
noncomputable def sig61 : Sig vw := { params := [.dat (.sl (.st .layoutT)), .dat (.st .targetT)], objs := [], rcut := c61z, rvars := [.tmp 4, .cell 5 57], keep := [] }
mutual
noncomputable def n_43l26 (v : Int × Layout × Target × Place × Place × Unit) : Option ((Place × Place × Unit)) :=
  if decide (v.fst < (↑v.snd.fst.parts.length : Int)) = true then
    if (0 : Int) ≤ v.fst then
      v.snd.fst.parts[v.fst.toNat]? >>= fun x1 =>
      n_43 (x1, v.snd.snd.fst, ()) >>= fun x2 =>
      n_43l26 (IntKind.i64.wrap (v.fst + (1 : Int)), v.snd.fst, v.snd.snd.fst, v.snd.snd.snd.fst, Place.mk (max v.snd.snd.snd.snd.fst.size x2.fst.size) (max v.snd.snd.snd.snd.fst.align x2.fst.align), ())
    else none
  else some ((v.snd.snd.snd.fst, v.snd.snd.snd.snd.fst, ()))
  partial_fixpoint
noncomputable def n_43 (v : Layout × Target × Unit) : Option (Place × Unit) :=
  if (v.fst.kind == (0 : Int)) = true then
    some ((Place.mk (0 : Int) (1 : Int), ()))
  else if (v.fst.kind == (1 : Int)) = true then
    some ((Place.mk (1 : Int) (1 : Int), ()))
  else if (v.fst.kind == (2 : Int)) = true then
    n_69 (v.fst.n, v.snd.fst.word, ()) >>= fun x1 =>
    some ((x1.fst, ()))
  else if (v.fst.kind == (3 : Int)) = true then
    some ((Place.mk v.snd.fst.word v.snd.fst.word, ()))
  else if (v.fst.kind == (4 : Int)) = true then
    v.fst.parts[Int.toNat (0 : Int)]? >>= fun x1 =>
    n_43 (x1, v.snd.fst, ()) >>= fun x2 =>
    n_70 (IntKind.i64.wrap (x2.fst.size + (1 : Int)), x2.fst.align, ()) >>= fun x3 =>
    some ((Place.mk x3.fst x2.fst.align, ()))
  else if (v.fst.kind == (5 : Int)) = true then
    v.fst.parts[Int.toNat (0 : Int)]? >>= fun x1 =>
    n_43 (x1, v.snd.fst, ()) >>= fun x2 =>
    some ((Place.mk (IntKind.i64.wrap (v.fst.n * x2.fst.size)) x2.fst.align, ()))
  else if (v.fst.kind == (6 : Int)) = true then
    n_61 (v.fst.parts, v.snd.fst, ()) >>= fun x1 =>
    some ((x1.snd.fst, ()))
  else if (v.fst.kind == (7 : Int)) = true then
    if decide (v.fst.n ≤ (256 : Int)) = true then
      some ((Place.mk (1 : Int) (1 : Int), ()))
    else some ((Place.mk (2 : Int) (min (2 : Int) v.snd.fst.word), ()))
  else if (v.fst.kind == (8 : Int)) = true then
    n_43l26 ((0 : Int), v.fst, v.snd.fst, Place.mk (0 : Int) (0 : Int), Place.mk (0 : Int) (1 : Int), ()) >>= fun x1 =>
    n_70 (IntKind.i64.wrap (x1.snd.fst.size + (1 : Int)), x1.snd.fst.align, ()) >>= fun x2 =>
    some ((Place.mk x2.fst x1.snd.fst.align, ()))
  else n_52 (v.fst, ()) >>= fun x1 =>
  if (x1.fst == (0 : Int)) = true then
    some ((Place.mk (0 : Int) (1 : Int), ()))
  else n_52 (v.fst, ()) >>= fun x2 =>
  n_69 (x2.fst, v.snd.fst.word, ()) >>= fun x3 =>
  some ((x3.fst, ()))
  partial_fixpoint
noncomputable def n_61 (v : (List Layout) × Target × Unit) : Option ((List Int) × Place × Unit) :=
  n_61l4 (v.fst, (0 : Int), (1 : Int), (0 : Int), v.snd.fst, Place.mk (0 : Int) (0 : Int), [], ()) >>= fun x1 =>
  n_70 (x1.fst, x1.snd.fst, ()) >>= fun x2 =>
  some ((x1.snd.snd.snd.fst, Place.mk x2.fst x1.snd.fst, ()))
  partial_fixpoint
noncomputable def n_61l4 (v : (List Layout) × Int × Int × Int × Target × Place × (List Int) × Unit) : Option ((Int × Int × Place × (List Int) × Unit)) :=
  if decide (v.snd.snd.snd.fst < (↑v.fst.length : Int)) = true then
    if (0 : Int) ≤ v.snd.snd.snd.fst then
      v.fst[v.snd.snd.snd.fst.toNat]? >>= fun x1 =>
      n_43 (x1, v.snd.snd.snd.snd.fst, ()) >>= fun x2 =>
      n_70 (v.snd.fst, x2.fst.align, ()) >>= fun x3 =>
      if v.snd.snd.snd.snd.snd.snd.fst.length + [x3.fst].length ≤ (4294967296 : Nat) then
        n_61l4 (v.fst, IntKind.i64.wrap (x3.fst + x2.fst.size), max v.snd.snd.fst x2.fst.align, IntKind.i64.wrap (v.snd.snd.snd.fst + (1 : Int)), v.snd.snd.snd.snd.fst, v.snd.snd.snd.snd.snd.fst, v.snd.snd.snd.snd.snd.snd.fst ++ [x3.fst], ())
      else none
    else none
  else some ((v.snd.fst, v.snd.snd.fst, v.snd.snd.snd.snd.snd.fst, v.snd.snd.snd.snd.snd.snd.fst, ()))
  partial_fixpoint
end
noncomputable def call43 (n_43l26 : Int × Layout × Target × Place × Place × Unit → Option ((Place × Place × Unit))) (n_43 : Layout × Target × Unit → Option (Place × Unit)) (n_61 : (List Layout) × Target × Unit → Option ((List Int) × Place × Unit)) (n_61l4 : (List Layout) × Int × Int × Int × Target × Place × (List Int) × Unit → Option ((Int × Int × Place × (List Int) × Unit))) : Caller vw := fun A fid args S k => match fid with | 43 => callPure Try.prog sig43 n_43 A args S k | 52 => callPure Try.prog sig52 n_52 A args S k | 61 => callPure Try.prog sig61 n_61 A args S k | 69 => callPure Try.prog sig69 n_69 A args S k | 70 => callPure Try.prog sig70 n_70 A args S k | _ => none
noncomputable def x43 (n_43l26 : Int × Layout × Target × Place × Place × Unit → Option ((Place × Place × Unit))) (n_43 : Layout × Target × Unit → Option (Place × Unit)) (n_61 : (List Layout) × Target × Unit → Option ((List Int) × Place × Unit)) (n_61l4 : (List Layout) × Int × Int × Int × Target × Place × (List Int) × Unit → Option ((Int × Int × Place × (List Int) × Unit))) : Xc vw := { P := Try.prog, n := 133, nm := id, call := call43 n_43l26 n_43 n_61 n_61l4, pre := fun _ => false, sh := sh43, joins := fun _ => none, regs := fun _ => none, loops := fun k => match k with | 26 => some { cut := c43l26, alts := [.exit 1], F := n_43l26 } | _ => none }
noncomputable def call61 (n_43l26 : Int × Layout × Target × Place × Place × Unit → Option ((Place × Place × Unit))) (n_43 : Layout × Target × Unit → Option (Place × Unit)) (n_61 : (List Layout) × Target × Unit → Option ((List Int) × Place × Unit)) (n_61l4 : (List Layout) × Int × Int × Int × Target × Place × (List Int) × Unit → Option ((Int × Int × Place × (List Int) × Unit))) : Caller vw := fun A fid args S k => match fid with | 43 => callPure Try.prog sig43 n_43 A args S k | 70 => callPure Try.prog sig70 n_70 A args S k | _ => none
noncomputable def x61 (n_43l26 : Int × Layout × Target × Place × Place × Unit → Option ((Place × Place × Unit))) (n_43 : Layout × Target × Unit → Option (Place × Unit)) (n_61 : (List Layout) × Target × Unit → Option ((List Int) × Place × Unit)) (n_61l4 : (List Layout) × Int × Int × Int × Target × Place × (List Int) × Unit → Option ((Int × Int × Place × (List Int) × Unit))) : Xc vw := { P := Try.prog, n := 46, nm := id, call := call61 n_43l26 n_43 n_61 n_61l4, pre := fun _ => false, sh := sh61, joins := fun _ => none, regs := fun _ => none, loops := fun k => match k with | 4 => some { cut := c61l4, alts := [.exit 0], F := n_61l4 } | _ => none }
abbrev mn_43l26 (v : Int × Layout × Target × Place × Place × Unit) (r : (Place × Place × Unit)) : Prop := (fun v out => ∀ C : Ctx, C.P = Try.prog → C.N = 133 → AWpL C (loopNo (bodyOf Try.f43) 0) (encS vw (conc vw c43l26 v)) (OutQ sh43 [.exit 1] out)) v r
abbrev mn_43 (v : Layout × Target × Unit) (r : Place × Unit) : Prop := (fun v r => ∀ x, resV Try.prog sig43 r = some x → FnOk Try.prog 43 (encL vw (startS sig43 v).len (startOs sig43 v).1) (encOs (startS sig43 v).len (startS sig43 v).own) (encV vw (conc vw sig43.rcut r).len x) (encOs (conc vw sig43.rcut r).len (kept sig43 r))) v r
abbrev mn_61 (v : (List Layout) × Target × Unit) (r : (List Int) × Place × Unit) : Prop := (fun v r => ∀ x, resV Try.prog sig61 r = some x → FnOk Try.prog 61 (encL vw (startS sig61 v).len (startOs sig61 v).1) (encOs (startS sig61 v).len (startS sig61 v).own) (encV vw (conc vw sig61.rcut r).len x) (encOs (conc vw sig61.rcut r).len (kept sig61 r))) v r
abbrev mn_61l4 (v : (List Layout) × Int × Int × Int × Target × Place × (List Int) × Unit) (r : (Int × Int × Place × (List Int) × Unit)) : Prop := (fun v out => ∀ C : Ctx, C.P = Try.prog → C.N = 46 → AWpL C (loopNo (bodyOf Try.f61) 0) (encS vw (conc vw c61l4 v)) (OutQ sh61 [.exit 0] out)) v r
theorem n_43l26_all : (∀ v r, n_43l26 v = some r → mn_43l26 v r) ∧ (∀ v r, n_43 v = some r → mn_43 v r) ∧ (∀ v r, n_61 v = some r → mn_61 v r) ∧ (∀ v r, n_61l4 v = some r → mn_61l4 v r) := by
  refine n_43l26.mutual_partial_correctness
    (motive_1 := mn_43l26)
    (motive_2 := mn_43)
    (motive_3 := mn_61)
    (motive_4 := mn_61l4)
    ?_ ?_ ?_ ?_
  · exact (fun f0 f1 h0 h1 v out h C hP hN => loop_step (X := x43 f0 f1 (fun _ => none) (fun _ => none)) (b := (loopNo (bodyOf Try.f43) 0)) hP hN Ty.mixed (by
        intro A fid args S dst k r h
        unfold x43 call43 at h
        simp only at h
        split at h
        · exact callPure_ok ((fun v r x h hx => h1 v r h x hx)) rfl rfl h
        · exact callPure_ok (n_52_ok) rfl rfl h
        · exact callPure_ok ((fun v r x h hx => by cases h)) rfl rfl h
        · exact callPure_ok (n_69_ok) rfl rfl h
        · exact callPure_ok (n_70_ok) rfl rfl h
        · cases h) (lok_all (X := x43 f0 f1 (fun _ => none) (fun _ => none)) (c := (loopNo (bodyOf Try.f43) 0)) (kcast (by kernel_rfl : True = AllB (LoopsP C (x43 f0 f1 (fun _ => none) (fun _ => none))) (loopsIn (loopNo (bodyOf Try.f43) 0))) trivial)) (cut := c43l26) (alts := [.exit 1]) (F := f0) (fun v out h => h0 v out h C hP hN) (kcast (by kernel_rfl) h))
  · exact (fun f0 f1 f2 h0 h1 h2 v r h x hx => fn_ok (X := x43 f0 f1 f2 (fun _ => none)) (sig := sig43) rfl Try.func43 (c := bodyOf Try.f43) (by kernel_rfl) Try.ntmps43 (by kernel_rfl) (by kernel_rfl) rfl Ty.mixed (by
        intro A fid args S dst k r h
        unfold x43 call43 at h
        simp only at h
        split at h
        · exact callPure_ok ((fun v r x h hx => h1 v r h x hx)) rfl rfl h
        · exact callPure_ok (n_52_ok) rfl rfl h
        · exact callPure_ok ((fun v r x h hx => h2 v r h x hx)) rfl rfl h
        · exact callPure_ok (n_69_ok) rfl rfl h
        · exact callPure_ok (n_70_ok) rfl rfl h
        · cases h) rfl (fun C hP hN => (lok_all (X := x43 f0 f1 f2 (fun _ => none)) (c := (bodyOf Try.f43)) (kcast (by kernel_rfl : AllB (LoopsP C (x43 f0 f1 f2 (fun _ => none))) [(loopNo (bodyOf Try.f43) 0)] = AllB (LoopsP C (x43 f0 f1 f2 (fun _ => none))) (loopsIn (bodyOf Try.f43))) ⟨loop_at (X := x43 f0 f1 f2 (fun _ => none)) (b := (loopNo (bodyOf Try.f43) 0)) (by kernel_rfl) (show LoopOk C (loopNo (bodyOf Try.f43) 0) (sh := sh43) { cut := c43l26, alts := [.exit 1], F := f0 } from fun v out h => h0 v out h C hP hN), trivial⟩))) (kcast (by kernel_rfl) h) x hx)
  · exact (fun f0 h0 v r h x hx => fn_ok (X := x61 (fun _ => none) (fun _ => none) (fun _ => none) f0) (sig := sig61) rfl Try.func61 (c := bodyOf Try.f61) (by kernel_rfl) Try.ntmps61 (by kernel_rfl) (by kernel_rfl) rfl Ty.mixed (by
        intro A fid args S dst k r h
        unfold x61 call61 at h
        simp only at h
        split at h
        · exact callPure_ok ((fun v r x h hx => by cases h)) rfl rfl h
        · exact callPure_ok (n_70_ok) rfl rfl h
        · cases h) rfl (fun C hP hN => (lok_all (X := x61 (fun _ => none) (fun _ => none) (fun _ => none) f0) (c := (bodyOf Try.f61)) (kcast (by kernel_rfl : AllB (LoopsP C (x61 (fun _ => none) (fun _ => none) (fun _ => none) f0)) [(loopNo (bodyOf Try.f61) 0)] = AllB (LoopsP C (x61 (fun _ => none) (fun _ => none) (fun _ => none) f0)) (loopsIn (bodyOf Try.f61))) ⟨loop_at (X := x61 (fun _ => none) (fun _ => none) (fun _ => none) f0) (b := (loopNo (bodyOf Try.f61) 0)) (by kernel_rfl) (show LoopOk C (loopNo (bodyOf Try.f61) 0) (sh := sh61) { cut := c61l4, alts := [.exit 0], F := f0 } from fun v out h => h0 v out h C hP hN), trivial⟩))) (kcast (by kernel_rfl) h) x hx)
  · exact (fun f0 f1 h0 h1 v out h C hP hN => loop_step (X := x61 (fun _ => none) f0 (fun _ => none) f1) (b := (loopNo (bodyOf Try.f61) 0)) hP hN Ty.mixed (by
        intro A fid args S dst k r h
        unfold x61 call61 at h
        simp only at h
        split at h
        · exact callPure_ok ((fun v r x h hx => h0 v r h x hx)) rfl rfl h
        · exact callPure_ok (n_70_ok) rfl rfl h
        · cases h) (lok_all (X := x61 (fun _ => none) f0 (fun _ => none) f1) (c := (loopNo (bodyOf Try.f61) 0)) (kcast (by kernel_rfl : True = AllB (LoopsP C (x61 (fun _ => none) f0 (fun _ => none) f1)) (loopsIn (loopNo (bodyOf Try.f61) 0))) trivial)) (cut := c61l4) (alts := [.exit 0]) (F := f1) (fun v out h => h1 v out h C hP hN) (kcast (by kernel_rfl) h))
theorem n_43l26_pc : ∀ v out, n_43l26 v = some out → (fun v out => ∀ C : Ctx, C.P = Try.prog → C.N = 133 → AWpL C (loopNo (bodyOf Try.f43) 0) (encS vw (conc vw c43l26 v)) (OutQ sh43 [.exit 1] out)) v out := n_43l26_all.1
theorem n_43_ok : SigOk Try.prog 43 sig43 n_43 := fun v r x h hx => n_43l26_all.2.1 v r h x hx
theorem n_61_ok : SigOk Try.prog 61 sig61 n_61 := fun v r x h hx => n_43l26_all.2.2.1 v r h x hx
theorem n_61l4_pc : ∀ v out, n_61l4 v = some out → (fun v out => ∀ C : Ctx, C.P = Try.prog → C.N = 46 → AWpL C (loopNo (bodyOf Try.f61) 0) (encS vw (conc vw c61l4 v)) (OutQ sh61 [.exit 0] out)) v out := n_43l26_all.2.2.2

noncomputable def c42z : Cut SN := { slots := [(4, .dat (.int .i64))], objs := [] }
noncomputable def sh42 : Shape vw := { exits := fun _ => { slots := [], objs := [] }, rcut := c42z }
noncomputable def sig42 : Sig vw := { params := [.dat (.st .layoutT), .dat (.st .targetT)], objs := [], rcut := c42z, rvars := [.tmp 4], keep := [] }
noncomputable def n_42 (v : Layout × Target × Unit) : Option (Int × Unit) :=
  n_43 (v.fst, v.snd.fst, ()) >>= fun x1 =>
  if decide (x1.fst.size > (4096 : Int)) = true then
    some (((3 : Int), ()))
  else some (((0 : Int), ()))
noncomputable def call42 : Caller vw := fun A fid args S k => match fid with | 43 => callPure Try.prog sig43 n_43 A args S k | _ => none
noncomputable def x42 : Xc vw := { P := Try.prog, n := 10, nm := id, call := call42, pre := fun _ => false, sh := sh42, joins := fun _ => none, regs := fun _ => none, loops := fun _ => none }
theorem call42_ok : CallerOk Try.prog call42 := fun A fid args S dst k r h => by
  unfold call42 at h
  split at h
  · exact callPure_ok (n_43_ok) rfl rfl h
  · cases h
theorem n_42_ok : SigOk Try.prog 42 sig42 n_42 := fun v r x h hx =>
  fn_ok (X := x42) (sig := sig42) rfl Try.func42 (c := bodyOf Try.f42) (by kernel_rfl) Try.ntmps42 (by kernel_rfl) (by kernel_rfl) rfl Ty.mixed call42_ok rfl (fun C hP hN => (lok_all (X := x42) (c := (bodyOf Try.f42)) (kcast (by kernel_rfl : True = AllB (LoopsP C (x42)) (loopsIn (bodyOf Try.f42))) trivial))) (kcast (by kernel_rfl) h) x hx

noncomputable def c14z : Cut SN := { slots := [(4, .dat (.int .i64)), (5, .dat (.int .i64))], objs := [] }
noncomputable def sh14 : Shape vw := { exits := fun _ => { slots := [], objs := [] }, rcut := c14z }
noncomputable def sig14 : Sig vw := { params := [.dat (.st .layoutT), .dat (.st .targetT)], objs := [], rcut := c14z, rvars := [.tmp 4, .tmp 5], keep := [] }
noncomputable def n_14 (v : Layout × Target × Unit) : Option (Int × Int × Unit) :=
  n_41 (v.fst, v.snd.fst, ()) >>= fun x1 =>
  if (x1.fst != (0 : Int)) = true then
    some (((0 : Int), x1.fst, ()))
  else n_42 (v.fst, v.snd.fst, ()) >>= fun x2 =>
  if (x2.fst != (0 : Int)) = true then
    some (((0 : Int), x2.fst, ()))
  else n_43 (v.fst, v.snd.fst, ()) >>= fun x3 =>
  some ((x3.fst.size, (0 : Int), ()))
noncomputable def call14 : Caller vw := fun A fid args S k => match fid with | 41 => callPure Try.prog sig41 n_41 A args S k | 42 => callPure Try.prog sig42 n_42 A args S k | 43 => callPure Try.prog sig43 n_43 A args S k | _ => none
noncomputable def x14 : Xc vw := { P := Try.prog, n := 24, nm := id, call := call14, pre := fun _ => false, sh := sh14, joins := fun _ => none, regs := fun _ => none, loops := fun _ => none }
theorem call14_ok : CallerOk Try.prog call14 := fun A fid args S dst k r h => by
  unfold call14 at h
  split at h
  · exact callPure_ok (n_41_ok) rfl rfl h
  · exact callPure_ok (n_42_ok) rfl rfl h
  · exact callPure_ok (n_43_ok) rfl rfl h
  · cases h
theorem n_14_ok : SigOk Try.prog 14 sig14 n_14 := fun v r x h hx =>
  fn_ok (X := x14) (sig := sig14) rfl Try.func14 (c := bodyOf Try.f14) (by kernel_rfl) Try.ntmps14 (by kernel_rfl) (by kernel_rfl) rfl Ty.mixed call14_ok rfl (fun C hP hN => (lok_all (X := x14) (c := (bodyOf Try.f14)) (kcast (by kernel_rfl : True = AllB (LoopsP C (x14)) (loopsIn (bodyOf Try.f14))) trivial))) (kcast (by kernel_rfl) h) x hx

noncomputable def c16z : Cut SN := { slots := [(4, .dat (.int .i64)), (5, .dat (.int .i64))], objs := [] }
noncomputable def sh16 : Shape vw := { exits := fun _ => { slots := [], objs := [] }, rcut := c16z }
noncomputable def sig16 : Sig vw := { params := [.dat (.st .layoutT), .dat (.st .targetT)], objs := [], rcut := c16z, rvars := [.tmp 4, .tmp 5], keep := [] }
noncomputable def n_16 (v : Layout × Target × Unit) : Option (Int × Int × Unit) :=
  n_14 (v.fst, v.snd.fst, ()) >>= fun x1 =>
  if (x1.snd.fst != (0 : Int)) = true then
    some (((0 : Int), x1.snd.fst, ()))
  else n_43 (v.fst, v.snd.fst, ()) >>= fun x2 =>
  some ((x2.fst.align, (0 : Int), ()))
noncomputable def call16 : Caller vw := fun A fid args S k => match fid with | 14 => callPure Try.prog sig14 n_14 A args S k | 43 => callPure Try.prog sig43 n_43 A args S k | _ => none
noncomputable def x16 : Xc vw := { P := Try.prog, n := 21, nm := id, call := call16, pre := fun _ => false, sh := sh16, joins := fun _ => none, regs := fun _ => none, loops := fun _ => none }
theorem call16_ok : CallerOk Try.prog call16 := fun A fid args S dst k r h => by
  unfold call16 at h
  split at h
  · exact callPure_ok (n_14_ok) rfl rfl h
  · exact callPure_ok (n_43_ok) rfl rfl h
  · cases h
theorem n_16_ok : SigOk Try.prog 16 sig16 n_16 := fun v r x h hx =>
  fn_ok (X := x16) (sig := sig16) rfl Try.func16 (c := bodyOf Try.f16) (by kernel_rfl) Try.ntmps16 (by kernel_rfl) (by kernel_rfl) rfl Ty.mixed call16_ok rfl (fun C hP hN => (lok_all (X := x16) (c := (bodyOf Try.f16)) (kcast (by kernel_rfl : True = AllB (LoopsP C (x16)) (loopsIn (bodyOf Try.f16))) trivial))) (kcast (by kernel_rfl) h) x hx

noncomputable def c18z : Cut SN := { slots := [(2, .dat (.int .i64)), (3, .dat (.int .i64)), (4, .dat (.int .i64))], objs := [] }
noncomputable def sh18 : Shape vw := { exits := fun _ => { slots := [], objs := [] }, rcut := c18z }
noncomputable def sig18 : Sig vw := { params := [.dat (.st .layoutT)], objs := [], rcut := c18z, rvars := [.tmp 2, .tmp 3, .tmp 4], keep := [] }
noncomputable def n_18 (v : Layout × Unit) : Option (Int × Int × Int × Unit) :=
  n_20 (v.fst, ()) >>= fun x1 =>
  if (x1.fst != (0 : Int)) = true then
    some (((0 : Int), (0 : Int), x1.fst, ()))
  else n_45sf4a5 (v.fst, (1 : Int), Counted.mk (0 : Int) (0 : Int) false, ()) >>= fun x2 =>
  some ((x2.fst.count, x2.fst.deep, (0 : Int), ()))
noncomputable def call18 : Caller vw := fun A fid args S k => match fid with | 20 => callPure Try.prog sig20 n_20 A args S k | 45 => callObj Try.prog sig45sf4a5 n_45sf4a5 A args S k | _ => none
noncomputable def x18 : Xc vw := { P := Try.prog, n := 18, nm := id, call := call18, pre := fun _ => false, sh := sh18, joins := fun _ => none, regs := fun _ => none, loops := fun _ => none }
theorem call18_ok : CallerOk Try.prog call18 := fun A fid args S dst k r h => by
  unfold call18 at h
  split at h
  · exact callPure_ok (n_20_ok) rfl rfl h
  · exact callObj_ok (n_45sf4a5_ok) h
  · cases h
theorem n_18_ok : SigOk Try.prog 18 sig18 n_18 := fun v r x h hx =>
  fn_ok (X := x18) (sig := sig18) rfl Try.func18 (c := bodyOf Try.f18) (by kernel_rfl) Try.ntmps18 (by kernel_rfl) (by kernel_rfl) rfl Ty.mixed call18_ok rfl (fun C hP hN => (lok_all (X := x18) (c := (bodyOf Try.f18)) (kcast (by kernel_rfl : True = AllB (LoopsP C (x18)) (loopsIn (bodyOf Try.f18))) trivial))) (kcast (by kernel_rfl) h) x hx

noncomputable def c19z : Cut SN := { slots := [(2, .dat (.int .i64)), (3, .dat (.int .i64)), (4, .dat (.int .i64))], objs := [] }
noncomputable def sh19 : Shape vw := { exits := fun _ => { slots := [], objs := [] }, rcut := c19z }
noncomputable def sig19 : Sig vw := { params := [.dat (.st .layoutT)], objs := [], rcut := c19z, rvars := [.tmp 2, .tmp 3, .tmp 4], keep := [] }
noncomputable def n_19 (v : Layout × Unit) : Option (Int × Int × Int × Unit) :=
  n_21 (v.fst, ()) >>= fun x1 =>
  if (x1.fst != (0 : Int)) = true then
    some (((0 : Int), (0 : Int), x1.fst, ()))
  else n_46 (v.fst, ()) >>= fun x2 =>
  n_47 (v.fst, ()) >>= fun x3 =>
  some (((↑x2.fst.length : Int), x3.fst, (0 : Int), ()))
noncomputable def call19 : Caller vw := fun A fid args S k => match fid with | 21 => callPure Try.prog sig21 n_21 A args S k | 46 => callPure Try.prog sig46 n_46 A args S k | 47 => callPure Try.prog sig47 n_47 A args S k | _ => none
noncomputable def x19 : Xc vw := { P := Try.prog, n := 16, nm := id, call := call19, pre := fun _ => false, sh := sh19, joins := fun _ => none, regs := fun _ => none, loops := fun _ => none }
theorem call19_ok : CallerOk Try.prog call19 := fun A fid args S dst k r h => by
  unfold call19 at h
  split at h
  · exact callPure_ok (n_21_ok) rfl rfl h
  · exact callPure_ok (n_46_ok) rfl rfl h
  · exact callPure_ok (n_47_ok) rfl rfl h
  · cases h
theorem n_19_ok : SigOk Try.prog 19 sig19 n_19 := fun v r x h hx =>
  fn_ok (X := x19) (sig := sig19) rfl Try.func19 (c := bodyOf Try.f19) (by kernel_rfl) Try.ntmps19 (by kernel_rfl) (by kernel_rfl) rfl Ty.mixed call19_ok rfl (fun C hP hN => (lok_all (X := x19) (c := (bodyOf Try.f19)) (kcast (by kernel_rfl : True = AllB (LoopsP C (x19)) (loopsIn (bodyOf Try.f19))) trivial))) (kcast (by kernel_rfl) h) x hx

noncomputable def c24l3 : Cut SN := { slots := [(1, .bp 1 0), (2, .bp 2 0), (3, .vh 1003), (7, .dat (.sl (.st .layoutT))), (8, .dat (.int .i64)), (9, .dat (.int .i64))], objs := [(1, .st .layoutT), (2, .st .layoutT), (1003, .vec 24 (.st .layoutT))] }
noncomputable def c24e0 : Cut SN := { slots := [(1, .bp 1 0), (2, .bp 2 0), (3, .vh 1003)], objs := [(1, .st .layoutT), (2, .st .layoutT), (1003, .vec 24 (.st .layoutT))] }
noncomputable def c24z : Cut SN := { slots := [(2, .bp 2 0)], objs := [(2, .st .layoutT)] }
noncomputable def sh24 : Shape vw := { exits := fun id => match id with | 0 => c24e0 | _ => { slots := [], objs := [] }, rcut := c24z }
noncomputable def sig24 : Sig vw := { params := [.dat (.st .layoutT)], objs := [], rcut := c24z, rvars := [.cell 2 24], keep := [] }
mutual
noncomputable def n_24l3 (v : (List Layout) × Int × Int × Layout × Layout × (List Layout) × Unit) : Option ((Layout × Layout × (List Layout) × Unit)) :=
  if decide (v.snd.snd.fst < v.snd.fst) = true then
    if (0 : Int) ≤ v.snd.snd.fst then
      v.fst[v.snd.snd.fst.toNat]? >>= fun x1 =>
      n_24 (x1, ()) >>= fun x2 =>
      if v.snd.snd.snd.snd.snd.fst.length + [x2.fst].length ≤ (4294967296 : Nat) then
        n_24l3 (v.fst, v.snd.fst, IntKind.i64.wrap (v.snd.snd.fst + (1 : Int)), v.snd.snd.snd.fst, v.snd.snd.snd.snd.fst, v.snd.snd.snd.snd.snd.fst ++ [x2.fst], ())
      else none
    else none
  else some ((v.snd.snd.snd.fst, v.snd.snd.snd.snd.fst, v.snd.snd.snd.snd.snd.fst, ()))
  partial_fixpoint
noncomputable def n_24 (v : Layout × Unit) : Option (Layout × Unit) :=
  n_24l3 (v.fst.parts, (↑v.fst.parts.length : Int), (0 : Int), v.fst, Layout.mk (0 : Int) (0 : Int) false [], [], ()) >>= fun x1 =>
  some ((Layout.mk x1.fst.kind x1.fst.n x1.fst.flag x1.snd.snd.fst, ()))
  partial_fixpoint
end
noncomputable def call24 (n_24l3 : (List Layout) × Int × Int × Layout × Layout × (List Layout) × Unit → Option ((Layout × Layout × (List Layout) × Unit))) (n_24 : Layout × Unit → Option (Layout × Unit)) : Caller vw := fun A fid args S k => match fid with | 24 => callPure Try.prog sig24 n_24 A args S k | _ => none
noncomputable def x24 (n_24l3 : (List Layout) × Int × Int × Layout × Layout × (List Layout) × Unit → Option ((Layout × Layout × (List Layout) × Unit))) (n_24 : Layout × Unit → Option (Layout × Unit)) : Xc vw := { P := Try.prog, n := 22, nm := id, call := call24 n_24l3 n_24, pre := fun _ => false, sh := sh24, joins := fun _ => none, regs := fun _ => none, loops := fun k => match k with | 3 => some { cut := c24l3, alts := [.exit 0], F := n_24l3 } | _ => none }
abbrev mn_24l3 (v : (List Layout) × Int × Int × Layout × Layout × (List Layout) × Unit) (r : (Layout × Layout × (List Layout) × Unit)) : Prop := (fun v out => ∀ C : Ctx, C.P = Try.prog → C.N = 22 → AWpL C (loopNo (bodyOf Try.f24) 0) (encS vw (conc vw c24l3 v)) (OutQ sh24 [.exit 0] out)) v r
abbrev mn_24 (v : Layout × Unit) (r : Layout × Unit) : Prop := (fun v r => ∀ x, resV Try.prog sig24 r = some x → FnOk Try.prog 24 (encL vw (startS sig24 v).len (startOs sig24 v).1) (encOs (startS sig24 v).len (startS sig24 v).own) (encV vw (conc vw sig24.rcut r).len x) (encOs (conc vw sig24.rcut r).len (kept sig24 r))) v r
theorem n_24l3_all : (∀ v r, n_24l3 v = some r → mn_24l3 v r) ∧ (∀ v r, n_24 v = some r → mn_24 v r) := by
  refine n_24l3.mutual_partial_correctness
    (motive_1 := mn_24l3)
    (motive_2 := mn_24)
    ?_ ?_
  · exact (fun f0 f1 h0 h1 v out h C hP hN => loop_step (X := x24 f0 f1) (b := (loopNo (bodyOf Try.f24) 0)) hP hN Ty.mixed (by
        intro A fid args S dst k r h
        unfold x24 call24 at h
        simp only at h
        split at h
        · exact callPure_ok ((fun v r x h hx => h1 v r h x hx)) rfl rfl h
        · cases h) (lok_all (X := x24 f0 f1) (c := (loopNo (bodyOf Try.f24) 0)) (kcast (by kernel_rfl : True = AllB (LoopsP C (x24 f0 f1)) (loopsIn (loopNo (bodyOf Try.f24) 0))) trivial)) (cut := c24l3) (alts := [.exit 0]) (F := f0) (fun v out h => h0 v out h C hP hN) (kcast (by kernel_rfl) h))
  · exact (fun f0 h0 v r h x hx => fn_ok (X := x24 f0 (fun _ => none)) (sig := sig24) rfl Try.func24 (c := bodyOf Try.f24) (by kernel_rfl) Try.ntmps24 (by kernel_rfl) (by kernel_rfl) rfl Ty.mixed (by
        intro A fid args S dst k r h
        unfold x24 call24 at h
        simp only at h
        split at h
        · exact callPure_ok ((fun v r x h hx => by cases h)) rfl rfl h
        · cases h) rfl (fun C hP hN => (lok_all (X := x24 f0 (fun _ => none)) (c := (bodyOf Try.f24)) (kcast (by kernel_rfl : AllB (LoopsP C (x24 f0 (fun _ => none))) [(loopNo (bodyOf Try.f24) 0)] = AllB (LoopsP C (x24 f0 (fun _ => none))) (loopsIn (bodyOf Try.f24))) ⟨loop_at (X := x24 f0 (fun _ => none)) (b := (loopNo (bodyOf Try.f24) 0)) (by kernel_rfl) (show LoopOk C (loopNo (bodyOf Try.f24) 0) (sh := sh24) { cut := c24l3, alts := [.exit 0], F := f0 } from fun v out h => h0 v out h C hP hN), trivial⟩))) (kcast (by kernel_rfl) h) x hx)
theorem n_24l3_pc : ∀ v out, n_24l3 v = some out → (fun v out => ∀ C : Ctx, C.P = Try.prog → C.N = 22 → AWpL C (loopNo (bodyOf Try.f24) 0) (encS vw (conc vw c24l3 v)) (OutQ sh24 [.exit 0] out)) v out := n_24l3_all.1
theorem n_24_ok : SigOk Try.prog 24 sig24 n_24 := fun v r x h hx => n_24l3_all.2 v r h x hx

noncomputable def c24sba69l3 : Cut SN := { slots := [(1, .bp 1 0), (2, .bp 2 0), (3, .vh 1003), (7, .dat (.sl (.st .layoutT))), (8, .dat (.int .i64)), (9, .dat (.int .i64))], objs := [(1, .st .layoutT), (2, .st .layoutT), (1003, .vec 24 (.st .layoutT))] }
noncomputable def c24sba69e0 : Cut SN := { slots := [(1, .bp 1 0), (2, .bp 2 0), (3, .vh 1003)], objs := [(1, .st .layoutT), (2, .st .layoutT), (1003, .vec 24 (.st .layoutT))] }
noncomputable def c24sba69z : Cut SN := { slots := [(2, .bp 2 0)], objs := [(2, .box [.dat (.int .i64), .dat (.int .i64), .dat .bool, .vh 6023]), (6023, .vec 24 (.st .layoutT))] }
noncomputable def sh24sba69 : Shape vw := { exits := fun id => match id with | 0 => c24sba69e0 | _ => { slots := [], objs := [] }, rcut := c24sba69z }
noncomputable def sig24sba69 : Sig vw := { params := [.dat (.st .layoutT)], objs := [], rcut := c24sba69z, rvars := [.cell 2 24], keep := [6023] }
noncomputable def n_24sba69l3 (v : (List Layout) × Int × Int × Layout × Layout × (List Layout) × Unit) : Option ((Layout × Layout × (List Layout) × Unit)) :=
  if decide (v.snd.snd.fst < v.snd.fst) = true then
    if (0 : Int) ≤ v.snd.snd.fst then
      v.fst[v.snd.snd.fst.toNat]? >>= fun x1 =>
      n_24 (x1, ()) >>= fun x2 =>
      if v.snd.snd.snd.snd.snd.fst.length + [x2.fst].length ≤ (4294967296 : Nat) then
        n_24sba69l3 (v.fst, v.snd.fst, IntKind.i64.wrap (v.snd.snd.fst + (1 : Int)), v.snd.snd.snd.fst, v.snd.snd.snd.snd.fst, v.snd.snd.snd.snd.snd.fst ++ [x2.fst], ())
      else none
    else none
  else some ((v.snd.snd.snd.fst, v.snd.snd.snd.snd.fst, v.snd.snd.snd.snd.snd.fst, ()))
  partial_fixpoint
noncomputable def n_24sba69 (v : Layout × Unit) : Option (Int × Int × Bool × (List Layout) × Unit) :=
  n_24sba69l3 (v.fst.parts, (↑v.fst.parts.length : Int), (0 : Int), v.fst, Layout.mk (0 : Int) (0 : Int) false [], [], ()) >>= fun x1 =>
  some ((x1.fst.kind, x1.fst.n, x1.fst.flag, x1.snd.snd.fst, ()))
noncomputable def call24sba69 : Caller vw := fun A fid args S k => match fid with | 24 => callPure Try.prog sig24 n_24 A args S k | _ => none
noncomputable def x24sba69 : Xc vw := { P := Try.prog, n := 22, nm := id, call := call24sba69, pre := fun _ => false, sh := sh24sba69, joins := fun _ => none, regs := fun _ => none, loops := fun k => match k with | 3 => some { cut := c24sba69l3, alts := [.exit 0], F := n_24sba69l3 } | _ => none }
theorem call24sba69_ok : CallerOk Try.prog call24sba69 := fun A fid args S dst k r h => by
  unfold call24sba69 at h
  split at h
  · exact callPure_ok (n_24_ok) rfl rfl h
  · cases h
theorem n_24sba69l3_ok (C : Ctx) (hP : C.P = Try.prog) (hN : C.N = 22) : LoopOk C (loopNo (bodyOf Try.f24) 0) (sh := sh24sba69) { cut := c24sba69l3, alts := [.exit 0], F := n_24sba69l3 } :=
  n_24sba69l3.partial_correctness (motive := fun v out => AWpL C (loopNo (bodyOf Try.f24) 0) (encS vw (conc vw c24sba69l3 v)) (OutQ sh24sba69 [.exit 0] out)) fun F ih v out h =>
    loop_step (X := x24sba69) (b := (loopNo (bodyOf Try.f24) 0)) hP hN Ty.mixed call24sba69_ok (lok_all (X := x24sba69) (c := (loopNo (bodyOf Try.f24) 0)) (kcast (by kernel_rfl : True = AllB (LoopsP C (x24sba69)) (loopsIn (loopNo (bodyOf Try.f24) 0))) trivial)) ih (kcast (by kernel_rfl) h)
theorem n_24sba69_ok : SigOk Try.prog 24 sig24sba69 n_24sba69 := fun v r x h hx =>
  fn_ok (X := x24sba69) (sig := sig24sba69) rfl Try.func24 (c := bodyOf Try.f24) (by kernel_rfl) Try.ntmps24 (by kernel_rfl) (by kernel_rfl) rfl Ty.mixed call24sba69_ok rfl (fun C hP hN => (lok_all (X := x24sba69) (c := (bodyOf Try.f24)) (kcast (by kernel_rfl : AllB (LoopsP C (x24sba69)) [(loopNo (bodyOf Try.f24) 0)] = AllB (LoopsP C (x24sba69)) (loopsIn (bodyOf Try.f24))) ⟨loop_at (X := x24sba69) (b := (loopNo (bodyOf Try.f24) 0)) (by kernel_rfl) (n_24sba69l3_ok C hP hN), trivial⟩))) (kcast (by kernel_rfl) h) x hx

noncomputable def c25r1 : Cut SN := { slots := [(4, .dat .bool)], objs := [] }
noncomputable def c25z : Cut SN := { slots := [(4, .dat .bool)], objs := [] }
noncomputable def sh25 : Shape vw := { exits := fun _ => { slots := [], objs := [] }, rcut := c25z }
noncomputable def sig25 : Sig vw := { params := [.dat (.st .layoutT), .dat (.st .layoutT)], objs := [], rcut := c25z, rvars := [.tmp 4], keep := [] }
noncomputable def c54c25l4 : Cut SN := { slots := [(1, .dat (.sl (.st .layoutT))), (2, .fn 25 [] []), (15, .dat (.sl (.st .layoutT))), (16, .dat (.int .i64)), (17, .dat (.int .i64))], objs := [] }
noncomputable def c54c25e0 : Cut SN := { slots := [], objs := [] }
noncomputable def c54c25z : Cut SN := { slots := [(6, .dat .bool)], objs := [] }
noncomputable def sh54c25 : Shape vw := { exits := fun id => match id with | 0 => c54c25e0 | _ => { slots := [], objs := [] }, rcut := c54c25z }
noncomputable def sig54c25 : Sig vw := { params := [.dat (.sl (.st .layoutT)), .dat (.sl (.st .layoutT)), .fn 25 [] []], objs := [], rcut := c54c25z, rvars := [.tmp 6], keep := [] }
mutual
noncomputable def n_25 (v : Layout × Layout × Unit) : Option (Bool × Unit) :=
  (if (v.fst.kind == v.snd.fst.kind) = true then
      if (v.fst.n == v.snd.fst.n) = true then
        if (v.fst.flag == v.snd.fst.flag) = true then
          n_54c25 (v.fst.parts, v.snd.fst.parts, ()) >>= fun x1 =>
          some ((x1.fst, ()))
        else some ((false, ()))
      else some ((false, ()))
    else some ((false, ()))) >>= fun x1 =>
  some ((x1.fst, ()))
  partial_fixpoint
noncomputable def n_54c25 (v : (List Layout) × (List Layout) × Unit) : Option (Bool × Unit) :=
  if ((↑v.fst.length : Int) != (↑v.snd.fst.length : Int)) = true then
    some ((false, ()))
  else n_54c25l4 (v.snd.fst, v.fst, (↑v.fst.length : Int), (0 : Int), ()) >>= fun x1 => match x1 with
    | .inl y1 => some y1
    | .inr y1 => some ((true, ()))
  partial_fixpoint
noncomputable def n_54c25l4 (v : (List Layout) × (List Layout) × Int × Int × Unit) : Option (((Bool × Unit) ⊕ (Unit))) :=
  if decide (v.snd.snd.snd.fst < v.snd.snd.fst) = true then
    if (0 : Int) ≤ v.snd.snd.snd.fst then
      v.snd.fst[v.snd.snd.snd.fst.toNat]? >>= fun x1 =>
      if (0 : Int) ≤ v.snd.snd.snd.fst then
        v.fst[v.snd.snd.snd.fst.toNat]? >>= fun x2 =>
        n_25 (x1, x2, ()) >>= fun x3 =>
        if (!x3.fst) = true then
          some (Sum.inl (false, ()))
        else n_54c25l4 (v.fst, v.snd.fst, v.snd.snd.fst, IntKind.i64.wrap (v.snd.snd.snd.fst + (1 : Int)), ())
      else none
    else none
  else some (Sum.inr ())
  partial_fixpoint
end
noncomputable def call25 (n_25 : Layout × Layout × Unit → Option (Bool × Unit)) (n_54c25 : (List Layout) × (List Layout) × Unit → Option (Bool × Unit)) (n_54c25l4 : (List Layout) × (List Layout) × Int × Int × Unit → Option (((Bool × Unit) ⊕ (Unit)))) : Caller vw := fun A fid args S k => match fid with | 54 => callPure Try.prog sig54c25 n_54c25 A args S k | _ => none
noncomputable def x25 (n_25 : Layout × Layout × Unit → Option (Bool × Unit)) (n_54c25 : (List Layout) × (List Layout) × Unit → Option (Bool × Unit)) (n_54c25l4 : (List Layout) × (List Layout) × Int × Int × Unit → Option (((Bool × Unit) ⊕ (Unit)))) : Xc vw := { P := Try.prog, n := 31, nm := id, call := call25 n_25 n_54c25 n_54c25l4, pre := fun _ => false, sh := sh25, joins := fun _ => none, regs := fun k => match k with | 1 => some c25r1 | _ => none, loops := fun _ => none }
noncomputable def call54c25 (n_25 : Layout × Layout × Unit → Option (Bool × Unit)) (n_54c25 : (List Layout) × (List Layout) × Unit → Option (Bool × Unit)) (n_54c25l4 : (List Layout) × (List Layout) × Int × Int × Unit → Option (((Bool × Unit) ⊕ (Unit)))) : Caller vw := fun A fid args S k => match fid with | 25 => callPure Try.prog sig25 n_25 A args S k | _ => none
noncomputable def x54c25 (n_25 : Layout × Layout × Unit → Option (Bool × Unit)) (n_54c25 : (List Layout) × (List Layout) × Unit → Option (Bool × Unit)) (n_54c25l4 : (List Layout) × (List Layout) × Int × Int × Unit → Option (((Bool × Unit) ⊕ (Unit)))) : Xc vw := { P := Try.prog, n := 32, nm := id, call := call54c25 n_25 n_54c25 n_54c25l4, pre := fun _ => false, sh := sh54c25, joins := fun _ => none, regs := fun _ => none, loops := fun k => match k with | 4 => some { cut := c54c25l4, alts := [.ret, .exit 0], F := n_54c25l4 } | _ => none }
abbrev mn_25 (v : Layout × Layout × Unit) (r : Bool × Unit) : Prop := (fun v r => ∀ x, resV Try.prog sig25 r = some x → FnOk Try.prog 25 (encL vw (startS sig25 v).len (startOs sig25 v).1) (encOs (startS sig25 v).len (startS sig25 v).own) (encV vw (conc vw sig25.rcut r).len x) (encOs (conc vw sig25.rcut r).len (kept sig25 r))) v r
abbrev mn_54c25 (v : (List Layout) × (List Layout) × Unit) (r : Bool × Unit) : Prop := (fun v r => ∀ x, resV Try.prog sig54c25 r = some x → FnOk Try.prog 54 (encL vw (startS sig54c25 v).len (startOs sig54c25 v).1) (encOs (startS sig54c25 v).len (startS sig54c25 v).own) (encV vw (conc vw sig54c25.rcut r).len x) (encOs (conc vw sig54c25.rcut r).len (kept sig54c25 r))) v r
abbrev mn_54c25l4 (v : (List Layout) × (List Layout) × Int × Int × Unit) (r : ((Bool × Unit) ⊕ (Unit))) : Prop := (fun v out => ∀ C : Ctx, C.P = Try.prog → C.N = 32 → AWpL C (loopNo (bodyOf Try.f54) 0) (encS vw (conc vw c54c25l4 v)) (OutQ sh54c25 [.ret, .exit 0] out)) v r
theorem n_25_all : (∀ v r, n_25 v = some r → mn_25 v r) ∧ (∀ v r, n_54c25 v = some r → mn_54c25 v r) ∧ (∀ v r, n_54c25l4 v = some r → mn_54c25l4 v r) := by
  refine n_25.mutual_partial_correctness
    (motive_1 := mn_25)
    (motive_2 := mn_54c25)
    (motive_3 := mn_54c25l4)
    ?_ ?_ ?_
  · exact (fun f0 h0 v r h x hx => fn_ok (X := x25 (fun _ => none) f0 (fun _ => none)) (sig := sig25) rfl Try.func25 (c := bodyOf Try.f25) (by kernel_rfl) Try.ntmps25 (by kernel_rfl) (by kernel_rfl) rfl Ty.mixed (by
        intro A fid args S dst k r h
        unfold x25 call25 at h
        simp only at h
        split at h
        · exact callPure_ok ((fun v r x h hx => h0 v r h x hx)) rfl rfl h
        · cases h) rfl (fun C hP hN => (lok_all (X := x25 (fun _ => none) f0 (fun _ => none)) (c := (bodyOf Try.f25)) (kcast (by kernel_rfl : True = AllB (LoopsP C (x25 (fun _ => none) f0 (fun _ => none))) (loopsIn (bodyOf Try.f25))) trivial))) (kcast (by kernel_rfl) h) x hx)
  · exact (fun f0 h0 v r h x hx => fn_ok (X := x54c25 (fun _ => none) (fun _ => none) f0) (sig := sig54c25) rfl Try.func54 (c := bodyOf Try.f54) (by kernel_rfl) Try.ntmps54 (by kernel_rfl) (by kernel_rfl) rfl Ty.mixed (by
        intro A fid args S dst k r h
        unfold x54c25 call54c25 at h
        simp only at h
        split at h
        · exact callPure_ok ((fun v r x h hx => by cases h)) rfl rfl h
        · cases h) rfl (fun C hP hN => (lok_all (X := x54c25 (fun _ => none) (fun _ => none) f0) (c := (bodyOf Try.f54)) (kcast (by kernel_rfl : AllB (LoopsP C (x54c25 (fun _ => none) (fun _ => none) f0)) [(loopNo (bodyOf Try.f54) 0)] = AllB (LoopsP C (x54c25 (fun _ => none) (fun _ => none) f0)) (loopsIn (bodyOf Try.f54))) ⟨loop_at (X := x54c25 (fun _ => none) (fun _ => none) f0) (b := (loopNo (bodyOf Try.f54) 0)) (by kernel_rfl) (show LoopOk C (loopNo (bodyOf Try.f54) 0) (sh := sh54c25) { cut := c54c25l4, alts := [.ret, .exit 0], F := f0 } from fun v out h => h0 v out h C hP hN), trivial⟩))) (kcast (by kernel_rfl) h) x hx)
  · exact (fun f0 f1 h0 h1 v out h C hP hN => loop_step (X := x54c25 f0 (fun _ => none) f1) (b := (loopNo (bodyOf Try.f54) 0)) hP hN Ty.mixed (by
        intro A fid args S dst k r h
        unfold x54c25 call54c25 at h
        simp only at h
        split at h
        · exact callPure_ok ((fun v r x h hx => h0 v r h x hx)) rfl rfl h
        · cases h) (lok_all (X := x54c25 f0 (fun _ => none) f1) (c := (loopNo (bodyOf Try.f54) 0)) (kcast (by kernel_rfl : True = AllB (LoopsP C (x54c25 f0 (fun _ => none) f1)) (loopsIn (loopNo (bodyOf Try.f54) 0))) trivial)) (cut := c54c25l4) (alts := [.ret, .exit 0]) (F := f1) (fun v out h => h1 v out h C hP hN) (kcast (by kernel_rfl) h))
theorem n_25_ok : SigOk Try.prog 25 sig25 n_25 := fun v r x h hx => n_25_all.1 v r h x hx
theorem n_54c25_ok : SigOk Try.prog 54 sig54c25 n_54c25 := fun v r x h hx => n_25_all.2.1 v r h x hx
theorem n_54c25l4_pc : ∀ v out, n_54c25l4 v = some out → (fun v out => ∀ C : Ctx, C.P = Try.prog → C.N = 32 → AWpL C (loopNo (bodyOf Try.f54) 0) (encS vw (conc vw c54c25l4 v)) (OutQ sh54c25 [.ret, .exit 0] out)) v out := n_25_all.2.2

noncomputable def c26l4 : Cut SN := { slots := [(2, .bp 2 0), (3, .bp 3 0), (5, .dat (.int .i64))], objs := [(2, .st .layoutT), (3, .st .layoutT)] }
noncomputable def c26r1 : Cut SN := { slots := [(2, .bp 2 0), (3, .bp 3 0), (33, .dat .bool)], objs := [(2, .st .layoutT), (3, .st .layoutT)] }
noncomputable def c26e0 : Cut SN := { slots := [], objs := [] }
noncomputable def c26z : Cut SN := { slots := [(4, .dat .bool)], objs := [] }
noncomputable def sh26 : Shape vw := { exits := fun id => match id with | 0 => c26e0 | _ => { slots := [], objs := [] }, rcut := c26z }
noncomputable def sig26 : Sig vw := { params := [.dat (.st .layoutT), .dat (.st .layoutT)], objs := [], rcut := c26z, rvars := [.tmp 4], keep := [] }
mutual
noncomputable def n_26l4 (v : Int × Layout × Layout × Unit) : Option (((Bool × Unit) ⊕ (Unit))) :=
  if decide (v.fst < (↑v.snd.fst.parts.length : Int)) = true then
    if (0 : Int) ≤ v.fst then
      v.snd.fst.parts[v.fst.toNat]? >>= fun x1 =>
      if (0 : Int) ≤ v.fst then
        v.snd.snd.fst.parts[v.fst.toNat]? >>= fun x2 =>
        n_26 (x1, x2, ()) >>= fun x3 =>
        if (!x3.fst) = true then
          some (Sum.inl (false, ()))
        else n_26l4 (IntKind.i64.wrap (v.fst + (1 : Int)), v.snd.fst, v.snd.snd.fst, ())
      else none
    else none
  else some (Sum.inr ())
  partial_fixpoint
noncomputable def n_26 (v : Layout × Layout × Unit) : Option (Bool × Unit) :=
  (if (v.fst.kind != v.snd.fst.kind) = true then
      some ((true, v.fst, v.snd.fst, ()))
    else if (v.fst.n != v.snd.fst.n) = true then
      some ((true, v.fst, v.snd.fst, ()))
    else if (!v.fst.flag == v.snd.fst.flag) = true then
      some ((true, v.fst, v.snd.fst, ()))
    else some (((↑v.fst.parts.length : Int) != (↑v.snd.fst.parts.length : Int), v.fst, v.snd.fst, ()))) >>= fun x1 =>
  if x1.fst = true then
    some ((false, ()))
  else n_26l4 ((0 : Int), x1.snd.fst, x1.snd.snd.fst, ()) >>= fun x2 => match x2 with
    | .inl y2 => some y2
    | .inr y2 => some ((true, ()))
  partial_fixpoint
end
noncomputable def call26 (n_26l4 : Int × Layout × Layout × Unit → Option (((Bool × Unit) ⊕ (Unit)))) (n_26 : Layout × Layout × Unit → Option (Bool × Unit)) : Caller vw := fun A fid args S k => match fid with | 26 => callPure Try.prog sig26 n_26 A args S k | _ => none
noncomputable def x26 (n_26l4 : Int × Layout × Layout × Unit → Option (((Bool × Unit) ⊕ (Unit)))) (n_26 : Layout × Layout × Unit → Option (Bool × Unit)) : Xc vw := { P := Try.prog, n := 53, nm := id, call := call26 n_26l4 n_26, pre := fun _ => false, sh := sh26, joins := fun _ => none, regs := fun k => match k with | 1 => some c26r1 | _ => none, loops := fun k => match k with | 4 => some { cut := c26l4, alts := [.ret, .exit 0], F := n_26l4 } | _ => none }
abbrev mn_26l4 (v : Int × Layout × Layout × Unit) (r : ((Bool × Unit) ⊕ (Unit))) : Prop := (fun v out => ∀ C : Ctx, C.P = Try.prog → C.N = 53 → AWpL C (loopNo (bodyOf Try.f26) 0) (encS vw (conc vw c26l4 v)) (OutQ sh26 [.ret, .exit 0] out)) v r
abbrev mn_26 (v : Layout × Layout × Unit) (r : Bool × Unit) : Prop := (fun v r => ∀ x, resV Try.prog sig26 r = some x → FnOk Try.prog 26 (encL vw (startS sig26 v).len (startOs sig26 v).1) (encOs (startS sig26 v).len (startS sig26 v).own) (encV vw (conc vw sig26.rcut r).len x) (encOs (conc vw sig26.rcut r).len (kept sig26 r))) v r
theorem n_26l4_all : (∀ v r, n_26l4 v = some r → mn_26l4 v r) ∧ (∀ v r, n_26 v = some r → mn_26 v r) := by
  refine n_26l4.mutual_partial_correctness
    (motive_1 := mn_26l4)
    (motive_2 := mn_26)
    ?_ ?_
  · exact (fun f0 f1 h0 h1 v out h C hP hN => loop_step (X := x26 f0 f1) (b := (loopNo (bodyOf Try.f26) 0)) hP hN Ty.mixed (by
        intro A fid args S dst k r h
        unfold x26 call26 at h
        simp only at h
        split at h
        · exact callPure_ok ((fun v r x h hx => h1 v r h x hx)) rfl rfl h
        · cases h) (lok_all (X := x26 f0 f1) (c := (loopNo (bodyOf Try.f26) 0)) (kcast (by kernel_rfl : True = AllB (LoopsP C (x26 f0 f1)) (loopsIn (loopNo (bodyOf Try.f26) 0))) trivial)) (cut := c26l4) (alts := [.ret, .exit 0]) (F := f0) (fun v out h => h0 v out h C hP hN) (kcast (by kernel_rfl) h))
  · exact (fun f0 h0 v r h x hx => fn_ok (X := x26 f0 (fun _ => none)) (sig := sig26) rfl Try.func26 (c := bodyOf Try.f26) (by kernel_rfl) Try.ntmps26 (by kernel_rfl) (by kernel_rfl) rfl Ty.mixed (by
        intro A fid args S dst k r h
        unfold x26 call26 at h
        simp only at h
        split at h
        · exact callPure_ok ((fun v r x h hx => by cases h)) rfl rfl h
        · cases h) rfl (fun C hP hN => (lok_all (X := x26 f0 (fun _ => none)) (c := (bodyOf Try.f26)) (kcast (by kernel_rfl : AllB (LoopsP C (x26 f0 (fun _ => none))) [(loopNo (bodyOf Try.f26) 0)] = AllB (LoopsP C (x26 f0 (fun _ => none))) (loopsIn (bodyOf Try.f26))) ⟨loop_at (X := x26 f0 (fun _ => none)) (b := (loopNo (bodyOf Try.f26) 0)) (by kernel_rfl) (show LoopOk C (loopNo (bodyOf Try.f26) 0) (sh := sh26) { cut := c26l4, alts := [.ret, .exit 0], F := f0 } from fun v out h => h0 v out h C hP hN), trivial⟩))) (kcast (by kernel_rfl) h) x hx)
theorem n_26l4_pc : ∀ v out, n_26l4 v = some out → (fun v out => ∀ C : Ctx, C.P = Try.prog → C.N = 53 → AWpL C (loopNo (bodyOf Try.f26) 0) (encS vw (conc vw c26l4 v)) (OutQ sh26 [.ret, .exit 0] out)) v out := n_26l4_all.1
theorem n_26_ok : SigOk Try.prog 26 sig26 n_26 := fun v r x h hx => n_26l4_all.2 v r h x hx

noncomputable def c27r6 : Cut SN := { slots := [(1, .dat (.int .i64)), (2, .bp 2 0), (24, .dat .bool)], objs := [(2, .st .layoutT)] }
noncomputable def c27z : Cut SN := { slots := [(4, .dat (.int .i64)), (5, .dat (.int .i64)), (6, .dat (.int .i64))], objs := [] }
noncomputable def sh27 : Shape vw := { exits := fun _ => { slots := [], objs := [] }, rcut := c27z }
noncomputable def sig27 : Sig vw := { params := [.dat (.st .layoutT), .dat (.int .i64)], objs := [], rcut := c27z, rvars := [.tmp 4, .tmp 5, .tmp 6], keep := [] }
noncomputable def n_27 (v : Layout × Int × Unit) : Option (Int × Int × Int × Unit) :=
  n_20 (v.fst, ()) >>= fun x1 =>
  if (x1.fst != (0 : Int)) = true then
    some (((0 : Int), (0 : Int), x1.fst, ()))
  else if (v.fst.kind != (9 : Int)) = true then
    some (((0 : Int), (0 : Int), (6 : Int), ()))
  else (if decide (v.snd.fst < (0 : Int)) = true then
      some ((v.snd.fst, true, v.fst, ()))
    else some ((v.snd.fst, decide (v.snd.fst ≥ (↑v.fst.parts.length : Int)), v.fst, ()))) >>= fun x2 =>
  if x2.snd.fst = true then
    some (((0 : Int), (0 : Int), (4 : Int), ()))
  else if (0 : Int) ≤ (0 : Int) ∧ (0 : Int) ≤ x2.fst ∧ x2.fst ≤ (↑x2.snd.snd.fst.parts.length : Int) then
    n_55 (Layout.mk (0 : Int) (0 : Int) false (List.take x2.fst.toNat x2.snd.snd.fst.parts), ()) >>= fun x3 =>
    if (0 : Int) ≤ x2.fst then
      x2.snd.snd.fst.parts[x2.fst.toNat]? >>= fun x4 =>
      n_56 (x4, ()) >>= fun x5 =>
      some ((x3.fst, x5.fst, (0 : Int), ()))
    else none
  else none
noncomputable def call27 : Caller vw := fun A fid args S k => match fid with | 20 => callPure Try.prog sig20 n_20 A args S k | 55 => callPure Try.prog sig55 n_55 A args S k | 56 => callPure Try.prog sig56 n_56 A args S k | _ => none
noncomputable def x27 : Xc vw := { P := Try.prog, n := 37, nm := id, call := call27, pre := fun _ => false, sh := sh27, joins := fun _ => none, regs := fun k => match k with | 6 => some c27r6 | _ => none, loops := fun _ => none }
theorem call27_ok : CallerOk Try.prog call27 := fun A fid args S dst k r h => by
  unfold call27 at h
  split at h
  · exact callPure_ok (n_20_ok) rfl rfl h
  · exact callPure_ok (n_55_ok) rfl rfl h
  · exact callPure_ok (n_56_ok) rfl rfl h
  · cases h
theorem n_27_ok : SigOk Try.prog 27 sig27 n_27 := fun v r x h hx =>
  fn_ok (X := x27) (sig := sig27) rfl Try.func27 (c := bodyOf Try.f27) (by kernel_rfl) Try.ntmps27 (by kernel_rfl) (by kernel_rfl) rfl Ty.mixed call27_ok rfl (fun C hP hN => (lok_all (X := x27) (c := (bodyOf Try.f27)) (kcast (by kernel_rfl : True = AllB (LoopsP C (x27)) (loopsIn (bodyOf Try.f27))) trivial))) (kcast (by kernel_rfl) h) x hx

noncomputable def c57z : Cut SN := { slots := [(4, .dat .bool)], objs := [] }
noncomputable def sh57 : Shape vw := { exits := fun _ => { slots := [], objs := [] }, rcut := c57z }
noncomputable def sig57 : Sig vw := { params := [.dat (.st .layoutT), .dat (.int .i64)], objs := [], rcut := c57z, rvars := [.tmp 4], keep := [] }
noncomputable def n_57 (v : Layout × Int × Unit) : Option (Bool × Unit) :=
  if (v.fst.kind == (4 : Int)) = true then
    n_62 (v.snd.fst, (0 : Int), (1 : Int), ()) >>= fun x1 =>
    some ((x1.fst, ()))
  else if (v.fst.kind == (5 : Int)) = true then
    n_62 (v.snd.fst, (0 : Int), IntKind.i64.wrap (v.fst.n - (1 : Int)), ()) >>= fun x1 =>
    some ((x1.fst, ()))
  else n_62 (v.snd.fst, (0 : Int), IntKind.i64.wrap ((↑v.fst.parts.length : Int) - (1 : Int)), ()) >>= fun x1 =>
  some ((x1.fst, ()))
noncomputable def call57 : Caller vw := fun A fid args S k => match fid with | 62 => callPure Try.prog sig62 n_62 A args S k | _ => none
noncomputable def x57 : Xc vw := { P := Try.prog, n := 24, nm := id, call := call57, pre := fun _ => false, sh := sh57, joins := fun _ => none, regs := fun _ => none, loops := fun _ => none }
theorem call57_ok : CallerOk Try.prog call57 := fun A fid args S dst k r h => by
  unfold call57 at h
  split at h
  · exact callPure_ok (n_62_ok) rfl rfl h
  · cases h
theorem n_57_ok : SigOk Try.prog 57 sig57 n_57 := fun v r x h hx =>
  fn_ok (X := x57) (sig := sig57) rfl Try.func57 (c := bodyOf Try.f57) (by kernel_rfl) Try.ntmps57 (by kernel_rfl) (by kernel_rfl) rfl Ty.mixed call57_ok rfl (fun C hP hN => (lok_all (X := x57) (c := (bodyOf Try.f57)) (kcast (by kernel_rfl : True = AllB (LoopsP C (x57)) (loopsIn (bodyOf Try.f57))) trivial))) (kcast (by kernel_rfl) h) x hx

noncomputable def c28l10 : Cut SN := { slots := [(1, .dat (.int .i64)), (2, .bp 2 0), (8, .dat (.int .i64)), (9, .dat (.int .i64))], objs := [(2, .st .layoutT)] }
noncomputable def c28e0 : Cut SN := { slots := [(1, .dat (.int .i64)), (2, .bp 2 0), (8, .dat (.int .i64))], objs := [(2, .st .layoutT)] }
noncomputable def c28z : Cut SN := { slots := [(4, .dat (.int .i64)), (5, .dat (.int .i64)), (6, .dat (.int .i64))], objs := [] }
noncomputable def sh28 : Shape vw := { exits := fun id => match id with | 0 => c28e0 | _ => { slots := [], objs := [] }, rcut := c28z }
noncomputable def sig28 : Sig vw := { params := [.dat (.st .layoutT), .dat (.int .i64)], objs := [], rcut := c28z, rvars := [.tmp 4, .tmp 5, .tmp 6], keep := [] }
noncomputable def n_28l10 (v : Int × Int × Int × Layout × Unit) : Option ((Int × Int × Layout × Unit)) :=
  if decide (v.snd.snd.fst < v.fst) = true then
    if (0 : Int) ≤ v.snd.snd.fst then
      v.snd.snd.snd.fst.parts[v.snd.snd.fst.toNat]? >>= fun x1 =>
      n_58 (x1, ()) >>= fun x2 =>
      n_28l10 (v.fst, IntKind.i64.wrap (v.snd.fst + x2.fst), IntKind.i64.wrap (v.snd.snd.fst + (1 : Int)), v.snd.snd.snd.fst, ())
    else none
  else some ((v.fst, v.snd.fst, v.snd.snd.snd.fst, ()))
  partial_fixpoint
noncomputable def n_28 (v : Layout × Int × Unit) : Option (Int × Int × Int × Unit) :=
  n_21 (v.fst, ()) >>= fun x1 =>
  if (x1.fst != (0 : Int)) = true then
    some (((0 : Int), (0 : Int), x1.fst, ()))
  else if (v.fst.kind != (9 : Int)) = true then
    some (((0 : Int), (0 : Int), (6 : Int), ()))
  else n_57 (v.fst, v.snd.fst, ()) >>= fun x2 =>
  if (!x2.fst) = true then
    some (((0 : Int), (0 : Int), (4 : Int), ()))
  else n_28l10 (v.snd.fst, (0 : Int), (0 : Int), v.fst, ()) >>= fun x3 =>
  if (0 : Int) ≤ x3.fst then
    x3.snd.snd.fst.parts[x3.fst.toNat]? >>= fun x4 =>
    n_58 (x4, ()) >>= fun x5 =>
    some ((x3.snd.fst, x5.fst, (0 : Int), ()))
  else none
noncomputable def call28 : Caller vw := fun A fid args S k => match fid with | 21 => callPure Try.prog sig21 n_21 A args S k | 57 => callPure Try.prog sig57 n_57 A args S k | 58 => callPure Try.prog sig58 n_58 A args S k | _ => none
noncomputable def x28 : Xc vw := { P := Try.prog, n := 42, nm := id, call := call28, pre := fun _ => false, sh := sh28, joins := fun _ => none, regs := fun _ => none, loops := fun k => match k with | 10 => some { cut := c28l10, alts := [.exit 0], F := n_28l10 } | _ => none }
theorem call28_ok : CallerOk Try.prog call28 := fun A fid args S dst k r h => by
  unfold call28 at h
  split at h
  · exact callPure_ok (n_21_ok) rfl rfl h
  · exact callPure_ok (n_57_ok) rfl rfl h
  · exact callPure_ok (n_58_ok) rfl rfl h
  · cases h
theorem n_28l10_ok (C : Ctx) (hP : C.P = Try.prog) (hN : C.N = 42) : LoopOk C (loopNo (bodyOf Try.f28) 0) (sh := sh28) { cut := c28l10, alts := [.exit 0], F := n_28l10 } :=
  n_28l10.partial_correctness (motive := fun v out => AWpL C (loopNo (bodyOf Try.f28) 0) (encS vw (conc vw c28l10 v)) (OutQ sh28 [.exit 0] out)) fun F ih v out h =>
    loop_step (X := x28) (b := (loopNo (bodyOf Try.f28) 0)) hP hN Ty.mixed call28_ok (lok_all (X := x28) (c := (loopNo (bodyOf Try.f28) 0)) (kcast (by kernel_rfl : True = AllB (LoopsP C (x28)) (loopsIn (loopNo (bodyOf Try.f28) 0))) trivial)) ih (kcast (by kernel_rfl) h)
theorem n_28_ok : SigOk Try.prog 28 sig28 n_28 := fun v r x h hx =>
  fn_ok (X := x28) (sig := sig28) rfl Try.func28 (c := bodyOf Try.f28) (by kernel_rfl) Try.ntmps28 (by kernel_rfl) (by kernel_rfl) rfl Ty.mixed call28_ok rfl (fun C hP hN => (lok_all (X := x28) (c := (bodyOf Try.f28)) (kcast (by kernel_rfl : AllB (LoopsP C (x28)) [(loopNo (bodyOf Try.f28) 0)] = AllB (LoopsP C (x28)) (loopsIn (bodyOf Try.f28))) ⟨loop_at (X := x28) (b := (loopNo (bodyOf Try.f28) 0)) (by kernel_rfl) (n_28l10_ok C hP hN), trivial⟩))) (kcast (by kernel_rfl) h) x hx

noncomputable def c29l7 : Cut SN := { slots := [(3, .bp 3 0), (6, .dat (.sl (.int .i64))), (10, .vh 1010), (36, .dat (.sl (.st .layoutT))), (37, .dat (.int .i64)), (38, .dat (.int .i64))], objs := [(3, .st .targetT), (1010, .vec 4 .bool)] }
noncomputable def c29l10 : Cut SN := { slots := [(3, .bp 3 0), (6, .dat (.sl (.int .i64))), (10, .vh 1010), (11, .dat (.int .i64)), (36, .dat (.sl (.st .layoutT))), (37, .dat (.int .i64)), (38, .dat (.int .i64)), (46, .dat (.int .i64)), (47, .dat (.int .i64))], objs := [(3, .st .targetT), (1010, .vec 4 .bool)] }
noncomputable def c29l17 : Cut SN := { slots := [(14, .vh 1014), (60, .vh 1060), (61, .dat (.int .i64)), (62, .dat (.int .i64))], objs := [(1014, .vec 3 (.int .i64)), (1060, .vec 4 .bool)] }
noncomputable def c29j21 : Cut SN := { slots := [(14, .vh 1014), (60, .vh 1060), (61, .dat (.int .i64)), (62, .dat (.int .i64))], objs := [(1014, .vec 3 (.int .i64)), (1060, .vec 4 .bool)] }
noncomputable def c29e0 : Cut SN := { slots := [(10, .vh 1010)], objs := [(1010, .vec 4 .bool)] }
noncomputable def c29e2 : Cut SN := { slots := [(3, .bp 3 0), (6, .dat (.sl (.int .i64))), (10, .vh 1010), (36, .dat (.sl (.st .layoutT))), (37, .dat (.int .i64)), (38, .dat (.int .i64))], objs := [(3, .st .targetT), (1010, .vec 4 .bool)] }
noncomputable def c29e4 : Cut SN := { slots := [(14, .vh 1014)], objs := [(1014, .vec 3 (.int .i64))] }
noncomputable def c29z : Cut SN := { slots := [(4, .dat (.sl (.int .i64))), (5, .dat (.int .i64))], objs := [] }
noncomputable def sh29 : Shape vw := { exits := fun id => match id with | 0 => c29e0 | 2 => c29e2 | 4 => c29e4 | _ => { slots := [], objs := [] }, rcut := c29z }
noncomputable def sig29 : Sig vw := { params := [.dat (.st .layoutT), .dat (.st .targetT)], objs := [], rcut := c29z, rvars := [.tmp 4, .tmp 5], keep := [] }
noncomputable def n_29l10 (v : (List Int) × Int × (List Layout) × Int × Int × Int × Int × Target × (List Bool) × Unit) : Option (((List Int) × (List Layout) × Int × Int × Target × (List Bool) × Unit)) :=
  if decide (v.snd.snd.snd.snd.snd.snd.fst < v.snd.snd.snd.snd.snd.fst) = true then
    if (0 : Int) ≤ v.snd.fst then
      v.fst[v.snd.fst.toNat]? >>= fun x1 =>
      if (0 : Int) ≤ IntKind.i64.wrap (x1 + v.snd.snd.snd.snd.snd.snd.fst) ∧ IntKind.i64.wrap (x1 + v.snd.snd.snd.snd.snd.snd.fst) < (↑v.snd.snd.snd.snd.snd.snd.snd.snd.fst.length : Int) then
        v.snd.snd.snd.snd.snd.snd.snd.snd.fst[(IntKind.i64.wrap (x1 + v.snd.snd.snd.snd.snd.snd.fst)).toNat]? >>= fun x2 =>
        n_29l10 (v.fst, v.snd.fst, v.snd.snd.fst, v.snd.snd.snd.fst, v.snd.snd.snd.snd.fst, v.snd.snd.snd.snd.snd.fst, IntKind.i64.wrap (v.snd.snd.snd.snd.snd.snd.fst + (1 : Int)), v.snd.snd.snd.snd.snd.snd.snd.fst, v.snd.snd.snd.snd.snd.snd.snd.snd.fst.set (IntKind.i64.wrap (x1 + v.snd.snd.snd.snd.snd.snd.fst)).toNat true, ())
      else none
    else none
  else some ((v.fst, v.snd.snd.fst, v.snd.snd.snd.fst, v.snd.snd.snd.snd.fst, v.snd.snd.snd.snd.snd.snd.snd.fst, v.snd.snd.snd.snd.snd.snd.snd.snd.fst, ()))
  partial_fixpoint
noncomputable def n_29l7 (v : (List Int) × (List Layout) × Int × Int × Target × (List Bool) × Unit) : Option (((List Bool) × Unit)) :=
  if decide (v.snd.snd.snd.fst < v.snd.snd.fst) = true then
    if (0 : Int) ≤ v.snd.snd.snd.fst then
      v.snd.fst[v.snd.snd.snd.fst.toNat]? >>= fun x1 =>
      n_59 (x1, v.snd.snd.snd.snd.fst, ()) >>= fun x2 =>
      n_29l10 (v.fst, v.snd.snd.snd.fst, v.snd.fst, v.snd.snd.fst, v.snd.snd.snd.fst, x2.fst.size, (0 : Int), v.snd.snd.snd.snd.fst, v.snd.snd.snd.snd.snd.fst, ()) >>= fun x3 =>
      n_29l7 (x3.fst, x3.snd.fst, x3.snd.snd.fst, IntKind.i64.wrap (x3.snd.snd.snd.fst + (1 : Int)), x3.snd.snd.snd.snd.fst, x3.snd.snd.snd.snd.snd.fst, ())
    else none
  else some ((v.snd.snd.snd.snd.snd.fst, ()))
  partial_fixpoint
noncomputable def n_29l17 (v : Int × Int × (List Int) × (List Bool) × Unit) : Option (((List Int) × Unit)) :=
  if decide (v.snd.fst < v.fst) = true then
    (if (0 : Int) ≤ v.snd.fst ∧ v.snd.fst < (↑v.snd.snd.snd.fst.length : Int) then
        v.snd.snd.snd.fst[v.snd.fst.toNat]? >>= fun x1 =>
        if (!x1) = true then
          if v.snd.snd.fst.length + [v.snd.fst].length ≤ (4294967296 : Nat) then
            some ((v.fst, v.snd.fst, v.snd.snd.fst ++ [v.snd.fst], v.snd.snd.snd.fst, ()))
          else none
        else some ((v.fst, v.snd.fst, v.snd.snd.fst, v.snd.snd.snd.fst, ()))
      else none) >>= fun x1 =>
    n_29l17 (x1.fst, IntKind.i64.wrap (x1.snd.fst + (1 : Int)), x1.snd.snd.fst, x1.snd.snd.snd.fst, ())
  else some ((v.snd.snd.fst, ()))
  partial_fixpoint
noncomputable def n_29 (v : Layout × Target × Unit) : Option ((List Int) × Int × Unit) :=
  n_17 (v.fst, v.snd.fst, ()) >>= fun x1 =>
  if (x1.snd.fst != (0 : Int)) = true then
    some (([], x1.snd.fst, ()))
  else n_44 (v.fst, v.snd.fst, ()) >>= fun x2 =>
  if (0 : Int) ≤ x2.snd.fst.size then
    if x2.snd.fst.size ≤ (4294967296 : Int) then
      n_29l7 (x1.fst, v.fst.parts, (↑v.fst.parts.length : Int), (0 : Int), v.snd.fst, List.replicate x2.snd.fst.size.toNat false, ()) >>= fun x3 =>
      n_29l17 ((↑x3.fst.length : Int), (0 : Int), [], x3.fst, ()) >>= fun x4 =>
      some ((x4.fst, (0 : Int), ()))
    else none
  else none
noncomputable def call29 : Caller vw := fun A fid args S k => match fid with | 17 => callPure Try.prog sig17 n_17 A args S k | 44 => callPure Try.prog sig44 n_44 A args S k | 59 => callPure Try.prog sig59 n_59 A args S k | _ => none
noncomputable def x29 : Xc vw := { P := Try.prog, n := 75, nm := id, call := call29, pre := fun _ => false, sh := sh29, joins := fun k => match k with | 21 => some (c29j21, [.norm]) | _ => none, regs := fun _ => none, loops := fun k => match k with | 7 => some { cut := c29l7, alts := [.exit 0], F := n_29l7 } | 10 => some { cut := c29l10, alts := [.exit 2], F := n_29l10 } | 17 => some { cut := c29l17, alts := [.exit 4], F := n_29l17 } | _ => none }
theorem call29_ok : CallerOk Try.prog call29 := fun A fid args S dst k r h => by
  unfold call29 at h
  split at h
  · exact callPure_ok (n_17_ok) rfl rfl h
  · exact callPure_ok (n_44_ok) rfl rfl h
  · exact callPure_ok (n_59_ok) rfl rfl h
  · cases h
theorem n_29l10_ok (C : Ctx) (hP : C.P = Try.prog) (hN : C.N = 75) : LoopOk C (loopNo (loopNo (bodyOf Try.f29) 0) 0) (sh := sh29) { cut := c29l10, alts := [.exit 2], F := n_29l10 } :=
  n_29l10.partial_correctness (motive := fun v out => AWpL C (loopNo (loopNo (bodyOf Try.f29) 0) 0) (encS vw (conc vw c29l10 v)) (OutQ sh29 [.exit 2] out)) fun F ih v out h =>
    loop_step (X := x29) (b := (loopNo (loopNo (bodyOf Try.f29) 0) 0)) hP hN Ty.mixed call29_ok (lok_all (X := x29) (c := (loopNo (loopNo (bodyOf Try.f29) 0) 0)) (kcast (by kernel_rfl : True = AllB (LoopsP C (x29)) (loopsIn (loopNo (loopNo (bodyOf Try.f29) 0) 0))) trivial)) ih (kcast (by kernel_rfl) h)
theorem n_29l7_ok (C : Ctx) (hP : C.P = Try.prog) (hN : C.N = 75) : LoopOk C (loopNo (bodyOf Try.f29) 0) (sh := sh29) { cut := c29l7, alts := [.exit 0], F := n_29l7 } :=
  n_29l7.partial_correctness (motive := fun v out => AWpL C (loopNo (bodyOf Try.f29) 0) (encS vw (conc vw c29l7 v)) (OutQ sh29 [.exit 0] out)) fun F ih v out h =>
    loop_step (X := x29) (b := (loopNo (bodyOf Try.f29) 0)) hP hN Ty.mixed call29_ok (lok_all (X := x29) (c := (loopNo (bodyOf Try.f29) 0)) (kcast (by kernel_rfl : AllB (LoopsP C (x29)) [(loopNo (loopNo (bodyOf Try.f29) 0) 0)] = AllB (LoopsP C (x29)) (loopsIn (loopNo (bodyOf Try.f29) 0))) ⟨loop_at (X := x29) (b := (loopNo (loopNo (bodyOf Try.f29) 0) 0)) (by kernel_rfl) (n_29l10_ok C hP hN), trivial⟩)) ih (kcast (by kernel_rfl) h)
theorem n_29l17_ok (C : Ctx) (hP : C.P = Try.prog) (hN : C.N = 75) : LoopOk C (loopNo (bodyOf Try.f29) 1) (sh := sh29) { cut := c29l17, alts := [.exit 4], F := n_29l17 } :=
  n_29l17.partial_correctness (motive := fun v out => AWpL C (loopNo (bodyOf Try.f29) 1) (encS vw (conc vw c29l17 v)) (OutQ sh29 [.exit 4] out)) fun F ih v out h =>
    loop_step (X := x29) (b := (loopNo (bodyOf Try.f29) 1)) hP hN Ty.mixed call29_ok (lok_all (X := x29) (c := (loopNo (bodyOf Try.f29) 1)) (kcast (by kernel_rfl : True = AllB (LoopsP C (x29)) (loopsIn (loopNo (bodyOf Try.f29) 1))) trivial)) ih (kcast (by kernel_rfl) h)
theorem n_29_ok : SigOk Try.prog 29 sig29 n_29 := fun v r x h hx =>
  fn_ok (X := x29) (sig := sig29) rfl Try.func29 (c := bodyOf Try.f29) (by kernel_rfl) Try.ntmps29 (by kernel_rfl) (by kernel_rfl) rfl Ty.mixed call29_ok rfl (fun C hP hN => (lok_all (X := x29) (c := (bodyOf Try.f29)) (kcast (by kernel_rfl : AllB (LoopsP C (x29)) [(loopNo (bodyOf Try.f29) 0), (loopNo (bodyOf Try.f29) 1)] = AllB (LoopsP C (x29)) (loopsIn (bodyOf Try.f29))) ⟨loop_at (X := x29) (b := (loopNo (bodyOf Try.f29) 0)) (by kernel_rfl) (n_29l7_ok C hP hN), loop_at (X := x29) (b := (loopNo (bodyOf Try.f29) 1)) (by kernel_rfl) (n_29l17_ok C hP hN), trivial⟩))) (kcast (by kernel_rfl) h) x hx

noncomputable def c3r7 : Cut SN := { slots := [(4, .dat .bool)], objs := [] }
noncomputable def c3z : Cut SN := { slots := [(4, .dat .bool)], objs := [] }
noncomputable def sh3 : Shape vw := { exits := fun _ => { slots := [], objs := [] }, rcut := c3z }
noncomputable def sig3 : Sig vw := { params := [.dat (.st .layoutT), .dat (.st .targetT)], objs := [], rcut := c3z, rvars := [.tmp 4], keep := [] }
noncomputable def n_3 (v : Layout × Target × Unit) : Option (Bool × Unit) :=
  n_11 (v.fst, ()) >>= fun x1 =>
  if x1.fst = true then
    n_12 () >>= fun x2 =>
    some ((x2.fst, ()))
  else n_13 (v.fst, v.snd.fst, ()) >>= fun x2 =>
  n_14 (v.fst, v.snd.fst, ()) >>= fun x3 =>
  n_15 (v.fst, v.snd.fst, ()) >>= fun x4 =>
  n_16 (v.fst, v.snd.fst, ()) >>= fun x5 =>
  (if (x2.fst == x3.fst) = true then
      if (x2.snd.fst == x3.snd.fst) = true then
        if (x4.fst == x5.fst) = true then
          if (x4.snd.fst == x5.snd.fst) = true then
            n_12 () >>= fun x6 =>
            some ((x6.fst, ()))
          else some ((false, ()))
        else some ((false, ()))
      else some ((false, ()))
    else some ((false, ()))) >>= fun x6 =>
  some ((x6.fst, ()))
noncomputable def call3 : Caller vw := fun A fid args S k => match fid with | 11 => callPure Try.prog sig11 n_11 A args S k | 12 => callPure Try.prog sig12 n_12 A args S k | 13 => callPure Try.prog sig13 n_13 A args S k | 14 => callPure Try.prog sig14 n_14 A args S k | 15 => callPure Try.prog sig15 n_15 A args S k | 16 => callPure Try.prog sig16 n_16 A args S k | _ => none
noncomputable def x3 : Xc vw := { P := Try.prog, n := 61, nm := id, call := call3, pre := fun _ => false, sh := sh3, joins := fun _ => none, regs := fun k => match k with | 7 => some c3r7 | _ => none, loops := fun _ => none }
theorem call3_ok : CallerOk Try.prog call3 := fun A fid args S dst k r h => by
  unfold call3 at h
  split at h
  · exact callPure_ok (n_11_ok) rfl rfl h
  · exact callPure_ok (n_12_ok) rfl rfl h
  · exact callPure_ok (n_13_ok) rfl rfl h
  · exact callPure_ok (n_14_ok) rfl rfl h
  · exact callPure_ok (n_15_ok) rfl rfl h
  · exact callPure_ok (n_16_ok) rfl rfl h
  · cases h
theorem n_3_ok : SigOk Try.prog 3 sig3 n_3 := fun v r x h hx =>
  fn_ok (X := x3) (sig := sig3) rfl Try.func3 (c := bodyOf Try.f3) (by kernel_rfl) Try.ntmps3 (by kernel_rfl) (by kernel_rfl) rfl Ty.mixed call3_ok rfl (fun C hP hN => (lok_all (X := x3) (c := (bodyOf Try.f3)) (kcast (by kernel_rfl : True = AllB (LoopsP C (x3)) (loopsIn (bodyOf Try.f3))) trivial))) (kcast (by kernel_rfl) h) x hx

noncomputable def c60z : Cut SN := { slots := [(4, .dat (.int .i64))], objs := [] }
noncomputable def sh60 : Shape vw := { exits := fun _ => { slots := [], objs := [] }, rcut := c60z }
noncomputable def sig60 : Sig vw := { params := [.dat (.st .layoutT), .dat (.st .targetT)], objs := [], rcut := c60z, rvars := [.tmp 4], keep := [] }
noncomputable def n_60 (v : Layout × Target × Unit) : Option (Int × Unit) :=
  n_41 (v.fst, v.snd.fst, ()) >>= fun x1 =>
  if (x1.fst != (0 : Int)) = true then
    some ((x1.fst, ()))
  else if (v.fst.kind != (6 : Int)) = true then
    some (((6 : Int), ()))
  else n_42 (v.fst, v.snd.fst, ()) >>= fun x2 =>
  some ((x2.fst, ()))
noncomputable def call60 : Caller vw := fun A fid args S k => match fid with | 41 => callPure Try.prog sig41 n_41 A args S k | 42 => callPure Try.prog sig42 n_42 A args S k | _ => none
noncomputable def x60 : Xc vw := { P := Try.prog, n := 18, nm := id, call := call60, pre := fun _ => false, sh := sh60, joins := fun _ => none, regs := fun _ => none, loops := fun _ => none }
theorem call60_ok : CallerOk Try.prog call60 := fun A fid args S dst k r h => by
  unfold call60 at h
  split at h
  · exact callPure_ok (n_41_ok) rfl rfl h
  · exact callPure_ok (n_42_ok) rfl rfl h
  · cases h
theorem n_60_ok : SigOk Try.prog 60 sig60 n_60 := fun v r x h hx =>
  fn_ok (X := x60) (sig := sig60) rfl Try.func60 (c := bodyOf Try.f60) (by kernel_rfl) Try.ntmps60 (by kernel_rfl) (by kernel_rfl) rfl Ty.mixed call60_ok rfl (fun C hP hN => (lok_all (X := x60) (c := (bodyOf Try.f60)) (kcast (by kernel_rfl : True = AllB (LoopsP C (x60)) (loopsIn (bodyOf Try.f60))) trivial))) (kcast (by kernel_rfl) h) x hx

noncomputable def c30l7 : Cut SN := { slots := [(2, .bp 2 0), (3, .bp 3 0), (7, .dat (.sl (.int .i64))), (8, .bp 8 0), (9, .vh 1009), (10, .dat (.int .i64))], objs := [(2, .st .layoutT), (3, .st .targetT), (8, .st .placeT), (1009, .vec 3 (.int .i64))] }
noncomputable def c30l11 : Cut SN := { slots := [(2, .bp 2 0), (3, .bp 3 0), (7, .dat (.sl (.int .i64))), (8, .bp 8 0), (9, .vh 1009), (10, .dat (.int .i64)), (11, .dat .bool), (12, .dat (.int .i64))], objs := [(2, .st .layoutT), (3, .st .targetT), (8, .st .placeT), (1009, .vec 3 (.int .i64))] }
noncomputable def c30j8 : Cut SN := { slots := [(2, .bp 2 0), (3, .bp 3 0), (7, .dat (.sl (.int .i64))), (8, .bp 8 0), (9, .vh 1009), (10, .dat (.int .i64))], objs := [(2, .st .layoutT), (3, .st .targetT), (8, .st .placeT), (1009, .vec 3 (.int .i64))] }
noncomputable def c30j12 : Cut SN := { slots := [(2, .bp 2 0), (3, .bp 3 0), (7, .dat (.sl (.int .i64))), (8, .bp 8 0), (9, .vh 1009), (10, .dat (.int .i64)), (11, .dat .bool), (12, .dat (.int .i64))], objs := [(2, .st .layoutT), (3, .st .targetT), (8, .st .placeT), (1009, .vec 3 (.int .i64))] }
noncomputable def c30e0 : Cut SN := { slots := [(9, .vh 1009)], objs := [(1009, .vec 3 (.int .i64))] }
noncomputable def c30e2 : Cut SN := { slots := [(2, .bp 2 0), (3, .bp 3 0), (7, .dat (.sl (.int .i64))), (8, .bp 8 0), (9, .vh 1009), (10, .dat (.int .i64)), (11, .dat .bool)], objs := [(2, .st .layoutT), (3, .st .targetT), (8, .st .placeT), (1009, .vec 3 (.int .i64))] }
noncomputable def c30z : Cut SN := { slots := [(4, .dat (.sl (.int .i64))), (5, .dat (.int .i64))], objs := [] }
noncomputable def sh30 : Shape vw := { exits := fun id => match id with | 0 => c30e0 | 2 => c30e2 | _ => { slots := [], objs := [] }, rcut := c30z }
noncomputable def sig30 : Sig vw := { params := [.dat (.st .layoutT), .dat (.st .targetT)], objs := [], rcut := c30z, rvars := [.tmp 4, .tmp 5], keep := [] }
noncomputable def n_30l11 (v : (List Int) × Int × Bool × Int × Layout × Target × Place × (List Int) × Unit) : Option (((List Int) × Int × Bool × Layout × Target × Place × (List Int) × Unit)) :=
  if decide (v.snd.snd.snd.fst < (↑v.fst.length : Int)) = true then
    (if (0 : Int) ≤ v.snd.snd.snd.fst then
        v.fst[v.snd.snd.snd.fst.toNat]? >>= fun x1 =>
        if (0 : Int) ≤ v.snd.snd.snd.fst then
          v.fst[v.snd.snd.snd.fst.toNat]? >>= fun x2 =>
          if (0 : Int) ≤ v.snd.snd.snd.fst then
            v.snd.snd.snd.snd.fst.parts[v.snd.snd.snd.fst.toNat]? >>= fun x3 =>
            n_43 (x3, v.snd.snd.snd.snd.snd.fst, ()) >>= fun x4 =>
            n_62 (v.snd.fst, x1, IntKind.i64.wrap (IntKind.i64.wrap (x2 + x4.fst.size) - (1 : Int)), ()) >>= fun x5 =>
            if x5.fst = true then
              some ((v.fst, v.snd.fst, false, v.snd.snd.snd.fst, v.snd.snd.snd.snd.fst, v.snd.snd.snd.snd.snd.fst, v.snd.snd.snd.snd.snd.snd.fst, v.snd.snd.snd.snd.snd.snd.snd.fst, ()))
            else some ((v.fst, v.snd.fst, v.snd.snd.fst, v.snd.snd.snd.fst, v.snd.snd.snd.snd.fst, v.snd.snd.snd.snd.snd.fst, v.snd.snd.snd.snd.snd.snd.fst, v.snd.snd.snd.snd.snd.snd.snd.fst, ()))
          else none
        else none
      else none) >>= fun x1 =>
    n_30l11 (x1.fst, x1.snd.fst, x1.snd.snd.fst, IntKind.i64.wrap (x1.snd.snd.snd.fst + (1 : Int)), x1.snd.snd.snd.snd.fst, x1.snd.snd.snd.snd.snd.fst, x1.snd.snd.snd.snd.snd.snd.fst, x1.snd.snd.snd.snd.snd.snd.snd.fst, ())
  else some ((v.fst, v.snd.fst, v.snd.snd.fst, v.snd.snd.snd.snd.fst, v.snd.snd.snd.snd.snd.fst, v.snd.snd.snd.snd.snd.snd.fst, v.snd.snd.snd.snd.snd.snd.snd.fst, ()))
  partial_fixpoint
noncomputable def n_30l7 (v : (List Int) × Int × Layout × Target × Place × (List Int) × Unit) : Option (((List Int) × Unit)) :=
  if decide (v.snd.fst < v.snd.snd.snd.snd.fst.size) = true then
    (n_30l11 (v.fst, v.snd.fst, true, (0 : Int), v.snd.snd.fst, v.snd.snd.snd.fst, v.snd.snd.snd.snd.fst, v.snd.snd.snd.snd.snd.fst, ()) >>= fun x1 =>
      if x1.snd.snd.fst = true then
        if x1.snd.snd.snd.snd.snd.snd.fst.length + [x1.snd.fst].length ≤ (4294967296 : Nat) then
          some ((x1.fst, x1.snd.fst, x1.snd.snd.snd.fst, x1.snd.snd.snd.snd.fst, x1.snd.snd.snd.snd.snd.fst, x1.snd.snd.snd.snd.snd.snd.fst ++ [x1.snd.fst], ()))
        else none
      else some ((x1.fst, x1.snd.fst, x1.snd.snd.snd.fst, x1.snd.snd.snd.snd.fst, x1.snd.snd.snd.snd.snd.fst, x1.snd.snd.snd.snd.snd.snd.fst, ()))) >>= fun x1 =>
    n_30l7 (x1.fst, IntKind.i64.wrap (x1.snd.fst + (1 : Int)), x1.snd.snd.fst, x1.snd.snd.snd.fst, x1.snd.snd.snd.snd.fst, x1.snd.snd.snd.snd.snd.fst, ())
  else some ((v.snd.snd.snd.snd.snd.fst, ()))
  partial_fixpoint
noncomputable def n_30 (v : Layout × Target × Unit) : Option ((List Int) × Int × Unit) :=
  n_60 (v.fst, v.snd.fst, ()) >>= fun x1 =>
  if (x1.fst != (0 : Int)) = true then
    some (([], x1.fst, ()))
  else n_61 (v.fst.parts, v.snd.fst, ()) >>= fun x2 =>
  n_30l7 (x2.fst, (0 : Int), v.fst, v.snd.fst, x2.snd.fst, [], ()) >>= fun x3 =>
  some ((x3.fst, (0 : Int), ()))
noncomputable def call30 : Caller vw := fun A fid args S k => match fid with | 43 => callPure Try.prog sig43 n_43 A args S k | 60 => callPure Try.prog sig60 n_60 A args S k | 61 => callPure Try.prog sig61 n_61 A args S k | 62 => callPure Try.prog sig62 n_62 A args S k | _ => none
noncomputable def x30 : Xc vw := { P := Try.prog, n := 64, nm := id, call := call30, pre := fun _ => false, sh := sh30, joins := fun k => match k with | 8 => some (c30j8, [.norm]) | 12 => some (c30j12, [.norm]) | _ => none, regs := fun _ => none, loops := fun k => match k with | 7 => some { cut := c30l7, alts := [.exit 0], F := n_30l7 } | 11 => some { cut := c30l11, alts := [.exit 2], F := n_30l11 } | _ => none }
theorem call30_ok : CallerOk Try.prog call30 := fun A fid args S dst k r h => by
  unfold call30 at h
  split at h
  · exact callPure_ok (n_43_ok) rfl rfl h
  · exact callPure_ok (n_60_ok) rfl rfl h
  · exact callPure_ok (n_61_ok) rfl rfl h
  · exact callPure_ok (n_62_ok) rfl rfl h
  · cases h
theorem n_30l11_ok (C : Ctx) (hP : C.P = Try.prog) (hN : C.N = 64) : LoopOk C (loopNo (loopNo (bodyOf Try.f30) 0) 0) (sh := sh30) { cut := c30l11, alts := [.exit 2], F := n_30l11 } :=
  n_30l11.partial_correctness (motive := fun v out => AWpL C (loopNo (loopNo (bodyOf Try.f30) 0) 0) (encS vw (conc vw c30l11 v)) (OutQ sh30 [.exit 2] out)) fun F ih v out h =>
    loop_step (X := x30) (b := (loopNo (loopNo (bodyOf Try.f30) 0) 0)) hP hN Ty.mixed call30_ok (lok_all (X := x30) (c := (loopNo (loopNo (bodyOf Try.f30) 0) 0)) (kcast (by kernel_rfl : True = AllB (LoopsP C (x30)) (loopsIn (loopNo (loopNo (bodyOf Try.f30) 0) 0))) trivial)) ih (kcast (by kernel_rfl) h)
theorem n_30l7_ok (C : Ctx) (hP : C.P = Try.prog) (hN : C.N = 64) : LoopOk C (loopNo (bodyOf Try.f30) 0) (sh := sh30) { cut := c30l7, alts := [.exit 0], F := n_30l7 } :=
  n_30l7.partial_correctness (motive := fun v out => AWpL C (loopNo (bodyOf Try.f30) 0) (encS vw (conc vw c30l7 v)) (OutQ sh30 [.exit 0] out)) fun F ih v out h =>
    loop_step (X := x30) (b := (loopNo (bodyOf Try.f30) 0)) hP hN Ty.mixed call30_ok (lok_all (X := x30) (c := (loopNo (bodyOf Try.f30) 0)) (kcast (by kernel_rfl : AllB (LoopsP C (x30)) [(loopNo (loopNo (bodyOf Try.f30) 0) 0)] = AllB (LoopsP C (x30)) (loopsIn (loopNo (bodyOf Try.f30) 0))) ⟨loop_at (X := x30) (b := (loopNo (loopNo (bodyOf Try.f30) 0) 0)) (by kernel_rfl) (n_30l11_ok C hP hN), trivial⟩)) ih (kcast (by kernel_rfl) h)
theorem n_30_ok : SigOk Try.prog 30 sig30 n_30 := fun v r x h hx =>
  fn_ok (X := x30) (sig := sig30) rfl Try.func30 (c := bodyOf Try.f30) (by kernel_rfl) Try.ntmps30 (by kernel_rfl) (by kernel_rfl) rfl Ty.mixed call30_ok rfl (fun C hP hN => (lok_all (X := x30) (c := (bodyOf Try.f30)) (kcast (by kernel_rfl : AllB (LoopsP C (x30)) [(loopNo (bodyOf Try.f30) 0)] = AllB (LoopsP C (x30)) (loopsIn (bodyOf Try.f30))) ⟨loop_at (X := x30) (b := (loopNo (bodyOf Try.f30) 0)) (by kernel_rfl) (n_30l7_ok C hP hN), trivial⟩))) (kcast (by kernel_rfl) h) x hx

noncomputable def c63j4 : Cut SN := { slots := [(1, .bp 1 0), (4, .dat (.int .i64)), (5, .dat .bool)], objs := [(1, .st .layoutT)] }
noncomputable def c63z : Cut SN := { slots := [(2, .dat (.int .i64))], objs := [] }
noncomputable def sh63 : Shape vw := { exits := fun _ => { slots := [], objs := [] }, rcut := c63z }
noncomputable def sig63 : Sig vw := { params := [.dat (.st .layoutT)], objs := [], rcut := c63z, rvars := [.tmp 2], keep := [] }
noncomputable def n_63 (v : Layout × Unit) : Option (Int × Unit) :=
  (if (v.fst.kind == (6 : Int)) = true then
      some ((v.fst.kind, true, v.fst, ()))
    else some ((v.fst.kind, v.fst.kind == (8 : Int), v.fst, ()))) >>= fun x1 =>
  if x1.snd.fst = true then
    some (((↑x1.snd.snd.fst.parts.length : Int), ()))
  else if (x1.fst == (4 : Int)) = true then
    some (((2 : Int), ()))
  else if (x1.fst == (5 : Int)) = true then
    some ((x1.snd.snd.fst.n, ()))
  else some (((-1 : Int), ()))
noncomputable def call63 : Caller vw := fun _ _ _ _ _ => none
noncomputable def x63 : Xc vw := { P := Try.prog, n := 17, nm := id, call := call63, pre := fun _ => false, sh := sh63, joins := fun k => match k with | 4 => some (c63j4, [.norm]) | _ => none, regs := fun _ => none, loops := fun _ => none }
theorem call63_ok : CallerOk Try.prog call63 := call_none
theorem n_63_ok : SigOk Try.prog 63 sig63 n_63 := fun v r x h hx =>
  fn_ok (X := x63) (sig := sig63) rfl Try.func63 (c := bodyOf Try.f63) (by kernel_rfl) Try.ntmps63 (by kernel_rfl) (by kernel_rfl) rfl Ty.mixed call63_ok rfl (fun C hP hN => (lok_all (X := x63) (c := (bodyOf Try.f63)) (kcast (by kernel_rfl : True = AllB (LoopsP C (x63)) (loopsIn (bodyOf Try.f63))) trivial))) (kcast (by kernel_rfl) h) x hx

noncomputable def c32j18 : Cut SN := { slots := [(2, .dat (.int .i64)), (3, .bp 3 0), (4, .bp 4 0), (54, .dat .bool)], objs := [(3, .st .layoutT), (4, .st .targetT)] }
noncomputable def c32r7 : Cut SN := { slots := [(2, .dat (.int .i64)), (3, .bp 3 0), (4, .bp 4 0), (30, .dat .bool)], objs := [(3, .st .layoutT), (4, .st .targetT)] }
noncomputable def c32z : Cut SN := { slots := [(6, .dat (.int .i64)), (7, .dat (.int .i64))], objs := [] }
noncomputable def sh32 : Shape vw := { exits := fun _ => { slots := [], objs := [] }, rcut := c32z }
noncomputable def sig32 : Sig vw := { params := [.dat (.st .layoutT), .dat (.st .targetT), .dat (.int .i64)], objs := [], rcut := c32z, rvars := [.tmp 6, .tmp 7], keep := [] }
noncomputable def n_32 (v : Layout × Target × Int × Unit) : Option (Int × Int × Unit) :=
  n_39 (v.fst, v.snd.fst, ()) >>= fun x1 =>
  if (x1.fst != (0 : Int)) = true then
    some (((0 : Int), x1.fst, ()))
  else n_63 (v.fst, ()) >>= fun x2 =>
  if decide (x2.fst < (0 : Int)) = true then
    some (((0 : Int), (6 : Int), ()))
  else (if decide (v.snd.snd.fst < (0 : Int)) = true then
      some ((v.snd.snd.fst, true, v.fst, v.snd.fst, ()))
    else some ((v.snd.snd.fst, decide (v.snd.snd.fst ≥ x2.fst), v.fst, v.snd.fst, ()))) >>= fun x3 =>
  if x3.snd.fst = true then
    some (((0 : Int), (4 : Int), ()))
  else n_40 (x3.snd.snd.fst, x3.snd.snd.snd.fst, ()) >>= fun x4 =>
  if (x4.fst != (0 : Int)) = true then
    some (((0 : Int), x4.fst, ()))
  else if (x3.snd.snd.fst.kind == (6 : Int)) = true then
    n_44 (x3.snd.snd.fst, x3.snd.snd.snd.fst, ()) >>= fun x5 =>
    if (0 : Int) ≤ x3.fst then
      x5.fst[x3.fst.toNat]? >>= fun x6 =>
      some ((x6, (0 : Int), ()))
    else none
  else (if (x3.snd.snd.fst.kind == (4 : Int)) = true then
      some ((x3.fst, true, x3.snd.snd.fst, x3.snd.snd.snd.fst, ()))
    else some ((x3.fst, x3.snd.snd.fst.kind == (5 : Int), x3.snd.snd.fst, x3.snd.snd.snd.fst, ()))) >>= fun x5 =>
  if x5.snd.fst = true then
    x5.snd.snd.fst.parts[Int.toNat (0 : Int)]? >>= fun x6 =>
    n_59 (x6, x5.snd.snd.snd.fst, ()) >>= fun x7 =>
    some ((IntKind.i64.wrap (x5.fst * x7.fst.size), (0 : Int), ()))
  else some (((0 : Int), (0 : Int), ()))
noncomputable def call32 : Caller vw := fun A fid args S k => match fid with | 39 => callPure Try.prog sig39 n_39 A args S k | 40 => callPure Try.prog sig40 n_40 A args S k | 44 => callPure Try.prog sig44 n_44 A args S k | 59 => callPure Try.prog sig59 n_59 A args S k | 63 => callPure Try.prog sig63 n_63 A args S k | _ => none
noncomputable def x32 : Xc vw := { P := Try.prog, n := 66, nm := id, call := call32, pre := fun _ => false, sh := sh32, joins := fun k => match k with | 18 => some (c32j18, [.norm]) | _ => none, regs := fun k => match k with | 7 => some c32r7 | _ => none, loops := fun _ => none }
theorem call32_ok : CallerOk Try.prog call32 := fun A fid args S dst k r h => by
  unfold call32 at h
  split at h
  · exact callPure_ok (n_39_ok) rfl rfl h
  · exact callPure_ok (n_40_ok) rfl rfl h
  · exact callPure_ok (n_44_ok) rfl rfl h
  · exact callPure_ok (n_59_ok) rfl rfl h
  · exact callPure_ok (n_63_ok) rfl rfl h
  · cases h
theorem n_32_ok : SigOk Try.prog 32 sig32 n_32 := fun v r x h hx =>
  fn_ok (X := x32) (sig := sig32) rfl Try.func32 (c := bodyOf Try.f32) (by kernel_rfl) Try.ntmps32 (by kernel_rfl) (by kernel_rfl) rfl Ty.mixed call32_ok rfl (fun C hP hN => (lok_all (X := x32) (c := (bodyOf Try.f32)) (kcast (by kernel_rfl : True = AllB (LoopsP C (x32)) (loopsIn (bodyOf Try.f32))) trivial))) (kcast (by kernel_rfl) h) x hx

noncomputable def c64z : Cut SN := { slots := [(6, .dat (.int .i64)), (7, .dat .bool)], objs := [] }
noncomputable def sh64 : Shape vw := { exits := fun _ => { slots := [], objs := [] }, rcut := c64z }
noncomputable def sig64 : Sig vw := { params := [.dat (.st .layoutT), .dat (.st .targetT), .dat (.int .i64)], objs := [], rcut := c64z, rvars := [.tmp 6, .tmp 7], keep := [] }
noncomputable def n_64 (v : Layout × Target × Int × Unit) : Option (Int × Bool × Unit) :=
  if (v.fst.kind == (6 : Int)) = true then
    n_62 (v.snd.snd.fst, (0 : Int), IntKind.i64.wrap ((↑v.fst.parts.length : Int) - (1 : Int)), ()) >>= fun x1 =>
    if (!x1.fst) = true then
      some (((0 : Int), false, ()))
    else n_61 (v.fst.parts, v.snd.fst, ()) >>= fun x2 =>
    if (0 : Int) ≤ v.snd.snd.fst then
      x2.fst[v.snd.snd.fst.toNat]? >>= fun x3 =>
      some ((x3, true, ()))
    else none
  else if (v.fst.kind == (8 : Int)) = true then
    n_62 (v.snd.snd.fst, (0 : Int), IntKind.i64.wrap ((↑v.fst.parts.length : Int) - (1 : Int)), ()) >>= fun x1 =>
    some (((0 : Int), x1.fst, ()))
  else if (v.fst.kind == (4 : Int)) = true then
    v.fst.parts[Int.toNat (0 : Int)]? >>= fun x1 =>
    n_43 (x1, v.snd.fst, ()) >>= fun x2 =>
    n_62 (v.snd.snd.fst, (0 : Int), (1 : Int), ()) >>= fun x3 =>
    some ((IntKind.i64.wrap (max v.snd.snd.fst (0 : Int) * x2.fst.size), x3.fst, ()))
  else v.fst.parts[Int.toNat (0 : Int)]? >>= fun x1 =>
  n_43 (x1, v.snd.fst, ()) >>= fun x2 =>
  n_62 (v.snd.snd.fst, (0 : Int), IntKind.i64.wrap (v.fst.n - (1 : Int)), ()) >>= fun x3 =>
  some ((IntKind.i64.wrap (max v.snd.snd.fst (0 : Int) * x2.fst.size), x3.fst, ()))
noncomputable def call64 : Caller vw := fun A fid args S k => match fid with | 43 => callPure Try.prog sig43 n_43 A args S k | 61 => callPure Try.prog sig61 n_61 A args S k | 62 => callPure Try.prog sig62 n_62 A args S k | _ => none
noncomputable def x64 : Xc vw := { P := Try.prog, n := 69, nm := id, call := call64, pre := fun _ => false, sh := sh64, joins := fun _ => none, regs := fun _ => none, loops := fun _ => none }
theorem call64_ok : CallerOk Try.prog call64 := fun A fid args S dst k r h => by
  unfold call64 at h
  split at h
  · exact callPure_ok (n_43_ok) rfl rfl h
  · exact callPure_ok (n_61_ok) rfl rfl h
  · exact callPure_ok (n_62_ok) rfl rfl h
  · cases h
theorem n_64_ok : SigOk Try.prog 64 sig64 n_64 := fun v r x h hx =>
  fn_ok (X := x64) (sig := sig64) rfl Try.func64 (c := bodyOf Try.f64) (by kernel_rfl) Try.ntmps64 (by kernel_rfl) (by kernel_rfl) rfl Ty.mixed call64_ok rfl (fun C hP hN => (lok_all (X := x64) (c := (bodyOf Try.f64)) (kcast (by kernel_rfl : True = AllB (LoopsP C (x64)) (loopsIn (bodyOf Try.f64))) trivial))) (kcast (by kernel_rfl) h) x hx

noncomputable def c33r4 : Cut SN := { slots := [(2, .dat (.int .i64)), (3, .bp 3 0), (4, .bp 4 0), (35, .dat .bool)], objs := [(3, .st .layoutT), (4, .st .targetT)] }
noncomputable def c33z : Cut SN := { slots := [(6, .dat (.int .i64)), (7, .dat (.int .i64))], objs := [] }
noncomputable def sh33 : Shape vw := { exits := fun _ => { slots := [], objs := [] }, rcut := c33z }
noncomputable def sig33 : Sig vw := { params := [.dat (.st .layoutT), .dat (.st .targetT), .dat (.int .i64)], objs := [], rcut := c33z, rvars := [.tmp 6, .tmp 7], keep := [] }
noncomputable def n_33 (v : Layout × Target × Int × Unit) : Option (Int × Int × Unit) :=
  n_41 (v.fst, v.snd.fst, ()) >>= fun x1 =>
  if (x1.fst != (0 : Int)) = true then
    some (((0 : Int), x1.fst, ()))
  else (if (v.fst.kind != (6 : Int)) = true then
      if (v.fst.kind != (8 : Int)) = true then
        if (v.fst.kind != (4 : Int)) = true then
          some ((v.snd.snd.fst, v.fst.kind != (5 : Int), v.fst, v.snd.fst, ()))
        else some ((v.snd.snd.fst, false, v.fst, v.snd.fst, ()))
      else some ((v.snd.snd.fst, false, v.fst, v.snd.fst, ()))
    else some ((v.snd.snd.fst, false, v.fst, v.snd.fst, ()))) >>= fun x2 =>
  if x2.snd.fst = true then
    some (((0 : Int), (6 : Int), ()))
  else n_57 (x2.snd.snd.fst, x2.fst, ()) >>= fun x3 =>
  if (!x3.fst) = true then
    some (((0 : Int), (4 : Int), ()))
  else n_42 (x2.snd.snd.fst, x2.snd.snd.snd.fst, ()) >>= fun x4 =>
  if (x4.fst != (0 : Int)) = true then
    some (((0 : Int), x4.fst, ()))
  else n_64 (x2.snd.snd.fst, x2.snd.snd.snd.fst, x2.fst, ()) >>= fun x5 =>
  some ((x5.fst, (0 : Int), ()))
noncomputable def call33 : Caller vw := fun A fid args S k => match fid with | 41 => callPure Try.prog sig41 n_41 A args S k | 42 => callPure Try.prog sig42 n_42 A args S k | 57 => callPure Try.prog sig57 n_57 A args S k | 64 => callPure Try.prog sig64 n_64 A args S k | _ => none
noncomputable def x33 : Xc vw := { P := Try.prog, n := 54, nm := id, call := call33, pre := fun _ => false, sh := sh33, joins := fun _ => none, regs := fun k => match k with | 4 => some c33r4 | _ => none, loops := fun _ => none }
theorem call33_ok : CallerOk Try.prog call33 := fun A fid args S dst k r h => by
  unfold call33 at h
  split at h
  · exact callPure_ok (n_41_ok) rfl rfl h
  · exact callPure_ok (n_42_ok) rfl rfl h
  · exact callPure_ok (n_57_ok) rfl rfl h
  · exact callPure_ok (n_64_ok) rfl rfl h
  · cases h
theorem n_33_ok : SigOk Try.prog 33 sig33 n_33 := fun v r x h hx =>
  fn_ok (X := x33) (sig := sig33) rfl Try.func33 (c := bodyOf Try.f33) (by kernel_rfl) Try.ntmps33 (by kernel_rfl) (by kernel_rfl) rfl Ty.mixed call33_ok rfl (fun C hP hN => (lok_all (X := x33) (c := (bodyOf Try.f33)) (kcast (by kernel_rfl : True = AllB (LoopsP C (x33)) (loopsIn (bodyOf Try.f33))) trivial))) (kcast (by kernel_rfl) h) x hx

noncomputable def c34z : Cut SN := { slots := [(4, .dat (.sl (.int .i64))), (5, .dat (.int .i64))], objs := [] }
noncomputable def sh34 : Shape vw := { exits := fun _ => { slots := [], objs := [] }, rcut := c34z }
noncomputable def sig34 : Sig vw := { params := [.dat (.st .layoutT), .dat (.st .targetT)], objs := [], rcut := c34z, rvars := [.tmp 4, .tmp 5], keep := [] }
noncomputable def n_34 (v : Layout × Target × Unit) : Option ((List Int) × Int × Unit) :=
  n_60 (v.fst, v.snd.fst, ()) >>= fun x1 =>
  if (x1.fst != (0 : Int)) = true then
    some (([], x1.fst, ()))
  else n_61 (v.fst.parts, v.snd.fst, ()) >>= fun x2 =>
  some ((x2.fst, (0 : Int), ()))
noncomputable def call34 : Caller vw := fun A fid args S k => match fid with | 60 => callPure Try.prog sig60 n_60 A args S k | 61 => callPure Try.prog sig61 n_61 A args S k | _ => none
noncomputable def x34 : Xc vw := { P := Try.prog, n := 23, nm := id, call := call34, pre := fun _ => false, sh := sh34, joins := fun _ => none, regs := fun _ => none, loops := fun _ => none }
theorem call34_ok : CallerOk Try.prog call34 := fun A fid args S dst k r h => by
  unfold call34 at h
  split at h
  · exact callPure_ok (n_60_ok) rfl rfl h
  · exact callPure_ok (n_61_ok) rfl rfl h
  · cases h
theorem n_34_ok : SigOk Try.prog 34 sig34 n_34 := fun v r x h hx =>
  fn_ok (X := x34) (sig := sig34) rfl Try.func34 (c := bodyOf Try.f34) (by kernel_rfl) Try.ntmps34 (by kernel_rfl) (by kernel_rfl) rfl Ty.mixed call34_ok rfl (fun C hP hN => (lok_all (X := x34) (c := (bodyOf Try.f34)) (kcast (by kernel_rfl : True = AllB (LoopsP C (x34)) (loopsIn (bodyOf Try.f34))) trivial))) (kcast (by kernel_rfl) h) x hx

noncomputable def c79l2 : Cut SN := { slots := [(0, .dat (.sl (.int .i64))), (1, .dat (.int .i64)), (5, .dat (.int .i64))], objs := [] }
noncomputable def c79e0 : Cut SN := { slots := [], objs := [] }
noncomputable def c79z : Cut SN := { slots := [(4, .dat .bool)], objs := [] }
noncomputable def sh79 : Shape vw := { exits := fun id => match id with | 0 => c79e0 | _ => { slots := [], objs := [] }, rcut := c79z }
noncomputable def sig79 : Sig vw := { params := [.dat (.sl (.int .i64)), .dat (.int .i64)], objs := [], rcut := c79z, rvars := [.tmp 4], keep := [] }
noncomputable def n_79l2 (v : (List Int) × Int × Int × Unit) : Option (((Bool × Unit) ⊕ (Unit))) :=
  if decide (v.snd.snd.fst < (↑v.fst.length : Int)) = true then
    if (0 : Int) ≤ v.snd.snd.fst then
      v.fst[v.snd.snd.fst.toNat]? >>= fun x1 =>
      if (x1 == v.snd.fst) = true then
        some (Sum.inl (true, ()))
      else n_79l2 (v.fst, v.snd.fst, IntKind.i64.wrap (v.snd.snd.fst + (1 : Int)), ())
    else none
  else some (Sum.inr ())
  partial_fixpoint
noncomputable def n_79 (v : (List Int) × Int × Unit) : Option (Bool × Unit) :=
  n_79l2 (v.fst, v.snd.fst, (0 : Int), ()) >>= fun x1 => match x1 with
    | .inl y1 => some y1
    | .inr y1 => some ((false, ()))
noncomputable def call79 : Caller vw := fun _ _ _ _ _ => none
noncomputable def x79 : Xc vw := { P := Try.prog, n := 18, nm := id, call := call79, pre := fun _ => false, sh := sh79, joins := fun _ => none, regs := fun _ => none, loops := fun k => match k with | 2 => some { cut := c79l2, alts := [.ret, .exit 0], F := n_79l2 } | _ => none }
theorem call79_ok : CallerOk Try.prog call79 := call_none
theorem n_79l2_ok (C : Ctx) (hP : C.P = Try.prog) (hN : C.N = 18) : LoopOk C (loopNo (bodyOf Try.f79) 0) (sh := sh79) { cut := c79l2, alts := [.ret, .exit 0], F := n_79l2 } :=
  n_79l2.partial_correctness (motive := fun v out => AWpL C (loopNo (bodyOf Try.f79) 0) (encS vw (conc vw c79l2 v)) (OutQ sh79 [.ret, .exit 0] out)) fun F ih v out h =>
    loop_step (X := x79) (b := (loopNo (bodyOf Try.f79) 0)) hP hN Ty.mixed call79_ok (lok_all (X := x79) (c := (loopNo (bodyOf Try.f79) 0)) (kcast (by kernel_rfl : True = AllB (LoopsP C (x79)) (loopsIn (loopNo (bodyOf Try.f79) 0))) trivial)) ih (kcast (by kernel_rfl) h)
theorem n_79_ok : SigOk Try.prog 79 sig79 n_79 := fun v r x h hx =>
  fn_ok (X := x79) (sig := sig79) rfl Try.func79 (c := bodyOf Try.f79) (by kernel_rfl) Try.ntmps79 (by kernel_rfl) (by kernel_rfl) rfl Ty.mixed call79_ok rfl (fun C hP hN => (lok_all (X := x79) (c := (bodyOf Try.f79)) (kcast (by kernel_rfl : AllB (LoopsP C (x79)) [(loopNo (bodyOf Try.f79) 0)] = AllB (LoopsP C (x79)) (loopsIn (bodyOf Try.f79))) ⟨loop_at (X := x79) (b := (loopNo (bodyOf Try.f79) 0)) (by kernel_rfl) (n_79l2_ok C hP hN), trivial⟩))) (kcast (by kernel_rfl) h) x hx

noncomputable def c68l5 : Cut SN := { slots := [(0, .dat (.int .i64)), (1, .dat (.sl (.int .i64))), (5, .vh 1005), (6, .dat (.int .i64))], objs := [(1005, .vec 33 (.sl (.int .i64)))] }
noncomputable def c68j6 : Cut SN := { slots := [(0, .dat (.int .i64)), (1, .dat (.sl (.int .i64))), (5, .vh 1005), (6, .dat (.int .i64))], objs := [(1005, .vec 33 (.sl (.int .i64)))] }
noncomputable def c68e0 : Cut SN := { slots := [(5, .vh 1005)], objs := [(1005, .vec 33 (.sl (.int .i64)))] }
noncomputable def c68z : Cut SN := { slots := [(4, .dat (.sl (.sl (.int .i64))))], objs := [] }
noncomputable def sh68 : Shape vw := { exits := fun id => match id with | 0 => c68e0 | _ => { slots := [], objs := [] }, rcut := c68z }
noncomputable def sig68 : Sig vw := { params := [.dat (.int .i64), .dat (.sl (.int .i64))], objs := [], rcut := c68z, rvars := [.tmp 4], keep := [] }
mutual
noncomputable def n_68l5 (v : Int × (List Int) × Int × (List (List Int)) × Unit) : Option (((List (List Int)) × Unit)) :=
  if decide (v.snd.snd.fst < v.fst) = true then
    (n_79 (v.snd.fst, v.snd.snd.fst, ()) >>= fun x1 =>
      if (!x1.fst) = true then
        if 0 + v.snd.fst.length ≤ (4294967296 : Nat) then
          if ([] ++ v.snd.fst).length + [v.snd.snd.fst].length ≤ (4294967296 : Nat) then
            n_68 (v.fst, [] ++ v.snd.fst ++ [v.snd.snd.fst], ()) >>= fun x2 =>
            if v.snd.snd.snd.fst.length + x2.fst.length ≤ (4294967296 : Nat) then
              some ((v.fst, v.snd.fst, v.snd.snd.fst, v.snd.snd.snd.fst ++ x2.fst, ()))
            else none
          else none
        else none
      else some ((v.fst, v.snd.fst, v.snd.snd.fst, v.snd.snd.snd.fst, ()))) >>= fun x1 =>
    n_68l5 (x1.fst, x1.snd.fst, IntKind.i64.wrap (x1.snd.snd.fst + (1 : Int)), x1.snd.snd.snd.fst, ())
  else some ((v.snd.snd.snd.fst, ()))
  partial_fixpoint
noncomputable def n_68 (v : Int × (List Int) × Unit) : Option ((List (List Int)) × Unit) :=
  if ((↑v.snd.fst.length : Int) == v.fst) = true then
    if 0 + v.snd.fst.length ≤ (4294967296 : Nat) then
      some (([[] ++ v.snd.fst], ()))
    else none
  else n_68l5 (v.fst, v.snd.fst, (0 : Int), [], ()) >>= fun x1 =>
  some ((x1.fst, ()))
  partial_fixpoint
end
noncomputable def call68 (n_68l5 : Int × (List Int) × Int × (List (List Int)) × Unit → Option (((List (List Int)) × Unit))) (n_68 : Int × (List Int) × Unit → Option ((List (List Int)) × Unit)) : Caller vw := fun A fid args S k => match fid with | 68 => callPure Try.prog sig68 n_68 A args S k | 79 => callPure Try.prog sig79 n_79 A args S k | _ => none
noncomputable def x68 (n_68l5 : Int × (List Int) × Int × (List (List Int)) × Unit → Option (((List (List Int)) × Unit))) (n_68 : Int × (List Int) × Unit → Option ((List (List Int)) × Unit)) : Xc vw := { P := Try.prog, n := 35, nm := fun d => match d with | 11 => 40011 | 26 => 40026 | _ => d, call := call68 n_68l5 n_68, pre := fun k => match k with | 68 => true | _ => false, sh := sh68, joins := fun k => match k with | 6 => some (c68j6, [.norm]) | _ => none, regs := fun _ => none, loops := fun k => match k with | 5 => some { cut := c68l5, alts := [.exit 0], F := n_68l5 } | _ => none }
abbrev mn_68l5 (v : Int × (List Int) × Int × (List (List Int)) × Unit) (r : ((List (List Int)) × Unit)) : Prop := (fun v out => ∀ C : Ctx, C.P = Try.prog → C.N = 35 → AWpL C (loopNo (bodyOf Try.f68) 0) (encS vw (conc vw c68l5 v)) (OutQ sh68 [.exit 0] out)) v r
abbrev mn_68 (v : Int × (List Int) × Unit) (r : (List (List Int)) × Unit) : Prop := (fun v r => ∀ x, resV Try.prog sig68 r = some x → FnOk Try.prog 68 (encL vw (startS sig68 v).len (startOs sig68 v).1) (encOs (startS sig68 v).len (startS sig68 v).own) (encV vw (conc vw sig68.rcut r).len x) (encOs (conc vw sig68.rcut r).len (kept sig68 r))) v r
theorem n_68l5_all : (∀ v r, n_68l5 v = some r → mn_68l5 v r) ∧ (∀ v r, n_68 v = some r → mn_68 v r) := by
  refine n_68l5.mutual_partial_correctness
    (motive_1 := mn_68l5)
    (motive_2 := mn_68)
    ?_ ?_
  · exact (fun f0 f1 h0 h1 v out h C hP hN => loop_step (X := x68 f0 f1) (b := (loopNo (bodyOf Try.f68) 0)) hP hN Ty.mixed (by
        intro A fid args S dst k r h
        unfold x68 call68 at h
        simp only at h
        split at h
        · exact callPure_ok ((fun v r x h hx => h1 v r h x hx)) rfl rfl h
        · exact callPure_ok (n_79_ok) rfl rfl h
        · cases h) (lok_all (X := x68 f0 f1) (c := (loopNo (bodyOf Try.f68) 0)) (kcast (by kernel_rfl : True = AllB (LoopsP C (x68 f0 f1)) (loopsIn (loopNo (bodyOf Try.f68) 0))) trivial)) (cut := c68l5) (alts := [.exit 0]) (F := f0) (fun v out h => h0 v out h C hP hN) (kcast (by kernel_rfl) h))
  · exact (fun f0 h0 v r h x hx => fn_ok (X := x68 f0 (fun _ => none)) (sig := sig68) rfl Try.func68 (c := bodyOf Try.f68) (by kernel_rfl) Try.ntmps68 (by kernel_rfl) (by kernel_rfl) rfl Ty.mixed (by
        intro A fid args S dst k r h
        unfold x68 call68 at h
        simp only at h
        split at h
        · exact callPure_ok ((fun v r x h hx => by cases h)) rfl rfl h
        · exact callPure_ok (n_79_ok) rfl rfl h
        · cases h) rfl (fun C hP hN => (lok_all (X := x68 f0 (fun _ => none)) (c := (bodyOf Try.f68)) (kcast (by kernel_rfl : AllB (LoopsP C (x68 f0 (fun _ => none))) [(loopNo (bodyOf Try.f68) 0)] = AllB (LoopsP C (x68 f0 (fun _ => none))) (loopsIn (bodyOf Try.f68))) ⟨loop_at (X := x68 f0 (fun _ => none)) (b := (loopNo (bodyOf Try.f68) 0)) (by kernel_rfl) (show LoopOk C (loopNo (bodyOf Try.f68) 0) (sh := sh68) { cut := c68l5, alts := [.exit 0], F := f0 } from fun v out h => h0 v out h C hP hN), trivial⟩))) (kcast (by kernel_rfl) h) x hx)
theorem n_68l5_pc : ∀ v out, n_68l5 v = some out → (fun v out => ∀ C : Ctx, C.P = Try.prog → C.N = 35 → AWpL C (loopNo (bodyOf Try.f68) 0) (encS vw (conc vw c68l5 v)) (OutQ sh68 [.exit 0] out)) v out := n_68l5_all.1
theorem n_68_ok : SigOk Try.prog 68 sig68 n_68 := fun v r x h hx => n_68l5_all.2 v r h x hx

noncomputable def c36l15 : Cut SN := { slots := [(2, .bp 2 0), (3, .bp 3 0), (9, .dat (.sl (.sl (.int .i64)))), (10, .dat (.sl (.int .i64))), (11, .dat (.int .i64)), (12, .dat (.int .i64))], objs := [(2, .st .layoutT), (3, .st .targetT)] }
noncomputable def c36l19 : Cut SN := { slots := [(2, .bp 2 0), (3, .bp 3 0), (9, .dat (.sl (.sl (.int .i64)))), (10, .dat (.sl (.int .i64))), (11, .dat (.int .i64)), (12, .dat (.int .i64)), (13, .vh 1013), (14, .dat (.int .i64))], objs := [(2, .st .layoutT), (3, .st .targetT), (1013, .vec 24 (.st .layoutT))] }
noncomputable def c36j16 : Cut SN := { slots := [(2, .bp 2 0), (3, .bp 3 0), (9, .dat (.sl (.sl (.int .i64)))), (10, .dat (.sl (.int .i64))), (11, .dat (.int .i64)), (12, .dat (.int .i64))], objs := [(2, .st .layoutT), (3, .st .targetT)] }
noncomputable def c36r23 : Cut SN := { slots := [(2, .bp 2 0), (3, .bp 3 0), (9, .dat (.sl (.sl (.int .i64)))), (10, .dat (.sl (.int .i64))), (11, .dat (.int .i64)), (12, .dat (.int .i64)), (16, .bp 16 0), (82, .dat .bool)], objs := [(2, .st .layoutT), (3, .st .targetT), (16, .st .placeT)] }
noncomputable def c36e0 : Cut SN := { slots := [(10, .dat (.sl (.int .i64))), (11, .dat (.int .i64))], objs := [] }
noncomputable def c36e2 : Cut SN := { slots := [(2, .bp 2 0), (3, .bp 3 0), (9, .dat (.sl (.sl (.int .i64)))), (10, .dat (.sl (.int .i64))), (11, .dat (.int .i64)), (12, .dat (.int .i64)), (13, .vh 1013)], objs := [(2, .st .layoutT), (3, .st .targetT), (1013, .vec 24 (.st .layoutT))] }
noncomputable def c36z : Cut SN := { slots := [(4, .dat (.sl (.int .i64))), (5, .dat (.int .i64)), (6, .dat (.int .i64))], objs := [] }
noncomputable def sh36 : Shape vw := { exits := fun id => match id with | 0 => c36e0 | 2 => c36e2 | _ => { slots := [], objs := [] }, rcut := c36z }
noncomputable def sig36 : Sig vw := { params := [.dat (.st .layoutT), .dat (.st .targetT)], objs := [], rcut := c36z, rvars := [.tmp 4, .tmp 5, .tmp 6], keep := [] }
noncomputable def n_36l19 (v : (List (List Int)) × (List Int) × Int × Int × Int × Layout × Target × (List Layout) × Unit) : Option (((List (List Int)) × (List Int) × Int × Int × Layout × Target × (List Layout) × Unit)) :=
  if (0 : Int) ≤ v.snd.snd.snd.fst then
    v.fst[v.snd.snd.snd.fst.toNat]? >>= fun x1 =>
    if decide (v.snd.snd.snd.snd.fst < (↑x1.length : Int)) = true then
      if (0 : Int) ≤ v.snd.snd.snd.fst then
        v.fst[v.snd.snd.snd.fst.toNat]? >>= fun x2 =>
        if (0 : Int) ≤ v.snd.snd.snd.snd.fst then
          x2[v.snd.snd.snd.snd.fst.toNat]? >>= fun x3 =>
          if (0 : Int) ≤ x3 then
            v.snd.snd.snd.snd.snd.fst.parts[x3.toNat]? >>= fun x4 =>
            if v.snd.snd.snd.snd.snd.snd.snd.fst.length + [x4].length ≤ (4294967296 : Nat) then
              n_36l19 (v.fst, v.snd.fst, v.snd.snd.fst, v.snd.snd.snd.fst, IntKind.i64.wrap (v.snd.snd.snd.snd.fst + (1 : Int)), v.snd.snd.snd.snd.snd.fst, v.snd.snd.snd.snd.snd.snd.fst, v.snd.snd.snd.snd.snd.snd.snd.fst ++ [x4], ())
            else none
          else none
        else none
      else none
    else some ((v.fst, v.snd.fst, v.snd.snd.fst, v.snd.snd.snd.fst, v.snd.snd.snd.snd.snd.fst, v.snd.snd.snd.snd.snd.snd.fst, v.snd.snd.snd.snd.snd.snd.snd.fst, ()))
  else none
  partial_fixpoint
noncomputable def n_36l15 (v : (List (List Int)) × (List Int) × Int × Int × Layout × Target × Unit) : Option (((List Int) × Int × Unit)) :=
  if decide (v.snd.snd.snd.fst < (↑v.fst.length : Int)) = true then
    (n_36l19 (v.fst, v.snd.fst, v.snd.snd.fst, v.snd.snd.snd.fst, (0 : Int), v.snd.snd.snd.snd.fst, v.snd.snd.snd.snd.snd.fst, [], ()) >>= fun x1 =>
      n_61 (x1.snd.snd.snd.snd.snd.snd.fst, x1.snd.snd.snd.snd.snd.fst, ()) >>= fun x2 =>
      (if decide (x1.snd.snd.fst < (0 : Int)) = true then
          some ((x1.fst, x1.snd.fst, x1.snd.snd.fst, x1.snd.snd.snd.fst, true, x1.snd.snd.snd.snd.fst, x1.snd.snd.snd.snd.snd.fst, x2.snd.fst, ()))
        else some ((x1.fst, x1.snd.fst, x1.snd.snd.fst, x1.snd.snd.snd.fst, decide (x2.snd.fst.size < x1.snd.snd.fst), x1.snd.snd.snd.snd.fst, x1.snd.snd.snd.snd.snd.fst, x2.snd.fst, ()))) >>= fun x3 =>
      if x3.snd.snd.snd.snd.fst = true then
        if (0 : Int) ≤ x3.snd.snd.snd.fst then
          x3.fst[x3.snd.snd.snd.fst.toNat]? >>= fun x4 =>
          some ((x3.fst, x4, x3.snd.snd.snd.snd.snd.snd.snd.fst.size, x3.snd.snd.snd.fst, x3.snd.snd.snd.snd.snd.fst, x3.snd.snd.snd.snd.snd.snd.fst, ()))
        else none
      else some ((x3.fst, x3.snd.fst, x3.snd.snd.fst, x3.snd.snd.snd.fst, x3.snd.snd.snd.snd.snd.fst, x3.snd.snd.snd.snd.snd.snd.fst, ()))) >>= fun x1 =>
    n_36l15 (x1.fst, x1.snd.fst, x1.snd.snd.fst, IntKind.i64.wrap (x1.snd.snd.snd.fst + (1 : Int)), x1.snd.snd.snd.snd.fst, x1.snd.snd.snd.snd.snd.fst, ())
  else some ((v.snd.fst, v.snd.snd.fst, ()))
  partial_fixpoint
noncomputable def n_36 (v : Layout × Target × Unit) : Option ((List Int) × Int × Int × Unit) :=
  n_41 (v.fst, v.snd.fst, ()) >>= fun x1 =>
  if (x1.fst != (0 : Int)) = true then
    some (([], (0 : Int), x1.fst, ()))
  else if (v.fst.kind != (6 : Int)) = true then
    some (([], (0 : Int), (6 : Int), ()))
  else if decide ((↑v.fst.parts.length : Int) > (7 : Int)) = true then
    some (([], (0 : Int), (3 : Int), ()))
  else n_42 (v.fst, v.snd.fst, ()) >>= fun x2 =>
  if (x2.fst != (0 : Int)) = true then
    some (([], (0 : Int), x2.fst, ()))
  else n_68 ((↑v.fst.parts.length : Int), [], ()) >>= fun x3 =>
  n_36l15 (x3.fst, [], (-1 : Int), (0 : Int), v.fst, v.snd.fst, ()) >>= fun x4 =>
  some ((x4.fst, x4.snd.fst, (0 : Int), ()))
noncomputable def call36 : Caller vw := fun A fid args S k => match fid with | 41 => callPure Try.prog sig41 n_41 A args S k | 42 => callPure Try.prog sig42 n_42 A args S k | 61 => callPure Try.prog sig61 n_61 A args S k | 68 => callPure Try.prog sig68 n_68 A args S k | _ => none
noncomputable def x36 : Xc vw := { P := Try.prog, n := 91, nm := id, call := call36, pre := fun k => match k with | 61 => true | _ => false, sh := sh36, joins := fun k => match k with | 16 => some (c36j16, [.norm]) | _ => none, regs := fun k => match k with | 23 => some c36r23 | _ => none, loops := fun k => match k with | 15 => some { cut := c36l15, alts := [.exit 0], F := n_36l15 } | 19 => some { cut := c36l19, alts := [.exit 2], F := n_36l19 } | _ => none }
theorem call36_ok : CallerOk Try.prog call36 := fun A fid args S dst k r h => by
  unfold call36 at h
  split at h
  · exact callPure_ok (n_41_ok) rfl rfl h
  · exact callPure_ok (n_42_ok) rfl rfl h
  · exact callPure_ok (n_61_ok) rfl rfl h
  · exact callPure_ok (n_68_ok) rfl rfl h
  · cases h
theorem n_36l19_ok (C : Ctx) (hP : C.P = Try.prog) (hN : C.N = 91) : LoopOk C (loopNo (loopNo (bodyOf Try.f36) 0) 0) (sh := sh36) { cut := c36l19, alts := [.exit 2], F := n_36l19 } :=
  n_36l19.partial_correctness (motive := fun v out => AWpL C (loopNo (loopNo (bodyOf Try.f36) 0) 0) (encS vw (conc vw c36l19 v)) (OutQ sh36 [.exit 2] out)) fun F ih v out h =>
    loop_step (X := x36) (b := (loopNo (loopNo (bodyOf Try.f36) 0) 0)) hP hN Ty.mixed call36_ok (lok_all (X := x36) (c := (loopNo (loopNo (bodyOf Try.f36) 0) 0)) (kcast (by kernel_rfl : True = AllB (LoopsP C (x36)) (loopsIn (loopNo (loopNo (bodyOf Try.f36) 0) 0))) trivial)) ih (kcast (by kernel_rfl) h)
theorem n_36l15_ok (C : Ctx) (hP : C.P = Try.prog) (hN : C.N = 91) : LoopOk C (loopNo (bodyOf Try.f36) 0) (sh := sh36) { cut := c36l15, alts := [.exit 0], F := n_36l15 } :=
  n_36l15.partial_correctness (motive := fun v out => AWpL C (loopNo (bodyOf Try.f36) 0) (encS vw (conc vw c36l15 v)) (OutQ sh36 [.exit 0] out)) fun F ih v out h =>
    loop_step (X := x36) (b := (loopNo (bodyOf Try.f36) 0)) hP hN Ty.mixed call36_ok (lok_all (X := x36) (c := (loopNo (bodyOf Try.f36) 0)) (kcast (by kernel_rfl : AllB (LoopsP C (x36)) [(loopNo (loopNo (bodyOf Try.f36) 0) 0)] = AllB (LoopsP C (x36)) (loopsIn (loopNo (bodyOf Try.f36) 0))) ⟨loop_at (X := x36) (b := (loopNo (loopNo (bodyOf Try.f36) 0) 0)) (by kernel_rfl) (n_36l19_ok C hP hN), trivial⟩)) ih (kcast (by kernel_rfl) h)
theorem n_36_ok : SigOk Try.prog 36 sig36 n_36 := fun v r x h hx =>
  fn_ok (X := x36) (sig := sig36) rfl Try.func36 (c := bodyOf Try.f36) (by kernel_rfl) Try.ntmps36 (by kernel_rfl) (by kernel_rfl) rfl Ty.mixed call36_ok rfl (fun C hP hN => (lok_all (X := x36) (c := (bodyOf Try.f36)) (kcast (by kernel_rfl : AllB (LoopsP C (x36)) [(loopNo (bodyOf Try.f36) 0)] = AllB (LoopsP C (x36)) (loopsIn (bodyOf Try.f36))) ⟨loop_at (X := x36) (b := (loopNo (bodyOf Try.f36) 0)) (by kernel_rfl) (n_36l15_ok C hP hN), trivial⟩))) (kcast (by kernel_rfl) h) x hx

noncomputable def c4l12 : Cut SN := { slots := [(2, .bp 2 0), (3, .bp 3 0), (5, .dat (.sl (.int .i64))), (7, .dat (.int .i64)), (9, .dat (.int .i64)), (11, .dat (.int .i64)), (12, .dat (.int .i64))], objs := [(2, .st .layoutT), (3, .st .targetT)] }
noncomputable def c4r7 : Cut SN := { slots := [(4, .dat .bool)], objs := [] }
noncomputable def c4r8 : Cut SN := { slots := [(2, .bp 2 0), (3, .bp 3 0), (5, .dat (.sl (.int .i64))), (7, .dat (.int .i64)), (9, .dat (.int .i64)), (71, .dat .bool)], objs := [(2, .st .layoutT), (3, .st .targetT)] }
noncomputable def c4r16 : Cut SN := { slots := [(2, .bp 2 0), (3, .bp 3 0), (5, .dat (.sl (.int .i64))), (7, .dat (.int .i64)), (9, .dat (.int .i64)), (12, .dat (.int .i64)), (13, .dat (.int .i64)), (130, .dat .bool)], objs := [(2, .st .layoutT), (3, .st .targetT)] }
noncomputable def c4r19 : Cut SN := { slots := [(4, .dat .bool)], objs := [] }
noncomputable def c4e0 : Cut SN := { slots := [(7, .dat (.int .i64)), (11, .dat (.int .i64))], objs := [] }
noncomputable def c4z : Cut SN := { slots := [(4, .dat .bool)], objs := [] }
noncomputable def sh4 : Shape vw := { exits := fun id => match id with | 0 => c4e0 | _ => { slots := [], objs := [] }, rcut := c4z }
noncomputable def sig4 : Sig vw := { params := [.dat (.st .layoutT), .dat (.st .targetT)], objs := [], rcut := c4z, rvars := [.tmp 4], keep := [] }
noncomputable def n_4l12 (v : (List Int) × Int × Int × Int × Int × Layout × Target × Unit) : Option (((Bool × Unit) ⊕ (Int × Int × Unit))) :=
  if decide (v.snd.snd.snd.snd.fst < (↑v.fst.length : Int)) = true then
    if (0 : Int) ≤ v.snd.snd.snd.snd.fst then
      v.snd.snd.snd.snd.snd.fst.parts[v.snd.snd.snd.snd.fst.toNat]? >>= fun x1 =>
      n_13 (x1, v.snd.snd.snd.snd.snd.snd.fst, ()) >>= fun x2 =>
      if (0 : Int) ≤ v.snd.snd.snd.snd.fst then
        v.snd.snd.snd.snd.snd.fst.parts[v.snd.snd.snd.snd.fst.toNat]? >>= fun x3 =>
        n_15 (x3, v.snd.snd.snd.snd.snd.snd.fst, ()) >>= fun x4 =>
        (if (x2.snd.fst != (0 : Int)) = true then
            some ((v.fst, v.snd.fst, v.snd.snd.fst, v.snd.snd.snd.snd.fst, x2.fst, true, v.snd.snd.snd.snd.snd.fst, v.snd.snd.snd.snd.snd.snd.fst, ()))
          else if (x4.snd.fst != (0 : Int)) = true then
            some ((v.fst, v.snd.fst, v.snd.snd.fst, v.snd.snd.snd.snd.fst, x2.fst, true, v.snd.snd.snd.snd.snd.fst, v.snd.snd.snd.snd.snd.snd.fst, ()))
          else if decide (x4.fst < (1 : Int)) = true then
            some ((v.fst, v.snd.fst, v.snd.snd.fst, v.snd.snd.snd.snd.fst, x2.fst, true, v.snd.snd.snd.snd.snd.fst, v.snd.snd.snd.snd.snd.snd.fst, ()))
          else if (0 : Int) ≤ v.snd.snd.snd.snd.fst then
            v.fst[v.snd.snd.snd.snd.fst.toNat]? >>= fun x5 =>
            if x4.fst = (0 : Int) then
              none
            else if (x5.tmod x4.fst != (0 : Int)) = true then
              some ((v.fst, v.snd.fst, v.snd.snd.fst, v.snd.snd.snd.snd.fst, x2.fst, true, v.snd.snd.snd.snd.snd.fst, v.snd.snd.snd.snd.snd.snd.fst, ()))
            else if (0 : Int) ≤ v.snd.snd.snd.snd.fst then
              v.fst[v.snd.snd.snd.snd.fst.toNat]? >>= fun x6 =>
              if decide (x6 < v.snd.snd.snd.fst) = true then
                some ((v.fst, v.snd.fst, v.snd.snd.fst, v.snd.snd.snd.snd.fst, x2.fst, true, v.snd.snd.snd.snd.snd.fst, v.snd.snd.snd.snd.snd.snd.fst, ()))
              else if x4.fst = (0 : Int) then
                none
              else some ((v.fst, v.snd.fst, v.snd.snd.fst, v.snd.snd.snd.snd.fst, x2.fst, v.snd.snd.fst.tmod x4.fst != (0 : Int), v.snd.snd.snd.snd.snd.fst, v.snd.snd.snd.snd.snd.snd.fst, ()))
            else none
          else none) >>= fun x5 =>
        if x5.snd.snd.snd.snd.snd.fst = true then
          some (Sum.inl (false, ()))
        else if (0 : Int) ≤ x5.snd.snd.snd.fst then
          x5.fst[x5.snd.snd.snd.fst.toNat]? >>= fun x6 =>
          n_4l12 (x5.fst, x5.snd.fst, x5.snd.snd.fst, IntKind.i64.wrap (x6 + x5.snd.snd.snd.snd.fst), IntKind.i64.wrap (x5.snd.snd.snd.fst + (1 : Int)), x5.snd.snd.snd.snd.snd.snd.fst, x5.snd.snd.snd.snd.snd.snd.snd.fst, ())
        else none
      else none
    else none
  else some (Sum.inr (v.snd.fst, v.snd.snd.snd.fst, ()))
  partial_fixpoint
noncomputable def n_4 (v : Layout × Target × Unit) : Option (Bool × Unit) :=
  n_11 (v.fst, ()) >>= fun x1 =>
  if x1.fst = true then
    n_12 () >>= fun x2 =>
    some ((x2.fst, ()))
  else n_17 (v.fst, v.snd.fst, ()) >>= fun x2 =>
  n_13 (v.fst, v.snd.fst, ()) >>= fun x3 =>
  n_15 (v.fst, v.snd.fst, ()) >>= fun x4 =>
  if (x2.snd.fst != (0 : Int)) = true then
    (if ((x3.snd.fst == (0 : Int)) == (x4.snd.fst == (0 : Int))) = true then
        n_12 () >>= fun x5 =>
        some ((x5.fst, ()))
      else some ((false, ()))) >>= fun x5 =>
    some ((x5.fst, ()))
  else (if (x3.snd.fst != (0 : Int)) = true then
      some ((x2.fst, x3.fst, x4.fst, true, v.fst, v.snd.fst, ()))
    else if (x4.snd.fst != (0 : Int)) = true then
      some ((x2.fst, x3.fst, x4.fst, true, v.fst, v.snd.fst, ()))
    else if ((↑x2.fst.length : Int) != (↑v.fst.parts.length : Int)) = true then
      some ((x2.fst, x3.fst, x4.fst, true, v.fst, v.snd.fst, ()))
    else if decide (x4.fst < (1 : Int)) = true then
      some ((x2.fst, x3.fst, x4.fst, true, v.fst, v.snd.fst, ()))
    else if x4.fst = (0 : Int) then
      none
    else some ((x2.fst, x3.fst, x4.fst, x3.fst.tmod x4.fst != (0 : Int), v.fst, v.snd.fst, ()))) >>= fun x5 =>
  if x5.snd.snd.snd.fst = true then
    some ((false, ()))
  else n_4l12 (x5.fst, x5.snd.fst, x5.snd.snd.fst, (0 : Int), (0 : Int), x5.snd.snd.snd.snd.fst, x5.snd.snd.snd.snd.snd.fst, ()) >>= fun x6 => match x6 with
    | .inl y6 => some y6
    | .inr y6 => (if decide (y6.snd.fst ≤ y6.fst) = true then
          n_12 () >>= fun x7 =>
          some ((x7.fst, ()))
        else some ((false, ()))) >>= fun x7 =>
      some ((x7.fst, ()))
noncomputable def call4 : Caller vw := fun A fid args S k => match fid with | 11 => callPure Try.prog sig11 n_11 A args S k | 12 => callPure Try.prog sig12 n_12 A args S k | 13 => callPure Try.prog sig13 n_13 A args S k | 15 => callPure Try.prog sig15 n_15 A args S k | 17 => callPure Try.prog sig17 n_17 A args S k | _ => none
noncomputable def x4 : Xc vw := { P := Try.prog, n := 143, nm := id, call := call4, pre := fun _ => false, sh := sh4, joins := fun _ => none, regs := fun k => match k with | 7 => some c4r7 | 8 => some c4r8 | 16 => some c4r16 | 19 => some c4r19 | _ => none, loops := fun k => match k with | 12 => some { cut := c4l12, alts := [.ret, .exit 0], F := n_4l12 } | _ => none }
theorem call4_ok : CallerOk Try.prog call4 := fun A fid args S dst k r h => by
  unfold call4 at h
  split at h
  · exact callPure_ok (n_11_ok) rfl rfl h
  · exact callPure_ok (n_12_ok) rfl rfl h
  · exact callPure_ok (n_13_ok) rfl rfl h
  · exact callPure_ok (n_15_ok) rfl rfl h
  · exact callPure_ok (n_17_ok) rfl rfl h
  · cases h
theorem n_4l12_ok (C : Ctx) (hP : C.P = Try.prog) (hN : C.N = 143) : LoopOk C (loopNo (bodyOf Try.f4) 0) (sh := sh4) { cut := c4l12, alts := [.ret, .exit 0], F := n_4l12 } :=
  n_4l12.partial_correctness (motive := fun v out => AWpL C (loopNo (bodyOf Try.f4) 0) (encS vw (conc vw c4l12 v)) (OutQ sh4 [.ret, .exit 0] out)) fun F ih v out h =>
    loop_step (X := x4) (b := (loopNo (bodyOf Try.f4) 0)) hP hN Ty.mixed call4_ok (lok_all (X := x4) (c := (loopNo (bodyOf Try.f4) 0)) (kcast (by kernel_rfl : True = AllB (LoopsP C (x4)) (loopsIn (loopNo (bodyOf Try.f4) 0))) trivial)) ih (kcast (by kernel_rfl) h)
theorem n_4_ok : SigOk Try.prog 4 sig4 n_4 := fun v r x h hx =>
  fn_ok (X := x4) (sig := sig4) rfl Try.func4 (c := bodyOf Try.f4) (by kernel_rfl) Try.ntmps4 (by kernel_rfl) (by kernel_rfl) rfl Ty.mixed call4_ok rfl (fun C hP hN => (lok_all (X := x4) (c := (bodyOf Try.f4)) (kcast (by kernel_rfl : AllB (LoopsP C (x4)) [(loopNo (bodyOf Try.f4) 0)] = AllB (LoopsP C (x4)) (loopsIn (bodyOf Try.f4))) ⟨loop_at (X := x4) (b := (loopNo (bodyOf Try.f4) 0)) (by kernel_rfl) (n_4l12_ok C hP hN), trivial⟩))) (kcast (by kernel_rfl) h) x hx

noncomputable def c5r5 : Cut SN := { slots := [(4, .dat .bool)], objs := [] }
noncomputable def c5z : Cut SN := { slots := [(4, .dat .bool)], objs := [] }
noncomputable def sh5 : Shape vw := { exits := fun _ => { slots := [], objs := [] }, rcut := c5z }
noncomputable def sig5 : Sig vw := { params := [.dat (.st .layoutT), .dat (.st .targetT)], objs := [], rcut := c5z, rvars := [.tmp 4], keep := [] }
noncomputable def n_5 (v : Layout × Target × Unit) : Option (Bool × Unit) :=
  n_11 (v.fst, ()) >>= fun x1 =>
  if x1.fst = true then
    n_12 () >>= fun x2 =>
    some ((x2.fst, ()))
  else n_18 (v.fst, ()) >>= fun x2 =>
  n_19 (v.fst, ()) >>= fun x3 =>
  (n_20 (v.fst, ()) >>= fun x4 =>
    n_21 (v.fst, ()) >>= fun x5 =>
    if (x4.fst == x5.fst) = true then
      n_22 (v.snd.fst, ()) >>= fun x6 =>
      n_23 (v.snd.fst, ()) >>= fun x7 =>
      if (x6.fst == x7.fst) = true then
        if (x2.fst == x3.fst) = true then
          if (x2.snd.fst == x3.snd.fst) = true then
            if (x2.snd.snd.fst == x3.snd.snd.fst) = true then
              n_12 () >>= fun x8 =>
              some ((x8.fst, ()))
            else some ((false, ()))
          else some ((false, ()))
        else some ((false, ()))
      else some ((false, ()))
    else some ((false, ()))) >>= fun x4 =>
  some ((x4.fst, ()))
noncomputable def call5 : Caller vw := fun A fid args S k => match fid with | 11 => callPure Try.prog sig11 n_11 A args S k | 12 => callPure Try.prog sig12 n_12 A args S k | 18 => callPure Try.prog sig18 n_18 A args S k | 19 => callPure Try.prog sig19 n_19 A args S k | 20 => callPure Try.prog sig20 n_20 A args S k | 21 => callPure Try.prog sig21 n_21 A args S k | 22 => callPure Try.prog sig22 n_22 A args S k | 23 => callPure Try.prog sig23 n_23 A args S k | _ => none
noncomputable def x5 : Xc vw := { P := Try.prog, n := 56, nm := id, call := call5, pre := fun _ => false, sh := sh5, joins := fun _ => none, regs := fun k => match k with | 5 => some c5r5 | _ => none, loops := fun _ => none }
theorem call5_ok : CallerOk Try.prog call5 := fun A fid args S dst k r h => by
  unfold call5 at h
  split at h
  · exact callPure_ok (n_11_ok) rfl rfl h
  · exact callPure_ok (n_12_ok) rfl rfl h
  · exact callPure_ok (n_18_ok) rfl rfl h
  · exact callPure_ok (n_19_ok) rfl rfl h
  · exact callPure_ok (n_20_ok) rfl rfl h
  · exact callPure_ok (n_21_ok) rfl rfl h
  · exact callPure_ok (n_22_ok) rfl rfl h
  · exact callPure_ok (n_23_ok) rfl rfl h
  · cases h
theorem n_5_ok : SigOk Try.prog 5 sig5 n_5 := fun v r x h hx =>
  fn_ok (X := x5) (sig := sig5) rfl Try.func5 (c := bodyOf Try.f5) (by kernel_rfl) Try.ntmps5 (by kernel_rfl) (by kernel_rfl) rfl Ty.mixed call5_ok rfl (fun C hP hN => (lok_all (X := x5) (c := (bodyOf Try.f5)) (kcast (by kernel_rfl : True = AllB (LoopsP C (x5)) (loopsIn (bodyOf Try.f5))) trivial))) (kcast (by kernel_rfl) h) x hx

noncomputable def c6r1 : Cut SN := { slots := [(2, .bp 2 0), (3, .bp 3 0), (11, .dat .bool)], objs := [(2, .st .layoutT), (3, .st .layoutT)] }
noncomputable def c6r4 : Cut SN := { slots := [(2, .bp 2 0), (5, .bp 5 0), (27, .dat .bool)], objs := [(2, .st .layoutT), (5, .box [.dat (.int .i64), .dat (.int .i64), .dat .bool, .vh 3053]), (3053, .vec 24 (.st .layoutT))] }
noncomputable def c6r8 : Cut SN := { slots := [(4, .dat .bool)], objs := [] }
noncomputable def c6z : Cut SN := { slots := [(4, .dat .bool)], objs := [] }
noncomputable def sh6 : Shape vw := { exits := fun _ => { slots := [], objs := [] }, rcut := c6z }
noncomputable def sig6 : Sig vw := { params := [.dat (.st .layoutT), .dat (.st .layoutT)], objs := [], rcut := c6z, rvars := [.tmp 4], keep := [] }
noncomputable def n_6 (v : Layout × Layout × Unit) : Option (Bool × Unit) :=
  (n_11 (v.fst, ()) >>= fun x1 =>
    if x1.fst = true then
      some ((true, v.fst, v.snd.fst, ()))
    else n_11 (v.snd.fst, ()) >>= fun x2 =>
    some ((x2.fst, v.fst, v.snd.fst, ()))) >>= fun x1 =>
  if x1.fst = true then
    n_12 () >>= fun x2 =>
    some ((x2.fst, ()))
  else n_24sba69 (x1.snd.fst, ()) >>= fun x2 =>
  (n_25 (x1.snd.fst, x1.snd.snd.fst, ()) >>= fun x3 =>
    n_26 (x1.snd.fst, x1.snd.snd.fst, ()) >>= fun x4 =>
    if (!x3.fst == x4.fst) = true then
      some ((true, x1.snd.fst, x2.fst, x2.snd.fst, x2.snd.snd.fst, x2.snd.snd.snd.fst, ()))
    else n_26 (x1.snd.fst, Layout.mk x2.fst x2.snd.fst x2.snd.snd.fst x2.snd.snd.snd.fst, ()) >>= fun x5 =>
    some ((!x5.fst, x1.snd.fst, x2.fst, x2.snd.fst, x2.snd.snd.fst, x2.snd.snd.snd.fst, ()))) >>= fun x3 =>
  if x3.fst = true then
    some ((false, ()))
  else if decide ((↑x3.snd.snd.snd.snd.snd.fst.length : Int) > (0 : Int)) = true then
    if (0 : Int) ≤ (0 : Int) ∧ (0 : Int) < (↑x3.snd.snd.snd.snd.snd.fst.length : Int) then
      x3.snd.snd.snd.snd.snd.fst[Int.toNat (0 : Int)]? >>= fun x4 =>
      if (0 : Int) ≤ (0 : Int) ∧ (0 : Int) < (↑x3.snd.snd.snd.snd.snd.fst.length : Int) then
        x3.snd.snd.snd.snd.snd.fst[Int.toNat (0 : Int)]? >>= fun x5 =>
        (n_26 (x3.snd.fst, Layout.mk x3.snd.snd.fst x3.snd.snd.snd.fst x3.snd.snd.snd.snd.fst (x3.snd.snd.snd.snd.snd.fst.set (Int.toNat (0 : Int)) (Layout.mk x5.kind (IntKind.i64.wrap (x4.n + (1 : Int))) x5.flag x5.parts)), ()) >>= fun x6 =>
          if (!x6.fst) = true then
            n_12 () >>= fun x7 =>
            some ((x7.fst, ()))
          else some ((false, ()))) >>= fun x6 =>
        some ((x6.fst, ()))
      else none
    else none
  else n_12 () >>= fun x4 =>
  some ((x4.fst, ()))
noncomputable def call6 : Caller vw := fun A fid args S k => match fid with | 11 => callPure Try.prog sig11 n_11 A args S k | 12 => callPure Try.prog sig12 n_12 A args S k | 24 => callObj Try.prog sig24sba69 n_24sba69 A args S k | 25 => callPure Try.prog sig25 n_25 A args S k | 26 => callPure Try.prog sig26 n_26 A args S k | _ => none
noncomputable def x6 : Xc vw := { P := Try.prog, n := 48, nm := id, call := call6, pre := fun _ => false, sh := sh6, joins := fun _ => none, regs := fun k => match k with | 1 => some c6r1 | 4 => some c6r4 | 8 => some c6r8 | _ => none, loops := fun _ => none }
theorem call6_ok : CallerOk Try.prog call6 := fun A fid args S dst k r h => by
  unfold call6 at h
  split at h
  · exact callPure_ok (n_11_ok) rfl rfl h
  · exact callPure_ok (n_12_ok) rfl rfl h
  · exact callObj_ok (n_24sba69_ok) h
  · exact callPure_ok (n_25_ok) rfl rfl h
  · exact callPure_ok (n_26_ok) rfl rfl h
  · cases h
theorem n_6_ok : SigOk Try.prog 6 sig6 n_6 := fun v r x h hx =>
  fn_ok (X := x6) (sig := sig6) rfl Try.func6 (c := bodyOf Try.f6) (by kernel_rfl) Try.ntmps6 (by kernel_rfl) (by kernel_rfl) rfl Ty.mixed call6_ok rfl (fun C hP hN => (lok_all (X := x6) (c := (bodyOf Try.f6)) (kcast (by kernel_rfl : True = AllB (LoopsP C (x6)) (loopsIn (bodyOf Try.f6))) trivial))) (kcast (by kernel_rfl) h) x hx

noncomputable def c7r7 : Cut SN := { slots := [(6, .dat .bool)], objs := [] }
noncomputable def c7z : Cut SN := { slots := [(6, .dat .bool)], objs := [] }
noncomputable def sh7 : Shape vw := { exits := fun _ => { slots := [], objs := [] }, rcut := c7z }
noncomputable def sig7 : Sig vw := { params := [.dat (.st .layoutT), .dat (.st .targetT), .dat (.int .i64)], objs := [], rcut := c7z, rvars := [.tmp 6], keep := [] }
noncomputable def n_7 (v : Layout × Target × Int × Unit) : Option (Bool × Unit) :=
  n_11 (v.fst, ()) >>= fun x1 =>
  if x1.fst = true then
    n_12 () >>= fun x2 =>
    some ((x2.fst, ()))
  else n_27 (v.fst, v.snd.snd.fst, ()) >>= fun x2 =>
  n_28 (v.fst, v.snd.snd.fst, ()) >>= fun x3 =>
  n_29 (v.fst, v.snd.fst, ()) >>= fun x4 =>
  n_30 (v.fst, v.snd.fst, ()) >>= fun x5 =>
  (if (x2.fst == x3.fst) = true then
      if (x2.snd.fst == x3.snd.fst) = true then
        if (x2.snd.snd.fst == x3.snd.snd.fst) = true then
          n_31 (x4.fst, x5.fst, ()) >>= fun x6 =>
          if x6.fst = true then
            if (x4.snd.fst == x5.snd.fst) = true then
              n_12 () >>= fun x7 =>
              some ((x7.fst, ()))
            else some ((false, ()))
          else some ((false, ()))
        else some ((false, ()))
      else some ((false, ()))
    else some ((false, ()))) >>= fun x6 =>
  some ((x6.fst, ()))
noncomputable def call7 : Caller vw := fun A fid args S k => match fid with | 11 => callPure Try.prog sig11 n_11 A args S k | 12 => callPure Try.prog sig12 n_12 A args S k | 27 => callPure Try.prog sig27 n_27 A args S k | 28 => callPure Try.prog sig28 n_28 A args S k | 29 => callPure Try.prog sig29 n_29 A args S k | 30 => callPure Try.prog sig30 n_30 A args S k | 31 => callPure Try.prog sig31 n_31 A args S k | _ => none
noncomputable def x7 : Xc vw := { P := Try.prog, n := 72, nm := id, call := call7, pre := fun _ => false, sh := sh7, joins := fun _ => none, regs := fun k => match k with | 7 => some c7r7 | _ => none, loops := fun _ => none }
theorem call7_ok : CallerOk Try.prog call7 := fun A fid args S dst k r h => by
  unfold call7 at h
  split at h
  · exact callPure_ok (n_11_ok) rfl rfl h
  · exact callPure_ok (n_12_ok) rfl rfl h
  · exact callPure_ok (n_27_ok) rfl rfl h
  · exact callPure_ok (n_28_ok) rfl rfl h
  · exact callPure_ok (n_29_ok) rfl rfl h
  · exact callPure_ok (n_30_ok) rfl rfl h
  · exact callPure_ok (n_31_ok) rfl rfl h
  · cases h
theorem n_7_ok : SigOk Try.prog 7 sig7 n_7 := fun v r x h hx =>
  fn_ok (X := x7) (sig := sig7) rfl Try.func7 (c := bodyOf Try.f7) (by kernel_rfl) Try.ntmps7 (by kernel_rfl) (by kernel_rfl) rfl Ty.mixed call7_ok rfl (fun C hP hN => (lok_all (X := x7) (c := (bodyOf Try.f7)) (kcast (by kernel_rfl : True = AllB (LoopsP C (x7)) (loopsIn (bodyOf Try.f7))) trivial))) (kcast (by kernel_rfl) h) x hx

noncomputable def c8r7 : Cut SN := { slots := [(6, .dat .bool)], objs := [] }
noncomputable def c8z : Cut SN := { slots := [(6, .dat .bool)], objs := [] }
noncomputable def sh8 : Shape vw := { exits := fun _ => { slots := [], objs := [] }, rcut := c8z }
noncomputable def sig8 : Sig vw := { params := [.dat (.st .layoutT), .dat (.st .targetT), .dat (.int .i64)], objs := [], rcut := c8z, rvars := [.tmp 6], keep := [] }
noncomputable def n_8 (v : Layout × Target × Int × Unit) : Option (Bool × Unit) :=
  n_11 (v.fst, ()) >>= fun x1 =>
  if x1.fst = true then
    n_12 () >>= fun x2 =>
    some ((x2.fst, ()))
  else n_32 (v.fst, v.snd.fst, v.snd.snd.fst, ()) >>= fun x2 =>
  n_33 (v.fst, v.snd.fst, v.snd.snd.fst, ()) >>= fun x3 =>
  n_17 (v.fst, v.snd.fst, ()) >>= fun x4 =>
  n_34 (v.fst, v.snd.fst, ()) >>= fun x5 =>
  (if (x2.fst == x3.fst) = true then
      if (x2.snd.fst == x3.snd.fst) = true then
        n_31 (x4.fst, x5.fst, ()) >>= fun x6 =>
        if x6.fst = true then
          if (x4.snd.fst == x5.snd.fst) = true then
            n_12 () >>= fun x7 =>
            some ((x7.fst, ()))
          else some ((false, ()))
        else some ((false, ()))
      else some ((false, ()))
    else some ((false, ()))) >>= fun x6 =>
  some ((x6.fst, ()))
noncomputable def call8 : Caller vw := fun A fid args S k => match fid with | 11 => callPure Try.prog sig11 n_11 A args S k | 12 => callPure Try.prog sig12 n_12 A args S k | 17 => callPure Try.prog sig17 n_17 A args S k | 31 => callPure Try.prog sig31 n_31 A args S k | 32 => callPure Try.prog sig32 n_32 A args S k | 33 => callPure Try.prog sig33 n_33 A args S k | 34 => callPure Try.prog sig34 n_34 A args S k | _ => none
noncomputable def x8 : Xc vw := { P := Try.prog, n := 65, nm := id, call := call8, pre := fun _ => false, sh := sh8, joins := fun _ => none, regs := fun k => match k with | 7 => some c8r7 | _ => none, loops := fun _ => none }
theorem call8_ok : CallerOk Try.prog call8 := fun A fid args S dst k r h => by
  unfold call8 at h
  split at h
  · exact callPure_ok (n_11_ok) rfl rfl h
  · exact callPure_ok (n_12_ok) rfl rfl h
  · exact callPure_ok (n_17_ok) rfl rfl h
  · exact callPure_ok (n_31_ok) rfl rfl h
  · exact callPure_ok (n_32_ok) rfl rfl h
  · exact callPure_ok (n_33_ok) rfl rfl h
  · exact callPure_ok (n_34_ok) rfl rfl h
  · cases h
theorem n_8_ok : SigOk Try.prog 8 sig8 n_8 := fun v r x h hx =>
  fn_ok (X := x8) (sig := sig8) rfl Try.func8 (c := bodyOf Try.f8) (by kernel_rfl) Try.ntmps8 (by kernel_rfl) (by kernel_rfl) rfl Ty.mixed call8_ok rfl (fun C hP hN => (lok_all (X := x8) (c := (bodyOf Try.f8)) (kcast (by kernel_rfl : True = AllB (LoopsP C (x8)) (loopsIn (bodyOf Try.f8))) trivial))) (kcast (by kernel_rfl) h) x hx

noncomputable def c9r5 : Cut SN := { slots := [(4, .dat .bool)], objs := [] }
noncomputable def c9z : Cut SN := { slots := [(4, .dat .bool)], objs := [] }
noncomputable def sh9 : Shape vw := { exits := fun _ => { slots := [], objs := [] }, rcut := c9z }
noncomputable def sig9 : Sig vw := { params := [.dat (.st .layoutT), .dat (.st .targetT)], objs := [], rcut := c9z, rvars := [.tmp 4], keep := [] }
noncomputable def n_9 (v : Layout × Target × Unit) : Option (Bool × Unit) :=
  n_11 (v.fst, ()) >>= fun x1 =>
  if x1.fst = true then
    n_12 () >>= fun x2 =>
    some ((x2.fst, ()))
  else n_35 (v.fst, v.snd.fst, ()) >>= fun x2 =>
  n_36 (v.fst, v.snd.fst, ()) >>= fun x3 =>
  (n_31 (x2.fst, x3.fst, ()) >>= fun x4 =>
    if x4.fst = true then
      if (x2.snd.fst == x3.snd.fst) = true then
        if (x2.snd.snd.fst == x3.snd.snd.fst) = true then
          n_12 () >>= fun x5 =>
          some ((x5.fst, ()))
        else some ((false, ()))
      else some ((false, ()))
    else some ((false, ()))) >>= fun x4 =>
  some ((x4.fst, ()))
noncomputable def call9 : Caller vw := fun A fid args S k => match fid with | 11 => callPure Try.prog sig11 n_11 A args S k | 12 => callPure Try.prog sig12 n_12 A args S k | 31 => callPure Try.prog sig31 n_31 A args S k | 35 => callPure Try.prog sig35 n_35 A args S k | 36 => callPure Try.prog sig36 n_36 A args S k | _ => none
noncomputable def x9 : Xc vw := { P := Try.prog, n := 44, nm := id, call := call9, pre := fun _ => false, sh := sh9, joins := fun _ => none, regs := fun k => match k with | 5 => some c9r5 | _ => none, loops := fun _ => none }
theorem call9_ok : CallerOk Try.prog call9 := fun A fid args S dst k r h => by
  unfold call9 at h
  split at h
  · exact callPure_ok (n_11_ok) rfl rfl h
  · exact callPure_ok (n_12_ok) rfl rfl h
  · exact callPure_ok (n_31_ok) rfl rfl h
  · exact callPure_ok (n_35_ok) rfl rfl h
  · exact callPure_ok (n_36_ok) rfl rfl h
  · cases h
theorem n_9_ok : SigOk Try.prog 9 sig9 n_9 := fun v r x h hx =>
  fn_ok (X := x9) (sig := sig9) rfl Try.func9 (c := bodyOf Try.f9) (by kernel_rfl) Try.ntmps9 (by kernel_rfl) (by kernel_rfl) rfl Ty.mixed call9_ok rfl (fun C hP hN => (lok_all (X := x9) (c := (bodyOf Try.f9)) (kcast (by kernel_rfl : True = AllB (LoopsP C (x9)) (loopsIn (bodyOf Try.f9))) trivial))) (kcast (by kernel_rfl) h) x hx

end Go.Proofs.Ytdknkfioigcfiaa
