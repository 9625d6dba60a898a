/-
  Texts of this claim, joined by a program of mine: what the theorem uses.
-/
import Derived.Test.YtpelkenpapfadaaGreatDoorPkE
import Derived.Test.YtpelkenpapfadaaGreatDoorPkC
import Derived.Test.YtpelkenpapfadaaGreatDoorPkF
import Derived.Lib.RuneCountTail
import Derived.KernelRfl
import Derived.Test.YtpelkenpapfadaaGreatDoorCards
import Derived.Test.YtpelkenpapfadaaGreatDoorTie
import Derived.WalkKit
import Derived.ProofKit
import Derived.OpenShut
import Derived.LaidMore
import Derived.Lay
import Derived.SevenTiedAt
import Derived.Stop.Joined
import Derived.Deep.DeepHandedRow
set_option linter.unusedVariables false
set_option linter.unusedSimpArgs false
section
namespace Go.Proofs.YtpelkenpapfadaaGreatDoor
open Go.Awp Go.Tx
open IntKind (i64)
open Go.Proofs.Tryz (prog)
set_option maxHeartbeats 4000000
set_option maxRecDepth 100000
noncomputable def c111l3 : Cut SN := ⟨[(3, .dat (.int .i64)), (6, .dat (.sl (.int .i64))), (7, .dat (.int .i64)), (8, .dat (.int .i64))], []⟩
noncomputable def c111e0 : Cut SN := ⟨[(3, .dat (.int .i64))], []⟩
noncomputable def sh111 : Shape vw := { exits := fun id => match id with | 0 => c111e0 | _ => ⟨[], []⟩, rcut := c150e0 }
noncomputable def pre111 : Nat → Bool := fun _ => false
noncomputable def sig111 : Sig vw := { params := [.dat (.sl (.int .i64))], rcut := c150e0, rvars := [.tmp 2] }
noncomputable def u_111l3 (k : Nat) : (Int × (List Int) × Int × Int × Unit → Option ((Int × Unit))) :=
 Nat.rec (motive := fun _ => (Int × (List Int) × Int × Int × Unit → Option ((Int × Unit)))) (fun _ => none) (fun _ g v =>
 if decide (v.2.2.2.1 < v.2.2.1) = true then
  if (0 : Int) ≤ v.2.2.2.1 then
   v.2.1[v.2.2.2.1.toNat]? >>= fun x1 =>
   g (min (1099511627776 : Int) (i64.wrap (v.1 + min x1 (1099511627776 : Int))), v.2.1, v.2.2.1, i64.wrap (v.2.2.2.1 + (1 : Int)), ())
  else none
 else some ((v.1, ()))) k
noncomputable def n_111l3 (v : Int × (List Int) × Int × Int × Unit) : Option ((Int × Unit)) := (u_111l3 400) v
noncomputable def n_111 (v : (List Int) × Unit) : Option (Int × Unit) :=
 n_111l3 ((0 : Int), v.1, (↑v.1.length : Int), (0 : Int), ()) >>= fun x1 =>
 some ((x1.1, ()))
noncomputable def call111 : Caller vw := c0
noncomputable def x111 : Xc vw := { P := prog, n := 19, call := call111, pre := pre111, sh := sh111, loops := fun k => match k with | 3 => some { cut := c111l3, alts := [.exit 0], F := n_111l3 } | _ => none }
theorem call111_ok : CallerOk prog call111 := c0_ok
theorem n_111l3_ok (C : Ctx) (hP : C.P = prog) (hN : C.N = 19 ∧ Fx C pre111) : LoopOk C (loopNo (bodyOf Tryz.f111) 0) (sh := sh111) { cut := c111l3, alts := [.exit 0], F := n_111l3 } :=
 fun v out h => (Nat.rec (motive := fun k => ∀ v out, (u_111l3 k) v = some out → (AWpL C (loopNo (bodyOf Tryz.f111) 0) (Go.Tx.encS vw (conc vw c111l3 v)) (OutQ sh111 [.exit 0] out))) (fun v out h => by have h : (none : Option ((Int × Unit))) = some out := h; cases h) (fun k ih v out h => loop_step (X := x111) (b := (loopNo (bodyOf Tryz.f111) 0)) hP hN Ty.mixed call111_ok (lok_all (X := x111) (c := (loopNo (bodyOf Tryz.f111) 0)) (kcast (by kernel_rfl : True = AllB (LoopsP C (x111)) (loopsIn (loopNo (bodyOf Tryz.f111) 0))) trivial)) ih (kcast (by kernel_rfl) h)) 400 : ∀ v out, (u_111l3 400) v = some out → (AWpL C (loopNo (bodyOf Tryz.f111) 0) (Go.Tx.encS vw (conc vw c111l3 v)) (OutQ sh111 [.exit 0] out))) v out h
theorem n_111_ok : SigOk prog 111 sig111 n_111 := fun v r x h hx =>
 fn_ok (X := x111) (sig := sig111) rfl Tryz.func111 (c := bodyOf Tryz.f111) (by kernel_rfl) Tryz.ntmps111 (by kernel_rfl) (by kernel_rfl) rfl Ty.mixed call111_ok rfl (fun C hP hN => (lok_all (kcast (by kernel_rfl : AllB (LoopsP C (x111)) [(loopNo (bodyOf Tryz.f111) 0)] = AllB (LoopsP C (x111)) (loopsIn (bodyOf Tryz.f111))) ⟨loop_at (X := x111) (b := (loopNo (bodyOf Tryz.f111) 0)) (by kernel_rfl) (n_111l3_ok C hP hN), trivial⟩))) (kcast (by kernel_rfl) h) x hx
noncomputable def sh144 : Shape vw := { rcut := c150e0 }
noncomputable def pre144 : Nat → Bool := fun _ => false
noncomputable def sig144 : Sig vw := { params := [.dat (.st .layoutT)], rcut := c150e0, rvars := [.tmp 2] }
noncomputable def n_144 (v : Layout × Unit) : Option (Int × Unit) :=
 if (v.1.kind == (1 : Int)) = true then
  some (((1 : Int), ()))
 else if (v.1.kind == (2 : Int)) = true then
  some ((max v.1.n (0 : Int), ()))
 else some (((0 : Int), ()))
noncomputable def call144 : Caller vw := c0
noncomputable def x144 : Xc vw := { P := prog, n := 12, call := call144, pre := pre144, sh := sh144 }
theorem call144_ok : CallerOk prog call144 := c0_ok
theorem n_144_ok : SigOk prog 144 sig144 n_144 := fun v r x h hx =>
 fn_ok (X := x144) (sig := sig144) rfl Tryz.func144 (c := bodyOf Tryz.f144) (by kernel_rfl) Tryz.ntmps144 (by kernel_rfl) (by kernel_rfl) rfl Ty.mixed call144_ok rfl (fun C hP hN => (lok_all (kcast (by kernel_rfl) trivial))) (kcast (by kernel_rfl) h) x hx
noncomputable def c126sf4a5l14 : Cut SN := ⟨[(0, .bp 100000 0), (2, .dat (.int .i64)), (4, .bp 4 0), (6, .dat (.int .i64)), (98, .dat (.sl (.st .layoutT))), (99, .dat (.int .i64)), (100, .dat (.int .i64))], [(100000, .st .countedT), (4, .st .layoutT)]⟩
noncomputable def c126sf4a5l21 : Cut SN := ⟨[(0, .bp 100000 0), (2, .dat (.int .i64)), (126, .dat (.sl (.st .layoutT))), (127, .dat (.int .i64)), (128, .dat (.int .i64))], [(100000, .st .countedT)]⟩
noncomputable def c126sf4a5j19 : Cut SN := ⟨[(0, .bp 100000 0), (2, .dat (.int .i64)), (4, .bp 4 0)], [(100000, .st .countedT), (4, .st .layoutT)]⟩
noncomputable def c126sf4a5e1 : Cut SN := ⟨[(0, .bp 100000 0), (2, .dat (.int .i64)), (4, .bp 4 0), (6, .dat (.int .i64))], [(100000, .st .countedT), (4, .st .layoutT)]⟩
noncomputable def c126sf4a5e3 : Cut SN := ⟨[(0, .bp 100000 0)], [(100000, .st .countedT)]⟩
noncomputable def sh126sf4a5 : Shape vw := { exits := fun id => match id with | 1 => c126sf4a5e1 | 3 => c126sf4a5e3 | _ => ⟨[], []⟩, rcut := c126sf4a5e3 }
noncomputable def pre126sf4a5 : Nat → Bool := fun _ => false
noncomputable def sig126sf4a5 : Sig vw := { params := [.bp 100000 0, .dat (.st .layoutT), .dat (.int .i64)], objs := [(100000, .st .countedT)], rcut := c126sf4a5e3, rvars := [], keep := [100000] }
noncomputable def u_126sf4a5l14 (k : Nat) : (Int × Int × (List Layout) × Int × Int × Counted × Layout × Unit → Option ((Int × Int × Counted × Layout × Unit))) :=
 Nat.rec (motive := fun _ => (Int × Int × (List Layout) × Int × Int × Counted × Layout × Unit → Option ((Int × Int × Counted × Layout × Unit)))) (fun _ => none) (fun _ g v =>
 if decide (v.2.2.2.2.1 < v.2.2.2.1) = true then
  if (0 : Int) ≤ v.2.2.2.2.1 then
   v.2.2.1[v.2.2.2.2.1.toNat]? >>= fun x1 =>
   n_144 (x1, ()) >>= fun x2 =>
   n_111 ([v.2.1, x2.1], ()) >>= fun x3 =>
   g (v.1, x3.1, v.2.2.1, v.2.2.2.1, i64.wrap (v.2.2.2.2.1 + (1 : Int)), v.2.2.2.2.2.1, v.2.2.2.2.2.2.1, ())
  else none
 else some ((v.1, v.2.1, v.2.2.2.2.2.1, v.2.2.2.2.2.2.1, ()))) k
noncomputable def n_126sf4a5l14 (v : Int × Int × (List Layout) × Int × Int × Counted × Layout × Unit) : Option ((Int × Int × Counted × Layout × Unit)) := (u_126sf4a5l14 400) v
noncomputable def u_126sf4a5l21 (k : Nat) : (Int × (List Layout) × Int × Int × Counted × Unit → Option ((Counted × Unit))) × (Layout × Int × Counted × Unit → Option (Counted × Unit)) :=
 Nat.rec (motive := fun _ => (Int × (List Layout) × Int × Int × Counted × Unit → Option ((Counted × Unit))) × (Layout × Int × Counted × Unit → Option (Counted × Unit))) (fun _ => none, fun _ => none) (fun _ g => (fun v =>
 if decide (v.2.2.2.1 < v.2.2.1) = true then
  if (0 : Int) ≤ v.2.2.2.1 then
   v.2.1[v.2.2.2.1.toNat]? >>= fun x1 =>
   g.2 (x1, i64.wrap (v.1 + (1 : Int)), v.2.2.2.2.1, ()) >>= fun x2 =>
   g.1 (v.1, v.2.1, v.2.2.1, i64.wrap (v.2.2.2.1 + (1 : Int)), x2.1, ())
  else none
 else some ((v.2.2.2.2.1, ())),
  fun v =>
 (if v.2.2.1.large = true then
    some ((v.2.1, Counted.mk (i64.wrap (v.2.2.1.count + (1 : Int))) (max v.2.2.1.deep v.2.1) true, v.1, ()))
   else if decide (i64.wrap (v.2.2.1.count + (1 : Int)) > (60 : Int)) = true then
    some ((v.2.1, Counted.mk (i64.wrap (v.2.2.1.count + (1 : Int))) (max v.2.2.1.deep v.2.1) true, v.1, ()))
   else if decide (v.2.1 > (5 : Int)) = true then
    some ((v.2.1, Counted.mk (i64.wrap (v.2.2.1.count + (1 : Int))) (max v.2.2.1.deep v.2.1) true, v.1, ()))
   else some ((v.2.1, Counted.mk (i64.wrap (v.2.2.1.count + (1 : Int))) (max v.2.2.1.deep v.2.1) (decide ((↑v.1.parts.length : Int) > (12 : Int))), v.1, ()))) >>= fun x1 =>
 (if (x1.2.2.1.kind == (2 : Int)) = true then
    (if x1.2.1.large = true then
       some ((x1.1, Counted.mk x1.2.1.count x1.2.1.deep true, x1.2.2.1, ()))
      else some ((x1.1, Counted.mk x1.2.1.count x1.2.1.deep (decide (x1.2.2.1.n > (64 : Int))), x1.2.2.1, ()))) >>= fun x2 =>
    some ((x2.1, x2.2.1, x2.2.2.1, ()))
   else if (x1.2.2.1.kind == (5 : Int)) = true then
    (if x1.2.1.large = true then
       some ((x1.1, Counted.mk x1.2.1.count x1.2.1.deep true, x1.2.2.1, ()))
      else some ((x1.1, Counted.mk x1.2.1.count x1.2.1.deep (decide (x1.2.2.1.n > (1000 : Int))), x1.2.2.1, ()))) >>= fun x2 =>
    some ((x2.1, x2.2.1, x2.2.2.1, ()))
   else if (x1.2.2.1.kind == (7 : Int)) = true then
    (if x1.2.1.large = true then
       some ((x1.1, Counted.mk x1.2.1.count x1.2.1.deep true, x1.2.2.1, ()))
      else some ((x1.1, Counted.mk x1.2.1.count x1.2.1.deep (decide (x1.2.2.1.n > (65536 : Int))), x1.2.2.1, ()))) >>= fun x2 =>
    some ((x2.1, x2.2.1, x2.2.2.1, ()))
   else if (x1.2.2.1.kind == (9 : Int)) = true then
    n_126sf4a5l14 (x1.1, (0 : Int), x1.2.2.1.parts, (↑x1.2.2.1.parts.length : Int), (0 : Int), x1.2.1, x1.2.2.1, ()) >>= fun x2 =>
    (if x2.2.2.1.large = true then
       some ((x2.1, Counted.mk x2.2.2.1.count x2.2.2.1.deep true, x2.2.2.2.1, ()))
      else some ((x2.1, Counted.mk x2.2.2.1.count x2.2.2.1.deep (decide (x2.2.1 > (64 : Int))), x2.2.2.2.1, ()))) >>= fun x3 =>
    some ((x3.1, x3.2.1, x3.2.2.1, ()))
   else some ((x1.1, x1.2.1, x1.2.2.1, ()))) >>= fun x2 =>
 if x2.2.1.large = true then
  some ((x2.2.1, ()))
 else g.1 (x2.1, x2.2.2.1.parts, (↑x2.2.2.1.parts.length : Int), (0 : Int), x2.2.1, ()) >>= fun x3 =>
 some ((x3.1, ())))) k
noncomputable def n_126sf4a5 (v : Layout × Int × Counted × Unit) : Option (Counted × Unit) := (u_126sf4a5l21 400).2 v
noncomputable def call126sf4a5 (n_126sf4a5l14 : Int × Int × (List Layout) × Int × Int × Counted × Layout × Unit → Option ((Int × Int × Counted × Layout × Unit))) (n_126sf4a5l21 : Int × (List Layout) × Int × Int × Counted × Unit → Option ((Counted × Unit))) (n_126sf4a5 : Layout × Int × Counted × Unit → Option (Counted × Unit)) : Caller vw := fun A fid args S k => match fid with | 111 => callPure prog sig111 n_111 A args S k | 126 => callObj prog sig126sf4a5 n_126sf4a5 A args S k | 144 => callPure prog sig144 n_144 A args S k | _ => none
noncomputable def x126sf4a5 (n_126sf4a5l14 : Int × Int × (List Layout) × Int × Int × Counted × Layout × Unit → Option ((Int × Int × Counted × Layout × Unit))) (n_126sf4a5l21 : Int × (List Layout) × Int × Int × Counted × Unit → Option ((Counted × Unit))) (n_126sf4a5 : Layout × Int × Counted × Unit → Option (Counted × Unit)) : Xc vw := { P := prog, n := 138, call := call126sf4a5 n_126sf4a5l14 n_126sf4a5l21 n_126sf4a5, pre := pre126sf4a5, sh := sh126sf4a5, joins := fun k => match k with | 19 => some (c126sf4a5j19, [.norm]) | _ => none, regs := fun k => match k with | 3 => some c126sf4a5j19 | 6 => some c126sf4a5j19 | 8 => some c126sf4a5j19 | 10 => some c126sf4a5j19 | 18 => some c126sf4a5j19 | _ => none, loops := fun k => match k with | 14 => some { cut := c126sf4a5l14, alts := [.exit 1], F := n_126sf4a5l14 } | 21 => some { cut := c126sf4a5l21, alts := [.exit 3], F := n_126sf4a5l21 } | _ => none }
abbrev mn_126sf4a5l14 (v : Int × Int × (List Layout) × Int × Int × Counted × Layout × Unit) (r : (Int × Int × Counted × Layout × Unit)) : Prop := (fun v out => ∀ C : Ctx, C.P = prog → C.N = 138 ∧ Fx C pre126sf4a5 → AWpL C (loopNo (bodyOf Tryz.f126) 0) (Go.Tx.encS vw (conc vw c126sf4a5l14 v)) (OutQ sh126sf4a5 [.exit 1] out)) v r
theorem cn_126sf4a5l14 (f0 : Int × Int × (List Layout) × Int × Int × Counted × Layout × Unit → Option ((Int × Int × Counted × Layout × Unit))) (h0 : ∀ v r, f0 v = some r → mn_126sf4a5l14 v r) : CallerOk prog (x126sf4a5 f0 (fun _ => none) (fun _ => none)).call := (by
    intro A fid args S dst k r h
    unfold x126sf4a5 call126sf4a5 at h
    simp only at h
    split at h
    ·exact callPure_ok (n_111_ok) rfl rfl h
    ·exact callObj_ok ((fun v r x h hx => by cases h)) h
    ·exact callPure_ok (n_144_ok) rfl rfl h
    ·cases h)
theorem sn_126sf4a5l14 (f0 : Int × Int × (List Layout) × Int × Int × Counted × Layout × Unit → Option ((Int × Int × Counted × Layout × Unit))) (h0 : ∀ v r, f0 v = some r → mn_126sf4a5l14 v r) (v : Int × Int × (List Layout) × Int × Int × Counted × Layout × Unit) (r : (Int × Int × Counted × Layout × Unit)) (h : exL (x126sf4a5 f0 (fun _ => none) (fun _ => none)) (loopNo (bodyOf Tryz.f126) 0) c126sf4a5l14 [.exit 1] f0 v = some r) : mn_126sf4a5l14 v r := fun C hP hN => loop_step (X := x126sf4a5 f0 (fun _ => none) (fun _ => none)) (b := (loopNo (bodyOf Tryz.f126) 0)) hP hN Ty.mixed (cn_126sf4a5l14 f0 h0) (lok_all (X := x126sf4a5 f0 (fun _ => none) (fun _ => none)) (c := (loopNo (bodyOf Tryz.f126) 0)) (kcast (by kernel_rfl : True = AllB (LoopsP C (x126sf4a5 f0 (fun _ => none) (fun _ => none))) (loopsIn (loopNo (bodyOf Tryz.f126) 0))) trivial)) (cut := c126sf4a5l14) (alts := [.exit 1]) (F := f0) (fun v out h => h0 v out h C hP hN) h
theorem n_126sf4a5l14_all : ∀ k, (∀ v r, (u_126sf4a5l14 k) v = some r → mn_126sf4a5l14 v r) := fun k =>
 Nat.rec (motive := fun k => (∀ v r, (u_126sf4a5l14 k) v = some r → mn_126sf4a5l14 v r)) (fun v r h => by have h : (none : Option ((Int × Int × Counted × Layout × Unit))) = some r := h; cases h) (fun k ih => (fun v r h => sn_126sf4a5l14 (u_126sf4a5l14 k) (ih) v r (kcast (by kernel_rfl) h))) k
theorem n_126sf4a5l14_pc : ∀ v out, n_126sf4a5l14 v = some out → (fun v out => ∀ C : Ctx, C.P = prog → C.N = 138 ∧ Fx C pre126sf4a5 → AWpL C (loopNo (bodyOf Tryz.f126) 0) (Go.Tx.encS vw (conc vw c126sf4a5l14 v)) (OutQ sh126sf4a5 [.exit 1] out)) v out := (n_126sf4a5l14_all 400)
abbrev mn_126sf4a5l21 (v : Int × (List Layout) × Int × Int × Counted × Unit) (r : (Counted × Unit)) : Prop := (fun v out => ∀ C : Ctx, C.P = prog → C.N = 138 ∧ Fx C pre126sf4a5 → AWpL C (loopNo (bodyOf Tryz.f126) 1) (Go.Tx.encS vw (conc vw c126sf4a5l21 v)) (OutQ sh126sf4a5 [.exit 3] out)) v r
abbrev mn_126sf4a5 (v : Layout × Int × Counted × Unit) (r : Counted × Unit) : Prop := (fun v r => ∀ x, resV prog sig126sf4a5 r = some x → FnOk prog 126 (encL vw (startS sig126sf4a5 v).len (startOs sig126sf4a5 v).1) (encOs (startS sig126sf4a5 v).len (startS sig126sf4a5 v).own) (encV vw (conc vw sig126sf4a5.rcut r).len x) (encOs (conc vw sig126sf4a5.rcut r).len (kept sig126sf4a5 r))) v r
theorem cn_126sf4a5l21 (f0 : Int × (List Layout) × Int × Int × Counted × Unit → Option ((Counted × Unit))) (f1 : Layout × Int × Counted × Unit → Option (Counted × Unit)) (h0 : ∀ v r, f0 v = some r → mn_126sf4a5l21 v r) (h1 : ∀ v r, f1 v = some r → mn_126sf4a5 v r) : CallerOk prog (x126sf4a5 (fun _ => none) f0 f1).call := (by
    intro A fid args S dst k r h
    unfold x126sf4a5 call126sf4a5 at h
    simp only at h
    split at h
    ·exact callPure_ok (n_111_ok) rfl rfl h
    ·exact callObj_ok ((fun v r x h hx => h1 v r h x hx)) h
    ·exact callPure_ok (n_144_ok) rfl rfl h
    ·cases h)
theorem sn_126sf4a5l21 (f0 : Int × (List Layout) × Int × Int × Counted × Unit → Option ((Counted × Unit))) (f1 : Layout × Int × Counted × Unit → Option (Counted × Unit)) (h0 : ∀ v r, f0 v = some r → mn_126sf4a5l21 v r) (h1 : ∀ v r, f1 v = some r → mn_126sf4a5 v r) (v : Int × (List Layout) × Int × Int × Counted × Unit) (r : (Counted × Unit)) (h : exL (x126sf4a5 (fun _ => none) f0 f1) (loopNo (bodyOf Tryz.f126) 1) c126sf4a5l21 [.exit 3] f0 v = some r) : mn_126sf4a5l21 v r := fun C hP hN => loop_step (X := x126sf4a5 (fun _ => none) f0 f1) (b := (loopNo (bodyOf Tryz.f126) 1)) hP hN Ty.mixed (cn_126sf4a5l21 f0 f1 h0 h1) (lok_all (X := x126sf4a5 (fun _ => none) f0 f1) (c := (loopNo (bodyOf Tryz.f126) 1)) (kcast (by kernel_rfl : True = AllB (LoopsP C (x126sf4a5 (fun _ => none) f0 f1)) (loopsIn (loopNo (bodyOf Tryz.f126) 1))) trivial)) (cut := c126sf4a5l21) (alts := [.exit 3]) (F := f0) (fun v out h => h0 v out h C hP hN) h
theorem cn_126sf4a5 (f0 : Int × (List Layout) × Int × Int × Counted × Unit → Option ((Counted × Unit))) (h0 : ∀ v r, f0 v = some r → mn_126sf4a5l21 v r) : CallerOk prog (x126sf4a5 n_126sf4a5l14 f0 (fun _ => none)).call := (by
    intro A fid args S dst k r h
    unfold x126sf4a5 call126sf4a5 at h
    simp only at h
    split at h
    ·exact callPure_ok (n_111_ok) rfl rfl h
    ·exact callObj_ok ((fun v r x h hx => by cases h)) h
    ·exact callPure_ok (n_144_ok) rfl rfl h
    ·cases h)
theorem sn_126sf4a5 (f0 : Int × (List Layout) × Int × Int × Counted × Unit → Option ((Counted × Unit))) (h0 : ∀ v r, f0 v = some r → mn_126sf4a5l21 v r) (v : Layout × Int × Counted × Unit) (r : Counted × Unit) (h : exF (x126sf4a5 n_126sf4a5l14 f0 (fun _ => none)) sig126sf4a5 rfl (bodyOf Tryz.f126) v = some r) : mn_126sf4a5 v r := fun x hx => fn_ok (X := x126sf4a5 n_126sf4a5l14 f0 (fun _ => none)) (sig := sig126sf4a5) rfl Tryz.func126 (c := bodyOf Tryz.f126) (by kernel_rfl) Tryz.ntmps126 (by kernel_rfl) (by kernel_rfl) rfl Ty.mixed (cn_126sf4a5 f0 h0) rfl (fun C hP hN => (lok_all (X := x126sf4a5 n_126sf4a5l14 f0 (fun _ => none)) (c := (bodyOf Tryz.f126)) (kcast (by kernel_rfl : AllB (LoopsP C (x126sf4a5 n_126sf4a5l14 f0 (fun _ => none))) [(loopNo (bodyOf Tryz.f126) 0), (loopNo (bodyOf Tryz.f126) 1)] = AllB (LoopsP C (x126sf4a5 n_126sf4a5l14 f0 (fun _ => none))) (loopsIn (bodyOf Tryz.f126))) ⟨loop_at (X := x126sf4a5 n_126sf4a5l14 f0 (fun _ => none)) (b := (loopNo (bodyOf Tryz.f126) 0)) (by kernel_rfl) (show LoopOk C (loopNo (bodyOf Tryz.f126) 0) (sh := sh126sf4a5) { cut := c126sf4a5l14, alts := [.exit 1], F := n_126sf4a5l14 } from fun v out h => n_126sf4a5l14_pc v out h C hP hN), loop_at (X := x126sf4a5 n_126sf4a5l14 f0 (fun _ => none)) (b := (loopNo (bodyOf Tryz.f126) 1)) (by kernel_rfl) (show LoopOk C (loopNo (bodyOf Tryz.f126) 1) (sh := sh126sf4a5) { cut := c126sf4a5l21, alts := [.exit 3], F := f0 } from fun v out h => h0 v out h C hP hN), trivial⟩))) h x hx
theorem n_126sf4a5l21_all : ∀ k, (∀ v r, (u_126sf4a5l21 k).1 v = some r → mn_126sf4a5l21 v r) ∧ (∀ v r, (u_126sf4a5l21 k).2 v = some r → mn_126sf4a5 v r) := fun k =>
 Nat.rec (motive := fun k => (∀ v r, (u_126sf4a5l21 k).1 v = some r → mn_126sf4a5l21 v r) ∧ (∀ v r, (u_126sf4a5l21 k).2 v = some r → mn_126sf4a5 v r)) ⟨(fun v r h => by have h : (none : Option ((Counted × Unit))) = some r := h; cases h),
  (fun v r h => by have h : (none : Option (Counted × Unit)) = some r := h; cases h)⟩ (fun k ih => ⟨(fun v r h => sn_126sf4a5l21 (u_126sf4a5l21 k).1 (u_126sf4a5l21 k).2 (ih.1) (ih.2) v r (kcast (by kernel_rfl) h)),
  (fun v r h => sn_126sf4a5 (u_126sf4a5l21 k).1 (ih.1) v r (kcast (by kernel_rfl) h))⟩) k
theorem n_126sf4a5_ok : SigOk prog 126 sig126sf4a5 n_126sf4a5 := fun v r x h hx => (n_126sf4a5l21_all 400).2 v r h x hx
noncomputable def c127l3 : Cut SN := ⟨[(1, .bp 1 0), (3, .dat (.int .i64)), (7, .dat (.sl (.st .layoutT))), (8, .dat (.int .i64)), (9, .dat (.int .i64))], [(1, .st .layoutT)]⟩
noncomputable def c127e0 : Cut SN := ⟨[(1, .bp 1 0), (3, .dat (.int .i64))], [(1, .st .layoutT)]⟩
noncomputable def sh127 : Shape vw := { exits := fun id => match id with | 0 => c127e0 | _ => ⟨[], []⟩, rcut := c150e0 }
noncomputable def pre127 : Nat → Bool := fun _ => false
noncomputable def sig127 : Sig vw := { params := [.dat (.st .layoutT)], rcut := c150e0, rvars := [.tmp 2] }
noncomputable def u_127l3 (k : Nat) : (Int × (List Layout) × Int × Int × Layout × Unit → Option ((Int × Layout × Unit))) × (Layout × Unit → Option (Int × Unit)) :=
 Nat.rec (motive := fun _ => (Int × (List Layout) × Int × Int × Layout × Unit → Option ((Int × Layout × Unit))) × (Layout × Unit → Option (Int × Unit))) (fun _ => none, fun _ => none) (fun _ g => (fun v =>
 if decide (v.2.2.2.1 < v.2.2.1) = true then
  if (0 : Int) ≤ v.2.2.2.1 then
   v.2.1[v.2.2.2.1.toNat]? >>= fun x1 =>
   g.2 (x1, ()) >>= fun x2 =>
   n_111 ([v.1, x2.1], ()) >>= fun x3 =>
   g.1 (x3.1, v.2.1, v.2.2.1, i64.wrap (v.2.2.2.1 + (1 : Int)), v.2.2.2.2.1, ())
  else none
 else some ((v.1, v.2.2.2.2.1, ())),
  fun v =>
 g.1 ((0 : Int), v.1.parts, (↑v.1.parts.length : Int), (0 : Int), v.1, ()) >>= fun x1 =>
 if (x1.2.1.kind == (5 : Int)) = true then
  n_111 ([(1 : Int), i64.wrap (max (0 : Int) x1.2.1.n * x1.1)], ()) >>= fun x2 =>
  some ((x2.1, ()))
 else n_111 ([(1 : Int), x1.1], ()) >>= fun x2 =>
 some ((x2.1, ())))) k
noncomputable def n_127 (v : Layout × Unit) : Option (Int × Unit) := (u_127l3 400).2 v
noncomputable def call127 (n_127l3 : Int × (List Layout) × Int × Int × Layout × Unit → Option ((Int × Layout × Unit))) (n_127 : Layout × Unit → Option (Int × Unit)) : Caller vw := fun A fid args S k => match fid with | 111 => callPure prog sig111 n_111 A args S k | 127 => callPure prog sig127 n_127 A args S k | _ => none
noncomputable def x127 (n_127l3 : Int × (List Layout) × Int × Int × Layout × Unit → Option ((Int × Layout × Unit))) (n_127 : Layout × Unit → Option (Int × Unit)) : Xc vw := { P := prog, n := 32, call := call127 n_127l3 n_127, pre := pre127, sh := sh127, loops := fun k => match k with | 3 => some { cut := c127l3, alts := [.exit 0], F := n_127l3 } | _ => none }
abbrev mn_127l3 (v : Int × (List Layout) × Int × Int × Layout × Unit) (r : (Int × Layout × Unit)) : Prop := (fun v out => ∀ C : Ctx, C.P = prog → C.N = 32 ∧ Fx C pre127 → AWpL C (loopNo (bodyOf Tryz.f127) 0) (Go.Tx.encS vw (conc vw c127l3 v)) (OutQ sh127 [.exit 0] out)) v r
abbrev mn_127 (v : Layout × Unit) (r : Int × Unit) : Prop := (fun v r => ∀ x, resV prog sig127 r = some x → FnOk prog 127 (encL vw (startS sig127 v).len (startOs sig127 v).1) (encOs (startS sig127 v).len (startS sig127 v).own) (encV vw (conc vw sig127.rcut r).len x) (encOs (conc vw sig127.rcut r).len (kept sig127 r))) v r
theorem cn_127l3 (f0 : Int × (List Layout) × Int × Int × Layout × Unit → Option ((Int × Layout × Unit))) (f1 : Layout × Unit → Option (Int × Unit)) (h0 : ∀ v r, f0 v = some r → mn_127l3 v r) (h1 : ∀ v r, f1 v = some r → mn_127 v r) : CallerOk prog (x127 f0 f1).call := (by
    intro A fid args S dst k r h
    unfold x127 call127 at h
    simp only at h
    split at h
    ·exact callPure_ok (n_111_ok) rfl rfl h
    ·exact callPure_ok ((fun v r x h hx => h1 v r h x hx)) rfl rfl h
    ·cases h)
theorem sn_127l3 (f0 : Int × (List Layout) × Int × Int × Layout × Unit → Option ((Int × Layout × Unit))) (f1 : Layout × Unit → Option (Int × Unit)) (h0 : ∀ v r, f0 v = some r → mn_127l3 v r) (h1 : ∀ v r, f1 v = some r → mn_127 v r) (v : Int × (List Layout) × Int × Int × Layout × Unit) (r : (Int × Layout × Unit)) (h : exL (x127 f0 f1) (loopNo (bodyOf Tryz.f127) 0) c127l3 [.exit 0] f0 v = some r) : mn_127l3 v r := fun C hP hN => loop_step (X := x127 f0 f1) (b := (loopNo (bodyOf Tryz.f127) 0)) hP hN Ty.mixed (cn_127l3 f0 f1 h0 h1) (lok_all (X := x127 f0 f1) (c := (loopNo (bodyOf Tryz.f127) 0)) (kcast (by kernel_rfl : True = AllB (LoopsP C (x127 f0 f1)) (loopsIn (loopNo (bodyOf Tryz.f127) 0))) trivial)) (cut := c127l3) (alts := [.exit 0]) (F := f0) (fun v out h => h0 v out h C hP hN) h
theorem cn_127 (f0 : Int × (List Layout) × Int × Int × Layout × Unit → Option ((Int × Layout × Unit))) (h0 : ∀ v r, f0 v = some r → mn_127l3 v r) : CallerOk prog (x127 f0 (fun _ => none)).call := (by
    intro A fid args S dst k r h
    unfold x127 call127 at h
    simp only at h
    split at h
    ·exact callPure_ok (n_111_ok) rfl rfl h
    ·exact callPure_ok ((fun v r x h hx => by cases h)) rfl rfl h
    ·cases h)
theorem sn_127 (f0 : Int × (List Layout) × Int × Int × Layout × Unit → Option ((Int × Layout × Unit))) (h0 : ∀ v r, f0 v = some r → mn_127l3 v r) (v : Layout × Unit) (r : Int × Unit) (h : exF (x127 f0 (fun _ => none)) sig127 rfl (bodyOf Tryz.f127) v = some r) : mn_127 v r := fun x hx => fn_ok (X := x127 f0 (fun _ => none)) (sig := sig127) rfl Tryz.func127 (c := bodyOf Tryz.f127) (by kernel_rfl) Tryz.ntmps127 (by kernel_rfl) (by kernel_rfl) rfl Ty.mixed (cn_127 f0 h0) rfl (fun C hP hN => (lok_all (X := x127 f0 (fun _ => none)) (c := (bodyOf Tryz.f127)) (kcast (by kernel_rfl : AllB (LoopsP C (x127 f0 (fun _ => none))) [(loopNo (bodyOf Tryz.f127) 0)] = AllB (LoopsP C (x127 f0 (fun _ => none))) (loopsIn (bodyOf Tryz.f127))) ⟨loop_at (X := x127 f0 (fun _ => none)) (b := (loopNo (bodyOf Tryz.f127) 0)) (by kernel_rfl) (show LoopOk C (loopNo (bodyOf Tryz.f127) 0) (sh := sh127) { cut := c127l3, alts := [.exit 0], F := f0 } from fun v out h => h0 v out h C hP hN), trivial⟩))) h x hx
theorem n_127l3_all : ∀ k, (∀ v r, (u_127l3 k).1 v = some r → mn_127l3 v r) ∧ (∀ v r, (u_127l3 k).2 v = some r → mn_127 v r) := fun k =>
 Nat.rec (motive := fun k => (∀ v r, (u_127l3 k).1 v = some r → mn_127l3 v r) ∧ (∀ v r, (u_127l3 k).2 v = some r → mn_127 v r)) ⟨(fun v r h => by have h : (none : Option ((Int × Layout × Unit))) = some r := h; cases h),
  (fun v r h => by have h : (none : Option (Int × Unit)) = some r := h; cases h)⟩ (fun k ih => ⟨(fun v r h => sn_127l3 (u_127l3 k).1 (u_127l3 k).2 (ih.1) (ih.2) v r (kcast (by kernel_rfl) h)),
  (fun v r h => sn_127 (u_127l3 k).1 (ih.1) v r (kcast (by kernel_rfl) h))⟩) k
theorem n_127_ok : SigOk prog 127 sig127 n_127 := fun v r x h hx => (n_127l3_all 400).2 v r h x hx
noncomputable def sh166 : Shape vw := { rcut := c86r1 }
noncomputable def pre166 : Nat → Bool := fun _ => false
noncomputable def sig166 : Sig vw := { params := [.dat (.st .layoutT)], rcut := c86r1, rvars := [.tmp 2] }
noncomputable def n_166 (v : Layout × Unit) : Option (Bool × Unit) :=
 (if (v.1.kind != (1 : Int)) = true then
    some ((v.1.kind != (2 : Int), ()))
   else some ((false, ()))) >>= fun x1 =>
 some ((x1.1, ()))
noncomputable def call166 : Caller vw := c0
noncomputable def x166 : Xc vw := { P := prog, n := 11, call := call166, pre := pre166, sh := sh166, regs := fun k => match k with | 1 => some c86r1 | _ => none }
theorem call166_ok : CallerOk prog call166 := c0_ok
theorem n_166_ok : SigOk prog 166 sig166 n_166 := fun v r x h hx =>
 fn_ok (X := x166) (sig := sig166) rfl Tryz.func166 (c := bodyOf Tryz.f166) (by kernel_rfl) Tryz.ntmps166 (by kernel_rfl) (by kernel_rfl) rfl Ty.mixed call166_ok rfl (fun C hP hN => (lok_all (kcast (by kernel_rfl) trivial))) (kcast (by kernel_rfl) h) x hx
noncomputable def c189c166l2 : Cut SN := ⟨[(0, .dat (.sl (.st .layoutT))), (1, .fn 166 [] []), (7, .dat (.int .i64)), (8, .dat (.int .i64))], []⟩
noncomputable def sh189c166 : Shape vw := { exits := fun id => match id with | 0 => c44e0 | _ => ⟨[], []⟩, rcut := c120z }
noncomputable def pre189c166 : Nat → Bool := fun _ => false
noncomputable def sig189c166 : Sig vw := { params := [.dat (.sl (.st .layoutT)), .fn 166 [] []], rcut := c120z, rvars := [.tmp 4] }
noncomputable def u_189c166l2 (k : Nat) : ((List Layout) × Int × Int × Unit → Option (((Int × Unit) ⊕ (Unit)))) :=
 Nat.rec (motive := fun _ => ((List Layout) × Int × Int × Unit → Option (((Int × Unit) ⊕ (Unit))))) (fun _ => none) (fun _ g v =>
 if decide (v.2.2.1 < v.2.1) = true then
  if (0 : Int) ≤ v.2.2.1 then
   v.1[v.2.2.1.toNat]? >>= fun x1 =>
   n_166 (x1, ()) >>= fun x2 =>
   if x2.1 = true then
    some (Sum.inl (v.2.2.1, ()))
   else g (v.1, v.2.1, i64.wrap (v.2.2.1 + (1 : Int)), ())
  else none
 else some (Sum.inr ())) k
noncomputable def n_189c166l2 (v : (List Layout) × Int × Int × Unit) : Option (((Int × Unit) ⊕ (Unit))) := (u_189c166l2 400) v
noncomputable def n_189c166 (v : (List Layout) × Unit) : Option (Int × Unit) :=
 n_189c166l2 (v.1, (↑v.1.length : Int), (0 : Int), ()) >>= fun x1 => match x1 with
  | .inl y1 => some y1
  | .inr y1 => some (((-1 : Int), ()))
noncomputable def call189c166 : Caller vw := cP prog 166 sig166 n_166 c0
noncomputable def x189c166 : Xc vw := { P := prog, n := 19, call := call189c166, pre := pre189c166, sh := sh189c166, loops := fun k => match k with | 2 => some { cut := c189c166l2, alts := [.ret, .exit 0], F := n_189c166l2 } | _ => none }
theorem call189c166_ok : CallerOk prog call189c166 := cP_ok n_166_ok rfl rfl c0_ok
theorem n_189c166l2_ok (C : Ctx) (hP : C.P = prog) (hN : C.N = 19 ∧ Fx C pre189c166) : LoopOk C (loopNo (bodyOf Tryz.f189) 0) (sh := sh189c166) { cut := c189c166l2, alts := [.ret, .exit 0], F := n_189c166l2 } :=
 fun v out h => (Nat.rec (motive := fun k => ∀ v out, (u_189c166l2 k) v = some out → (AWpL C (loopNo (bodyOf Tryz.f189) 0) (Go.Tx.encS vw (conc vw c189c166l2 v)) (OutQ sh189c166 [.ret, .exit 0] out))) (fun v out h => by have h : (none : Option (((Int × Unit) ⊕ (Unit)))) = some out := h; cases h) (fun k ih v out h => loop_step (X := x189c166) (b := (loopNo (bodyOf Tryz.f189) 0)) hP hN Ty.mixed call189c166_ok (lok_all (X := x189c166) (c := (loopNo (bodyOf Tryz.f189) 0)) (kcast (by kernel_rfl : True = AllB (LoopsP C (x189c166)) (loopsIn (loopNo (bodyOf Tryz.f189) 0))) trivial)) ih (kcast (by kernel_rfl) h)) 400 : ∀ v out, (u_189c166l2 400) v = some out → (AWpL C (loopNo (bodyOf Tryz.f189) 0) (Go.Tx.encS vw (conc vw c189c166l2 v)) (OutQ sh189c166 [.ret, .exit 0] out))) v out h
theorem n_189c166_ok : SigOk prog 189 sig189c166 n_189c166 := fun v r x h hx =>
 fn_ok (X := x189c166) (sig := sig189c166) rfl Tryz.func189 (c := bodyOf Tryz.f189) (by kernel_rfl) Tryz.ntmps189 (by kernel_rfl) (by kernel_rfl) rfl Ty.mixed call189c166_ok rfl (fun C hP hN => (lok_all (kcast (by kernel_rfl : AllB (LoopsP C (x189c166)) [(loopNo (bodyOf Tryz.f189) 0)] = AllB (LoopsP C (x189c166)) (loopsIn (bodyOf Tryz.f189))) ⟨loop_at (X := x189c166) (b := (loopNo (bodyOf Tryz.f189) 0)) (by kernel_rfl) (n_189c166l2_ok C hP hN), trivial⟩))) (kcast (by kernel_rfl) h) x hx
noncomputable def sh165c166 : Shape vw := { rcut := c97r1 }
noncomputable def pre165c166 : Nat → Bool := fun _ => false
noncomputable def sig165c166 : Sig vw := { params := [.dat (.sl (.st .layoutT)), .fn 166 [] []], rcut := c97r1, rvars := [.tmp 4] }
noncomputable def n_165c166 (v : (List Layout) × Unit) : Option (Bool × Unit) :=
 n_189c166 (v.1, ()) >>= fun x1 =>
 some ((decide (x1.1 ≥ (0 : Int)), ()))
noncomputable def call165c166 : Caller vw := cP prog 189 sig189c166 n_189c166 c0
noncomputable def x165c166 : Xc vw := { P := prog, n := 9, call := call165c166, pre := pre165c166, sh := sh165c166 }
theorem call165c166_ok : CallerOk prog call165c166 := cP_ok n_189c166_ok rfl rfl c0_ok
theorem n_165c166_ok : SigOk prog 165 sig165c166 n_165c166 := fun v r x h hx =>
 fn_ok (X := x165c166) (sig := sig165c166) rfl Tryz.func165 (c := bodyOf Tryz.f165) (by kernel_rfl) Tryz.ntmps165 (by kernel_rfl) (by kernel_rfl) rfl Ty.mixed call165c166_ok rfl (fun C hP hN => (lok_all (kcast (by kernel_rfl) trivial))) (kcast (by kernel_rfl) h) x hx
noncomputable def c128j6 : Cut SN := ⟨[(1, .bp 1 0), (3, .dat (.int .i64)), (4, .dat .bool), (9, .dat (.int .i64))], [(1, .st .layoutT)]⟩
noncomputable def c128j16 : Cut SN := ⟨[(1, .bp 1 0), (4, .dat .bool)], [(1, .st .layoutT)]⟩
noncomputable def c128j20 : Cut SN := ⟨[(1, .bp 1 0), (3, .dat (.int .i64)), (4, .dat .bool)], [(1, .st .layoutT)]⟩
noncomputable def c128r20 : Cut SN := ⟨[(1, .bp 1 0), (63, .dat .bool)], [(1, .st .layoutT)]⟩
noncomputable def c128r22 : Cut SN := ⟨[(1, .bp 1 0), (71, .dat .bool)], [(1, .st .layoutT)]⟩
noncomputable def sh128 : Shape vw := { exits := fun id => match id with | 0 => c128j20 | 1 => c128j20 | 6 => c128j16 | 7 => c128j16 | 8 => c44e0 | _ => ⟨[], []⟩, rcut := c86r1 }
noncomputable def pre128 : Nat → Bool := fun _ => false
noncomputable def sig128 : Sig vw := { params := [.dat (.st .layoutT)], rcut := c86r1, rvars := [.tmp 2] }
noncomputable def sh165c167 : Shape vw := { rcut := c97r1 }
noncomputable def pre165c167 : Nat → Bool := fun _ => false
noncomputable def sig165c167 : Sig vw := { params := [.dat (.sl (.st .layoutT)), .fn 167 [] []], rcut := c97r1, rvars := [.tmp 4] }
noncomputable def sh167 : Shape vw := { rcut := c86r1 }
noncomputable def pre167 : Nat → Bool := fun _ => false
noncomputable def sig167 : Sig vw := { params := [.dat (.st .layoutT)], rcut := c86r1, rvars := [.tmp 2] }
noncomputable def c189c167l2 : Cut SN := ⟨[(0, .dat (.sl (.st .layoutT))), (1, .fn 167 [] []), (7, .dat (.int .i64)), (8, .dat (.int .i64))], []⟩
noncomputable def sh189c167 : Shape vw := { exits := fun id => match id with | 0 => c44e0 | _ => ⟨[], []⟩, rcut := c120z }
noncomputable def pre189c167 : Nat → Bool := fun _ => false
noncomputable def sig189c167 : Sig vw := { params := [.dat (.sl (.st .layoutT)), .fn 167 [] []], rcut := c120z, rvars := [.tmp 4] }
noncomputable def u_128 (k : Nat) : (Layout × Unit → Option (Bool × Unit)) × ((List Layout) × Unit → Option (Bool × Unit)) × ((List Layout) × Unit → Option (Int × Unit)) × ((List Layout) × Int × Int × Unit → Option (((Int × Unit) ⊕ (Unit)))) × (Layout × Unit → Option (Bool × Unit)) :=
 Nat.rec (motive := fun _ => (Layout × Unit → Option (Bool × Unit)) × ((List Layout) × Unit → Option (Bool × Unit)) × ((List Layout) × Unit → Option (Int × Unit)) × ((List Layout) × Int × Int × Unit → Option (((Int × Unit) ⊕ (Unit)))) × (Layout × Unit → Option (Bool × Unit))) (fun _ => none, fun _ => none, fun _ => none, fun _ => none, fun _ => none) (fun _ g => (fun v =>
 ((((if (v.1.kind == (0 : Int)) = true then
       some (Sum.inr ((0 : Int), v.1.n == (0 : Int), v.1, ()))
      else if (v.1.kind == (1 : Int)) = true then
       some (Sum.inr ((0 : Int), v.1.n == (0 : Int), v.1, ()))
      else if (v.1.kind == (3 : Int)) = true then
       some (Sum.inr ((0 : Int), v.1.n == (0 : Int), v.1, ()))
      else some (Sum.inl ((0 : Int), v.1.n == (0 : Int), v.1.kind, v.1, ()))) >>= fun x1 => match x1 with
      | .inl y1 => if (y1.2.2.1 == (2 : Int)) = true then
        some (Sum.inr (Sum.inl (y1.1, decide (y1.2.2.2.1.n ≥ (1 : Int)), y1.2.2.2.1, ())))
       else if (y1.2.2.1 == (7 : Int)) = true then
        some (Sum.inr (Sum.inl (y1.1, decide (y1.2.2.2.1.n ≥ (1 : Int)), y1.2.2.2.1, ())))
       else if (y1.2.2.1 == (5 : Int)) = true then
        some (Sum.inl (decide (y1.2.2.2.1.n ≥ (0 : Int)), y1.2.2.2.1, ()))
       else if (y1.2.2.1 == (4 : Int)) = true then
        some (Sum.inl (y1.2.1, y1.2.2.2.1, ()))
       else if (y1.2.2.1 == (8 : Int)) = true then
        some (Sum.inr (Sum.inr (Sum.inl (y1.2.1, y1.2.2.2.1, ()))))
       else if (y1.2.2.1 == (6 : Int)) = true then
        some (Sum.inr (Sum.inr (Sum.inr (Sum.inl (y1.2.1, y1.2.2.2.1, ())))))
       else if (y1.2.2.1 == (9 : Int)) = true then
        some (Sum.inr (Sum.inr (Sum.inr (Sum.inl (y1.2.1, y1.2.2.2.1, ())))))
       else some (Sum.inr (Sum.inr (Sum.inr (Sum.inr ()))))
      | .inr y1 => some (Sum.inr (Sum.inl (y1.1, y1.2.1, y1.2.2.1, ())))) >>= fun x1 => match x1 with
     | .inl y1 => some (Sum.inr (Sum.inl ((1 : Int), y1.1, y1.2.1, ())))
     | .inr (.inl y1) => some (Sum.inr (Sum.inl (y1.1, y1.2.1, y1.2.2.1, ())))
     | .inr (.inr (.inl y1)) => (if y1.1 = true then
        some ((decide ((↑y1.2.1.parts.length : Int) ≥ (1 : Int)), y1.2.1, ()))
       else some ((false, y1.2.1, ()))) >>= fun x2 =>
      some (Sum.inl (x2.1, x2.2.1, ()))
     | .inr (.inr (.inr (.inl y1))) => some (Sum.inl (y1.1, y1.2.1, ()))
     | .inr (.inr (.inr (.inr y1))) => some (Sum.inr (Sum.inr ()))) >>= fun x1 => match x1 with
    | .inl y1 => some (Sum.inl ((↑y1.2.1.parts.length : Int), y1.1, y1.2.1, ()))
    | .inr (.inl y1) => some (Sum.inl (y1.1, y1.2.1, y1.2.2.1, ()))
    | .inr (.inr y1) => some (Sum.inr (false, ()))) >>= fun x1 => match x1 with
   | .inl y1 => (if (!y1.2.1) = true then
      some ((true, y1.2.2.1, ()))
     else if ((↑y1.2.2.1.parts.length : Int) != y1.1) = true then
      some ((true, y1.2.2.1, ()))
     else if y1.2.2.1.flag = true then
      some ((y1.2.2.1.kind != (2 : Int), y1.2.2.1, ()))
     else some ((false, y1.2.2.1, ()))) >>= fun x2 =>
    if x2.1 = true then
     some ((false, ()))
    else (if (x2.2.1.kind == (9 : Int)) = true then
      n_165c166 (x2.2.1.parts, ()) >>= fun x3 =>
      some ((x3.1, x2.2.1, ()))
     else some ((false, x2.2.1, ()))) >>= fun x3 =>
    if x3.1 = true then
     some ((false, ()))
    else g.2.1 (x3.2.1.parts, ()) >>= fun x4 =>
    some ((!x4.1, ()))
   | .inr y1 => some y1,
   fun v =>
 g.2.2.1 (v.1, ()) >>= fun x1 =>
 some ((decide (x1.1 ≥ (0 : Int)), ())),
  fun v =>
 g.2.2.2.1 (v.1, (↑v.1.length : Int), (0 : Int), ()) >>= fun x1 => match x1 with
  | .inl y1 => some y1
  | .inr y1 => some (((-1 : Int), ())),
  fun v =>
 if decide (v.2.2.1 < v.2.1) = true then
  if (0 : Int) ≤ v.2.2.1 then
   v.1[v.2.2.1.toNat]? >>= fun x1 =>
   g.2.2.2.2 (x1, ()) >>= fun x2 =>
   if x2.1 = true then
    some (Sum.inl (v.2.2.1, ()))
   else g.2.2.2.1 (v.1, v.2.1, i64.wrap (v.2.2.1 + (1 : Int)), ())
  else none
 else some (Sum.inr ()),
  fun v =>
 g.1 (v.1, ()) >>= fun x1 =>
 some ((!x1.1, ())))) k
noncomputable def n_128 (v : Layout × Unit) : Option (Bool × Unit) := (u_128 400).1 v
noncomputable def call128 (n_128 : Layout × Unit → Option (Bool × Unit)) (n_165c167 : (List Layout) × Unit → Option (Bool × Unit)) (n_189c167 : (List Layout) × Unit → Option (Int × Unit)) (n_189c167l2 : (List Layout) × Int × Int × Unit → Option (((Int × Unit) ⊕ (Unit)))) (n_167 : Layout × Unit → Option (Bool × Unit)) : Caller vw := fun A fid args S k => match fid with | 165 => (match args with | [_, .fn 166 _ _] => callPure prog sig165c166 n_165c166 A args S k | [_, .fn 167 _ _] => callPure prog sig165c167 n_165c167 A args S k | _ => none) | _ => none
noncomputable def x128 (n_128 : Layout × Unit → Option (Bool × Unit)) (n_165c167 : (List Layout) × Unit → Option (Bool × Unit)) (n_189c167 : (List Layout) × Unit → Option (Int × Unit)) (n_189c167l2 : (List Layout) × Int × Int × Unit → Option (((Int × Unit) ⊕ (Unit)))) (n_167 : Layout × Unit → Option (Bool × Unit)) : Xc vw := { P := prog, n := 76, call := call128 n_128 n_165c167 n_189c167 n_189c167l2 n_167, pre := pre128, sh := sh128, joins := fun k => match k with | 6 => some (c128j6, [.norm, .exit 1]) | 16 => some (c128j16, [.norm, .exit 0, .exit 6, .exit 7, .exit 8]) | 18 => some (c128j16, [.norm, .exit 0, .exit 8]) | 20 => some (c128j20, [.norm, .ret]) | _ => none, regs := fun k => match k with | 17 => some c128j16 | 20 => some c128r20 | 22 => some c128r22 | _ => none }
noncomputable def call165c167 (n_128 : Layout × Unit → Option (Bool × Unit)) (n_165c167 : (List Layout) × Unit → Option (Bool × Unit)) (n_189c167 : (List Layout) × Unit → Option (Int × Unit)) (n_189c167l2 : (List Layout) × Int × Int × Unit → Option (((Int × Unit) ⊕ (Unit)))) (n_167 : Layout × Unit → Option (Bool × Unit)) : Caller vw := fun A fid args S k => match fid with | 189 => callPure prog sig189c167 n_189c167 A args S k | _ => none
noncomputable def x165c167 (n_128 : Layout × Unit → Option (Bool × Unit)) (n_165c167 : (List Layout) × Unit → Option (Bool × Unit)) (n_189c167 : (List Layout) × Unit → Option (Int × Unit)) (n_189c167l2 : (List Layout) × Int × Int × Unit → Option (((Int × Unit) ⊕ (Unit)))) (n_167 : Layout × Unit → Option (Bool × Unit)) : Xc vw := { P := prog, n := 9, call := call165c167 n_128 n_165c167 n_189c167 n_189c167l2 n_167, pre := pre165c167, sh := sh165c167 }
noncomputable def call167 (n_128 : Layout × Unit → Option (Bool × Unit)) (n_165c167 : (List Layout) × Unit → Option (Bool × Unit)) (n_189c167 : (List Layout) × Unit → Option (Int × Unit)) (n_189c167l2 : (List Layout) × Int × Int × Unit → Option (((Int × Unit) ⊕ (Unit)))) (n_167 : Layout × Unit → Option (Bool × Unit)) : Caller vw := fun A fid args S k => match fid with | 128 => callPure prog sig128 n_128 A args S k | _ => none
noncomputable def x167 (n_128 : Layout × Unit → Option (Bool × Unit)) (n_165c167 : (List Layout) × Unit → Option (Bool × Unit)) (n_189c167 : (List Layout) × Unit → Option (Int × Unit)) (n_189c167l2 : (List Layout) × Int × Int × Unit → Option (((Int × Unit) ⊕ (Unit)))) (n_167 : Layout × Unit → Option (Bool × Unit)) : Xc vw := { P := prog, n := 6, call := call167 n_128 n_165c167 n_189c167 n_189c167l2 n_167, pre := pre167, sh := sh167 }
noncomputable def call189c167 (n_128 : Layout × Unit → Option (Bool × Unit)) (n_165c167 : (List Layout) × Unit → Option (Bool × Unit)) (n_189c167 : (List Layout) × Unit → Option (Int × Unit)) (n_189c167l2 : (List Layout) × Int × Int × Unit → Option (((Int × Unit) ⊕ (Unit)))) (n_167 : Layout × Unit → Option (Bool × Unit)) : Caller vw := fun A fid args S k => match fid with | 167 => callPure prog sig167 n_167 A args S k | _ => none
noncomputable def x189c167 (n_128 : Layout × Unit → Option (Bool × Unit)) (n_165c167 : (List Layout) × Unit → Option (Bool × Unit)) (n_189c167 : (List Layout) × Unit → Option (Int × Unit)) (n_189c167l2 : (List Layout) × Int × Int × Unit → Option (((Int × Unit) ⊕ (Unit)))) (n_167 : Layout × Unit → Option (Bool × Unit)) : Xc vw := { P := prog, n := 19, call := call189c167 n_128 n_165c167 n_189c167 n_189c167l2 n_167, pre := pre189c167, sh := sh189c167, loops := fun k => match k with | 2 => some { cut := c189c167l2, alts := [.ret, .exit 0], F := n_189c167l2 } | _ => none }
abbrev mn_128 (v : Layout × Unit) (r : Bool × Unit) : Prop := (fun v r => ∀ x, resV prog sig128 r = some x → FnOk prog 128 (encL vw (startS sig128 v).len (startOs sig128 v).1) (encOs (startS sig128 v).len (startS sig128 v).own) (encV vw (conc vw sig128.rcut r).len x) (encOs (conc vw sig128.rcut r).len (kept sig128 r))) v r
abbrev mn_165c167 (v : (List Layout) × Unit) (r : Bool × Unit) : Prop := (fun v r => ∀ x, resV prog sig165c167 r = some x → FnOk prog 165 (encL vw (startS sig165c167 v).len (startOs sig165c167 v).1) (encOs (startS sig165c167 v).len (startS sig165c167 v).own) (encV vw (conc vw sig165c167.rcut r).len x) (encOs (conc vw sig165c167.rcut r).len (kept sig165c167 r))) v r
abbrev mn_189c167 (v : (List Layout) × Unit) (r : Int × Unit) : Prop := (fun v r => ∀ x, resV prog sig189c167 r = some x → FnOk prog 189 (encL vw (startS sig189c167 v).len (startOs sig189c167 v).1) (encOs (startS sig189c167 v).len (startS sig189c167 v).own) (encV vw (conc vw sig189c167.rcut r).len x) (encOs (conc vw sig189c167.rcut r).len (kept sig189c167 r))) v r
abbrev mn_189c167l2 (v : (List Layout) × Int × Int × Unit) (r : ((Int × Unit) ⊕ (Unit))) : Prop := (fun v out => ∀ C : Ctx, C.P = prog → C.N = 19 ∧ Fx C pre189c167 → AWpL C (loopNo (bodyOf Tryz.f189) 0) (Go.Tx.encS vw (conc vw c189c167l2 v)) (OutQ sh189c167 [.ret, .exit 0] out)) v r
abbrev mn_167 (v : Layout × Unit) (r : Bool × Unit) : Prop := (fun v r => ∀ x, resV prog sig167 r = some x → FnOk prog 167 (encL vw (startS sig167 v).len (startOs sig167 v).1) (encOs (startS sig167 v).len (startS sig167 v).own) (encV vw (conc vw sig167.rcut r).len x) (encOs (conc vw sig167.rcut r).len (kept sig167 r))) v r
theorem cn_128 (f0 : (List Layout) × Unit → Option (Bool × Unit)) (h0 : ∀ v r, f0 v = some r → mn_165c167 v r) : CallerOk prog (x128 (fun _ => none) f0 (fun _ => none) (fun _ => none) (fun _ => none)).call := (by
    intro A fid args S dst k r h
    unfold x128 call128 at h
    simp only at h
    split at h
    ·split at h
     ·exact callPure_ok (n_165c166_ok) rfl rfl h
     ·exact callPure_ok ((fun v r x h hx => h0 v r h x hx)) rfl rfl h
     ·cases h
    ·cases h)
theorem sn_128 (f0 : (List Layout) × Unit → Option (Bool × Unit)) (h0 : ∀ v r, f0 v = some r → mn_165c167 v r) (v : Layout × Unit) (r : Bool × Unit) (h : exF (x128 (fun _ => none) f0 (fun _ => none) (fun _ => none) (fun _ => none)) sig128 rfl (bodyOf Tryz.f128) v = some r) : mn_128 v r := fun x hx => fn_ok (X := x128 (fun _ => none) f0 (fun _ => none) (fun _ => none) (fun _ => none)) (sig := sig128) rfl Tryz.func128 (c := bodyOf Tryz.f128) (by kernel_rfl) Tryz.ntmps128 (by kernel_rfl) (by kernel_rfl) rfl Ty.mixed (cn_128 f0 h0) rfl (fun C hP hN => (lok_all (X := x128 (fun _ => none) f0 (fun _ => none) (fun _ => none) (fun _ => none)) (c := (bodyOf Tryz.f128)) (kcast (by kernel_rfl : True = AllB (LoopsP C (x128 (fun _ => none) f0 (fun _ => none) (fun _ => none) (fun _ => none))) (loopsIn (bodyOf Tryz.f128))) trivial))) h x hx
theorem cn_165c167 (f0 : (List Layout) × Unit → Option (Int × Unit)) (h0 : ∀ v r, f0 v = some r → mn_189c167 v r) : CallerOk prog (x165c167 (fun _ => none) (fun _ => none) f0 (fun _ => none) (fun _ => none)).call := (by
    intro A fid args S dst k r h
    unfold x165c167 call165c167 at h
    simp only at h
    split at h
    ·exact callPure_ok ((fun v r x h hx => h0 v r h x hx)) rfl rfl h
    ·cases h)
theorem sn_165c167 (f0 : (List Layout) × Unit → Option (Int × Unit)) (h0 : ∀ v r, f0 v = some r → mn_189c167 v r) (v : (List Layout) × Unit) (r : Bool × Unit) (h : exF (x165c167 (fun _ => none) (fun _ => none) f0 (fun _ => none) (fun _ => none)) sig165c167 rfl (bodyOf Tryz.f165) v = some r) : mn_165c167 v r := fun x hx => fn_ok (X := x165c167 (fun _ => none) (fun _ => none) f0 (fun _ => none) (fun _ => none)) (sig := sig165c167) rfl Tryz.func165 (c := bodyOf Tryz.f165) (by kernel_rfl) Tryz.ntmps165 (by kernel_rfl) (by kernel_rfl) rfl Ty.mixed (cn_165c167 f0 h0) rfl (fun C hP hN => (lok_all (X := x165c167 (fun _ => none) (fun _ => none) f0 (fun _ => none) (fun _ => none)) (c := (bodyOf Tryz.f165)) (kcast (by kernel_rfl : True = AllB (LoopsP C (x165c167 (fun _ => none) (fun _ => none) f0 (fun _ => none) (fun _ => none))) (loopsIn (bodyOf Tryz.f165))) trivial))) h x hx
theorem cn_189c167 (f0 : (List Layout) × Int × Int × Unit → Option (((Int × Unit) ⊕ (Unit)))) (h0 : ∀ v r, f0 v = some r → mn_189c167l2 v r) : CallerOk prog (x189c167 (fun _ => none) (fun _ => none) (fun _ => none) f0 (fun _ => none)).call := (by
    intro A fid args S dst k r h
    unfold x189c167 call189c167 at h
    simp only at h
    split at h
    ·exact callPure_ok ((fun v r x h hx => by cases h)) rfl rfl h
    ·cases h)
theorem sn_189c167 (f0 : (List Layout) × Int × Int × Unit → Option (((Int × Unit) ⊕ (Unit)))) (h0 : ∀ v r, f0 v = some r → mn_189c167l2 v r) (v : (List Layout) × Unit) (r : Int × Unit) (h : exF (x189c167 (fun _ => none) (fun _ => none) (fun _ => none) f0 (fun _ => none)) sig189c167 rfl (bodyOf Tryz.f189) v = some r) : mn_189c167 v r := fun x hx => fn_ok (X := x189c167 (fun _ => none) (fun _ => none) (fun _ => none) f0 (fun _ => none)) (sig := sig189c167) rfl Tryz.func189 (c := bodyOf Tryz.f189) (by kernel_rfl) Tryz.ntmps189 (by kernel_rfl) (by kernel_rfl) rfl Ty.mixed (cn_189c167 f0 h0) rfl (fun C hP hN => (lok_all (X := x189c167 (fun _ => none) (fun _ => none) (fun _ => none) f0 (fun _ => none)) (c := (bodyOf Tryz.f189)) (kcast (by kernel_rfl : AllB (LoopsP C (x189c167 (fun _ => none) (fun _ => none) (fun _ => none) f0 (fun _ => none))) [(loopNo (bodyOf Tryz.f189) 0)] = AllB (LoopsP C (x189c167 (fun _ => none) (fun _ => none) (fun _ => none) f0 (fun _ => none))) (loopsIn (bodyOf Tryz.f189))) ⟨loop_at (X := x189c167 (fun _ => none) (fun _ => none) (fun _ => none) f0 (fun _ => none)) (b := (loopNo (bodyOf Tryz.f189) 0)) (by kernel_rfl) (show LoopOk C (loopNo (bodyOf Tryz.f189) 0) (sh := sh189c167) { cut := c189c167l2, alts := [.ret, .exit 0], F := f0 } from fun v out h => h0 v out h C hP hN), trivial⟩))) h x hx
theorem cn_189c167l2 (f0 : (List Layout) × Int × Int × Unit → Option (((Int × Unit) ⊕ (Unit)))) (f1 : Layout × Unit → Option (Bool × Unit)) (h0 : ∀ v r, f0 v = some r → mn_189c167l2 v r) (h1 : ∀ v r, f1 v = some r → mn_167 v r) : CallerOk prog (x189c167 (fun _ => none) (fun _ => none) (fun _ => none) f0 f1).call := (by
    intro A fid args S dst k r h
    unfold x189c167 call189c167 at h
    simp only at h
    split at h
    ·exact callPure_ok ((fun v r x h hx => h1 v r h x hx)) rfl rfl h
    ·cases h)
theorem sn_189c167l2 (f0 : (List Layout) × Int × Int × Unit → Option (((Int × Unit) ⊕ (Unit)))) (f1 : Layout × Unit → Option (Bool × Unit)) (h0 : ∀ v r, f0 v = some r → mn_189c167l2 v r) (h1 : ∀ v r, f1 v = some r → mn_167 v r) (v : (List Layout) × Int × Int × Unit) (r : ((Int × Unit) ⊕ (Unit))) (h : exL (x189c167 (fun _ => none) (fun _ => none) (fun _ => none) f0 f1) (loopNo (bodyOf Tryz.f189) 0) c189c167l2 [.ret, .exit 0] f0 v = some r) : mn_189c167l2 v r := fun C hP hN => loop_step (X := x189c167 (fun _ => none) (fun _ => none) (fun _ => none) f0 f1) (b := (loopNo (bodyOf Tryz.f189) 0)) hP hN Ty.mixed (cn_189c167l2 f0 f1 h0 h1) (lok_all (X := x189c167 (fun _ => none) (fun _ => none) (fun _ => none) f0 f1) (c := (loopNo (bodyOf Tryz.f189) 0)) (kcast (by kernel_rfl : True = AllB (LoopsP C (x189c167 (fun _ => none) (fun _ => none) (fun _ => none) f0 f1)) (loopsIn (loopNo (bodyOf Tryz.f189) 0))) trivial)) (cut := c189c167l2) (alts := [.ret, .exit 0]) (F := f0) (fun v out h => h0 v out h C hP hN) h
theorem cn_167 (f0 : Layout × Unit → Option (Bool × Unit)) (h0 : ∀ v r, f0 v = some r → mn_128 v r) : CallerOk prog (x167 f0 (fun _ => none) (fun _ => none) (fun _ => none) (fun _ => none)).call := (by
    intro A fid args S dst k r h
    unfold x167 call167 at h
    simp only at h
    split at h
    ·exact callPure_ok ((fun v r x h hx => h0 v r h x hx)) rfl rfl h
    ·cases h)
theorem sn_167 (f0 : Layout × Unit → Option (Bool × Unit)) (h0 : ∀ v r, f0 v = some r → mn_128 v r) (v : Layout × Unit) (r : Bool × Unit) (h : exF (x167 f0 (fun _ => none) (fun _ => none) (fun _ => none) (fun _ => none)) sig167 rfl (bodyOf Tryz.f167) v = some r) : mn_167 v r := fun x hx => fn_ok (X := x167 f0 (fun _ => none) (fun _ => none) (fun _ => none) (fun _ => none)) (sig := sig167) rfl Tryz.func167 (c := bodyOf Tryz.f167) (by kernel_rfl) Tryz.ntmps167 (by kernel_rfl) (by kernel_rfl) rfl Ty.mixed (cn_167 f0 h0) rfl (fun C hP hN => (lok_all (X := x167 f0 (fun _ => none) (fun _ => none) (fun _ => none) (fun _ => none)) (c := (bodyOf Tryz.f167)) (kcast (by kernel_rfl : True = AllB (LoopsP C (x167 f0 (fun _ => none) (fun _ => none) (fun _ => none) (fun _ => none))) (loopsIn (bodyOf Tryz.f167))) trivial))) h x hx
theorem n_128_all : ∀ k, (∀ v r, (u_128 k).1 v = some r → mn_128 v r) ∧ (∀ v r, (u_128 k).2.1 v = some r → mn_165c167 v r) ∧ (∀ v r, (u_128 k).2.2.1 v = some r → mn_189c167 v r) ∧ (∀ v r, (u_128 k).2.2.2.1 v = some r → mn_189c167l2 v r) ∧ (∀ v r, (u_128 k).2.2.2.2 v = some r → mn_167 v r) := fun k =>
 Nat.rec (motive := fun k => (∀ v r, (u_128 k).1 v = some r → mn_128 v r) ∧ (∀ v r, (u_128 k).2.1 v = some r → mn_165c167 v r) ∧ (∀ v r, (u_128 k).2.2.1 v = some r → mn_189c167 v r) ∧ (∀ v r, (u_128 k).2.2.2.1 v = some r → mn_189c167l2 v r) ∧ (∀ v r, (u_128 k).2.2.2.2 v = some r → mn_167 v r)) ⟨(fun v r h => by have h : (none : Option (Bool × Unit)) = some r := h; cases h),
  (fun v r h => by have h : (none : Option (Bool × Unit)) = some r := h; cases h),
  (fun v r h => by have h : (none : Option (Int × Unit)) = some r := h; cases h),
  (fun v r h => by have h : (none : Option (((Int × Unit) ⊕ (Unit)))) = some r := h; cases h),
  (fun v r h => by have h : (none : Option (Bool × Unit)) = some r := h; cases h)⟩ (fun k ih => ⟨(fun v r h => sn_128 (u_128 k).2.1 (ih.2.1) v r (kcast (by kernel_rfl) h)),
  (fun v r h => sn_165c167 (u_128 k).2.2.1 (ih.2.2.1) v r (kcast (by kernel_rfl) h)),
  (fun v r h => sn_189c167 (u_128 k).2.2.2.1 (ih.2.2.2.1) v r (kcast (by kernel_rfl) h)),
  (fun v r h => sn_189c167l2 (u_128 k).2.2.2.1 (u_128 k).2.2.2.2 (ih.2.2.2.1) (ih.2.2.2.2) v r (kcast (by kernel_rfl) h)),
  (fun v r h => sn_167 (u_128 k).1 (ih.1) v r (kcast (by kernel_rfl) h))⟩) k
theorem n_128_ok : SigOk prog 128 sig128 n_128 := fun v r x h hx => (n_128_all 400).1 v r h x hx
noncomputable def c99r3 : Cut SN := ⟨[(1, .bp 1 0), (12, .dat .bool)], [(1, .st .layoutT)]⟩
noncomputable def sh99 : Shape vw := { rcut := c150e0 }
noncomputable def pre99 : Nat → Bool := fun _ => false
noncomputable def sig99 : Sig vw := { params := [.dat (.st .layoutT)], rcut := c150e0, rvars := [.tmp 2] }
noncomputable def n_99 (v : Layout × Unit) : Option (Int × Unit) :=
 n_126sf4a5 (v.1, (1 : Int), Counted.mk (0 : Int) (0 : Int) false, ()) >>= fun x1 =>
 (if x1.1.large = true then
    some ((true, v.1, ()))
   else n_127 (v.1, ()) >>= fun x2 =>
   some ((decide (x2.1 > (4096 : Int)), v.1, ()))) >>= fun x2 =>
 if x2.1 = true then
  some (((3 : Int), ()))
 else n_128 (x2.2.1, ()) >>= fun x3 =>
 if (!x3.1) = true then
  some (((1 : Int), ()))
 else some (((0 : Int), ()))
noncomputable def call99 : Caller vw := cO prog 126 sig126sf4a5 n_126sf4a5 (cP prog 127 sig127 n_127 (cP prog 128 sig128 n_128 c0))
noncomputable def x99 : Xc vw := { P := prog, n := 16, call := call99, pre := pre99, sh := sh99, regs := fun k => match k with | 3 => some c99r3 | _ => none }
theorem call99_ok : CallerOk prog call99 := cO_ok n_126sf4a5_ok (cP_ok n_127_ok rfl rfl (cP_ok n_128_ok rfl rfl c0_ok))
theorem n_99_ok : SigOk prog 99 sig99 n_99 := fun v r x h hx =>
 fn_ok (X := x99) (sig := sig99) rfl Tryz.func99 (c := bodyOf Tryz.f99) (by kernel_rfl) Tryz.ntmps99 (by kernel_rfl) (by kernel_rfl) rfl Ty.mixed call99_ok rfl (fun C hP hN => (lok_all (kcast (by kernel_rfl) trivial))) (kcast (by kernel_rfl) h) x hx
noncomputable def c68s74ddl2 : Cut SN := ⟨[(0, .bp 100000 0), (1, .dat (.sl .str)), (4, .bp 4 0), (10, .dat (.sl .fnc)), (11, .dat (.int .i64)), (12, .dat (.int .i64))], [(100000, .box none [.vh 100001]), (4, .st .itemT), (100001, .vec 44 (.st .itemT))]⟩
noncomputable def c68s74ddr6 : Cut SN := ⟨[(0, .bp 100000 0), (1, .dat (.sl .str)), (4, .bp 4 0), (9, .bp 9 0), (10, .dat (.sl .fnc)), (11, .dat (.int .i64)), (12, .dat (.int .i64)), (34, .dat .bool)], [(100000, .box none [.vh 100001]), (4, .st .itemT), (9, .st .itemT), (100001, .vec 44 (.st .itemT))]⟩
noncomputable def c68s74ddr7 : Cut SN := ⟨[(0, .bp 100000 0), (1, .dat (.sl .str)), (4, .bp 4 0), (9, .bp 9 0), (10, .dat (.sl .fnc)), (11, .dat (.int .i64)), (12, .dat (.int .i64)), (43, .dat .bool)], [(100000, .box none [.vh 100001]), (4, .st .itemT), (9, .st .itemT), (100001, .vec 44 (.st .itemT))]⟩
noncomputable def c68s74dde0 : Cut SN := ⟨[(0, .bp 100000 0), (4, .bp 4 0)], [(100000, .box none [.vh 100001]), (4, .st .itemT), (100001, .vec 44 (.st .itemT))]⟩
noncomputable def c68s74ddz : Cut SN := ⟨[(0, .bp 100000 0), (4, .bp 4 0), (5, .dat .bool)], [(100000, .box none [.vh 100001]), (100001, .vec 44 (.st .itemT)), (4, .st .itemT)]⟩
noncomputable def sh68s74dd : Shape vw := { exits := fun id => match id with | 0 => c68s74dde0 | _ => ⟨[], []⟩, rcut := c68s74ddz }
noncomputable def pre68s74dd : Nat → Bool := fun _ => false
noncomputable def sig68s74dd : Sig vw := { params := [.bp 100000 0, .dat (.sl .str)], objs := [(100000, .box none [.vh 100001]), (100001, .vec 44 (.st .itemT))], rcut := c68s74ddz, rvars := [.cell 4 44, .tmp 5], keep := [100000, 100001] }
noncomputable def u_68s74ddl2 (k : Nat) : ((List ByteArray) × (List Nat) × Int × Int × Item × (List Item) × Unit → Option (((Bool × (List Item) × Item × Unit) ⊕ (Item × (List Item) × Unit)))) :=
 Nat.rec (motive := fun _ => ((List ByteArray) × (List Nat) × Int × Int × Item × (List Item) × Unit → Option (((Bool × (List Item) × Item × Unit) ⊕ (Item × (List Item) × Unit))))) (fun _ => none) (fun _ g v =>
 if decide (v.2.2.2.1 < v.2.2.1) = true then
  (if (0 : Int) ≤ v.2.2.2.1 then
     v.2.1[v.2.2.2.1.toNat]? >>= fun x1 =>
     if x1 = (98 : Nat) then
      none
     else if x1 = (99 : Nat) then
      none
     else if x1 = (122 : Nat) then
      n_122s496d (v.1, false, v.2.2.2.2.2.1, ()) >>= fun x2 =>
      if x2.2.2.1.length = v.2.2.2.2.2.1.length then
       (if x2.2.1 = true then
          some ((v.1, v.2.1, v.2.2.1, v.2.2.2.1, true, v.2.2.2.2.1, x2.2.2.2.1, x2.2.2.1, ()))
         else some ((v.1, v.2.1, v.2.2.1, v.2.2.2.1, decide ((↑x2.1.length : Int) > (0 : Int)), v.2.2.2.2.1, x2.2.2.2.1, x2.2.2.1, ()))) >>= fun x3 =>
       if x3.2.2.2.2.1 = true then
        some (Sum.inl (x3.1, x3.2.1, x3.2.2.1, x3.2.2.2.1, x3.2.2.2.2.2.1, x3.2.2.2.2.2.2.2.1, ()))
       else (if decide (x3.2.2.2.2.2.2.1.kind < (2 : Int)) = true then
         some ((x3.1, x3.2.1, x3.2.2.1, x3.2.2.2.1, true, x3.2.2.2.2.2.1, x3.2.2.2.2.2.2.1, x3.2.2.2.2.2.2.2.1, ()))
        else n_99 (Layout.mk x3.2.2.2.2.2.2.1.layout.kind x3.2.2.2.2.2.2.1.layout.n x3.2.2.2.2.2.2.1.layout.flag x3.2.2.2.2.2.2.1.layout.parts, ()) >>= fun x4 =>
        some ((x3.1, x3.2.1, x3.2.2.1, x3.2.2.2.1, x4.1 == (0 : Int), x3.2.2.2.2.2.1, x3.2.2.2.2.2.2.1, x3.2.2.2.2.2.2.2.1, ()))) >>= fun x4 =>
       if x4.2.2.2.2.1 = true then
        some (Sum.inr (true, x4.2.2.2.2.2.2.2.1, x4.2.2.2.2.2.2.1, ()))
       else some (Sum.inl (x4.1, x4.2.1, x4.2.2.1, x4.2.2.2.1, x4.2.2.2.2.2.1, x4.2.2.2.2.2.2.2.1, ()))
      else none
     else if x1 = (123 : Nat) then
      n_123s496d (v.1, false, v.2.2.2.2.2.1, ()) >>= fun x2 =>
      if x2.2.2.1.length = v.2.2.2.2.2.1.length then
       (if x2.2.1 = true then
          some ((v.1, v.2.1, v.2.2.1, v.2.2.2.1, true, v.2.2.2.2.1, x2.2.2.2.1, x2.2.2.1, ()))
         else some ((v.1, v.2.1, v.2.2.1, v.2.2.2.1, decide ((↑x2.1.length : Int) > (0 : Int)), v.2.2.2.2.1, x2.2.2.2.1, x2.2.2.1, ()))) >>= fun x3 =>
       if x3.2.2.2.2.1 = true then
        some (Sum.inl (x3.1, x3.2.1, x3.2.2.1, x3.2.2.2.1, x3.2.2.2.2.2.1, x3.2.2.2.2.2.2.2.1, ()))
       else (if decide (x3.2.2.2.2.2.2.1.kind < (2 : Int)) = true then
         some ((x3.1, x3.2.1, x3.2.2.1, x3.2.2.2.1, true, x3.2.2.2.2.2.1, x3.2.2.2.2.2.2.1, x3.2.2.2.2.2.2.2.1, ()))
        else n_99 (Layout.mk x3.2.2.2.2.2.2.1.layout.kind x3.2.2.2.2.2.2.1.layout.n x3.2.2.2.2.2.2.1.layout.flag x3.2.2.2.2.2.2.1.layout.parts, ()) >>= fun x4 =>
        some ((x3.1, x3.2.1, x3.2.2.1, x3.2.2.2.1, x4.1 == (0 : Int), x3.2.2.2.2.2.1, x3.2.2.2.2.2.2.1, x3.2.2.2.2.2.2.2.1, ()))) >>= fun x4 =>
       if x4.2.2.2.2.1 = true then
        some (Sum.inr (true, x4.2.2.2.2.2.2.2.1, x4.2.2.2.2.2.2.1, ()))
       else some (Sum.inl (x4.1, x4.2.1, x4.2.2.1, x4.2.2.2.1, x4.2.2.2.2.2.1, x4.2.2.2.2.2.2.2.1, ()))
      else none
     else if x1 = (124 : Nat) then
      n_124s496d (v.1, false, v.2.2.2.2.2.1, ()) >>= fun x2 =>
      if x2.2.2.1.length = v.2.2.2.2.2.1.length then
       (if x2.2.1 = true then
          some ((v.1, v.2.1, v.2.2.1, v.2.2.2.1, true, v.2.2.2.2.1, x2.2.2.2.1, x2.2.2.1, ()))
         else some ((v.1, v.2.1, v.2.2.1, v.2.2.2.1, decide ((↑x2.1.length : Int) > (0 : Int)), v.2.2.2.2.1, x2.2.2.2.1, x2.2.2.1, ()))) >>= fun x3 =>
       if x3.2.2.2.2.1 = true then
        some (Sum.inl (x3.1, x3.2.1, x3.2.2.1, x3.2.2.2.1, x3.2.2.2.2.2.1, x3.2.2.2.2.2.2.2.1, ()))
       else (if decide (x3.2.2.2.2.2.2.1.kind < (2 : Int)) = true then
         some ((x3.1, x3.2.1, x3.2.2.1, x3.2.2.2.1, true, x3.2.2.2.2.2.1, x3.2.2.2.2.2.2.1, x3.2.2.2.2.2.2.2.1, ()))
        else n_99 (Layout.mk x3.2.2.2.2.2.2.1.layout.kind x3.2.2.2.2.2.2.1.layout.n x3.2.2.2.2.2.2.1.layout.flag x3.2.2.2.2.2.2.1.layout.parts, ()) >>= fun x4 =>
        some ((x3.1, x3.2.1, x3.2.2.1, x3.2.2.2.1, x4.1 == (0 : Int), x3.2.2.2.2.2.1, x3.2.2.2.2.2.2.1, x3.2.2.2.2.2.2.2.1, ()))) >>= fun x4 =>
       if x4.2.2.2.2.1 = true then
        some (Sum.inr (true, x4.2.2.2.2.2.2.2.1, x4.2.2.2.2.2.2.1, ()))
       else some (Sum.inl (x4.1, x4.2.1, x4.2.2.1, x4.2.2.2.1, x4.2.2.2.2.2.1, x4.2.2.2.2.2.2.2.1, ()))
      else none
     else if x1 = (125 : Nat) then
      n_125s496d (v.1, false, v.2.2.2.2.2.1, ()) >>= fun x2 =>
      if x2.2.2.1.length = v.2.2.2.2.2.1.length then
       (if x2.2.1 = true then
          some ((v.1, v.2.1, v.2.2.1, v.2.2.2.1, true, v.2.2.2.2.1, x2.2.2.2.1, x2.2.2.1, ()))
         else some ((v.1, v.2.1, v.2.2.1, v.2.2.2.1, decide ((↑x2.1.length : Int) > (0 : Int)), v.2.2.2.2.1, x2.2.2.2.1, x2.2.2.1, ()))) >>= fun x3 =>
       if x3.2.2.2.2.1 = true then
        some (Sum.inl (x3.1, x3.2.1, x3.2.2.1, x3.2.2.2.1, x3.2.2.2.2.2.1, x3.2.2.2.2.2.2.2.1, ()))
       else (if decide (x3.2.2.2.2.2.2.1.kind < (2 : Int)) = true then
         some ((x3.1, x3.2.1, x3.2.2.1, x3.2.2.2.1, true, x3.2.2.2.2.2.1, x3.2.2.2.2.2.2.1, x3.2.2.2.2.2.2.2.1, ()))
        else n_99 (Layout.mk x3.2.2.2.2.2.2.1.layout.kind x3.2.2.2.2.2.2.1.layout.n x3.2.2.2.2.2.2.1.layout.flag x3.2.2.2.2.2.2.1.layout.parts, ()) >>= fun x4 =>
        some ((x3.1, x3.2.1, x3.2.2.1, x3.2.2.2.1, x4.1 == (0 : Int), x3.2.2.2.2.2.1, x3.2.2.2.2.2.2.1, x3.2.2.2.2.2.2.2.1, ()))) >>= fun x4 =>
       if x4.2.2.2.2.1 = true then
        some (Sum.inr (true, x4.2.2.2.2.2.2.2.1, x4.2.2.2.2.2.2.1, ()))
       else some (Sum.inl (x4.1, x4.2.1, x4.2.2.1, x4.2.2.2.1, x4.2.2.2.2.2.1, x4.2.2.2.2.2.2.2.1, ()))
      else none
     else none
    else none) >>= fun x1 => match x1 with
    | .inl y1 => g (y1.1, y1.2.1, y1.2.2.1, i64.wrap (y1.2.2.2.1 + (1 : Int)), y1.2.2.2.2.1, y1.2.2.2.2.2.1, ())
    | .inr y1 => some (Sum.inl y1)
 else some (Sum.inr (v.2.2.2.2.1, v.2.2.2.2.2.1, ()))) k
noncomputable def n_68s74ddl2 (v : (List ByteArray) × (List Nat) × Int × Int × Item × (List Item) × Unit) : Option (((Bool × (List Item) × Item × Unit) ⊕ (Item × (List Item) × Unit))) := (u_68s74ddl2 400) v
noncomputable def n_68s74dd (v : (List ByteArray) × (List Item) × Unit) : Option (Bool × (List Item) × Item × Unit) :=
 n_98 () >>= fun x1 =>
 n_68s74ddl2 (v.1, x1.1, (↑x1.1.length : Int), (0 : Int), Item.mk (0 : Int) (ByteArray.mk #[]) (0 : Int) [] (Layout.mk (0 : Int) (0 : Int) false []), v.2.1, ()) >>= fun x2 => match x2 with
  | .inl y2 => some y2
  | .inr y2 => some ((false, y2.2.1, Item.mk (0 : Int) (ByteArray.mk #[]) (0 : Int) [] (Layout.mk (0 : Int) (0 : Int) false []), ()))
noncomputable def call68s74dd : Caller vw := fun A fid args S k => if fid = 98 then callPure prog sig98 n_98 A args S k  else if fid = 99 then callPure prog sig99 n_99 A args S k  else if fid = 122 then callObj prog sig122s496d n_122s496d A args S k  else if fid = 123 then callObj prog sig123s496d n_123s496d A args S k  else if fid = 124 then callObj prog sig124s496d n_124s496d A args S k  else if fid = 125 then callObj prog sig125s496d n_125s496d A args S k  else none
noncomputable def x68s74dd : Xc vw := { P := prog, n := 47, call := call68s74dd, pre := pre68s74dd, sh := sh68s74dd, joins := fun k => match k with | 9 => some (c68s74ddl2, [.norm, .ret]) | _ => none, regs := fun k => match k with | 6 => some c68s74ddr6 | 7 => some c68s74ddr7 | _ => none, loops := fun k => match k with | 2 => some { cut := c68s74ddl2, alts := [.ret, .exit 0], F := n_68s74ddl2 } | _ => none }
theorem call68s74dd_ok : CallerOk prog call68s74dd := fun A fid args S dst k r h => by
 unfold call68s74dd at h
 split at h
 ·rename_i e; subst e; exact callPure_ok (n_98_ok) rfl rfl h
 ·
  split at h
  ·rename_i e; subst e; exact callPure_ok (n_99_ok) rfl rfl h
  ·
   split at h
   ·rename_i e; subst e; exact callObj_ok (n_122s496d_ok) h
   ·
    split at h
    ·rename_i e; subst e; exact callObj_ok (n_123s496d_ok) h
    ·
     split at h
     ·rename_i e; subst e; exact callObj_ok (n_124s496d_ok) h
     ·
      split at h
      ·rename_i e; subst e; exact callObj_ok (n_125s496d_ok) h
      ·
       cases h
theorem n_68s74ddl2_ok (C : Ctx) (hP : C.P = prog) (hN : C.N = 47 ∧ Fx C pre68s74dd) : LoopOk C (loopNo (bodyOf Tryz.f68) 0) (sh := sh68s74dd) { cut := c68s74ddl2, alts := [.ret, .exit 0], F := n_68s74ddl2 } :=
 fun v out h => (Nat.rec (motive := fun k => ∀ v out, (u_68s74ddl2 k) v = some out → (AWpL C (loopNo (bodyOf Tryz.f68) 0) (Go.Tx.encS vw (conc vw c68s74ddl2 v)) (OutQ sh68s74dd [.ret, .exit 0] out))) (fun v out h => by have h : (none : Option (((Bool × (List Item) × Item × Unit) ⊕ (Item × (List Item) × Unit)))) = some out := h; cases h) (fun k ih v out h => loop_step (X := x68s74dd) (b := (loopNo (bodyOf Tryz.f68) 0)) hP hN Ty.mixed call68s74dd_ok (lok_all (X := x68s74dd) (c := (loopNo (bodyOf Tryz.f68) 0)) (kcast (by kernel_rfl : True = AllB (LoopsP C (x68s74dd)) (loopsIn (loopNo (bodyOf Tryz.f68) 0))) trivial)) ih (kcast (by kernel_rfl) h)) 400 : ∀ v out, (u_68s74ddl2 400) v = some out → (AWpL C (loopNo (bodyOf Tryz.f68) 0) (Go.Tx.encS vw (conc vw c68s74ddl2 v)) (OutQ sh68s74dd [.ret, .exit 0] out))) v out h
theorem n_68s74dd_ok : SigOk prog 68 sig68s74dd n_68s74dd := fun v r x h hx =>
 fn_ok (X := x68s74dd) (sig := sig68s74dd) rfl Tryz.func68 (c := bodyOf Tryz.f68) (by kernel_rfl) Tryz.ntmps68 (by kernel_rfl) (by kernel_rfl) rfl Ty.mixed call68s74dd_ok rfl (fun C hP hN => (lok_all (kcast (by kernel_rfl : AllB (LoopsP C (x68s74dd)) [(loopNo (bodyOf Tryz.f68) 0)] = AllB (LoopsP C (x68s74dd)) (loopsIn (bodyOf Tryz.f68))) ⟨loop_at (X := x68s74dd) (b := (loopNo (bodyOf Tryz.f68) 0)) (by kernel_rfl) (n_68s74ddl2_ok C hP hN), trivial⟩))) (kcast (by kernel_rfl) h) x hx
noncomputable def c35l4 : Cut SN := ⟨[(2, .bp 2 0), (3, .vh 1003), (4, .bp 4 0), (12, .dat (.sl (.sl .str))), (13, .dat (.int .i64)), (14, .dat (.int .i64))], [(2, .box none [.dat (.sl (.st .itemT))]), (1003, .vec 3 (.int .i64)), (4, .box none [.bp 10 0]), (10, .box none [.vh 3100]), (3100, .vec 44 (.st .itemT))]⟩
noncomputable def c35r1 : Cut SN := ⟨[(0, .dat (.sl (.sl .str))), (2, .bp 2 0), (3, .vh 1003), (4, .bp 4 0)], [(2, .box none [.dat (.sl (.st .itemT))]), (1003, .vec 3 (.int .i64)), (4, .box none [.bp 10 0]), (10, .box none [.vh 3100]), (3100, .vec 44 (.st .itemT))]⟩
noncomputable def c35e0 : Cut SN := ⟨[(2, .bp 2 0), (3, .vh 1003), (4, .bp 4 0)], [(2, .box none [.dat (.sl (.st .itemT))]), (1003, .vec 3 (.int .i64)), (4, .box none [.bp 10 0]), (10, .box none [.vh 3100]), (3100, .vec 44 (.st .itemT))]⟩
noncomputable def c35z : Cut SN := ⟨[(2, .bp 2 0), (3, .dat (.sl (.int .i64)))], [(2, .box none [.dat (.sl (.st .itemT))])]⟩
noncomputable def sh35 : Shape vw := { exits := fun id => match id with | 0 => c35e0 | _ => ⟨[], []⟩, rcut := c35z }
noncomputable def pre35 : Nat → Bool := fun k => match k with | 4000002 => true | 4000004 => true | _ => false
noncomputable def pa35 : Nat → Bool := fun _ => false
noncomputable def sig35 : Sig vw := { params := [.dat (.sl (.sl .str))], rcut := c35z, rvars := [.cell 2 23, .tmp 3] }
noncomputable def u_35l4 (k : Nat) : ((List (List ByteArray)) × Int × Int × (List Item) × (List Int) × (List Item) × Unit → Option (((List Item) × (List Int) × (List Item) × Unit))) :=
 Nat.rec (motive := fun _ => ((List (List ByteArray)) × Int × Int × (List Item) × (List Int) × (List Item) × Unit → Option (((List Item) × (List Int) × (List Item) × Unit)))) (fun _ => none) (fun _ g v =>
 if decide (v.2.2.1 < v.2.1) = true then
  (if (0 : Int) ≤ v.2.2.1 then
     v.1[v.2.2.1.toNat]? >>= fun x1 =>
     n_68s74dd (x1, v.2.2.2.2.2.1, ()) >>= fun x2 =>
     if x2.2.1.length = v.2.2.2.2.2.1.length then
      if (!x2.1) = true then
       if v.2.2.2.2.1.length + [v.2.2.1].length ≤ (4294967296 : Nat) then
        some ((v.1, v.2.1, v.2.2.1, v.2.2.2.1, v.2.2.2.2.1 ++ [v.2.2.1], x2.2.1, ()))
       else none
      else if x2.2.1.length + [x2.2.2.1].length ≤ (4294967296 : Nat) then
       some ((v.1, v.2.1, v.2.2.1, v.2.2.2.1, v.2.2.2.2.1, x2.2.1 ++ [x2.2.2.1], ()))
      else none
     else none
    else none) >>= fun x1 =>
  g (x1.1, x1.2.1, i64.wrap (x1.2.2.1 + (1 : Int)), x1.2.2.2.1, x1.2.2.2.2.1, x1.2.2.2.2.2.1, ())
 else some ((v.2.2.2.1, v.2.2.2.2.1, v.2.2.2.2.2.1, ()))) k
noncomputable def n_35l4 (v : (List (List ByteArray)) × Int × Int × (List Item) × (List Int) × (List Item) × Unit) : Option (((List Item) × (List Int) × (List Item) × Unit)) := (u_35l4 400) v
noncomputable def n_35 (v : (List (List ByteArray)) × Unit) : Option ((List Int) × (List Item) × Unit) :=
 some (v.1, [], [], [], ()) >>= fun x1 =>
 n_35l4 (x1.1, (↑x1.1.length : Int), (0 : Int), x1.2.1, x1.2.2.1, x1.2.2.2.1, ()) >>= fun x2 =>
 n_67s8e18 ([], x2.2.2.1, ()) >>= fun x3 =>
 if x3.1.length = x2.2.2.1.length then
  some ((x2.2.1, x3.1, ()))
 else none
noncomputable def call35 : Caller vw := cO prog 67 sig67s8e18 n_67s8e18 (cO prog 68 sig68s74dd n_68s74dd c0)
noncomputable def x35 : Xc vw := { P := prog, n := 43, nm := fun d => match d with | 9 => 40009 | _ => d, call := call35, pre := pre35, sh := sh35, joins := fun k => match k with | 10 => some (c35l4, [.norm]) | _ => none, regs := fun k => match k with | 1 => some c35r1 | _ => none, loops := fun k => match k with | 4 => some { cut := c35l4, alts := [.exit 0], F := n_35l4 } | _ => none }
theorem call35_ok : CallerOk prog call35 := cO_ok n_67s8e18_ok (cO_ok n_68s74dd_ok c0_ok)
theorem n_35l4_ok (C : Ctx) (hP : C.P = prog) (hN : C.N = 43 ∧ Fx C pre35) : LoopOk C (loopNo (seqL (seqR (seqR (seqR (bodyOf Tryz.f35))))) 0) (sh := sh35) { cut := c35l4, alts := [.exit 0], F := n_35l4 } :=
 fun v out h => (Nat.rec (motive := fun k => ∀ v out, (u_35l4 k) v = some out → (AWpL C (loopNo (seqL (seqR (seqR (seqR (bodyOf Tryz.f35))))) 0) (Go.Tx.encS vw (conc vw c35l4 v)) (OutQ sh35 [.exit 0] out))) (fun v out h => by have h : (none : Option (((List Item) × (List Int) × (List Item) × Unit))) = some out := h; cases h) (fun k ih v out h => loop_step (X := x35) (b := (loopNo (seqL (seqR (seqR (seqR (bodyOf Tryz.f35))))) 0)) hP hN Ty.mixed call35_ok (lok_all (X := x35) (c := (loopNo (seqL (seqR (seqR (seqR (bodyOf Tryz.f35))))) 0)) (kcast (by kernel_rfl : True = AllB (LoopsP C (x35)) (loopsIn (loopNo (seqL (seqR (seqR (seqR (bodyOf Tryz.f35))))) 0))) trivial)) ih (kcast (by kernel_rfl) h)) 400 : ∀ v out, (u_35l4 400) v = some out → (AWpL C (loopNo (seqL (seqR (seqR (seqR (bodyOf Tryz.f35))))) 0) (Go.Tx.encS vw (conc vw c35l4 v)) (OutQ sh35 [.exit 0] out))) v out h
noncomputable def xa35 : Xc vw := { x35 with pre := pa35 }
theorem n_35_ok : SigOk prog 35 sig35 n_35 := fun v r x h hx =>
 fn_defer (X := x35) (sig := sig35) (x0 := (seqL (bodyOf Tryz.f35))) (x1 := (seqL (seqR (bodyOf Tryz.f35)))) (B := (seqL (seqR (seqR (seqR (bodyOf Tryz.f35)))))) (z := (seqL (seqR (seqR (seqR (seqR (bodyOf Tryz.f35))))))) (id := 2) (o1 := regOp 0 (seqL (seqR (seqR (bodyOf Tryz.f35))))) (o2 := regOp 1 (seqL (seqR (seqR (bodyOf Tryz.f35))))) (td := 11) (caps := [4, 2]) (ct := { callee := .value (.tmp 11), args := #[], argTypes := #[] }) (pa := pa35) rfl Tryz.func35 (by kernel_rfl) Tryz.ntmps35 (by kernel_rfl) (by kernel_rfl) rfl Ty.mixed call35_ok rfl (by kernel_rfl) (by kernel_rfl) (by kernel_rfl) (by kernel_rfl) rfl rfl (by kernel_rfl) (by kernel_rfl) (by kernel_rfl) (by kernel_rfl) (fun C hP hN => ⟨(lok_all (X := x35) (c := (seqL (seqR (seqR (seqR (bodyOf Tryz.f35)))))) (kcast (by kernel_rfl : AllB (LoopsP C (x35)) [(loopNo (seqL (seqR (seqR (seqR (bodyOf Tryz.f35))))) 0)] = AllB (LoopsP C (x35)) (loopsIn (seqL (seqR (seqR (seqR (bodyOf Tryz.f35))))))) ⟨loop_at (X := x35) (b := (loopNo (seqL (seqR (seqR (seqR (bodyOf Tryz.f35))))) 0)) (by kernel_rfl) (n_35l4_ok C hP hN), trivial⟩)), (lok_all (X := x35) (c := (seqL (seqR (seqR (seqR (seqR (bodyOf Tryz.f35))))))) (kcast (by kernel_rfl : True = AllB (LoopsP C (x35)) (loopsIn (seqL (seqR (seqR (seqR (seqR (bodyOf Tryz.f35)))))))) trivial))⟩) (fun C => ⟨(lok_all (X := xa35) (c := (seqL (bodyOf Tryz.f35))) (kcast (by kernel_rfl : True = AllB (LoopsP C (xa35)) (loopsIn (seqL (bodyOf Tryz.f35)))) trivial)), (lok_all (X := xa35) (c := (seqL (seqR (bodyOf Tryz.f35)))) (kcast (by kernel_rfl : True = AllB (LoopsP C (xa35)) (loopsIn (seqL (seqR (bodyOf Tryz.f35))))) trivial))⟩) n_67s8e18_okD (kcast (by kernel_rfl) h) x hx
noncomputable def c69z : Cut SN := ⟨[(4, .dat .str)], []⟩
noncomputable def sig69 : Sig vw := { params := [.dat (.sl .str), .dat .str], rcut := c69z, rvars := [.tmp 4] }
noncomputable def n_69 (v : (List ByteArray) × ByteArray × Unit) : Option (ByteArray × Unit) :=
 if v.1.length ≤ 140737488355328 ∧ (Lib.join (v.1.map (·.data.toList)) v.2.1.data.toList).length ≤ 140737488355328 then some (⟨(Lib.join (v.1.map (·.data.toList)) v.2.1.data.toList).toArray⟩, ()) else none
theorem n_69_ok : SigOk prog 69 sig69 n_69 := fun v r x h hx => by
 obtain ⟨xs, c, u⟩ := v
 unfold n_69 at h
 split at h
 ·rename_i hc
  obtain ⟨h0, h1⟩ := hc
  simp only at h0 h1
  cases h; cases hx
  exact kcast (by kernel_rfl) (FnOk.pure (P := prog) (f := 69) (args := [.d (.sl 1 (xs.map fun y => [D.v (.string y)])), .d (.v (.string c))]) (r := .d (.v (.string ⟨(Lib.join (xs.map (·.data.toList)) c.data.toList).toArray⟩))) (by kernel_rfl) fun E M w vs hg hm hv => by
   obtain ⟨v1, v2, rfl, h2, h3⟩ := hreps_two hv
   rw [h3.dv]
   rcases strs_rep h2 with ⟨rfl, a, k, rfl⟩ | ⟨b, o, k, h4, rfl, h5, h6⟩
   ·exact (Tryz.strings_Join_none a k c w).mono fun e w' ⟨he, hw⟩ => ⟨_, he, .d (.v _), hw ▸ Go.RowKit.Below.refl _ _⟩
   ·have h7 : ∀ (j : Nat) x, xs[j]? = some x → w.cell? ⟨b, o + j, none⟩ = some (.string x) := fun j x hj => hm _ _ _ (h6 j x hj)
    have h8 : b < w.heap.size := by
     obtain ⟨x, hx⟩ : ∃ x, xs[0]? = some x := by
      match xs, h4 with
      | x :: r, _ => exact ⟨x, rfl⟩
     exact World.block_lt_of_cell? w (a := ⟨b, o + 0, none⟩) (h7 0 x hx)
    exact (Tryz.strings_Join b o k xs c w h7 h8 h0 h5 h1).mono fun e w' ⟨he, hw⟩ => ⟨_, he, .d (.v _), hw⟩)
 ·cases h
noncomputable def c36z : Cut SN := ⟨[(2, .dat .str)], []⟩
noncomputable def sh36 : Shape vw := { rcut := c36z }
noncomputable def pre36 : Nat → Bool := fun _ => false
noncomputable def sig36 : Sig vw := { params := [.dat (.sl .str)], rcut := c36z, rvars := [.tmp 2] }
noncomputable def n_36 (v : (List ByteArray) × Unit) : Option (ByteArray × Unit) :=
 n_69 (v.1, ByteArray.mk #[32], ()) >>= fun x1 =>
 some ((x1.1, ()))
noncomputable def call36 : Caller vw := cP prog 69 sig69 n_69 c0
noncomputable def x36 : Xc vw := { P := prog, n := 5, call := call36, pre := pre36, sh := sh36 }
theorem call36_ok : CallerOk prog call36 := cP_ok n_69_ok rfl rfl c0_ok
theorem n_36_ok : SigOk prog 36 sig36 n_36 := fun v r x h hx =>
 fn_ok (X := x36) (sig := sig36) rfl Tryz.func36 (c := bodyOf Tryz.f36) (by kernel_rfl) Tryz.ntmps36 (by kernel_rfl) (by kernel_rfl) rfl Ty.mixed call36_ok rfl (fun C hP hN => (lok_all (kcast (by kernel_rfl) trivial))) (kcast (by kernel_rfl) h) x hx
noncomputable def c11l7 : Cut SN := ⟨[(5, .dat (.sl (.sl .str))), (6, .dat (.sl (.st .itemT))), (8, .vh 1008), (21, .dat (.sl (.int .i64))), (22, .dat (.int .i64)), (23, .dat (.int .i64))], [(1008, .vec 9 .str)]⟩
noncomputable def c11e0 : Cut SN := ⟨[(6, .dat (.sl (.st .itemT))), (8, .vh 1008)], [(1008, .vec 9 .str)]⟩
noncomputable def c11z : Cut SN := ⟨[(2, .dat (.sl (.st .itemT))), (3, .dat (.sl .str)), (4, .dat (.int .i64))], []⟩
noncomputable def sh11 : Shape vw := { exits := fun id => match id with | 0 => c11e0 | _ => ⟨[], []⟩, rcut := c11z }
noncomputable def pre11 : Nat → Bool := fun _ => false
noncomputable def sig11 : Sig vw := { params := [.dat .str], rcut := c11z, rvars := [.tmp 2, .tmp 3, .tmp 4] }
noncomputable def u_11l7 (k : Nat) : ((List (List ByteArray)) × (List Item) × (List Int) × Int × Int × (List ByteArray) × Unit → Option (((List Item) × (List ByteArray) × Unit))) :=
 Nat.rec (motive := fun _ => ((List (List ByteArray)) × (List Item) × (List Int) × Int × Int × (List ByteArray) × Unit → Option (((List Item) × (List ByteArray) × Unit)))) (fun _ => none) (fun _ g v =>
 if decide (v.2.2.2.2.1 < v.2.2.2.1) = true then
  if (0 : Int) ≤ v.2.2.2.2.1 then
   v.2.2.1[v.2.2.2.2.1.toNat]? >>= fun x1 =>
   if (0 : Int) ≤ x1 then
    v.1[x1.toNat]? >>= fun x2 =>
    n_36 (x2, ()) >>= fun x3 =>
    if v.2.2.2.2.2.1.length + [x3.1].length ≤ (4294967296 : Nat) then
     g (v.1, v.2.1, v.2.2.1, v.2.2.2.1, i64.wrap (v.2.2.2.2.1 + (1 : Int)), v.2.2.2.2.2.1 ++ [x3.1], ())
    else none
   else none
  else none
 else some ((v.2.1, v.2.2.2.2.2.1, ()))) k
noncomputable def n_11l7 (v : (List (List ByteArray)) × (List Item) × (List Int) × Int × Int × (List ByteArray) × Unit) : Option (((List Item) × (List ByteArray) × Unit)) := (u_11l7 400) v
noncomputable def n_11 (v : ByteArray × Unit) : Option ((List Item) × (List ByteArray) × Int × Unit) :=
 if decide ((↑v.1.size : Int) > (4096 : Int)) = true then
  some (([], [], (3 : Int), ()))
 else n_34 (v.1, ()) >>= fun x1 =>
 n_35 (x1.1, ()) >>= fun x2 =>
 n_11l7 (x1.1, x2.2.1, x2.1, (↑x2.1.length : Int), (0 : Int), [], ()) >>= fun x3 =>
 some ((x3.1, x3.2.1, (0 : Int), ()))
noncomputable def call11 : Caller vw := cP prog 34 sig34 n_34 (cP prog 35 sig35 n_35 (cP prog 36 sig36 n_36 c0))
noncomputable def x11 : Xc vw := { P := prog, n := 38, call := call11, pre := pre11, sh := sh11, loops := fun k => match k with | 7 => some { cut := c11l7, alts := [.exit 0], F := n_11l7 } | _ => none }
theorem call11_ok : CallerOk prog call11 := cP_ok n_34_ok rfl rfl (cP_ok n_35_ok rfl rfl (cP_ok n_36_ok rfl rfl c0_ok))
theorem n_11l7_ok (C : Ctx) (hP : C.P = prog) (hN : C.N = 38 ∧ Fx C pre11) : LoopOk C (loopNo (bodyOf Tryz.f11) 0) (sh := sh11) { cut := c11l7, alts := [.exit 0], F := n_11l7 } :=
 fun v out h => (Nat.rec (motive := fun k => ∀ v out, (u_11l7 k) v = some out → (AWpL C (loopNo (bodyOf Tryz.f11) 0) (Go.Tx.encS vw (conc vw c11l7 v)) (OutQ sh11 [.exit 0] out))) (fun v out h => by have h : (none : Option (((List Item) × (List ByteArray) × Unit))) = some out := h; cases h) (fun k ih v out h => loop_step (X := x11) (b := (loopNo (bodyOf Tryz.f11) 0)) hP hN Ty.mixed call11_ok (lok_all (X := x11) (c := (loopNo (bodyOf Tryz.f11) 0)) (kcast (by kernel_rfl : True = AllB (LoopsP C (x11)) (loopsIn (loopNo (bodyOf Tryz.f11) 0))) trivial)) ih (kcast (by kernel_rfl) h)) 400 : ∀ v out, (u_11l7 400) v = some out → (AWpL C (loopNo (bodyOf Tryz.f11) 0) (Go.Tx.encS vw (conc vw c11l7 v)) (OutQ sh11 [.exit 0] out))) v out h
theorem n_11_ok : SigOk prog 11 sig11 n_11 := fun v r x h hx =>
 fn_ok (X := x11) (sig := sig11) rfl Tryz.func11 (c := bodyOf Tryz.f11) (by kernel_rfl) Tryz.ntmps11 (by kernel_rfl) (by kernel_rfl) rfl Ty.mixed call11_ok rfl (fun C hP hN => (lok_all (kcast (by kernel_rfl : AllB (LoopsP C (x11)) [(loopNo (bodyOf Tryz.f11) 0)] = AllB (LoopsP C (x11)) (loopsIn (bodyOf Tryz.f11))) ⟨loop_at (X := x11) (b := (loopNo (bodyOf Tryz.f11) 0)) (by kernel_rfl) (n_11l7_ok C hP hN), trivial⟩))) (kcast (by kernel_rfl) h) x hx
noncomputable def c83s11f1l2 : Cut SN := ⟨[(0, .dat (.sl (.st .itemT))), (1, .fn 84 [] [100000, 100001]), (7, .dat (.int .i64)), (8, .dat (.int .i64))], [(100000, .box none [.dat (.int .i64)]), (100001, .box none [.dat .str])]⟩
noncomputable def c83s11f1e0 : Cut SN := ⟨[(1, .fn 84 [] [100000, 100001])], [(100000, .box none [.dat (.int .i64)]), (100001, .box none [.dat .str])]⟩
noncomputable def c83s11f1z : Cut SN := ⟨[(1, .fn 84 [] [100000, 100001]), (4, .dat (.int .i64))], [(100000, .box none [.dat (.int .i64)]), (100001, .box none [.dat .str])]⟩
noncomputable def sh83s11f1 : Shape vw := { exits := fun id => match id with | 0 => c83s11f1e0 | _ => ⟨[], []⟩, rcut := c83s11f1z }
noncomputable def pre83s11f1 : Nat → Bool := fun _ => false
noncomputable def sig83s11f1 : Sig vw := { params := [.dat (.sl (.st .itemT)), .fn 84 [] [100000, 100001]], objs := [(100000, .box none [.dat (.int .i64)]), (100001, .box none [.dat .str])], rcut := c83s11f1z, rvars := [.tmp 4], keep := [100000, 100001] }
noncomputable def u_83s11f1l2 (k : Nat) : ((List Item) × Int × Int × Int × ByteArray × Unit → Option (((Int × Int × ByteArray × Unit) ⊕ (Int × ByteArray × Unit)))) :=
 Nat.rec (motive := fun _ => ((List Item) × Int × Int × Int × ByteArray × Unit → Option (((Int × Int × ByteArray × Unit) ⊕ (Int × ByteArray × Unit))))) (fun _ => none) (fun _ g v =>
 if decide (v.2.2.1 < v.2.1) = true then
  if (0 : Int) ≤ v.2.2.1 then
   v.1[v.2.2.1.toNat]? >>= fun x1 =>
   n_84s87be (x1, v.2.2.2.1, v.2.2.2.2.1, ()) >>= fun x2 =>
   if x2.1 = true then
    some (Sum.inl (v.2.2.1, x2.2.1, x2.2.2.1, ()))
   else g (v.1, v.2.1, i64.wrap (v.2.2.1 + (1 : Int)), x2.2.1, x2.2.2.1, ())
  else none
 else some (Sum.inr (v.2.2.2.1, v.2.2.2.2.1, ()))) k
noncomputable def n_83s11f1l2 (v : (List Item) × Int × Int × Int × ByteArray × Unit) : Option (((Int × Int × ByteArray × Unit) ⊕ (Int × ByteArray × Unit))) := (u_83s11f1l2 400) v
noncomputable def n_83s11f1 (v : (List Item) × Int × ByteArray × Unit) : Option (Int × Int × ByteArray × Unit) :=
 n_83s11f1l2 (v.1, (↑v.1.length : Int), (0 : Int), v.2.1, v.2.2.1, ()) >>= fun x1 => match x1 with
  | .inl y1 => some y1
  | .inr y1 => some (((-1 : Int), y1.1, y1.2.1, ()))
noncomputable def call83s11f1 : Caller vw := cO prog 84 sig84s87be n_84s87be c0
noncomputable def x83s11f1 : Xc vw := { P := prog, n := 19, call := call83s11f1, pre := pre83s11f1, sh := sh83s11f1, loops := fun k => match k with | 2 => some { cut := c83s11f1l2, alts := [.ret, .exit 0], F := n_83s11f1l2 } | _ => none }
theorem call83s11f1_ok : CallerOk prog call83s11f1 := cO_ok n_84s87be_ok c0_ok
theorem n_83s11f1l2_ok (C : Ctx) (hP : C.P = prog) (hN : C.N = 19 ∧ Fx C pre83s11f1) : LoopOk C (loopNo (bodyOf Tryz.f83) 0) (sh := sh83s11f1) { cut := c83s11f1l2, alts := [.ret, .exit 0], F := n_83s11f1l2 } :=
 fun v out h => (Nat.rec (motive := fun k => ∀ v out, (u_83s11f1l2 k) v = some out → (AWpL C (loopNo (bodyOf Tryz.f83) 0) (Go.Tx.encS vw (conc vw c83s11f1l2 v)) (OutQ sh83s11f1 [.ret, .exit 0] out))) (fun v out h => by have h : (none : Option (((Int × Int × ByteArray × Unit) ⊕ (Int × ByteArray × Unit)))) = some out := h; cases h) (fun k ih v out h => loop_step (X := x83s11f1) (b := (loopNo (bodyOf Tryz.f83) 0)) hP hN Ty.mixed call83s11f1_ok (lok_all (X := x83s11f1) (c := (loopNo (bodyOf Tryz.f83) 0)) (kcast (by kernel_rfl : True = AllB (LoopsP C (x83s11f1)) (loopsIn (loopNo (bodyOf Tryz.f83) 0))) trivial)) ih (kcast (by kernel_rfl) h)) 400 : ∀ v out, (u_83s11f1l2 400) v = some out → (AWpL C (loopNo (bodyOf Tryz.f83) 0) (Go.Tx.encS vw (conc vw c83s11f1l2 v)) (OutQ sh83s11f1 [.ret, .exit 0] out))) v out h
theorem n_83s11f1_ok : SigOk prog 83 sig83s11f1 n_83s11f1 := fun v r x h hx =>
 fn_ok (X := x83s11f1) (sig := sig83s11f1) rfl Tryz.func83 (c := bodyOf Tryz.f83) (by kernel_rfl) Tryz.ntmps83 (by kernel_rfl) (by kernel_rfl) rfl Ty.mixed call83s11f1_ok rfl (fun C hP hN => (lok_all (kcast (by kernel_rfl : AllB (LoopsP C (x83s11f1)) [(loopNo (bodyOf Tryz.f83) 0)] = AllB (LoopsP C (x83s11f1)) (loopsIn (bodyOf Tryz.f83))) ⟨loop_at (X := x83s11f1) (b := (loopNo (bodyOf Tryz.f83) 0)) (by kernel_rfl) (n_83s11f1l2_ok C hP hN), trivial⟩))) (kcast (by kernel_rfl) h) x hx
noncomputable def c47z : Cut SN := ⟨[(6, .bp 6 0), (7, .dat .bool)], [(6, .st .itemT)]⟩
noncomputable def sh47 : Shape vw := { rcut := c47z }
noncomputable def pre47 : Nat → Bool := fun _ => false
noncomputable def sig47 : Sig vw := { params := [.dat (.sl (.st .itemT)), .dat (.int .i64), .dat .str], rcut := c47z, rvars := [.cell 6 44, .tmp 7] }
noncomputable def n_47 (v : (List Item) × Int × ByteArray × Unit) : Option (Bool × Item × Unit) :=
 n_83s11f1 (v.1, v.2.1, v.2.2.1, ()) >>= fun x1 =>
 if decide (x1.1 < (0 : Int)) = true then
  some ((false, Item.mk (0 : Int) (ByteArray.mk #[]) (0 : Int) [] (Layout.mk (0 : Int) (0 : Int) false []), ()))
 else if (0 : Int) ≤ x1.1 then
  v.1[x1.1.toNat]? >>= fun x2 =>
  some ((true, x2, ()))
 else none
noncomputable def call47 : Caller vw := cO prog 83 sig83s11f1 n_83s11f1 c0
noncomputable def x47 : Xc vw := { P := prog, n := 19, call := call47, pre := pre47, sh := sh47 }
theorem call47_ok : CallerOk prog call47 := cO_ok n_83s11f1_ok c0_ok
theorem n_47_ok : SigOk prog 47 sig47 n_47 := fun v r x h hx =>
 fn_ok (X := x47) (sig := sig47) rfl Tryz.func47 (c := bodyOf Tryz.f47) (by kernel_rfl) Tryz.ntmps47 (by kernel_rfl) (by kernel_rfl) rfl Ty.mixed call47_ok rfl (fun C hP hN => (lok_all (kcast (by kernel_rfl) trivial))) (kcast (by kernel_rfl) h) x hx
noncomputable def c71r1 : Cut SN := ⟨[(15, .dat .bool)], []⟩
noncomputable def sh71 : Shape vw := { rcut := c150e0 }
noncomputable def pre71 : Nat → Bool := fun _ => false
noncomputable def sig71 : Sig vw := { params := [.dat (.st .targetT)], rcut := c150e0, rvars := [.tmp 2] }
noncomputable def n_71 (v : Target × Unit) : Option (Int × Unit) :=
 (if (v.1.word != (2 : Int)) = true then
    if (v.1.word != (4 : Int)) = true then
     some ((v.1.word != (8 : Int), ()))
    else some ((false, ()))
   else some ((false, ()))) >>= fun x1 =>
 if x1.1 = true then
  some (((1 : Int), ()))
 else some (((0 : Int), ()))
noncomputable def call71 : Caller vw := c0
noncomputable def x71 : Xc vw := { P := prog, n := 16, call := call71, pre := pre71, sh := sh71, regs := fun k => match k with | 1 => some c71r1 | _ => none }
theorem call71_ok : CallerOk prog call71 := c0_ok
theorem n_71_ok : SigOk prog 71 sig71 n_71 := fun v r x h hx =>
 fn_ok (X := x71) (sig := sig71) rfl Tryz.func71 (c := bodyOf Tryz.f71) (by kernel_rfl) Tryz.ntmps71 (by kernel_rfl) (by kernel_rfl) rfl Ty.mixed call71_ok rfl (fun C hP hN => (lok_all (kcast (by kernel_rfl) trivial))) (kcast (by kernel_rfl) h) x hx
noncomputable def c40z : Cut SN := ⟨[(6, .bp 6 0), (7, .dat (.int .i64))], [(6, .st .itemT)]⟩
noncomputable def sh40 : Shape vw := { rcut := c40z }
noncomputable def pre40 : Nat → Bool := fun _ => false
noncomputable def sig40 : Sig vw := { params := [.dat .str, .dat .str, .dat (.st .targetT)], rcut := c40z, rvars := [.cell 6 44, .tmp 7] }
noncomputable def n_40 (v : ByteArray × ByteArray × Target × Unit) : Option (Int × Item × Unit) :=
 n_11 (v.1, ()) >>= fun x1 =>
 if (x1.2.2.1 != (0 : Int)) = true then
  some ((x1.2.2.1, Item.mk (0 : Int) (ByteArray.mk #[]) (0 : Int) [] (Layout.mk (0 : Int) (0 : Int) false []), ()))
 else n_71 (v.2.2.1, ()) >>= fun x2 =>
 if (x2.1 != (0 : Int)) = true then
  some (((1 : Int), Item.mk (0 : Int) (ByteArray.mk #[]) (0 : Int) [] (Layout.mk (0 : Int) (0 : Int) false []), ()))
 else n_47 (x1.1, (2 : Int), v.2.1, ()) >>= fun x3 =>
 if (!x3.1) = true then
  some (((4 : Int), Item.mk (0 : Int) (ByteArray.mk #[]) (0 : Int) [] (Layout.mk (0 : Int) (0 : Int) false []), ()))
 else some (((0 : Int), x3.2.1, ()))
noncomputable def call40 : Caller vw := cP prog 11 sig11 n_11 (cP prog 47 sig47 n_47 (cP prog 71 sig71 n_71 c0))
noncomputable def x40 : Xc vw := { P := prog, n := 37, call := call40, pre := pre40, sh := sh40 }
theorem call40_ok : CallerOk prog call40 := cP_ok n_11_ok rfl rfl (cP_ok n_47_ok rfl rfl (cP_ok n_71_ok rfl rfl c0_ok))
theorem n_40_ok : SigOk prog 40 sig40 n_40 := fun v r x h hx =>
 fn_ok (X := x40) (sig := sig40) rfl Tryz.func40 (c := bodyOf Tryz.f40) (by kernel_rfl) Tryz.ntmps40 (by kernel_rfl) (by kernel_rfl) rfl Ty.mixed call40_ok rfl (fun C hP hN => (lok_all (kcast (by kernel_rfl) trivial))) (kcast (by kernel_rfl) h) x hx
noncomputable def sh72 : Shape vw := { rcut := c120z }
noncomputable def pre72 : Nat → Bool := fun _ => false
noncomputable def sig72 : Sig vw := { params := [.dat (.st .layoutT), .dat (.st .targetT)], rcut := c120z, rvars := [.tmp 4] }
noncomputable def n_72 (v : Layout × Target × Unit) : Option (Int × Unit) :=
 n_99 (v.1, ()) >>= fun x1 =>
 if (x1.1 != (0 : Int)) = true then
  some ((x1.1, ()))
 else n_71 (v.2.1, ()) >>= fun x2 =>
 some ((x2.1, ()))
noncomputable def call72 : Caller vw := cP prog 71 sig71 n_71 (cP prog 99 sig99 n_99 c0)
noncomputable def x72 : Xc vw := { P := prog, n := 13, call := call72, pre := pre72, sh := sh72 }
theorem call72_ok : CallerOk prog call72 := cP_ok n_71_ok rfl rfl (cP_ok n_99_ok rfl rfl c0_ok)
theorem n_72_ok : SigOk prog 72 sig72 n_72 := fun v r x h hx =>
 fn_ok (X := x72) (sig := sig72) rfl Tryz.func72 (c := bodyOf Tryz.f72) (by kernel_rfl) Tryz.ntmps72 (by kernel_rfl) (by kernel_rfl) rfl Ty.mixed call72_ok rfl (fun C hP hN => (lok_all (kcast (by kernel_rfl) trivial))) (kcast (by kernel_rfl) h) x hx
noncomputable def sh110 : Shape vw := { rcut := c120z }
noncomputable def pre110 : Nat → Bool := fun _ => false
noncomputable def sig110 : Sig vw := { params := [.dat (.int .i64), .dat (.int .i64)], rcut := c120z, rvars := [.tmp 4] }
noncomputable def n_110 (v : Int × Int × Unit) : Option (Int × Unit) :=
 if v.2.1 = (0 : Int) then
  none
 else some ((i64.wrap (i64.wrap ((i64.wrap (i64.wrap (v.1 + v.2.1) - (1 : Int))).tdiv v.2.1) * v.2.1), ()))
noncomputable def call110 : Caller vw := c0
noncomputable def x110 : Xc vw := { P := prog, n := 13, call := call110, pre := pre110, sh := sh110 }
theorem call110_ok : CallerOk prog call110 := c0_ok
theorem n_110_ok : SigOk prog 110 sig110 n_110 := fun v r x h hx =>
 fn_ok (X := x110) (sig := sig110) rfl Tryz.func110 (c := bodyOf Tryz.f110) (by kernel_rfl) Tryz.ntmps110 (by kernel_rfl) (by kernel_rfl) rfl Ty.mixed call110_ok rfl (fun C hP hN => (lok_all (kcast (by kernel_rfl) trivial))) (kcast (by kernel_rfl) h) x hx
noncomputable def c112l4 : Cut SN := ⟨[(0, .dat (.int .i64)), (3, .dat (.int .i64))], []⟩
noncomputable def sh112 : Shape vw := { exits := fun id => match id with | 0 => c111e0 | _ => ⟨[], []⟩, rcut := c150e0 }
noncomputable def pre112 : Nat → Bool := fun _ => false
noncomputable def sig112 : Sig vw := { params := [.dat (.int .i64)], rcut := c150e0, rvars := [.tmp 2] }
noncomputable def u_112l4 (k : Nat) : (Int × Int × Unit → Option ((Int × Unit))) :=
 Nat.rec (motive := fun _ => (Int × Int × Unit → Option ((Int × Unit)))) (fun _ => none) (fun _ g v =>
 if decide (i64.wrap ((8 : Int) * v.2.1) < v.1) = true then
  g (v.1, i64.wrap (v.2.1 * (2 : Int)), ())
 else some ((v.2.1, ()))) k
noncomputable def n_112l4 (v : Int × Int × Unit) : Option ((Int × Unit)) := (u_112l4 400) v
noncomputable def n_112 (v : Int × Unit) : Option (Int × Unit) :=
 if (v.1 == (0 : Int)) = true then
  some (((0 : Int), ()))
 else n_112l4 (v.1, (1 : Int), ()) >>= fun x1 =>
 some ((x1.1, ()))
noncomputable def call112 : Caller vw := c0
noncomputable def x112 : Xc vw := { P := prog, n := 13, call := call112, pre := pre112, sh := sh112, loops := fun k => match k with | 4 => some { cut := c112l4, alts := [.exit 0], F := n_112l4 } | _ => none }
theorem call112_ok : CallerOk prog call112 := c0_ok
theorem n_112l4_ok (C : Ctx) (hP : C.P = prog) (hN : C.N = 13 ∧ Fx C pre112) : LoopOk C (loopNo (bodyOf Tryz.f112) 0) (sh := sh112) { cut := c112l4, alts := [.exit 0], F := n_112l4 } :=
 fun v out h => (Nat.rec (motive := fun k => ∀ v out, (u_112l4 k) v = some out → (AWpL C (loopNo (bodyOf Tryz.f112) 0) (Go.Tx.encS vw (conc vw c112l4 v)) (OutQ sh112 [.exit 0] out))) (fun v out h => by have h : (none : Option ((Int × Unit))) = some out := h; cases h) (fun k ih v out h => loop_step (X := x112) (b := (loopNo (bodyOf Tryz.f112) 0)) hP hN Ty.mixed call112_ok (lok_all (X := x112) (c := (loopNo (bodyOf Tryz.f112) 0)) (kcast (by kernel_rfl : True = AllB (LoopsP C (x112)) (loopsIn (loopNo (bodyOf Tryz.f112) 0))) trivial)) ih (kcast (by kernel_rfl) h)) 400 : ∀ v out, (u_112l4 400) v = some out → (AWpL C (loopNo (bodyOf Tryz.f112) 0) (Go.Tx.encS vw (conc vw c112l4 v)) (OutQ sh112 [.exit 0] out))) v out h
theorem n_112_ok : SigOk prog 112 sig112 n_112 := fun v r x h hx =>
 fn_ok (X := x112) (sig := sig112) rfl Tryz.func112 (c := bodyOf Tryz.f112) (by kernel_rfl) Tryz.ntmps112 (by kernel_rfl) (by kernel_rfl) rfl Ty.mixed call112_ok rfl (fun C hP hN => (lok_all (kcast (by kernel_rfl : AllB (LoopsP C (x112)) [(loopNo (bodyOf Tryz.f112) 0)] = AllB (LoopsP C (x112)) (loopsIn (bodyOf Tryz.f112))) ⟨loop_at (X := x112) (b := (loopNo (bodyOf Tryz.f112) 0)) (by kernel_rfl) (n_112l4_ok C hP hN), trivial⟩))) (kcast (by kernel_rfl) h) x hx
noncomputable def c113l3 : Cut SN := ⟨[(3, .dat (.int .i64)), (7, .dat (.sl (.st .layoutT))), (8, .dat (.int .i64)), (9, .dat (.int .i64))], []⟩
noncomputable def sh113 : Shape vw := { exits := fun id => match id with | 0 => c111e0 | _ => ⟨[], []⟩, rcut := c150e0 }
noncomputable def pre113 : Nat → Bool := fun _ => false
noncomputable def sig113 : Sig vw := { params := [.dat (.st .layoutT)], rcut := c150e0, rvars := [.tmp 2] }
noncomputable def u_113l3 (k : Nat) : (Int × (List Layout) × Int × Int × Unit → Option ((Int × Unit))) :=
 Nat.rec (motive := fun _ => (Int × (List Layout) × Int × Int × Unit → Option ((Int × Unit)))) (fun _ => none) (fun _ g v =>
 if decide (v.2.2.2.1 < v.2.2.1) = true then
  if (0 : Int) ≤ v.2.2.2.1 then
   v.2.1[v.2.2.2.1.toNat]? >>= fun x1 =>
   n_144 (x1, ()) >>= fun x2 =>
   g (i64.wrap (v.1 + x2.1), v.2.1, v.2.2.1, i64.wrap (v.2.2.2.1 + (1 : Int)), ())
  else none
 else some ((v.1, ()))) k
noncomputable def n_113l3 (v : Int × (List Layout) × Int × Int × Unit) : Option ((Int × Unit)) := (u_113l3 400) v
noncomputable def n_113 (v : Layout × Unit) : Option (Int × Unit) :=
 n_113l3 ((0 : Int), v.1.parts, (↑v.1.parts.length : Int), (0 : Int), ()) >>= fun x1 =>
 some ((x1.1, ()))
noncomputable def call113 : Caller vw := cP prog 144 sig144 n_144 c0
noncomputable def x113 : Xc vw := { P := prog, n := 19, call := call113, pre := pre113, sh := sh113, loops := fun k => match k with | 3 => some { cut := c113l3, alts := [.exit 0], F := n_113l3 } | _ => none }
theorem call113_ok : CallerOk prog call113 := cP_ok n_144_ok rfl rfl c0_ok
theorem n_113l3_ok (C : Ctx) (hP : C.P = prog) (hN : C.N = 19 ∧ Fx C pre113) : LoopOk C (loopNo (bodyOf Tryz.f113) 0) (sh := sh113) { cut := c113l3, alts := [.exit 0], F := n_113l3 } :=
 fun v out h => (Nat.rec (motive := fun k => ∀ v out, (u_113l3 k) v = some out → (AWpL C (loopNo (bodyOf Tryz.f113) 0) (Go.Tx.encS vw (conc vw c113l3 v)) (OutQ sh113 [.exit 0] out))) (fun v out h => by have h : (none : Option ((Int × Unit))) = some out := h; cases h) (fun k ih v out h => loop_step (X := x113) (b := (loopNo (bodyOf Tryz.f113) 0)) hP hN Ty.mixed call113_ok (lok_all (X := x113) (c := (loopNo (bodyOf Tryz.f113) 0)) (kcast (by kernel_rfl : True = AllB (LoopsP C (x113)) (loopsIn (loopNo (bodyOf Tryz.f113) 0))) trivial)) ih (kcast (by kernel_rfl) h)) 400 : ∀ v out, (u_113l3 400) v = some out → (AWpL C (loopNo (bodyOf Tryz.f113) 0) (Go.Tx.encS vw (conc vw c113l3 v)) (OutQ sh113 [.exit 0] out))) v out h
theorem n_113_ok : SigOk prog 113 sig113 n_113 := fun v r x h hx =>
 fn_ok (X := x113) (sig := sig113) rfl Tryz.func113 (c := bodyOf Tryz.f113) (by kernel_rfl) Tryz.ntmps113 (by kernel_rfl) (by kernel_rfl) rfl Ty.mixed call113_ok rfl (fun C hP hN => (lok_all (kcast (by kernel_rfl : AllB (LoopsP C (x113)) [(loopNo (bodyOf Tryz.f113) 0)] = AllB (LoopsP C (x113)) (loopsIn (bodyOf Tryz.f113))) ⟨loop_at (X := x113) (b := (loopNo (bodyOf Tryz.f113) 0)) (by kernel_rfl) (n_113l3_ok C hP hN), trivial⟩))) (kcast (by kernel_rfl) h) x hx
noncomputable def c79l4 : Cut SN := ⟨[(3, .bp 3 0), (5, .bp 5 0), (6, .vh 1006), (7, .dat (.int .i64)), (8, .dat (.int .i64)), (14, .dat (.sl (.st .layoutT))), (15, .dat (.int .i64)), (16, .dat (.int .i64))], [(3, .st .targetT), (5, .st .roomT), (1006, .vec 3 (.int .i64))]⟩
noncomputable def c79e0 : Cut SN := ⟨[(5, .bp 5 0), (6, .vh 1006), (7, .dat (.int .i64)), (8, .dat (.int .i64))], [(5, .st .roomT), (1006, .vec 3 (.int .i64))]⟩
noncomputable def c79z : Cut SN := ⟨[(4, .dat (.sl (.int .i64))), (5, .bp 5 0)], [(5, .st .roomT)]⟩
noncomputable def sh79 : Shape vw := { exits := fun id => match id with | 0 => c79e0 | _ => ⟨[], []⟩, rcut := c79z }
noncomputable def pre79 : Nat → Bool := fun _ => false
noncomputable def sig79 : Sig vw := { params := [.dat (.st .layoutT), .dat (.st .targetT)], rcut := c79z, rvars := [.tmp 4, .cell 5 107] }
noncomputable def c80l25 : Cut SN := ⟨[(3, .bp 3 0), (4, .bp 4 0), (10, .bp 10 0), (98, .dat (.sl (.st .layoutT))), (99, .dat (.int .i64)), (100, .dat (.int .i64))], [(3, .st .targetT), (4, .st .roomT), (10, .st .roomT)]⟩
noncomputable def c80j21 : Cut SN := ⟨[(3, .bp 3 0), (4, .bp 4 0), (9, .dat (.int .i64))], [(3, .st .targetT), (4, .st .roomT)]⟩
noncomputable def c80e1 : Cut SN := ⟨[(4, .bp 4 0), (10, .bp 10 0)], [(4, .st .roomT), (10, .st .roomT)]⟩
noncomputable def c80z : Cut SN := ⟨[(4, .bp 4 0)], [(4, .st .roomT)]⟩
noncomputable def sh80 : Shape vw := { exits := fun id => match id with | 1 => c80e1 | _ => ⟨[], []⟩, rcut := c80z }
noncomputable def pre80 : Nat → Bool := fun _ => false
noncomputable def sig80 : Sig vw := { params := [.dat (.st .layoutT), .dat (.st .targetT)], rcut := c80z, rvars := [.cell 4 107] }
noncomputable def u_79l4 (k : Nat) : (Int × Int × (List Layout) × Int × Int × Target × Room × (List Int) × Unit → Option ((Int × Int × Room × (List Int) × Unit))) × (Layout × Target × Unit → Option (Room × Unit)) × ((List Layout) × Int × Int × Target × Room × Room × Unit → Option ((Room × Room × Unit))) × (Layout × Target × Unit → Option ((List Int) × Room × Unit)) :=
 Nat.rec (motive := fun _ => (Int × Int × (List Layout) × Int × Int × Target × Room × (List Int) × Unit → Option ((Int × Int × Room × (List Int) × Unit))) × (Layout × Target × Unit → Option (Room × Unit)) × ((List Layout) × Int × Int × Target × Room × Room × Unit → Option ((Room × Room × Unit))) × (Layout × Target × Unit → Option ((List Int) × Room × Unit))) (fun _ => none, fun _ => none, fun _ => none, fun _ => none) (fun _ g => (fun v =>
 if decide (v.2.2.2.2.1 < v.2.2.2.1) = true then
  if (0 : Int) ≤ v.2.2.2.2.1 then
   v.2.2.1[v.2.2.2.2.1.toNat]? >>= fun x1 =>
   g.2.1 (x1, v.2.2.2.2.2.1, ()) >>= fun x2 =>
   n_110 (v.1, x2.1.align, ()) >>= fun x3 =>
   if v.2.2.2.2.2.2.2.1.length + [x3.1].length ≤ (4294967296 : Nat) then
    n_111 ([x3.1, x2.1.size], ()) >>= fun x4 =>
    g.1 (x4.1, max v.2.1 x2.1.align, v.2.2.1, v.2.2.2.1, i64.wrap (v.2.2.2.2.1 + (1 : Int)), v.2.2.2.2.2.1, v.2.2.2.2.2.2.1, v.2.2.2.2.2.2.2.1 ++ [x3.1], ())
   else none
  else none
 else some ((v.1, v.2.1, v.2.2.2.2.2.2.1, v.2.2.2.2.2.2.2.1, ())),
  fun v =>
 if (v.1.kind == (1 : Int)) = true then
  some ((Room.mk (1 : Int) (1 : Int), ()))
 else if (v.1.kind == (2 : Int)) = true then
  n_112 (v.1.n, ()) >>= fun x1 =>
  n_112 (v.1.n, ()) >>= fun x2 =>
  some ((Room.mk x1.1 (min x2.1 v.2.1.word), ()))
 else if (v.1.kind == (3 : Int)) = true then
  some ((Room.mk v.2.1.word v.2.1.word, ()))
 else if (v.1.kind == (4 : Int)) = true then
  v.1.parts[Int.toNat (0 : Int)]? >>= fun x1 =>
  g.2.1 (x1, v.2.1, ()) >>= fun x2 =>
  n_111 ([x2.1.size, (1 : Int)], ()) >>= fun x3 =>
  n_110 (x3.1, x2.1.align, ()) >>= fun x4 =>
  some ((Room.mk x4.1 x2.1.align, ()))
 else if (v.1.kind == (5 : Int)) = true then
  v.1.parts[Int.toNat (0 : Int)]? >>= fun x1 =>
  g.2.1 (x1, v.2.1, ()) >>= fun x2 =>
  some ((Room.mk (min (1099511627776 : Int) (i64.wrap (v.1.n * x2.1.size))) x2.1.align, ()))
 else if (v.1.kind == (6 : Int)) = true then
  g.2.2.2 (v.1, v.2.1, ()) >>= fun x1 =>
  some ((x1.2.1, ()))
 else if (v.1.kind == (7 : Int)) = true then
  (if decide (v.1.n > (256 : Int)) = true then
     some (((2 : Int), v.2.1, Room.mk (0 : Int) (0 : Int), ()))
    else some (((1 : Int), v.2.1, Room.mk (0 : Int) (0 : Int), ()))) >>= fun x1 =>
  some ((Room.mk x1.1 (min x1.1 x1.2.1.word), ()))
 else if (v.1.kind == (8 : Int)) = true then
  g.2.2.1 (v.1.parts, (↑v.1.parts.length : Int), (0 : Int), v.2.1, Room.mk (0 : Int) (0 : Int), Room.mk (0 : Int) (1 : Int), ()) >>= fun x1 =>
  n_111 ([x1.2.1.size, (1 : Int)], ()) >>= fun x2 =>
  n_110 (x2.1, x1.2.1.align, ()) >>= fun x3 =>
  some ((Room.mk x3.1 x1.2.1.align, ()))
 else if (v.1.kind == (9 : Int)) = true then
  n_113 (v.1, ()) >>= fun x1 =>
  n_112 (x1.1, ()) >>= fun x2 =>
  some ((Room.mk x2.1 (max (1 : Int) (min x2.1 v.2.1.word)), ()))
 else some ((Room.mk (0 : Int) (1 : Int), ())),
  fun v =>
 if decide (v.2.2.1 < v.2.1) = true then
  if (0 : Int) ≤ v.2.2.1 then
   v.1[v.2.2.1.toNat]? >>= fun x1 =>
   g.2.1 (x1, v.2.2.2.1, ()) >>= fun x2 =>
   g.2.2.1 (v.1, v.2.1, i64.wrap (v.2.2.1 + (1 : Int)), v.2.2.2.1, v.2.2.2.2.1, Room.mk (max v.2.2.2.2.2.1.size x2.1.size) (max v.2.2.2.2.2.1.align x2.1.align), ())
  else none
 else some ((v.2.2.2.2.1, v.2.2.2.2.2.1, ())),
  fun v =>
 g.1 ((0 : Int), (1 : Int), v.1.parts, (↑v.1.parts.length : Int), (0 : Int), v.2.1, Room.mk (0 : Int) (0 : Int), [], ()) >>= fun x1 =>
 n_110 (x1.1, x1.2.1, ()) >>= fun x2 =>
 some ((x1.2.2.2.1, Room.mk x2.1 x1.2.1, ())))) k
noncomputable def n_80 (v : Layout × Target × Unit) : Option (Room × Unit) := (u_79l4 400).2.1 v
noncomputable def n_79 (v : Layout × Target × Unit) : Option ((List Int) × Room × Unit) := (u_79l4 400).2.2.2 v
noncomputable def call79 (n_79l4 : Int × Int × (List Layout) × Int × Int × Target × Room × (List Int) × Unit → Option ((Int × Int × Room × (List Int) × Unit))) (n_80 : Layout × Target × Unit → Option (Room × Unit)) (n_80l25 : (List Layout) × Int × Int × Target × Room × Room × Unit → Option ((Room × Room × Unit))) (n_79 : Layout × Target × Unit → Option ((List Int) × Room × Unit)) : Caller vw := fun A fid args S k => match fid with | 80 => callPure prog sig80 n_80 A args S k | 110 => callPure prog sig110 n_110 A args S k | 111 => callPure prog sig111 n_111 A args S k | _ => none
noncomputable def x79 (n_79l4 : Int × Int × (List Layout) × Int × Int × Target × Room × (List Int) × Unit → Option ((Int × Int × Room × (List Int) × Unit))) (n_80 : Layout × Target × Unit → Option (Room × Unit)) (n_80l25 : (List Layout) × Int × Int × Target × Room × Room × Unit → Option ((Room × Room × Unit))) (n_79 : Layout × Target × Unit → Option ((List Int) × Room × Unit)) : Xc vw := { P := prog, n := 47, call := call79 n_79l4 n_80 n_80l25 n_79, pre := pre79, sh := sh79, loops := fun k => match k with | 4 => some { cut := c79l4, alts := [.exit 0], F := n_79l4 } | _ => none }
noncomputable def call80 (n_79l4 : Int × Int × (List Layout) × Int × Int × Target × Room × (List Int) × Unit → Option ((Int × Int × Room × (List Int) × Unit))) (n_80 : Layout × Target × Unit → Option (Room × Unit)) (n_80l25 : (List Layout) × Int × Int × Target × Room × Room × Unit → Option ((Room × Room × Unit))) (n_79 : Layout × Target × Unit → Option ((List Int) × Room × Unit)) : Caller vw := fun A fid args S k => match fid with | 79 => callPure prog sig79 n_79 A args S k | 80 => callPure prog sig80 n_80 A args S k | 110 => callPure prog sig110 n_110 A args S k | 111 => callPure prog sig111 n_111 A args S k | 112 => callPure prog sig112 n_112 A args S k | 113 => callPure prog sig113 n_113 A args S k | _ => none
noncomputable def x80 (n_79l4 : Int × Int × (List Layout) × Int × Int × Target × Room × (List Int) × Unit → Option ((Int × Int × Room × (List Int) × Unit))) (n_80 : Layout × Target × Unit → Option (Room × Unit)) (n_80l25 : (List Layout) × Int × Int × Target × Room × Room × Unit → Option ((Room × Room × Unit))) (n_79 : Layout × Target × Unit → Option ((List Int) × Room × Unit)) : Xc vw := { P := prog, n := 142, call := call80 n_79l4 n_80 n_80l25 n_79, pre := pre80, sh := sh80, joins := fun k => match k with | 21 => some (c80j21, [.norm]) | _ => none, loops := fun k => match k with | 25 => some { cut := c80l25, alts := [.exit 1], F := n_80l25 } | _ => none }
abbrev mn_79l4 (v : Int × Int × (List Layout) × Int × Int × Target × Room × (List Int) × Unit) (r : (Int × Int × Room × (List Int) × Unit)) : Prop := (fun v out => ∀ C : Ctx, C.P = prog → C.N = 47 ∧ Fx C pre79 → AWpL C (loopNo (bodyOf Tryz.f79) 0) (Go.Tx.encS vw (conc vw c79l4 v)) (OutQ sh79 [.exit 0] out)) v r
abbrev mn_80 (v : Layout × Target × Unit) (r : Room × Unit) : Prop := (fun v r => ∀ x, resV prog sig80 r = some x → FnOk prog 80 (encL vw (startS sig80 v).len (startOs sig80 v).1) (encOs (startS sig80 v).len (startS sig80 v).own) (encV vw (conc vw sig80.rcut r).len x) (encOs (conc vw sig80.rcut r).len (kept sig80 r))) v r
abbrev mn_80l25 (v : (List Layout) × Int × Int × Target × Room × Room × Unit) (r : (Room × Room × Unit)) : Prop := (fun v out => ∀ C : Ctx, C.P = prog → C.N = 142 ∧ Fx C pre80 → AWpL C (loopNo (bodyOf Tryz.f80) 0) (Go.Tx.encS vw (conc vw c80l25 v)) (OutQ sh80 [.exit 1] out)) v r
abbrev mn_79 (v : Layout × Target × Unit) (r : (List Int) × Room × Unit) : Prop := (fun v r => ∀ x, resV prog sig79 r = some x → FnOk prog 79 (encL vw (startS sig79 v).len (startOs sig79 v).1) (encOs (startS sig79 v).len (startS sig79 v).own) (encV vw (conc vw sig79.rcut r).len x) (encOs (conc vw sig79.rcut r).len (kept sig79 r))) v r
theorem cn_79l4 (f0 : Int × Int × (List Layout) × Int × Int × Target × Room × (List Int) × Unit → Option ((Int × Int × Room × (List Int) × Unit))) (f1 : Layout × Target × Unit → Option (Room × Unit)) (h0 : ∀ v r, f0 v = some r → mn_79l4 v r) (h1 : ∀ v r, f1 v = some r → mn_80 v r) : CallerOk prog (x79 f0 f1 (fun _ => none) (fun _ => none)).call := (by
    intro A fid args S dst k r h
    unfold x79 call79 at h
    simp only at h
    split at h
    ·exact callPure_ok ((fun v r x h hx => h1 v r h x hx)) rfl rfl h
    ·exact callPure_ok (n_110_ok) rfl rfl h
    ·exact callPure_ok (n_111_ok) rfl rfl h
    ·cases h)
theorem sn_79l4 (f0 : Int × Int × (List Layout) × Int × Int × Target × Room × (List Int) × Unit → Option ((Int × Int × Room × (List Int) × Unit))) (f1 : Layout × Target × Unit → Option (Room × Unit)) (h0 : ∀ v r, f0 v = some r → mn_79l4 v r) (h1 : ∀ v r, f1 v = some r → mn_80 v r) (v : Int × Int × (List Layout) × Int × Int × Target × Room × (List Int) × Unit) (r : (Int × Int × Room × (List Int) × Unit)) (h : exL (x79 f0 f1 (fun _ => none) (fun _ => none)) (loopNo (bodyOf Tryz.f79) 0) c79l4 [.exit 0] f0 v = some r) : mn_79l4 v r := fun C hP hN => loop_step (X := x79 f0 f1 (fun _ => none) (fun _ => none)) (b := (loopNo (bodyOf Tryz.f79) 0)) hP hN Ty.mixed (cn_79l4 f0 f1 h0 h1) (lok_all (X := x79 f0 f1 (fun _ => none) (fun _ => none)) (c := (loopNo (bodyOf Tryz.f79) 0)) (kcast (by kernel_rfl : True = AllB (LoopsP C (x79 f0 f1 (fun _ => none) (fun _ => none))) (loopsIn (loopNo (bodyOf Tryz.f79) 0))) trivial)) (cut := c79l4) (alts := [.exit 0]) (F := f0) (fun v out h => h0 v out h C hP hN) h
theorem cn_80 (f0 : Layout × Target × Unit → Option (Room × Unit)) (f1 : (List Layout) × Int × Int × Target × Room × Room × Unit → Option ((Room × Room × Unit))) (f2 : Layout × Target × Unit → Option ((List Int) × Room × Unit)) (h0 : ∀ v r, f0 v = some r → mn_80 v r) (h1 : ∀ v r, f1 v = some r → mn_80l25 v r) (h2 : ∀ v r, f2 v = some r → mn_79 v r) : CallerOk prog (x80 (fun _ => none) f0 f1 f2).call := (by
    intro A fid args S dst k r h
    unfold x80 call80 at h
    simp only at h
    split at h
    ·exact callPure_ok ((fun v r x h hx => h2 v r h x hx)) rfl rfl h
    ·exact callPure_ok ((fun v r x h hx => h0 v r h x hx)) rfl rfl h
    ·exact callPure_ok (n_110_ok) rfl rfl h
    ·exact callPure_ok (n_111_ok) rfl rfl h
    ·exact callPure_ok (n_112_ok) rfl rfl h
    ·exact callPure_ok (n_113_ok) rfl rfl h
    ·cases h)
theorem sn_80 (f0 : Layout × Target × Unit → Option (Room × Unit)) (f1 : (List Layout) × Int × Int × Target × Room × Room × Unit → Option ((Room × Room × Unit))) (f2 : Layout × Target × Unit → Option ((List Int) × Room × Unit)) (h0 : ∀ v r, f0 v = some r → mn_80 v r) (h1 : ∀ v r, f1 v = some r → mn_80l25 v r) (h2 : ∀ v r, f2 v = some r → mn_79 v r) (v : Layout × Target × Unit) (r : Room × Unit) (h : exF (x80 (fun _ => none) f0 f1 f2) sig80 rfl (bodyOf Tryz.f80) v = some r) : mn_80 v r := fun x hx => fn_ok (X := x80 (fun _ => none) f0 f1 f2) (sig := sig80) rfl Tryz.func80 (c := bodyOf Tryz.f80) (by kernel_rfl) Tryz.ntmps80 (by kernel_rfl) (by kernel_rfl) rfl Ty.mixed (cn_80 f0 f1 f2 h0 h1 h2) rfl (fun C hP hN => (lok_all (X := x80 (fun _ => none) f0 f1 f2) (c := (bodyOf Tryz.f80)) (kcast (by kernel_rfl : AllB (LoopsP C (x80 (fun _ => none) f0 f1 f2)) [(loopNo (bodyOf Tryz.f80) 0)] = AllB (LoopsP C (x80 (fun _ => none) f0 f1 f2)) (loopsIn (bodyOf Tryz.f80))) ⟨loop_at (X := x80 (fun _ => none) f0 f1 f2) (b := (loopNo (bodyOf Tryz.f80) 0)) (by kernel_rfl) (show LoopOk C (loopNo (bodyOf Tryz.f80) 0) (sh := sh80) { cut := c80l25, alts := [.exit 1], F := f1 } from fun v out h => h1 v out h C hP hN), trivial⟩))) h x hx
theorem cn_80l25 (f0 : Layout × Target × Unit → Option (Room × Unit)) (f1 : (List Layout) × Int × Int × Target × Room × Room × Unit → Option ((Room × Room × Unit))) (h0 : ∀ v r, f0 v = some r → mn_80 v r) (h1 : ∀ v r, f1 v = some r → mn_80l25 v r) : CallerOk prog (x80 (fun _ => none) f0 f1 (fun _ => none)).call := (by
    intro A fid args S dst k r h
    unfold x80 call80 at h
    simp only at h
    split at h
    ·exact callPure_ok ((fun v r x h hx => by cases h)) rfl rfl h
    ·exact callPure_ok ((fun v r x h hx => h0 v r h x hx)) rfl rfl h
    ·exact callPure_ok (n_110_ok) rfl rfl h
    ·exact callPure_ok (n_111_ok) rfl rfl h
    ·exact callPure_ok (n_112_ok) rfl rfl h
    ·exact callPure_ok (n_113_ok) rfl rfl h
    ·cases h)
theorem sn_80l25 (f0 : Layout × Target × Unit → Option (Room × Unit)) (f1 : (List Layout) × Int × Int × Target × Room × Room × Unit → Option ((Room × Room × Unit))) (h0 : ∀ v r, f0 v = some r → mn_80 v r) (h1 : ∀ v r, f1 v = some r → mn_80l25 v r) (v : (List Layout) × Int × Int × Target × Room × Room × Unit) (r : (Room × Room × Unit)) (h : exL (x80 (fun _ => none) f0 f1 (fun _ => none)) (loopNo (bodyOf Tryz.f80) 0) c80l25 [.exit 1] f1 v = some r) : mn_80l25 v r := fun C hP hN => loop_step (X := x80 (fun _ => none) f0 f1 (fun _ => none)) (b := (loopNo (bodyOf Tryz.f80) 0)) hP hN Ty.mixed (cn_80l25 f0 f1 h0 h1) (lok_all (X := x80 (fun _ => none) f0 f1 (fun _ => none)) (c := (loopNo (bodyOf Tryz.f80) 0)) (kcast (by kernel_rfl : True = AllB (LoopsP C (x80 (fun _ => none) f0 f1 (fun _ => none))) (loopsIn (loopNo (bodyOf Tryz.f80) 0))) trivial)) (cut := c80l25) (alts := [.exit 1]) (F := f1) (fun v out h => h1 v out h C hP hN) h
theorem cn_79 (f0 : Int × Int × (List Layout) × Int × Int × Target × Room × (List Int) × Unit → Option ((Int × Int × Room × (List Int) × Unit))) (h0 : ∀ v r, f0 v = some r → mn_79l4 v r) : CallerOk prog (x79 f0 (fun _ => none) (fun _ => none) (fun _ => none)).call := (by
    intro A fid args S dst k r h
    unfold x79 call79 at h
    simp only at h
    split at h
    ·exact callPure_ok ((fun v r x h hx => by cases h)) rfl rfl h
    ·exact callPure_ok (n_110_ok) rfl rfl h
    ·exact callPure_ok (n_111_ok) rfl rfl h
    ·cases h)
theorem sn_79 (f0 : Int × Int × (List Layout) × Int × Int × Target × Room × (List Int) × Unit → Option ((Int × Int × Room × (List Int) × Unit))) (h0 : ∀ v r, f0 v = some r → mn_79l4 v r) (v : Layout × Target × Unit) (r : (List Int) × Room × Unit) (h : exF (x79 f0 (fun _ => none) (fun _ => none) (fun _ => none)) sig79 rfl (bodyOf Tryz.f79) v = some r) : mn_79 v r := fun x hx => fn_ok (X := x79 f0 (fun _ => none) (fun _ => none) (fun _ => none)) (sig := sig79) rfl Tryz.func79 (c := bodyOf Tryz.f79) (by kernel_rfl) Tryz.ntmps79 (by kernel_rfl) (by kernel_rfl) rfl Ty.mixed (cn_79 f0 h0) rfl (fun C hP hN => (lok_all (X := x79 f0 (fun _ => none) (fun _ => none) (fun _ => none)) (c := (bodyOf Tryz.f79)) (kcast (by kernel_rfl : AllB (LoopsP C (x79 f0 (fun _ => none) (fun _ => none) (fun _ => none))) [(loopNo (bodyOf Tryz.f79) 0)] = AllB (LoopsP C (x79 f0 (fun _ => none) (fun _ => none) (fun _ => none))) (loopsIn (bodyOf Tryz.f79))) ⟨loop_at (X := x79 f0 (fun _ => none) (fun _ => none) (fun _ => none)) (b := (loopNo (bodyOf Tryz.f79) 0)) (by kernel_rfl) (show LoopOk C (loopNo (bodyOf Tryz.f79) 0) (sh := sh79) { cut := c79l4, alts := [.exit 0], F := f0 } from fun v out h => h0 v out h C hP hN), trivial⟩))) h x hx
theorem n_79l4_all : ∀ k, (∀ v r, (u_79l4 k).1 v = some r → mn_79l4 v r) ∧ (∀ v r, (u_79l4 k).2.1 v = some r → mn_80 v r) ∧ (∀ v r, (u_79l4 k).2.2.1 v = some r → mn_80l25 v r) ∧ (∀ v r, (u_79l4 k).2.2.2 v = some r → mn_79 v r) := fun k =>
 Nat.rec (motive := fun k => (∀ v r, (u_79l4 k).1 v = some r → mn_79l4 v r) ∧ (∀ v r, (u_79l4 k).2.1 v = some r → mn_80 v r) ∧ (∀ v r, (u_79l4 k).2.2.1 v = some r → mn_80l25 v r) ∧ (∀ v r, (u_79l4 k).2.2.2 v = some r → mn_79 v r)) ⟨(fun v r h => by have h : (none : Option ((Int × Int × Room × (List Int) × Unit))) = some r := h; cases h),
  (fun v r h => by have h : (none : Option (Room × Unit)) = some r := h; cases h),
  (fun v r h => by have h : (none : Option ((Room × Room × Unit))) = some r := h; cases h),
  (fun v r h => by have h : (none : Option ((List Int) × Room × Unit)) = some r := h; cases h)⟩ (fun k ih => ⟨(fun v r h => sn_79l4 (u_79l4 k).1 (u_79l4 k).2.1 (ih.1) (ih.2.1) v r (kcast (by kernel_rfl) h)),
  (fun v r h => sn_80 (u_79l4 k).2.1 (u_79l4 k).2.2.1 (u_79l4 k).2.2.2 (ih.2.1) (ih.2.2.1) (ih.2.2.2) v r (kcast (by kernel_rfl) h)),
  (fun v r h => sn_80l25 (u_79l4 k).2.1 (u_79l4 k).2.2.1 (ih.2.1) (ih.2.2.1) v r (kcast (by kernel_rfl) h)),
  (fun v r h => sn_79 (u_79l4 k).1 (ih.1) v r (kcast (by kernel_rfl) h))⟩) k
theorem n_80_ok : SigOk prog 80 sig80 n_80 := fun v r x h hx => (n_79l4_all 400).2.1 v r h x hx
theorem n_79_ok : SigOk prog 79 sig79 n_79 := fun v r x h hx => (n_79l4_all 400).2.2.2 v r h x hx
noncomputable def c73z : Cut SN := ⟨[(4, .bp 4 0), (5, .dat (.int .i64))], [(4, .st .roomT)]⟩
noncomputable def sh73 : Shape vw := { rcut := c73z }
noncomputable def pre73 : Nat → Bool := fun _ => false
noncomputable def sig73 : Sig vw := { params := [.dat (.st .layoutT), .dat (.st .targetT)], rcut := c73z, rvars := [.cell 4 107, .tmp 5] }
noncomputable def n_73 (v : Layout × Target × Unit) : Option (Int × Room × Unit) :=
 n_80 (v.1, v.2.1, ()) >>= fun x1 =>
 if decide (x1.1.size > (4096 : Int)) = true then
  some (((3 : Int), Room.mk (0 : Int) (0 : Int), ()))
 else some (((0 : Int), x1.1, ()))
noncomputable def call73 : Caller vw := cP prog 80 sig80 n_80 c0
noncomputable def x73 : Xc vw := { P := prog, n := 15, call := call73, pre := pre73, sh := sh73 }
theorem call73_ok : CallerOk prog call73 := cP_ok n_80_ok rfl rfl c0_ok
theorem n_73_ok : SigOk prog 73 sig73 n_73 := fun v r x h hx =>
 fn_ok (X := x73) (sig := sig73) rfl Tryz.func73 (c := bodyOf Tryz.f73) (by kernel_rfl) Tryz.ntmps73 (by kernel_rfl) (by kernel_rfl) rfl Ty.mixed call73_ok rfl (fun C hP hN => (lok_all (kcast (by kernel_rfl) trivial))) (kcast (by kernel_rfl) h) x hx
noncomputable def c78j4 : Cut SN := ⟨[(1, .bp 1 0), (4, .dat (.int .i64)), (5, .dat .bool)], [(1, .st .layoutT)]⟩
noncomputable def sh78 : Shape vw := { rcut := c150e0 }
noncomputable def pre78 : Nat → Bool := fun _ => false
noncomputable def sig78 : Sig vw := { params := [.dat (.st .layoutT)], rcut := c150e0, rvars := [.tmp 2] }
noncomputable def n_78 (v : Layout × Unit) : Option (Int × Unit) :=
 (if (v.1.kind == (6 : Int)) = true then
    some ((v.1.kind, true, v.1, ()))
   else some ((v.1.kind, v.1.kind == (8 : Int), v.1, ()))) >>= fun x1 =>
 if x1.2.1 = true then
  some (((↑x1.2.2.1.parts.length : Int), ()))
 else if (x1.1 == (4 : Int)) = true then
  some (((2 : Int), ()))
 else if (x1.1 == (5 : Int)) = true then
  some ((x1.2.2.1.n, ()))
 else some (((-1 : Int), ()))
noncomputable def call78 : Caller vw := c0
noncomputable def x78 : Xc vw := { P := prog, n := 17, call := call78, pre := pre78, sh := sh78, joins := fun k => match k with | 4 => some (c78j4, [.norm]) | _ => none }
theorem call78_ok : CallerOk prog call78 := c0_ok
theorem n_78_ok : SigOk prog 78 sig78 n_78 := fun v r x h hx =>
 fn_ok (X := x78) (sig := sig78) rfl Tryz.func78 (c := bodyOf Tryz.f78) (by kernel_rfl) Tryz.ntmps78 (by kernel_rfl) (by kernel_rfl) rfl Ty.mixed call78_ok rfl (fun C hP hN => (lok_all (kcast (by kernel_rfl) trivial))) (kcast (by kernel_rfl) h) x hx
noncomputable def c45j18 : Cut SN := ⟨[(2, .dat (.int .i64)), (3, .bp 3 0), (4, .bp 4 0), (54, .dat .bool)], [(3, .st .layoutT), (4, .st .targetT)]⟩
noncomputable def c45r7 : Cut SN := ⟨[(2, .dat (.int .i64)), (3, .bp 3 0), (4, .bp 4 0), (30, .dat .bool)], [(3, .st .layoutT), (4, .st .targetT)]⟩
noncomputable def c45z : Cut SN := ⟨[(6, .dat (.int .i64)), (7, .dat (.int .i64))], []⟩
noncomputable def sh45 : Shape vw := { rcut := c45z }
noncomputable def pre45 : Nat → Bool := fun _ => false
noncomputable def sig45 : Sig vw := { params := [.dat (.st .layoutT), .dat (.st .targetT), .dat (.int .i64)], rcut := c45z, rvars := [.tmp 6, .tmp 7] }
noncomputable def n_45 (v : Layout × Target × Int × Unit) : Option (Int × Int × Unit) :=
 n_72 (v.1, v.2.1, ()) >>= fun x1 =>
 if (x1.1 != (0 : Int)) = true then
  some (((0 : Int), x1.1, ()))
 else n_78 (v.1, ()) >>= fun x2 =>
 if decide (x2.1 < (0 : Int)) = true then
  some (((0 : Int), (6 : Int), ()))
 else (if decide (v.2.2.1 < (0 : Int)) = true then
   some ((v.2.2.1, true, v.1, v.2.1, ()))
  else some ((v.2.2.1, decide (v.2.2.1 ≥ x2.1), v.1, v.2.1, ()))) >>= fun x3 =>
 if x3.2.1 = true then
  some (((0 : Int), (4 : Int), ()))
 else n_73 (x3.2.2.1, x3.2.2.2.1, ()) >>= fun x4 =>
 if (x4.1 != (0 : Int)) = true then
  some (((0 : Int), x4.1, ()))
 else if (x3.2.2.1.kind == (6 : Int)) = true then
  n_79 (x3.2.2.1, x3.2.2.2.1, ()) >>= fun x5 =>
  if (0 : Int) ≤ x3.1 then
   x5.1[x3.1.toNat]? >>= fun x6 =>
   some ((x6, (0 : Int), ()))
  else none
 else (if (x3.2.2.1.kind == (4 : Int)) = true then
   some ((x3.1, true, x3.2.2.1, x3.2.2.2.1, ()))
  else some ((x3.1, x3.2.2.1.kind == (5 : Int), x3.2.2.1, x3.2.2.2.1, ()))) >>= fun x5 =>
 if x5.2.1 = true then
  x5.2.2.1.parts[Int.toNat (0 : Int)]? >>= fun x6 =>
  n_80 (x6, x5.2.2.2.1, ()) >>= fun x7 =>
  some ((i64.wrap (x5.1 * x7.1.size), (0 : Int), ()))
 else some (((0 : Int), (0 : Int), ()))
noncomputable def call45 : Caller vw := cP prog 72 sig72 n_72 (cP prog 73 sig73 n_73 (cP prog 78 sig78 n_78 (cP prog 79 sig79 n_79 (cP prog 80 sig80 n_80 c0))))
noncomputable def x45 : Xc vw := { P := prog, n := 66, call := call45, pre := pre45, sh := sh45, joins := fun k => match k with | 18 => some (c45j18, [.norm]) | _ => none, regs := fun k => match k with | 7 => some c45r7 | _ => none }
theorem call45_ok : CallerOk prog call45 := cP_ok n_72_ok rfl rfl (cP_ok n_73_ok rfl rfl (cP_ok n_78_ok rfl rfl (cP_ok n_79_ok rfl rfl (cP_ok n_80_ok rfl rfl c0_ok))))
theorem n_45_ok : SigOk prog 45 sig45 n_45 := fun v r x h hx =>
 fn_ok (X := x45) (sig := sig45) rfl Tryz.func45 (c := bodyOf Tryz.f45) (by kernel_rfl) Tryz.ntmps45 (by kernel_rfl) (by kernel_rfl) rfl Ty.mixed call45_ok rfl (fun C hP hN => (lok_all (kcast (by kernel_rfl) trivial))) (kcast (by kernel_rfl) h) x hx
noncomputable def c18z : Cut SN := ⟨[(8, .dat (.int .i64)), (9, .dat (.int .i64))], []⟩
noncomputable def sh18 : Shape vw := { rcut := c18z }
noncomputable def pre18 : Nat → Bool := fun _ => false
noncomputable def sig18 : Sig vw := { params := [.dat .str, .dat .str, .dat .str, .dat (.st .targetT)], rcut := c18z, rvars := [.tmp 8, .tmp 9] }
noncomputable def n_18 (v : ByteArray × ByteArray × ByteArray × Target × Unit) : Option (Int × Int × Unit) :=
 n_40 (v.1, v.2.1, v.2.2.2.1, ()) >>= fun x1 =>
 if (x1.1 != (0 : Int)) = true then
  some (((0 : Int), x1.1, ()))
 else n_44 (x1.2.1.names, v.2.2.1, ()) >>= fun x2 =>
 if decide (x2.1 < (0 : Int)) = true then
  some (((0 : Int), (4 : Int), ()))
 else n_45 (Layout.mk x1.2.1.layout.kind x1.2.1.layout.n x1.2.1.layout.flag x1.2.1.layout.parts, v.2.2.2.1, x2.1, ()) >>= fun x3 =>
 some ((x3.1, x3.2.1, ()))
noncomputable def call18 : Caller vw := cP prog 40 sig40 n_40 (cP prog 44 sig44 n_44 (cP prog 45 sig45 n_45 c0))
noncomputable def x18 : Xc vw := { P := prog, n := 36, call := call18, pre := pre18, sh := sh18 }
theorem call18_ok : CallerOk prog call18 := cP_ok n_40_ok rfl rfl (cP_ok n_44_ok rfl rfl (cP_ok n_45_ok rfl rfl c0_ok))
theorem n_18_ok : SigOk prog 18 sig18 n_18 := fun v r x h hx =>
 fn_ok (X := x18) (sig := sig18) rfl Tryz.func18 (c := bodyOf Tryz.f18) (by kernel_rfl) Tryz.ntmps18 (by kernel_rfl) (by kernel_rfl) rfl Ty.mixed call18_ok rfl (fun C hP hN => (lok_all (kcast (by kernel_rfl) trivial))) (kcast (by kernel_rfl) h) x hx
noncomputable def c10r3 : Cut SN := ⟨[(0, .dat .bool)], []⟩
noncomputable def sh10 : Shape vw := { rcut := c10r3 }
noncomputable def pre10 : Nat → Bool := fun _ => false
noncomputable def sig10 : Sig vw := { params := [], rcut := c10r3, rvars := [.tmp 0] }
noncomputable def n_10 (v : Unit) : Option (Bool × Unit) :=
 n_18 (ByteArray.mk #[115, 116, 114, 117, 99, 116, 32, 83, 32, 123, 32, 99, 104, 97, 114, 32, 97, 59, 32, 105, 110, 116, 32, 98, 59, 32, 125, 59], ByteArray.mk #[83], ByteArray.mk #[98], Target.mk (4 : Int) false, ()) >>= fun x1 =>
 n_11 (ByteArray.mk #[35, 100, 101, 102, 105, 110, 101, 32, 78, 32, 49, 48, 10, 35, 100, 101, 102, 105, 110, 101, 32, 70, 40, 120, 41, 32, 120, 10], ()) >>= fun x2 =>
 (if (x1.2.1 == (0 : Int)) = true then
    if (x1.1 == (4 : Int)) = true then
     if (x2.2.2.1 == (0 : Int)) = true then
      if ((↑x2.1.length : Int) == (1 : Int)) = true then
       x2.1[Int.toNat (0 : Int)]? >>= fun x3 =>
       if (x3.n == (10 : Int)) = true then
        if ((↑x2.2.1.length : Int) == (1 : Int)) = true then
         x2.2.1[Int.toNat (0 : Int)]? >>= fun x4 =>
         some ((x4.toList == (ByteArray.mk #[35, 32, 100, 101, 102, 105, 110, 101, 32, 70, 32, 40, 32, 120, 32, 41, 32, 120]).toList, ()))
        else some ((false, ()))
       else some ((false, ()))
      else some ((false, ()))
     else some ((false, ()))
    else some ((false, ()))
   else some ((false, ()))) >>= fun x3 =>
 some ((x3.1, ()))
noncomputable def call10 : Caller vw := cP prog 11 sig11 n_11 (cP prog 18 sig18 n_18 c0)
noncomputable def x10 : Xc vw := { P := prog, n := 49, call := call10, pre := pre10, sh := sh10, regs := fun k => match k with | 3 => some c10r3 | _ => none }
theorem call10_ok : CallerOk prog call10 := cP_ok n_11_ok rfl rfl (cP_ok n_18_ok rfl rfl c0_ok)
theorem n_10_ok : SigOk prog 10 sig10 n_10 := fun v r x h hx =>
 fn_ok (X := x10) (sig := sig10) rfl Tryz.func10 (c := bodyOf Tryz.f10) (by kernel_rfl) Tryz.ntmps10 (by kernel_rfl) (by kernel_rfl) rfl Ty.mixed call10_ok rfl (fun C hP hN => (lok_all (kcast (by kernel_rfl) trivial))) (kcast (by kernel_rfl) h) x hx
noncomputable def c15l4 : Cut SN := ⟨[(0, .dat (.sl .str)), (1, .dat (.sl .str)), (5, .dat (.int .i64))], []⟩
noncomputable def sh15 : Shape vw := { exits := fun id => match id with | 0 => c44e0 | _ => ⟨[], []⟩, rcut := c97r1 }
noncomputable def pre15 : Nat → Bool := fun _ => false
noncomputable def sig15 : Sig vw := { params := [.dat (.sl .str), .dat (.sl .str)], rcut := c97r1, rvars := [.tmp 4] }
noncomputable def n_15l4 (v : (List ByteArray) × (List ByteArray) × Int × Unit) : Option (((Bool × Unit) ⊕ (Unit))) :=
 if decide (v.2.2.1 < (↑v.1.length : Int)) = true then
  if (0 : Int) ≤ v.2.2.1 then
   v.1[v.2.2.1.toNat]? >>= fun x1 =>
   if (0 : Int) ≤ v.2.2.1 then
    v.2.1[v.2.2.1.toNat]? >>= fun x2 =>
    if (!x1.toList == x2.toList) = true then
     some (Sum.inl (false, ()))
    else n_15l4 (v.1, v.2.1, i64.wrap (v.2.2.1 + (1 : Int)), ())
   else none
  else none
 else some (Sum.inr ())
 partial_fixpoint
noncomputable def n_15 (v : (List ByteArray) × (List ByteArray) × Unit) : Option (Bool × Unit) :=
 if ((↑v.1.length : Int) != (↑v.2.1.length : Int)) = true then
  some ((false, ()))
 else n_15l4 (v.1, v.2.1, (0 : Int), ()) >>= fun x1 => match x1 with
  | .inl y1 => some y1
  | .inr y1 => some ((true, ()))
noncomputable def call15 : Caller vw := c0
noncomputable def x15 : Xc vw := { P := prog, n := 26, call := call15, pre := pre15, sh := sh15, loops := fun k => match k with | 4 => some { cut := c15l4, alts := [.ret, .exit 0], F := n_15l4 } | _ => none }
theorem call15_ok : CallerOk prog call15 := c0_ok
theorem n_15l4_ok (C : Ctx) (hP : C.P = prog) (hN : C.N = 26 ∧ Fx C pre15) : LoopOk C (loopNo (bodyOf Tryz.f15) 0) (sh := sh15) { cut := c15l4, alts := [.ret, .exit 0], F := n_15l4 } :=
 n_15l4.partial_correctness (motive := fun v out => AWpL C (loopNo (bodyOf Tryz.f15) 0) (Go.Tx.encS vw (conc vw c15l4 v)) (OutQ sh15 [.ret, .exit 0] out)) fun F ih v out h =>
  loop_step (X := x15) (b := (loopNo (bodyOf Tryz.f15) 0)) hP hN Ty.mixed call15_ok (lok_all (X := x15) (c := (loopNo (bodyOf Tryz.f15) 0)) (kcast (by kernel_rfl : True = AllB (LoopsP C (x15)) (loopsIn (loopNo (bodyOf Tryz.f15) 0))) trivial)) ih (kcast (by kernel_rfl) h)
theorem n_15_ok : SigOk prog 15 sig15 n_15 := fun v r x h hx =>
 fn_ok (X := x15) (sig := sig15) rfl Tryz.func15 (c := bodyOf Tryz.f15) (by kernel_rfl) Tryz.ntmps15 (by kernel_rfl) (by kernel_rfl) rfl Ty.mixed call15_ok rfl (fun C hP hN => (lok_all (kcast (by kernel_rfl : AllB (LoopsP C (x15)) [(loopNo (bodyOf Tryz.f15) 0)] = AllB (LoopsP C (x15)) (loopsIn (bodyOf Tryz.f15))) ⟨loop_at (X := x15) (b := (loopNo (bodyOf Tryz.f15) 0)) (by kernel_rfl) (n_15l4_ok C hP hN), trivial⟩))) (kcast (by kernel_rfl) h) x hx
noncomputable def c39l4 : Cut SN := ⟨[(2, .bp 2 0), (3, .bp 3 0), (5, .dat (.int .i64))], [(2, .st .layoutT), (3, .st .layoutT)]⟩
noncomputable def c39r1 : Cut SN := ⟨[(2, .bp 2 0), (3, .bp 3 0), (33, .dat .bool)], [(2, .st .layoutT), (3, .st .layoutT)]⟩
noncomputable def sh39 : Shape vw := { exits := fun id => match id with | 0 => c44e0 | _ => ⟨[], []⟩, rcut := c97r1 }
noncomputable def pre39 : Nat → Bool := fun _ => false
noncomputable def sig39 : Sig vw := { params := [.dat (.st .layoutT), .dat (.st .layoutT)], rcut := c97r1, rvars := [.tmp 4] }
mutual
noncomputable def n_39l4 (v : Int × Layout × Layout × Unit) : Option (((Bool × Unit) ⊕ (Unit))) :=
 if decide (v.1 < (↑v.2.1.parts.length : Int)) = true then
  if (0 : Int) ≤ v.1 then
   v.2.1.parts[v.1.toNat]? >>= fun x1 =>
   if (0 : Int) ≤ v.1 then
    v.2.2.1.parts[v.1.toNat]? >>= fun x2 =>
    n_39 (x1, x2, ()) >>= fun x3 =>
    if (!x3.1) = true then
     some (Sum.inl (false, ()))
    else n_39l4 (i64.wrap (v.1 + (1 : Int)), v.2.1, v.2.2.1, ())
   else none
  else none
 else some (Sum.inr ())
 partial_fixpoint
noncomputable def n_39 (v : Layout × Layout × Unit) : Option (Bool × Unit) :=
 (if (v.1.kind != v.2.1.kind) = true then
    some ((true, v.1, v.2.1, ()))
   else if (v.1.n != v.2.1.n) = true then
    some ((true, v.1, v.2.1, ()))
   else if (!v.1.flag == v.2.1.flag) = true then
    some ((true, v.1, v.2.1, ()))
   else some (((↑v.1.parts.length : Int) != (↑v.2.1.parts.length : Int), v.1, v.2.1, ()))) >>= fun x1 =>
 if x1.1 = true then
  some ((false, ()))
 else n_39l4 ((0 : Int), x1.2.1, x1.2.2.1, ()) >>= fun x2 => match x2 with
  | .inl y2 => some y2
  | .inr y2 => some ((true, ()))
 partial_fixpoint
end
noncomputable def call39 (n_39l4 : Int × Layout × Layout × Unit → Option (((Bool × Unit) ⊕ (Unit)))) (n_39 : Layout × Layout × Unit → Option (Bool × Unit)) : Caller vw := fun A fid args S k => match fid with | 39 => callPure prog sig39 n_39 A args S k | _ => none
noncomputable def x39 (n_39l4 : Int × Layout × Layout × Unit → Option (((Bool × Unit) ⊕ (Unit)))) (n_39 : Layout × Layout × Unit → Option (Bool × Unit)) : Xc vw := { P := prog, n := 53, call := call39 n_39l4 n_39, pre := pre39, sh := sh39, regs := fun k => match k with | 1 => some c39r1 | _ => none, loops := fun k => match k with | 4 => some { cut := c39l4, alts := [.ret, .exit 0], F := n_39l4 } | _ => none }
abbrev mn_39l4 (v : Int × Layout × Layout × Unit) (r : ((Bool × Unit) ⊕ (Unit))) : Prop := (fun v out => ∀ C : Ctx, C.P = prog → C.N = 53 ∧ Fx C pre39 → AWpL C (loopNo (bodyOf Tryz.f39) 0) (Go.Tx.encS vw (conc vw c39l4 v)) (OutQ sh39 [.ret, .exit 0] out)) v r
abbrev mn_39 (v : Layout × Layout × Unit) (r : Bool × Unit) : Prop := (fun v r => ∀ x, resV prog sig39 r = some x → FnOk prog 39 (encL vw (startS sig39 v).len (startOs sig39 v).1) (encOs (startS sig39 v).len (startS sig39 v).own) (encV vw (conc vw sig39.rcut r).len x) (encOs (conc vw sig39.rcut r).len (kept sig39 r))) v r
theorem cn_39l4 (f0 : Int × Layout × Layout × Unit → Option (((Bool × Unit) ⊕ (Unit)))) (f1 : Layout × Layout × Unit → Option (Bool × Unit)) (h0 : ∀ v r, f0 v = some r → mn_39l4 v r) (h1 : ∀ v r, f1 v = some r → mn_39 v r) : CallerOk prog (x39 f0 f1).call := (by
    intro A fid args S dst k r h
    unfold x39 call39 at h
    simp only at h
    split at h
    ·exact callPure_ok ((fun v r x h hx => h1 v r h x hx)) rfl rfl h
    ·cases h)
theorem sn_39l4 (f0 : Int × Layout × Layout × Unit → Option (((Bool × Unit) ⊕ (Unit)))) (f1 : Layout × Layout × Unit → Option (Bool × Unit)) (h0 : ∀ v r, f0 v = some r → mn_39l4 v r) (h1 : ∀ v r, f1 v = some r → mn_39 v r) (v : Int × Layout × Layout × Unit) (r : ((Bool × Unit) ⊕ (Unit))) (h : exL (x39 f0 f1) (loopNo (bodyOf Tryz.f39) 0) c39l4 [.ret, .exit 0] f0 v = some r) : mn_39l4 v r := fun C hP hN => loop_step (X := x39 f0 f1) (b := (loopNo (bodyOf Tryz.f39) 0)) hP hN Ty.mixed (cn_39l4 f0 f1 h0 h1) (lok_all (X := x39 f0 f1) (c := (loopNo (bodyOf Tryz.f39) 0)) (kcast (by kernel_rfl : True = AllB (LoopsP C (x39 f0 f1)) (loopsIn (loopNo (bodyOf Tryz.f39) 0))) trivial)) (cut := c39l4) (alts := [.ret, .exit 0]) (F := f0) (fun v out h => h0 v out h C hP hN) h
theorem cn_39 (f0 : Int × Layout × Layout × Unit → Option (((Bool × Unit) ⊕ (Unit)))) (h0 : ∀ v r, f0 v = some r → mn_39l4 v r) : CallerOk prog (x39 f0 (fun _ => none)).call := (by
    intro A fid args S dst k r h
    unfold x39 call39 at h
    simp only at h
    split at h
    ·exact callPure_ok ((fun v r x h hx => by cases h)) rfl rfl h
    ·cases h)
theorem sn_39 (f0 : Int × Layout × Layout × Unit → Option (((Bool × Unit) ⊕ (Unit)))) (h0 : ∀ v r, f0 v = some r → mn_39l4 v r) (v : Layout × Layout × Unit) (r : Bool × Unit) (h : exF (x39 f0 (fun _ => none)) sig39 rfl (bodyOf Tryz.f39) v = some r) : mn_39 v r := fun x hx => fn_ok (X := x39 f0 (fun _ => none)) (sig := sig39) rfl Tryz.func39 (c := bodyOf Tryz.f39) (by kernel_rfl) Tryz.ntmps39 (by kernel_rfl) (by kernel_rfl) rfl Ty.mixed (cn_39 f0 h0) rfl (fun C hP hN => (lok_all (X := x39 f0 (fun _ => none)) (c := (bodyOf Tryz.f39)) (kcast (by kernel_rfl : AllB (LoopsP C (x39 f0 (fun _ => none))) [(loopNo (bodyOf Tryz.f39) 0)] = AllB (LoopsP C (x39 f0 (fun _ => none))) (loopsIn (bodyOf Tryz.f39))) ⟨loop_at (X := x39 f0 (fun _ => none)) (b := (loopNo (bodyOf Tryz.f39) 0)) (by kernel_rfl) (show LoopOk C (loopNo (bodyOf Tryz.f39) 0) (sh := sh39) { cut := c39l4, alts := [.ret, .exit 0], F := f0 } from fun v out h => h0 v out h C hP hN), trivial⟩))) h x hx
theorem n_39l4_all : (∀ v r, n_39l4 v = some r → mn_39l4 v r) ∧ (∀ v r, n_39 v = some r → mn_39 v r) := by
 refine n_39l4.mutual_partial_correctness
  (motive_1 := mn_39l4)
  (motive_2 := mn_39)
  ?_ ?_
 ·exact (fun f0 f1 h0 h1 v r h => sn_39l4 f0 f1 h0 h1 v r (kcast (by kernel_rfl) h))
 ·exact (fun f0 h0 v r h => sn_39 f0 h0 v r (kcast (by kernel_rfl) h))
theorem n_39_ok : SigOk prog 39 sig39 n_39 := fun v r x h hx => n_39l4_all.2 v r h x hx
noncomputable def c14l4 : Cut SN := ⟨[(0, .dat (.sl (.st .itemT))), (1, .dat (.sl (.st .itemT))), (5, .dat (.int .i64))], []⟩
noncomputable def c14r6 : Cut SN := ⟨[(0, .dat (.sl (.st .itemT))), (1, .dat (.sl (.st .itemT))), (5, .dat (.int .i64)), (81, .dat .bool)], []⟩
noncomputable def sh14 : Shape vw := { exits := fun id => match id with | 0 => c44e0 | _ => ⟨[], []⟩, rcut := c97r1 }
noncomputable def pre14 : Nat → Bool := fun _ => false
noncomputable def sig14 : Sig vw := { params := [.dat (.sl (.st .itemT)), .dat (.sl (.st .itemT))], rcut := c97r1, rvars := [.tmp 4] }
noncomputable def n_14l4 (v : (List Item) × (List Item) × Int × Unit) : Option (((Bool × Unit) ⊕ (Unit))) :=
 if decide (v.2.2.1 < (↑v.1.length : Int)) = true then
  (if (0 : Int) ≤ v.2.2.1 then
     v.1[v.2.2.1.toNat]? >>= fun x1 =>
     if (0 : Int) ≤ v.2.2.1 then
      v.2.1[v.2.2.1.toNat]? >>= fun x2 =>
      if (x1.kind != x2.kind) = true then
       some ((v.1, v.2.1, v.2.2.1, true, ()))
      else if (0 : Int) ≤ v.2.2.1 then
       v.1[v.2.2.1.toNat]? >>= fun x3 =>
       if (0 : Int) ≤ v.2.2.1 then
        v.2.1[v.2.2.1.toNat]? >>= fun x4 =>
        if (!x3.name0.toList == x4.name0.toList) = true then
         some ((v.1, v.2.1, v.2.2.1, true, ()))
        else if (0 : Int) ≤ v.2.2.1 then
         v.1[v.2.2.1.toNat]? >>= fun x5 =>
         if (0 : Int) ≤ v.2.2.1 then
          v.2.1[v.2.2.1.toNat]? >>= fun x6 =>
          if (x5.n != x6.n) = true then
           some ((v.1, v.2.1, v.2.2.1, true, ()))
          else if (0 : Int) ≤ v.2.2.1 then
           v.1[v.2.2.1.toNat]? >>= fun x7 =>
           if (0 : Int) ≤ v.2.2.1 then
            v.2.1[v.2.2.1.toNat]? >>= fun x8 =>
            n_15 (x7.names, x8.names, ()) >>= fun x9 =>
            if (!x9.1) = true then
             some ((v.1, v.2.1, v.2.2.1, true, ()))
            else if (0 : Int) ≤ v.2.2.1 then
             v.1[v.2.2.1.toNat]? >>= fun x10 =>
             if (0 : Int) ≤ v.2.2.1 then
              v.2.1[v.2.2.1.toNat]? >>= fun x11 =>
              n_39 (Layout.mk x10.layout.kind x10.layout.n x10.layout.flag x10.layout.parts, Layout.mk x11.layout.kind x11.layout.n x11.layout.flag x11.layout.parts, ()) >>= fun x12 =>
              some ((v.1, v.2.1, v.2.2.1, !x12.1, ()))
             else none
            else none
           else none
          else none
         else none
        else none
       else none
      else none
     else none
    else none) >>= fun x1 =>
  if x1.2.2.2.1 = true then
   some (Sum.inl (false, ()))
  else n_14l4 (x1.1, x1.2.1, i64.wrap (x1.2.2.1 + (1 : Int)), ())
 else some (Sum.inr ())
 partial_fixpoint
noncomputable def n_14 (v : (List Item) × (List Item) × Unit) : Option (Bool × Unit) :=
 if ((↑v.1.length : Int) != (↑v.2.1.length : Int)) = true then
  some ((false, ()))
 else n_14l4 (v.1, v.2.1, (0 : Int), ()) >>= fun x1 => match x1 with
  | .inl y1 => some y1
  | .inr y1 => some ((true, ()))
noncomputable def call14 : Caller vw := cP prog 15 sig15 n_15 (cP prog 39 sig39 n_39 c0)
noncomputable def x14 : Xc vw := { P := prog, n := 82, call := call14, pre := pre14, sh := sh14, regs := fun k => match k with | 6 => some c14r6 | _ => none, loops := fun k => match k with | 4 => some { cut := c14l4, alts := [.ret, .exit 0], F := n_14l4 } | _ => none }
theorem call14_ok : CallerOk prog call14 := cP_ok n_15_ok rfl rfl (cP_ok n_39_ok rfl rfl c0_ok)
theorem n_14l4_ok (C : Ctx) (hP : C.P = prog) (hN : C.N = 82 ∧ Fx C pre14) : LoopOk C (loopNo (bodyOf Tryz.f14) 0) (sh := sh14) { cut := c14l4, alts := [.ret, .exit 0], F := n_14l4 } :=
 n_14l4.partial_correctness (motive := fun v out => AWpL C (loopNo (bodyOf Tryz.f14) 0) (Go.Tx.encS vw (conc vw c14l4 v)) (OutQ sh14 [.ret, .exit 0] out)) fun F ih v out h =>
  loop_step (X := x14) (b := (loopNo (bodyOf Tryz.f14) 0)) hP hN Ty.mixed call14_ok (lok_all (X := x14) (c := (loopNo (bodyOf Tryz.f14) 0)) (kcast (by kernel_rfl : True = AllB (LoopsP C (x14)) (loopsIn (loopNo (bodyOf Tryz.f14) 0))) trivial)) ih (kcast (by kernel_rfl) h)
theorem n_14_ok : SigOk prog 14 sig14 n_14 := fun v r x h hx =>
 fn_ok (X := x14) (sig := sig14) rfl Tryz.func14 (c := bodyOf Tryz.f14) (by kernel_rfl) Tryz.ntmps14 (by kernel_rfl) (by kernel_rfl) rfl Ty.mixed call14_ok rfl (fun C hP hN => (lok_all (kcast (by kernel_rfl : AllB (LoopsP C (x14)) [(loopNo (bodyOf Tryz.f14) 0)] = AllB (LoopsP C (x14)) (loopsIn (bodyOf Tryz.f14))) ⟨loop_at (X := x14) (b := (loopNo (bodyOf Tryz.f14) 0)) (by kernel_rfl) (n_14l4_ok C hP hN), trivial⟩))) (kcast (by kernel_rfl) h) x hx
noncomputable def c57l3 : Cut SN := ⟨[(1, .bp 1 0), (3, .vh 1003), (4, .dat (.int .i64))], [(1, .st .layoutT), (1003, .vec 42 (.st .layoutT))]⟩
noncomputable def c57e0 : Cut SN := ⟨[(3, .vh 1003)], [(1003, .vec 42 (.st .layoutT))]⟩
noncomputable def c57z : Cut SN := ⟨[(2, .dat (.sl (.st .layoutT)))], []⟩
noncomputable def sh57 : Shape vw := { exits := fun id => match id with | 0 => c57e0 | _ => ⟨[], []⟩, rcut := c57z }
noncomputable def pre57 : Nat → Bool := fun _ => false
noncomputable def sig57 : Sig vw := { params := [.dat (.st .layoutT)], rcut := c57z, rvars := [.tmp 2] }
mutual
noncomputable def n_57l3 (v : Int × Layout × (List Layout) × Unit) : Option (((List Layout) × Unit)) :=
 if decide (v.1 < (↑v.2.1.parts.length : Int)) = true then
  if (0 : Int) ≤ v.1 then
   v.2.1.parts[v.1.toNat]? >>= fun x1 =>
   n_57 (x1, ()) >>= fun x2 =>
   if v.2.2.1.length + x2.1.length ≤ (4294967296 : Nat) then
    n_57l3 (i64.wrap (v.1 + (1 : Int)), v.2.1, v.2.2.1 ++ x2.1, ())
   else none
  else none
 else some ((v.2.2.1, ()))
 partial_fixpoint
noncomputable def n_57 (v : Layout × Unit) : Option ((List Layout) × Unit) :=
 n_57l3 ((0 : Int), v.1, [v.1], ()) >>= fun x1 =>
 some ((x1.1, ()))
 partial_fixpoint
end
noncomputable def call57 (n_57l3 : Int × Layout × (List Layout) × Unit → Option (((List Layout) × Unit))) (n_57 : Layout × Unit → Option ((List Layout) × Unit)) : Caller vw := fun A fid args S k => match fid with | 57 => callPure prog sig57 n_57 A args S k | _ => none
noncomputable def x57 (n_57l3 : Int × Layout × (List Layout) × Unit → Option (((List Layout) × Unit))) (n_57 : Layout × Unit → Option ((List Layout) × Unit)) : Xc vw := { P := prog, n := 23, nm := fun d => match d with | 6 => 40006 | _ => d, call := call57 n_57l3 n_57, pre := pre57, sh := sh57, loops := fun k => match k with | 3 => some { cut := c57l3, alts := [.exit 0], F := n_57l3 } | _ => none }
abbrev mn_57l3 (v : Int × Layout × (List Layout) × Unit) (r : ((List Layout) × Unit)) : Prop := (fun v out => ∀ C : Ctx, C.P = prog → C.N = 23 ∧ Fx C pre57 → AWpL C (loopNo (bodyOf Tryz.f57) 0) (Go.Tx.encS vw (conc vw c57l3 v)) (OutQ sh57 [.exit 0] out)) v r
abbrev mn_57 (v : Layout × Unit) (r : (List Layout) × Unit) : Prop := (fun v r => ∀ x, resV prog sig57 r = some x → FnOk prog 57 (encL vw (startS sig57 v).len (startOs sig57 v).1) (encOs (startS sig57 v).len (startS sig57 v).own) (encV vw (conc vw sig57.rcut r).len x) (encOs (conc vw sig57.rcut r).len (kept sig57 r))) v r
theorem cn_57l3 (f0 : Int × Layout × (List Layout) × Unit → Option (((List Layout) × Unit))) (f1 : Layout × Unit → Option ((List Layout) × Unit)) (h0 : ∀ v r, f0 v = some r → mn_57l3 v r) (h1 : ∀ v r, f1 v = some r → mn_57 v r) : CallerOk prog (x57 f0 f1).call := (by
    intro A fid args S dst k r h
    unfold x57 call57 at h
    simp only at h
    split at h
    ·exact callPure_ok ((fun v r x h hx => h1 v r h x hx)) rfl rfl h
    ·cases h)
theorem sn_57l3 (f0 : Int × Layout × (List Layout) × Unit → Option (((List Layout) × Unit))) (f1 : Layout × Unit → Option ((List Layout) × Unit)) (h0 : ∀ v r, f0 v = some r → mn_57l3 v r) (h1 : ∀ v r, f1 v = some r → mn_57 v r) (v : Int × Layout × (List Layout) × Unit) (r : ((List Layout) × Unit)) (h : exL (x57 f0 f1) (loopNo (bodyOf Tryz.f57) 0) c57l3 [.exit 0] f0 v = some r) : mn_57l3 v r := fun C hP hN => loop_step (X := x57 f0 f1) (b := (loopNo (bodyOf Tryz.f57) 0)) hP hN Ty.mixed (cn_57l3 f0 f1 h0 h1) (lok_all (X := x57 f0 f1) (c := (loopNo (bodyOf Tryz.f57) 0)) (kcast (by kernel_rfl : True = AllB (LoopsP C (x57 f0 f1)) (loopsIn (loopNo (bodyOf Tryz.f57) 0))) trivial)) (cut := c57l3) (alts := [.exit 0]) (F := f0) (fun v out h => h0 v out h C hP hN) h
theorem cn_57 (f0 : Int × Layout × (List Layout) × Unit → Option (((List Layout) × Unit))) (h0 : ∀ v r, f0 v = some r → mn_57l3 v r) : CallerOk prog (x57 f0 (fun _ => none)).call := (by
    intro A fid args S dst k r h
    unfold x57 call57 at h
    simp only at h
    split at h
    ·exact callPure_ok ((fun v r x h hx => by cases h)) rfl rfl h
    ·cases h)
theorem sn_57 (f0 : Int × Layout × (List Layout) × Unit → Option (((List Layout) × Unit))) (h0 : ∀ v r, f0 v = some r → mn_57l3 v r) (v : Layout × Unit) (r : (List Layout) × Unit) (h : exF (x57 f0 (fun _ => none)) sig57 rfl (bodyOf Tryz.f57) v = some r) : mn_57 v r := fun x hx => fn_ok (X := x57 f0 (fun _ => none)) (sig := sig57) rfl Tryz.func57 (c := bodyOf Tryz.f57) (by kernel_rfl) Tryz.ntmps57 (by kernel_rfl) (by kernel_rfl) rfl Ty.mixed (cn_57 f0 h0) rfl (fun C hP hN => (lok_all (X := x57 f0 (fun _ => none)) (c := (bodyOf Tryz.f57)) (kcast (by kernel_rfl : AllB (LoopsP C (x57 f0 (fun _ => none))) [(loopNo (bodyOf Tryz.f57) 0)] = AllB (LoopsP C (x57 f0 (fun _ => none))) (loopsIn (bodyOf Tryz.f57))) ⟨loop_at (X := x57 f0 (fun _ => none)) (b := (loopNo (bodyOf Tryz.f57) 0)) (by kernel_rfl) (show LoopOk C (loopNo (bodyOf Tryz.f57) 0) (sh := sh57) { cut := c57l3, alts := [.exit 0], F := f0 } from fun v out h => h0 v out h C hP hN), trivial⟩))) h x hx
theorem n_57l3_all : (∀ v r, n_57l3 v = some r → mn_57l3 v r) ∧ (∀ v r, n_57 v = some r → mn_57 v r) := by
 refine n_57l3.mutual_partial_correctness
  (motive_1 := mn_57l3)
  (motive_2 := mn_57)
  ?_ ?_
 ·exact (fun f0 f1 h0 h1 v r h => sn_57l3 f0 f1 h0 h1 v r (kcast (by kernel_rfl) h))
 ·exact (fun f0 h0 v r h => sn_57 f0 h0 v r (kcast (by kernel_rfl) h))
theorem n_57_ok : SigOk prog 57 sig57 n_57 := fun v r x h hx => n_57l3_all.2 v r h x hx
noncomputable def c30l3 : Cut SN := ⟨[(0, .dat (.sl (.st .itemT))), (3, .dat (.int .i64)), (4, .dat (.int .i64))], []⟩
noncomputable def c30e0 : Cut SN := ⟨[(0, .dat (.sl (.st .itemT))), (3, .dat (.int .i64))], []⟩
noncomputable def sh30 : Shape vw := { exits := fun id => match id with | 0 => c30e0 | _ => ⟨[], []⟩, rcut := c86r1 }
noncomputable def pre30 : Nat → Bool := fun _ => false
noncomputable def sig30 : Sig vw := { params := [.dat (.sl (.st .itemT))], rcut := c86r1, rvars := [.tmp 2] }
noncomputable def n_30l3 (v : (List Item) × Int × Int × Unit) : Option (((List Item) × Int × Unit)) :=
 if decide (v.2.2.1 < (↑v.1.length : Int)) = true then
  if (0 : Int) ≤ v.2.2.1 then
   v.1[v.2.2.1.toNat]? >>= fun x1 =>
   if (0 : Int) ≤ v.2.2.1 then
    v.1[v.2.2.1.toNat]? >>= fun x2 =>
    n_57 (Layout.mk x2.layout.kind x2.layout.n x2.layout.flag x2.layout.parts, ()) >>= fun x3 =>
    n_30l3 (v.1, i64.wrap (v.2.1 + i64.wrap ((↑x1.names.length : Int) + (↑x3.1.length : Int))), i64.wrap (v.2.2.1 + (1 : Int)), ())
   else none
  else none
 else some ((v.1, v.2.1, ()))
 partial_fixpoint
noncomputable def n_30 (v : (List Item) × Unit) : Option (Bool × Unit) :=
 n_30l3 (v.1, (0 : Int), (0 : Int), ()) >>= fun x1 =>
 (if decide ((↑x1.1.length : Int) > (200 : Int)) = true then
    some ((true, ()))
   else some ((decide (x1.2.1 > (2000 : Int)), ()))) >>= fun x2 =>
 some ((x2.1, ()))
noncomputable def call30 : Caller vw := cP prog 57 sig57 n_57 c0
noncomputable def x30 : Xc vw := { P := prog, n := 34, call := call30, pre := pre30, sh := sh30, regs := fun k => match k with | 6 => some c86r1 | _ => none, loops := fun k => match k with | 3 => some { cut := c30l3, alts := [.exit 0], F := n_30l3 } | _ => none }
theorem call30_ok : CallerOk prog call30 := cP_ok n_57_ok rfl rfl c0_ok
theorem n_30l3_ok (C : Ctx) (hP : C.P = prog) (hN : C.N = 34 ∧ Fx C pre30) : LoopOk C (loopNo (bodyOf Tryz.f30) 0) (sh := sh30) { cut := c30l3, alts := [.exit 0], F := n_30l3 } :=
 n_30l3.partial_correctness (motive := fun v out => AWpL C (loopNo (bodyOf Tryz.f30) 0) (Go.Tx.encS vw (conc vw c30l3 v)) (OutQ sh30 [.exit 0] out)) fun F ih v out h =>
  loop_step (X := x30) (b := (loopNo (bodyOf Tryz.f30) 0)) hP hN Ty.mixed call30_ok (lok_all (X := x30) (c := (loopNo (bodyOf Tryz.f30) 0)) (kcast (by kernel_rfl : True = AllB (LoopsP C (x30)) (loopsIn (loopNo (bodyOf Tryz.f30) 0))) trivial)) ih (kcast (by kernel_rfl) h)
theorem n_30_ok : SigOk prog 30 sig30 n_30 := fun v r x h hx =>
 fn_ok (X := x30) (sig := sig30) rfl Tryz.func30 (c := bodyOf Tryz.f30) (by kernel_rfl) Tryz.ntmps30 (by kernel_rfl) (by kernel_rfl) rfl Ty.mixed call30_ok rfl (fun C hP hN => (lok_all (kcast (by kernel_rfl : AllB (LoopsP C (x30)) [(loopNo (bodyOf Tryz.f30) 0)] = AllB (LoopsP C (x30)) (loopsIn (bodyOf Tryz.f30))) ⟨loop_at (X := x30) (b := (loopNo (bodyOf Tryz.f30) 0)) (by kernel_rfl) (n_30l3_ok C hP hN), trivial⟩))) (kcast (by kernel_rfl) h) x hx
noncomputable def c60l4 : Cut SN := ⟨[(0, .dat (.sl .str)), (1, .dat (.sl .str)), (12, .dat (.int .i64)), (13, .dat (.int .i64))], []⟩
noncomputable def sh60 : Shape vw := { exits := fun id => match id with | 0 => c44e0 | _ => ⟨[], []⟩, rcut := c97r1 }
noncomputable def pre60 : Nat → Bool := fun _ => false
noncomputable def sig60 : Sig vw := { params := [.dat (.sl .str), .dat (.sl .str)], rcut := c97r1, rvars := [.tmp 4] }
noncomputable def n_60l4 (v : (List ByteArray) × (List ByteArray) × Int × Int × Unit) : Option (((Bool × Unit) ⊕ (Unit))) :=
 if decide (v.2.2.2.1 < v.2.2.1) = true then
  if (0 : Int) ≤ v.2.2.2.1 then
   v.1[v.2.2.2.1.toNat]? >>= fun x1 =>
   if (0 : Int) ≤ v.2.2.2.1 then
    v.2.1[v.2.2.2.1.toNat]? >>= fun x2 =>
    if (!x1.toList == x2.toList) = true then
     some (Sum.inl (false, ()))
    else n_60l4 (v.1, v.2.1, v.2.2.1, i64.wrap (v.2.2.2.1 + (1 : Int)), ())
   else none
  else none
 else some (Sum.inr ())
 partial_fixpoint
noncomputable def n_60 (v : (List ByteArray) × (List ByteArray) × Unit) : Option (Bool × Unit) :=
 if ((↑v.1.length : Int) != (↑v.2.1.length : Int)) = true then
  some ((false, ()))
 else n_60l4 (v.1, v.2.1, (↑v.1.length : Int), (0 : Int), ()) >>= fun x1 => match x1 with
  | .inl y1 => some y1
  | .inr y1 => some ((true, ()))
noncomputable def call60 : Caller vw := c0
noncomputable def x60 : Xc vw := { P := prog, n := 26, call := call60, pre := pre60, sh := sh60, loops := fun k => match k with | 4 => some { cut := c60l4, alts := [.ret, .exit 0], F := n_60l4 } | _ => none }
theorem call60_ok : CallerOk prog call60 := c0_ok
theorem n_60l4_ok (C : Ctx) (hP : C.P = prog) (hN : C.N = 26 ∧ Fx C pre60) : LoopOk C (loopNo (bodyOf Tryz.f60) 0) (sh := sh60) { cut := c60l4, alts := [.ret, .exit 0], F := n_60l4 } :=
 n_60l4.partial_correctness (motive := fun v out => AWpL C (loopNo (bodyOf Tryz.f60) 0) (Go.Tx.encS vw (conc vw c60l4 v)) (OutQ sh60 [.ret, .exit 0] out)) fun F ih v out h =>
  loop_step (X := x60) (b := (loopNo (bodyOf Tryz.f60) 0)) hP hN Ty.mixed call60_ok (lok_all (X := x60) (c := (loopNo (bodyOf Tryz.f60) 0)) (kcast (by kernel_rfl : True = AllB (LoopsP C (x60)) (loopsIn (loopNo (bodyOf Tryz.f60) 0))) trivial)) ih (kcast (by kernel_rfl) h)
theorem n_60_ok : SigOk prog 60 sig60 n_60 := fun v r x h hx =>
 fn_ok (X := x60) (sig := sig60) rfl Tryz.func60 (c := bodyOf Tryz.f60) (by kernel_rfl) Tryz.ntmps60 (by kernel_rfl) (by kernel_rfl) rfl Ty.mixed call60_ok rfl (fun C hP hN => (lok_all (kcast (by kernel_rfl : AllB (LoopsP C (x60)) [(loopNo (bodyOf Tryz.f60) 0)] = AllB (LoopsP C (x60)) (loopsIn (bodyOf Tryz.f60))) ⟨loop_at (X := x60) (b := (loopNo (bodyOf Tryz.f60) 0)) (by kernel_rfl) (n_60l4_ok C hP hN), trivial⟩))) (kcast (by kernel_rfl) h) x hx
noncomputable def sh61 : Shape vw := { rcut := c97r1 }
noncomputable def pre61 : Nat → Bool := fun _ => false
noncomputable def sig61 : Sig vw := { params := [.dat (.st .layoutT), .dat (.st .layoutT)], rcut := c97r1, rvars := [.tmp 4] }
noncomputable def c92c61l4 : Cut SN := ⟨[(1, .dat (.sl (.st .layoutT))), (2, .fn 61 [] []), (15, .dat (.sl (.st .layoutT))), (16, .dat (.int .i64)), (17, .dat (.int .i64))], []⟩
noncomputable def c92c61z : Cut SN := ⟨[(6, .dat .bool)], []⟩
noncomputable def sh92c61 : Shape vw := { exits := fun id => match id with | 0 => c44e0 | _ => ⟨[], []⟩, rcut := c92c61z }
noncomputable def pre92c61 : Nat → Bool := fun _ => false
noncomputable def sig92c61 : Sig vw := { params := [.dat (.sl (.st .layoutT)), .dat (.sl (.st .layoutT)), .fn 61 [] []], rcut := c92c61z, rvars := [.tmp 6] }
mutual
noncomputable def n_61 (v : Layout × Layout × Unit) : Option (Bool × Unit) :=
 (if (v.1.kind == v.2.1.kind) = true then
    if (v.1.n == v.2.1.n) = true then
     if (v.1.flag == v.2.1.flag) = true then
      n_92c61 (v.1.parts, v.2.1.parts, ()) >>= fun x1 =>
      some ((x1.1, ()))
     else some ((false, ()))
    else some ((false, ()))
   else some ((false, ()))) >>= fun x1 =>
 some ((x1.1, ()))
 partial_fixpoint
noncomputable def n_92c61 (v : (List Layout) × (List Layout) × Unit) : Option (Bool × Unit) :=
 if ((↑v.1.length : Int) != (↑v.2.1.length : Int)) = true then
  some ((false, ()))
 else n_92c61l4 (v.2.1, v.1, (↑v.1.length : Int), (0 : Int), ()) >>= fun x1 => match x1 with
  | .inl y1 => some y1
  | .inr y1 => some ((true, ()))
 partial_fixpoint
noncomputable def n_92c61l4 (v : (List Layout) × (List Layout) × Int × Int × Unit) : Option (((Bool × Unit) ⊕ (Unit))) :=
 if decide (v.2.2.2.1 < v.2.2.1) = true then
  if (0 : Int) ≤ v.2.2.2.1 then
   v.2.1[v.2.2.2.1.toNat]? >>= fun x1 =>
   if (0 : Int) ≤ v.2.2.2.1 then
    v.1[v.2.2.2.1.toNat]? >>= fun x2 =>
    n_61 (x1, x2, ()) >>= fun x3 =>
    if (!x3.1) = true then
     some (Sum.inl (false, ()))
    else n_92c61l4 (v.1, v.2.1, v.2.2.1, i64.wrap (v.2.2.2.1 + (1 : Int)), ())
   else none
  else none
 else some (Sum.inr ())
 partial_fixpoint
end
noncomputable def call61 (n_61 : Layout × Layout × Unit → Option (Bool × Unit)) (n_92c61 : (List Layout) × (List Layout) × Unit → Option (Bool × Unit)) (n_92c61l4 : (List Layout) × (List Layout) × Int × Int × Unit → Option (((Bool × Unit) ⊕ (Unit)))) : Caller vw := fun A fid args S k => match fid with | 92 => callPure prog sig92c61 n_92c61 A args S k | _ => none
noncomputable def x61 (n_61 : Layout × Layout × Unit → Option (Bool × Unit)) (n_92c61 : (List Layout) × (List Layout) × Unit → Option (Bool × Unit)) (n_92c61l4 : (List Layout) × (List Layout) × Int × Int × Unit → Option (((Bool × Unit) ⊕ (Unit)))) : Xc vw := { P := prog, n := 31, call := call61 n_61 n_92c61 n_92c61l4, pre := pre61, sh := sh61, regs := fun k => match k with | 1 => some c97r1 | _ => none }
noncomputable def call92c61 (n_61 : Layout × Layout × Unit → Option (Bool × Unit)) (n_92c61 : (List Layout) × (List Layout) × Unit → Option (Bool × Unit)) (n_92c61l4 : (List Layout) × (List Layout) × Int × Int × Unit → Option (((Bool × Unit) ⊕ (Unit)))) : Caller vw := fun A fid args S k => match fid with | 61 => callPure prog sig61 n_61 A args S k | _ => none
noncomputable def x92c61 (n_61 : Layout × Layout × Unit → Option (Bool × Unit)) (n_92c61 : (List Layout) × (List Layout) × Unit → Option (Bool × Unit)) (n_92c61l4 : (List Layout) × (List Layout) × Int × Int × Unit → Option (((Bool × Unit) ⊕ (Unit)))) : Xc vw := { P := prog, n := 32, call := call92c61 n_61 n_92c61 n_92c61l4, pre := pre92c61, sh := sh92c61, loops := fun k => match k with | 4 => some { cut := c92c61l4, alts := [.ret, .exit 0], F := n_92c61l4 } | _ => none }
abbrev mn_61 (v : Layout × Layout × Unit) (r : Bool × Unit) : Prop := (fun v r => ∀ x, resV prog sig61 r = some x → FnOk prog 61 (encL vw (startS sig61 v).len (startOs sig61 v).1) (encOs (startS sig61 v).len (startS sig61 v).own) (encV vw (conc vw sig61.rcut r).len x) (encOs (conc vw sig61.rcut r).len (kept sig61 r))) v r
abbrev mn_92c61 (v : (List Layout) × (List Layout) × Unit) (r : Bool × Unit) : Prop := (fun v r => ∀ x, resV prog sig92c61 r = some x → FnOk prog 92 (encL vw (startS sig92c61 v).len (startOs sig92c61 v).1) (encOs (startS sig92c61 v).len (startS sig92c61 v).own) (encV vw (conc vw sig92c61.rcut r).len x) (encOs (conc vw sig92c61.rcut r).len (kept sig92c61 r))) v r
abbrev mn_92c61l4 (v : (List Layout) × (List Layout) × Int × Int × Unit) (r : ((Bool × Unit) ⊕ (Unit))) : Prop := (fun v out => ∀ C : Ctx, C.P = prog → C.N = 32 ∧ Fx C pre92c61 → AWpL C (loopNo (bodyOf Tryz.f92) 0) (Go.Tx.encS vw (conc vw c92c61l4 v)) (OutQ sh92c61 [.ret, .exit 0] out)) v r
theorem cn_61 (f0 : (List Layout) × (List Layout) × Unit → Option (Bool × Unit)) (h0 : ∀ v r, f0 v = some r → mn_92c61 v r) : CallerOk prog (x61 (fun _ => none) f0 (fun _ => none)).call := (by
    intro A fid args S dst k r h
    unfold x61 call61 at h
    simp only at h
    split at h
    ·exact callPure_ok ((fun v r x h hx => h0 v r h x hx)) rfl rfl h
    ·cases h)
theorem sn_61 (f0 : (List Layout) × (List Layout) × Unit → Option (Bool × Unit)) (h0 : ∀ v r, f0 v = some r → mn_92c61 v r) (v : Layout × Layout × Unit) (r : Bool × Unit) (h : exF (x61 (fun _ => none) f0 (fun _ => none)) sig61 rfl (bodyOf Tryz.f61) v = some r) : mn_61 v r := fun x hx => fn_ok (X := x61 (fun _ => none) f0 (fun _ => none)) (sig := sig61) rfl Tryz.func61 (c := bodyOf Tryz.f61) (by kernel_rfl) Tryz.ntmps61 (by kernel_rfl) (by kernel_rfl) rfl Ty.mixed (cn_61 f0 h0) rfl (fun C hP hN => (lok_all (X := x61 (fun _ => none) f0 (fun _ => none)) (c := (bodyOf Tryz.f61)) (kcast (by kernel_rfl : True = AllB (LoopsP C (x61 (fun _ => none) f0 (fun _ => none))) (loopsIn (bodyOf Tryz.f61))) trivial))) h x hx
theorem cn_92c61 (f0 : (List Layout) × (List Layout) × Int × Int × Unit → Option (((Bool × Unit) ⊕ (Unit)))) (h0 : ∀ v r, f0 v = some r → mn_92c61l4 v r) : CallerOk prog (x92c61 (fun _ => none) (fun _ => none) f0).call := (by
    intro A fid args S dst k r h
    unfold x92c61 call92c61 at h
    simp only at h
    split at h
    ·exact callPure_ok ((fun v r x h hx => by cases h)) rfl rfl h
    ·cases h)
theorem sn_92c61 (f0 : (List Layout) × (List Layout) × Int × Int × Unit → Option (((Bool × Unit) ⊕ (Unit)))) (h0 : ∀ v r, f0 v = some r → mn_92c61l4 v r) (v : (List Layout) × (List Layout) × Unit) (r : Bool × Unit) (h : exF (x92c61 (fun _ => none) (fun _ => none) f0) sig92c61 rfl (bodyOf Tryz.f92) v = some r) : mn_92c61 v r := fun x hx => fn_ok (X := x92c61 (fun _ => none) (fun _ => none) f0) (sig := sig92c61) rfl Tryz.func92 (c := bodyOf Tryz.f92) (by kernel_rfl) Tryz.ntmps92 (by kernel_rfl) (by kernel_rfl) rfl Ty.mixed (cn_92c61 f0 h0) rfl (fun C hP hN => (lok_all (X := x92c61 (fun _ => none) (fun _ => none) f0) (c := (bodyOf Tryz.f92)) (kcast (by kernel_rfl : AllB (LoopsP C (x92c61 (fun _ => none) (fun _ => none) f0)) [(loopNo (bodyOf Tryz.f92) 0)] = AllB (LoopsP C (x92c61 (fun _ => none) (fun _ => none) f0)) (loopsIn (bodyOf Tryz.f92))) ⟨loop_at (X := x92c61 (fun _ => none) (fun _ => none) f0) (b := (loopNo (bodyOf Tryz.f92) 0)) (by kernel_rfl) (show LoopOk C (loopNo (bodyOf Tryz.f92) 0) (sh := sh92c61) { cut := c92c61l4, alts := [.ret, .exit 0], F := f0 } from fun v out h => h0 v out h C hP hN), trivial⟩))) h x hx
theorem cn_92c61l4 (f0 : Layout × Layout × Unit → Option (Bool × Unit)) (f1 : (List Layout) × (List Layout) × Int × Int × Unit → Option (((Bool × Unit) ⊕ (Unit)))) (h0 : ∀ v r, f0 v = some r → mn_61 v r) (h1 : ∀ v r, f1 v = some r → mn_92c61l4 v r) : CallerOk prog (x92c61 f0 (fun _ => none) f1).call := (by
    intro A fid args S dst k r h
    unfold x92c61 call92c61 at h
    simp only at h
    split at h
    ·exact callPure_ok ((fun v r x h hx => h0 v r h x hx)) rfl rfl h
    ·cases h)
theorem sn_92c61l4 (f0 : Layout × Layout × Unit → Option (Bool × Unit)) (f1 : (List Layout) × (List Layout) × Int × Int × Unit → Option (((Bool × Unit) ⊕ (Unit)))) (h0 : ∀ v r, f0 v = some r → mn_61 v r) (h1 : ∀ v r, f1 v = some r → mn_92c61l4 v r) (v : (List Layout) × (List Layout) × Int × Int × Unit) (r : ((Bool × Unit) ⊕ (Unit))) (h : exL (x92c61 f0 (fun _ => none) f1) (loopNo (bodyOf Tryz.f92) 0) c92c61l4 [.ret, .exit 0] f1 v = some r) : mn_92c61l4 v r := fun C hP hN => loop_step (X := x92c61 f0 (fun _ => none) f1) (b := (loopNo (bodyOf Tryz.f92) 0)) hP hN Ty.mixed (cn_92c61l4 f0 f1 h0 h1) (lok_all (X := x92c61 f0 (fun _ => none) f1) (c := (loopNo (bodyOf Tryz.f92) 0)) (kcast (by kernel_rfl : True = AllB (LoopsP C (x92c61 f0 (fun _ => none) f1)) (loopsIn (loopNo (bodyOf Tryz.f92) 0))) trivial)) (cut := c92c61l4) (alts := [.ret, .exit 0]) (F := f1) (fun v out h => h1 v out h C hP hN) h
theorem n_61_all : (∀ v r, n_61 v = some r → mn_61 v r) ∧ (∀ v r, n_92c61 v = some r → mn_92c61 v r) ∧ (∀ v r, n_92c61l4 v = some r → mn_92c61l4 v r) := by
 refine n_61.mutual_partial_correctness
  (motive_1 := mn_61)
  (motive_2 := mn_92c61)
  (motive_3 := mn_92c61l4)
  ?_ ?_ ?_
 ·exact (fun f0 h0 v r h => sn_61 f0 h0 v r (kcast (by kernel_rfl) h))
 ·exact (fun f0 h0 v r h => sn_92c61 f0 h0 v r (kcast (by kernel_rfl) h))
 ·exact (fun f0 f1 h0 h1 v r h => sn_92c61l4 f0 f1 h0 h1 v r (kcast (by kernel_rfl) h))
theorem n_61_ok : SigOk prog 61 sig61 n_61 := fun v r x h hx => n_61_all.1 v r h x hx
noncomputable def sh59 : Shape vw := { rcut := c97r1 }
noncomputable def pre59 : Nat → Bool := fun _ => false
noncomputable def sig59 : Sig vw := { params := [.dat (.st .itemT), .dat (.st .itemT)], rcut := c97r1, rvars := [.tmp 4] }
noncomputable def n_59 (v : Item × Item × Unit) : Option (Bool × Unit) :=
 (if (v.1.kind == v.2.1.kind) = true then
    if (v.1.name0.toList == v.2.1.name0.toList) = true then
     if (v.1.n == v.2.1.n) = true then
      n_60 (v.1.names, v.2.1.names, ()) >>= fun x1 =>
      if x1.1 = true then
       n_61 (Layout.mk v.1.layout.kind v.1.layout.n v.1.layout.flag v.1.layout.parts, Layout.mk v.2.1.layout.kind v.2.1.layout.n v.2.1.layout.flag v.2.1.layout.parts, ()) >>= fun x2 =>
       some ((x2.1, ()))
      else some ((false, ()))
     else some ((false, ()))
    else some ((false, ()))
   else some ((false, ()))) >>= fun x1 =>
 some ((x1.1, ()))
noncomputable def call59 : Caller vw := cP prog 60 sig60 n_60 (cP prog 61 sig61 n_61 c0)
noncomputable def x59 : Xc vw := { P := prog, n := 38, call := call59, pre := pre59, sh := sh59, regs := fun k => match k with | 1 => some c97r1 | _ => none }
theorem call59_ok : CallerOk prog call59 := cP_ok n_60_ok rfl rfl (cP_ok n_61_ok rfl rfl c0_ok)
theorem n_59_ok : SigOk prog 59 sig59 n_59 := fun v r x h hx =>
 fn_ok (X := x59) (sig := sig59) rfl Tryz.func59 (c := bodyOf Tryz.f59) (by kernel_rfl) Tryz.ntmps59 (by kernel_rfl) (by kernel_rfl) rfl Ty.mixed call59_ok rfl (fun C hP hN => (lok_all (kcast (by kernel_rfl) trivial))) (kcast (by kernel_rfl) h) x hx
noncomputable def c58c59l4 : Cut SN := ⟨[(1, .dat (.sl (.st .itemT))), (2, .fn 59 [] []), (15, .dat (.sl (.st .itemT))), (16, .dat (.int .i64)), (17, .dat (.int .i64))], []⟩
noncomputable def sh58c59 : Shape vw := { exits := fun id => match id with | 0 => c44e0 | _ => ⟨[], []⟩, rcut := c92c61z }
noncomputable def pre58c59 : Nat → Bool := fun _ => false
noncomputable def sig58c59 : Sig vw := { params := [.dat (.sl (.st .itemT)), .dat (.sl (.st .itemT)), .fn 59 [] []], rcut := c92c61z, rvars := [.tmp 6] }
noncomputable def n_58c59l4 (v : (List Item) × (List Item) × Int × Int × Unit) : Option (((Bool × Unit) ⊕ (Unit))) :=
 if decide (v.2.2.2.1 < v.2.2.1) = true then
  if (0 : Int) ≤ v.2.2.2.1 then
   v.2.1[v.2.2.2.1.toNat]? >>= fun x1 =>
   if (0 : Int) ≤ v.2.2.2.1 then
    v.1[v.2.2.2.1.toNat]? >>= fun x2 =>
    n_59 (x1, x2, ()) >>= fun x3 =>
    if (!x3.1) = true then
     some (Sum.inl (false, ()))
    else n_58c59l4 (v.1, v.2.1, v.2.2.1, i64.wrap (v.2.2.2.1 + (1 : Int)), ())
   else none
  else none
 else some (Sum.inr ())
 partial_fixpoint
noncomputable def n_58c59 (v : (List Item) × (List Item) × Unit) : Option (Bool × Unit) :=
 if ((↑v.1.length : Int) != (↑v.2.1.length : Int)) = true then
  some ((false, ()))
 else n_58c59l4 (v.2.1, v.1, (↑v.1.length : Int), (0 : Int), ()) >>= fun x1 => match x1 with
  | .inl y1 => some y1
  | .inr y1 => some ((true, ()))
noncomputable def call58c59 : Caller vw := cP prog 59 sig59 n_59 c0
noncomputable def x58c59 : Xc vw := { P := prog, n := 32, call := call58c59, pre := pre58c59, sh := sh58c59, loops := fun k => match k with | 4 => some { cut := c58c59l4, alts := [.ret, .exit 0], F := n_58c59l4 } | _ => none }
theorem call58c59_ok : CallerOk prog call58c59 := cP_ok n_59_ok rfl rfl c0_ok
theorem n_58c59l4_ok (C : Ctx) (hP : C.P = prog) (hN : C.N = 32 ∧ Fx C pre58c59) : LoopOk C (loopNo (bodyOf Tryz.f58) 0) (sh := sh58c59) { cut := c58c59l4, alts := [.ret, .exit 0], F := n_58c59l4 } :=
 n_58c59l4.partial_correctness (motive := fun v out => AWpL C (loopNo (bodyOf Tryz.f58) 0) (Go.Tx.encS vw (conc vw c58c59l4 v)) (OutQ sh58c59 [.ret, .exit 0] out)) fun F ih v out h =>
  loop_step (X := x58c59) (b := (loopNo (bodyOf Tryz.f58) 0)) hP hN Ty.mixed call58c59_ok (lok_all (X := x58c59) (c := (loopNo (bodyOf Tryz.f58) 0)) (kcast (by kernel_rfl : True = AllB (LoopsP C (x58c59)) (loopsIn (loopNo (bodyOf Tryz.f58) 0))) trivial)) ih (kcast (by kernel_rfl) h)
theorem n_58c59_ok : SigOk prog 58 sig58c59 n_58c59 := fun v r x h hx =>
 fn_ok (X := x58c59) (sig := sig58c59) rfl Tryz.func58 (c := bodyOf Tryz.f58) (by kernel_rfl) Tryz.ntmps58 (by kernel_rfl) (by kernel_rfl) rfl Ty.mixed call58c59_ok rfl (fun C hP hN => (lok_all (kcast (by kernel_rfl : AllB (LoopsP C (x58c59)) [(loopNo (bodyOf Tryz.f58) 0)] = AllB (LoopsP C (x58c59)) (loopsIn (bodyOf Tryz.f58))) ⟨loop_at (X := x58c59) (b := (loopNo (bodyOf Tryz.f58) 0)) (by kernel_rfl) (n_58c59l4_ok C hP hN), trivial⟩))) (kcast (by kernel_rfl) h) x hx
noncomputable def sh31 : Shape vw := { rcut := c97r1 }
noncomputable def pre31 : Nat → Bool := fun _ => false
noncomputable def sig31 : Sig vw := { params := [.dat (.sl (.st .itemT)), .dat (.sl (.st .itemT))], rcut := c97r1, rvars := [.tmp 4] }
noncomputable def n_31 (v : (List Item) × (List Item) × Unit) : Option (Bool × Unit) :=
 n_58c59 (v.1, v.2.1, ()) >>= fun x1 =>
 some ((x1.1, ()))
noncomputable def call31 : Caller vw := cP prog 58 sig58c59 n_58c59 c0
noncomputable def x31 : Xc vw := { P := prog, n := 8, call := call31, pre := pre31, sh := sh31 }
theorem call31_ok : CallerOk prog call31 := cP_ok n_58c59_ok rfl rfl c0_ok
theorem n_31_ok : SigOk prog 31 sig31 n_31 := fun v r x h hx =>
 fn_ok (X := x31) (sig := sig31) rfl Tryz.func31 (c := bodyOf Tryz.f31) (by kernel_rfl) Tryz.ntmps31 (by kernel_rfl) (by kernel_rfl) rfl Ty.mixed call31_ok rfl (fun C hP hN => (lok_all (kcast (by kernel_rfl) trivial))) (kcast (by kernel_rfl) h) x hx
noncomputable def c7r1 : Cut SN := ⟨[(0, .dat (.sl (.st .itemT))), (1, .dat (.sl (.st .itemT))), (10, .dat .bool)], []⟩
noncomputable def sh7 : Shape vw := { rcut := c97r1 }
noncomputable def pre7 : Nat → Bool := fun _ => false
noncomputable def sig7 : Sig vw := { params := [.dat (.sl (.st .itemT)), .dat (.sl (.st .itemT))], rcut := c97r1, rvars := [.tmp 4] }
noncomputable def n_7 (v : (List Item) × (List Item) × Unit) : Option (Bool × Unit) :=
 (n_30 (v.1, ()) >>= fun x1 =>
   if x1.1 = true then
    some ((v.1, v.2.1, true, ()))
   else n_30 (v.2.1, ()) >>= fun x2 =>
   some ((v.1, v.2.1, x2.1, ()))) >>= fun x1 =>
 if x1.2.2.1 = true then
  n_10 () >>= fun x2 =>
  some ((x2.1, ()))
 else (n_31 (x1.1, x1.2.1, ()) >>= fun x2 =>
  n_14 (x1.1, x1.2.1, ()) >>= fun x3 =>
  if (x2.1 == x3.1) = true then
   n_31 (x1.1, x1.1, ()) >>= fun x4 =>
   if x4.1 = true then
    n_10 () >>= fun x5 =>
    some ((x5.1, ()))
   else some ((false, ()))
  else some ((false, ()))) >>= fun x2 =>
 some ((x2.1, ()))
noncomputable def call7 : Caller vw := cP prog 10 sig10 n_10 (cP prog 14 sig14 n_14 (cP prog 30 sig30 n_30 (cP prog 31 sig31 n_31 c0)))
noncomputable def x7 : Xc vw := { P := prog, n := 27, call := call7, pre := pre7, sh := sh7, regs := fun k => match k with | 1 => some c7r1 | 3 => some c97r1 | _ => none }
theorem call7_ok : CallerOk prog call7 := cP_ok n_10_ok rfl rfl (cP_ok n_14_ok rfl rfl (cP_ok n_30_ok rfl rfl (cP_ok n_31_ok rfl rfl c0_ok)))
theorem n_7_ok : SigOk prog 7 sig7 n_7 := fun v r x h hx =>
 fn_ok (X := x7) (sig := sig7) rfl Tryz.func7 (c := bodyOf Tryz.f7) (by kernel_rfl) Tryz.ntmps7 (by kernel_rfl) (by kernel_rfl) rfl Ty.mixed call7_ok rfl (fun C hP hN => (lok_all (kcast (by kernel_rfl) trivial))) (kcast (by kernel_rfl) h) x hx
end Go.Proofs.YtpelkenpapfadaaGreatDoor
end
section
namespace Go.Proofs.YtpelkenpapfadaaGreatDoor
set_option maxRecDepth 20000
open Go.Lib
theorem ba_size (s : ByteArray) : s.data.toList.length = s.size := Array.length_toList
theorem toList_loop (s : ByteArray) : ∀ (n i : Nat) (r : List UInt8), s.size - i = n → ByteArray.toList.loop s i r = r.reverse ++ s.data.toList.drop i
 | 0, i, r, h => by
  have hs := ba_size s
  rw [ByteArray.toList.loop, if_neg (by omega), List.drop_eq_nil_of_le (by omega), List.append_nil]
 | n + 1, i, r, h => by
  have hs := ba_size s
  have hi : i < s.data.toList.length := by omega
  rw [ByteArray.toList.loop, if_pos (by omega), toList_loop s n (i + 1) _ (by omega), List.drop_eq_getElem_cons hi, List.reverse_cons, List.append_assoc]
  have : s.get! i = s.data.toList[i] := by
   have := getD_get!' s i
   rw [← this, List.getD_eq_getElem?_getD, List.getElem?_eq_getElem hi]; rfl
  rw [this]; rfl
theorem toList_data (s : ByteArray) : s.toList = s.data.toList := by
 unfold ByteArray.toList
 rw [toList_loop s _ 0 [] rfl]; simp
theorem ba_ext {a b : ByteArray} (h : a.data.toList = b.data.toList) : a = b := by
 cases a; cases b; simp only at h; congr 1; exact Array.toList_inj.mp h
theorem ba_beq (a b : ByteArray) : (a.toList == b.toList) = decide (a = b) := by
 rw [toList_data, toList_data]
 by_cases h : a = b
 ·subst h; simp
 ·rw [decide_eq_false h]
  exact beq_eq_false_iff_ne.mpr fun h2 => h (ba_ext h2)
theorem at_lt {α : Type} {xs : List α} {k : Nat} (h : k < xs.length) : ∃ p, xs[k]? = some p ∧ p ∈ xs ∧ xs.drop k = p :: xs.drop (k + 1) ∧ ((k : Int) < (xs.length : Int)) ∧ (0 : Int) ≤ (k : Int) :=
 let ⟨p, a, b, c⟩ := drop_step h
 ⟨p, a, b, c, by omega, by omega⟩
theorem eta (l : Layout) : Layout.mk l.kind l.n l.flag l.parts = l := by cases l; rfl
theorem lay_ext (a b : Layout) : a = b ↔ a.kind = b.kind ∧ a.n = b.n ∧ a.flag = b.flag ∧ a.parts = b.parts := by
 cases a; cases b; simp
theorem item_ext (a b : Item) : a = b ↔ a.kind = b.kind ∧ a.name0 = b.name0 ∧ a.n = b.n ∧ a.names = b.names ∧ a.layout = b.layout := by
 cases a; cases b; simp
end Go.Proofs.YtpelkenpapfadaaGreatDoor
end
section
namespace Go.Proofs.YtpelkenpapfadaaGreatDoor
set_option maxRecDepth 100000
theorem known_true : n_10 () = some (true, ()) := by kernel_rfl
end Go.Proofs.YtpelkenpapfadaaGreatDoor
end
section
namespace Go.Proofs.YtpelkenpapfadaaGreatDoor
open Go.Tx
set_option maxRecDepth 20000
open Classical
theorem f61 : ∀ a : Layout, a.Fits → ∀ b : Layout, b.Fits → n_61 (a, b, ()) = some (decide (a = b), ()) := by
 refine Layout.ind fun a ih ha b hb => ?_
 have hn := ha.len
 have loop : ∀ (m k : Nat), a.parts.length = b.parts.length → a.parts.length - k = m → n_92c61l4 (b.parts, a.parts, a.parts.length, k, ()) = some (if a.parts.drop k = b.parts.drop k then .inr () else .inl (false, ())) := by
  intro m
  induction m with
  | zero =>
   intro k he hm
   have hlt : ¬ k < a.parts.length := by omega
   have hlt' : ¬ k < b.parts.length := by omega
   rw [n_92c61l4]
   simp only [Option.bind_eq_bind, Option.bind_some, Option.bind_none, if_true, if_false, Bool.false_eq_true, Bool.true_eq_false, Int.toNat_natCast, Int.natCast_nonneg, beq_iff_eq, decide_eq_true_eq, Int.ofNat_lt, hlt, drop_end hlt, drop_end hlt']
  | succ m ihm =>
   intro k he hm
   have hlt : k < a.parts.length := by omega
   obtain ⟨p, hp1, hpm, hd, g1, g2⟩ := at_lt hlt
   obtain ⟨q, hq1, hqm, hd', _, _⟩ := at_lt (xs := b.parts) (k := k) (by omega)
   have hp := ih p hpm (ha.part hpm) q (hb.part hqm)
   have hih := ihm (k + 1) he (by omega)
   rw [n_92c61l4]
   simp only [Option.bind_eq_bind, Option.bind_some, Option.bind_none, if_true, if_false, Bool.false_eq_true, Bool.true_eq_false, Int.toNat_natCast, Int.natCast_nonneg, beq_iff_eq, decide_eq_true_eq, Int.ofNat_lt, hlt, hp1, hq1, hp, wrap_succ hlt hn, hih]
   rw [hd, hd']
   by_cases hpq : p = q
   ·simp [hpq]
   ·simp [hpq]
 have h54 : n_92c61 (a.parts, b.parts, ()) = some (decide (a.parts = b.parts), ()) := by
  rw [n_92c61]
  by_cases he : a.parts.length = b.parts.length
  ·have h := loop _ 0 he rfl
   simp only [Int.natCast_zero, Int.ofNat_eq_natCast, List.drop_zero] at h
   have he' : ((a.parts.length : Int) != (b.parts.length : Int)) = false := by simp [he]
   simp only [he', Option.bind_eq_bind, Option.bind_some, Option.bind_none, if_true, if_false, Bool.false_eq_true, Bool.true_eq_false, Int.toNat_natCast, Int.natCast_nonneg, beq_iff_eq, decide_eq_true_eq, Int.ofNat_lt, h]
   by_cases hp : a.parts = b.parts
   ·simp [hp]
   ·simp [hp]
  ·have he' : ((a.parts.length : Int) != (b.parts.length : Int)) = true := by simp; omega
   have hp : ¬ a.parts = b.parts := fun h => he (by rw [h])
   simp only [he', Option.bind_eq_bind, Option.bind_some, Option.bind_none, if_true, if_false, Bool.false_eq_true, Bool.true_eq_false, Int.toNat_natCast, Int.natCast_nonneg, beq_iff_eq, decide_eq_true_eq, Int.ofNat_lt, hp, decide_false]
 rw [n_61]
 by_cases h1 : a.kind = b.kind
 ·by_cases h2 : a.n = b.n
  ·by_cases h3 : a.flag = b.flag
   ·simp only [h1, h2, h3, beq_self_eq_true, Option.bind_eq_bind, Option.bind_some, Option.bind_none, if_true, if_false, Bool.false_eq_true, Bool.true_eq_false, Int.toNat_natCast, Int.natCast_nonneg, beq_iff_eq, decide_eq_true_eq, Int.ofNat_lt, h54, lay_ext a b, true_and]
   ·have h3' : (a.flag == b.flag) = false := by simpa using h3
    simp only [h1, h2, h3', beq_self_eq_true, Option.bind_eq_bind, Option.bind_some, Option.bind_none, if_true, if_false, Bool.false_eq_true, Bool.true_eq_false, Int.toNat_natCast, Int.natCast_nonneg, beq_iff_eq, decide_eq_true_eq, Int.ofNat_lt, lay_ext a b, h3, true_and, false_and, decide_false]
  ·have h2' : (a.n == b.n) = false := by simpa using h2
   simp only [h1, h2', beq_self_eq_true, Option.bind_eq_bind, Option.bind_some, Option.bind_none, if_true, if_false, Bool.false_eq_true, Bool.true_eq_false, Int.toNat_natCast, Int.natCast_nonneg, beq_iff_eq, decide_eq_true_eq, Int.ofNat_lt, lay_ext a b, h2, true_and, false_and, decide_false]
 ·have h1' : (a.kind == b.kind) = false := by simpa using h1
  simp only [h1', Option.bind_eq_bind, Option.bind_some, Option.bind_none, if_true, if_false, Bool.false_eq_true, Bool.true_eq_false, Int.toNat_natCast, Int.natCast_nonneg, beq_iff_eq, decide_eq_true_eq, Int.ofNat_lt, lay_ext a b, h1, false_and, decide_false]
theorem f39 : ∀ a : Layout, a.Fits → ∀ b : Layout, b.Fits → n_39 (a, b, ()) = some (decide (a = b), ()) := by
 refine Layout.ind fun a ih ha b hb => ?_
 have hn := ha.len
 have loop : ∀ (m k : Nat), a.parts.length = b.parts.length → a.parts.length - k = m → n_39l4 (k, a, b, ()) = some (if a.parts.drop k = b.parts.drop k then .inr () else .inl (false, ())) := by
  intro m
  induction m with
  | zero =>
   intro k he hm
   have hlt : ¬ k < a.parts.length := by omega
   have hlt' : ¬ k < b.parts.length := by omega
   rw [n_39l4]
   simp only [Option.bind_eq_bind, Option.bind_some, Option.bind_none, if_true, if_false, Bool.false_eq_true, Bool.true_eq_false, Int.toNat_natCast, Int.natCast_nonneg, beq_iff_eq, decide_eq_true_eq, Int.ofNat_lt, hlt, drop_end hlt, drop_end hlt']
  | succ m ihm =>
   intro k he hm
   have hlt : k < a.parts.length := by omega
   obtain ⟨p, hp1, hpm, hd, g1, g2⟩ := at_lt hlt
   obtain ⟨q, hq1, hqm, hd', _, _⟩ := at_lt (xs := b.parts) (k := k) (by omega)
   have hp := ih p hpm (ha.part hpm) q (hb.part hqm)
   have hih := ihm (k + 1) he (by omega)
   rw [n_39l4]
   simp only [Option.bind_eq_bind, Option.bind_some, Option.bind_none, if_true, if_false, Bool.false_eq_true, Bool.true_eq_false, Int.toNat_natCast, Int.natCast_nonneg, beq_iff_eq, decide_eq_true_eq, Int.ofNat_lt, hlt, hp1, hq1, hp, wrap_succ hlt hn, hih]
   rw [hd, hd']
   by_cases hpq : p = q
   ·simp [hpq]
   ·simp [hpq]
 rw [n_39]
 by_cases h1 : a.kind = b.kind
 rotate_left
 ·have h1' : (a.kind != b.kind) = true := by simpa using h1
  simp only [h1', Option.bind_eq_bind, Option.bind_some, Option.bind_none, if_true, if_false, Bool.false_eq_true, Bool.true_eq_false, Int.toNat_natCast, Int.natCast_nonneg, beq_iff_eq, decide_eq_true_eq, Int.ofNat_lt, lay_ext a b, h1, false_and, decide_false]
 by_cases h2 : a.n = b.n
 rotate_left
 ·have h2' : (a.n != b.n) = true := by simpa using h2
  simp only [h1, h2', bne_self_eq_false, Option.bind_eq_bind, Option.bind_some, Option.bind_none, if_true, if_false, Bool.false_eq_true, Bool.true_eq_false, Int.toNat_natCast, Int.natCast_nonneg, beq_iff_eq, decide_eq_true_eq, Int.ofNat_lt, lay_ext a b, h2, true_and, false_and, decide_false]
 by_cases h3 : a.flag = b.flag
 rotate_left
 ·have h3' : (!a.flag == b.flag) = true := by
   revert h3; cases a.flag <;> cases b.flag <;> simp
  simp only [h1, h2, h3', bne_self_eq_false, Option.bind_eq_bind, Option.bind_some, Option.bind_none, if_true, if_false, Bool.false_eq_true, Bool.true_eq_false, Int.toNat_natCast, Int.natCast_nonneg, beq_iff_eq, decide_eq_true_eq, Int.ofNat_lt, lay_ext a b, h3, true_and, false_and, decide_false]
 have h3' : (!a.flag == b.flag) = false := by rw [h3]; cases b.flag <;> rfl
 by_cases he : a.parts.length = b.parts.length
 ·have h := loop _ 0 he rfl
  simp only [Int.natCast_zero, Int.ofNat_eq_natCast, List.drop_zero] at h
  have he' : ((a.parts.length : Int) != (b.parts.length : Int)) = false := by simp [he]
  simp only [h1, h2, h3', he', bne_self_eq_false, Option.bind_eq_bind, Option.bind_some, Option.bind_none, if_true, if_false, Bool.false_eq_true, Bool.true_eq_false, Int.toNat_natCast, Int.natCast_nonneg, beq_iff_eq, decide_eq_true_eq, Int.ofNat_lt, h]
  by_cases hp : a.parts = b.parts
  ·simp [lay_ext a b, h1, h2, h3, hp]
  ·simp [lay_ext a b, h1, h2, h3, hp]
 ·have he' : ((a.parts.length : Int) != (b.parts.length : Int)) = true := by simp; omega
  have hp : ¬ a.parts = b.parts := fun h => he (by rw [h])
  simp only [h1, h2, h3', he', bne_self_eq_false, Option.bind_eq_bind, Option.bind_some, Option.bind_none, if_true, if_false, Bool.false_eq_true, Bool.true_eq_false, Int.toNat_natCast, Int.natCast_nonneg, beq_iff_eq, decide_eq_true_eq, Int.ofNat_lt]
  simp [lay_ext a b, hp]
theorem f60 (a b : List ByteArray) (hn : a.length ≤ 9223372036854775807) : n_60 (a, b, ()) = some (decide (a = b), ()) := by
 have loop : ∀ (m k : Nat), a.length = b.length → a.length - k = m → n_60l4 (a, b, a.length, k, ()) = some (if a.drop k = b.drop k then .inr () else .inl (false, ())) := by
  intro m
  induction m with
  | zero =>
   intro k he hm
   have hlt : ¬ k < a.length := by omega
   have hlt' : ¬ k < b.length := by omega
   rw [n_60l4]
   simp only [Option.bind_eq_bind, Option.bind_some, Option.bind_none, if_true, if_false, Bool.false_eq_true, Bool.true_eq_false, Int.toNat_natCast, Int.natCast_nonneg, beq_iff_eq, decide_eq_true_eq, Int.ofNat_lt, hlt, drop_end hlt, drop_end hlt']
  | succ m ihm =>
   intro k he hm
   have hlt : k < a.length := by omega
   obtain ⟨p, hp1, hpm, hd, g1, g2⟩ := at_lt hlt
   obtain ⟨q, hq1, hqm, hd', _, _⟩ := at_lt (xs := b) (k := k) (by omega)
   have hih := ihm (k + 1) he (by omega)
   rw [n_60l4]
   simp only [Option.bind_eq_bind, Option.bind_some, Option.bind_none, if_true, if_false, Bool.false_eq_true, Bool.true_eq_false, Int.toNat_natCast, Int.natCast_nonneg, beq_iff_eq, decide_eq_true_eq, Int.ofNat_lt, hlt, hp1, hq1, ba_beq, wrap_succ hlt hn, hih]
   rw [hd, hd']
   by_cases hpq : p = q
   ·simp [hpq]
   ·simp [hpq]
 rw [n_60]
 by_cases he : a.length = b.length
 ·have h := loop _ 0 he rfl
  simp only [Int.natCast_zero, Int.ofNat_eq_natCast, List.drop_zero] at h
  have he' : ((a.length : Int) != (b.length : Int)) = false := by simp [he]
  simp only [he', Option.bind_eq_bind, Option.bind_some, Option.bind_none, if_true, if_false, Bool.false_eq_true, Bool.true_eq_false, Int.toNat_natCast, Int.natCast_nonneg, beq_iff_eq, decide_eq_true_eq, Int.ofNat_lt, h]
  by_cases hp : a = b
  ·simp [hp]
  ·simp [hp]
 ·have he' : ((a.length : Int) != (b.length : Int)) = true := by simp; omega
  have hp : ¬ a = b := fun h => he (by rw [h])
  simp only [he', Option.bind_eq_bind, Option.bind_some, Option.bind_none, if_true, if_false, Bool.false_eq_true, Bool.true_eq_false, Int.toNat_natCast, Int.natCast_nonneg, beq_iff_eq, decide_eq_true_eq, Int.ofNat_lt, hp, decide_false]
theorem f15 (a b : List ByteArray) (hn : a.length ≤ 9223372036854775807) : n_15 (a, b, ()) = some (decide (a = b), ()) := by
 have loop : ∀ (m k : Nat), a.length = b.length → a.length - k = m → n_15l4 (a, b, k, ()) = some (if a.drop k = b.drop k then .inr () else .inl (false, ())) := by
  intro m
  induction m with
  | zero =>
   intro k he hm
   have hlt : ¬ k < a.length := by omega
   have hlt' : ¬ k < b.length := by omega
   rw [n_15l4]
   simp only [Option.bind_eq_bind, Option.bind_some, Option.bind_none, if_true, if_false, Bool.false_eq_true, Bool.true_eq_false, Int.toNat_natCast, Int.natCast_nonneg, beq_iff_eq, decide_eq_true_eq, Int.ofNat_lt, hlt, drop_end hlt, drop_end hlt']
  | succ m ihm =>
   intro k he hm
   have hlt : k < a.length := by omega
   obtain ⟨p, hp1, hpm, hd, g1, g2⟩ := at_lt hlt
   obtain ⟨q, hq1, hqm, hd', _, _⟩ := at_lt (xs := b) (k := k) (by omega)
   have hih := ihm (k + 1) he (by omega)
   rw [n_15l4]
   simp only [Option.bind_eq_bind, Option.bind_some, Option.bind_none, if_true, if_false, Bool.false_eq_true, Bool.true_eq_false, Int.toNat_natCast, Int.natCast_nonneg, beq_iff_eq, decide_eq_true_eq, Int.ofNat_lt, hlt, hp1, hq1, ba_beq, wrap_succ hlt hn, hih]
   rw [hd, hd']
   by_cases hpq : p = q
   ·simp [hpq]
   ·simp [hpq]
 rw [n_15]
 by_cases he : a.length = b.length
 ·have h := loop _ 0 he rfl
  simp only [Int.natCast_zero, Int.ofNat_eq_natCast, List.drop_zero] at h
  have he' : ((a.length : Int) != (b.length : Int)) = false := by simp [he]
  simp only [he', Option.bind_eq_bind, Option.bind_some, Option.bind_none, if_true, if_false, Bool.false_eq_true, Bool.true_eq_false, Int.toNat_natCast, Int.natCast_nonneg, beq_iff_eq, decide_eq_true_eq, Int.ofNat_lt, h]
  by_cases hp : a = b
  ·simp [hp]
  ·simp [hp]
 ·have he' : ((a.length : Int) != (b.length : Int)) = true := by simp; omega
  have hp : ¬ a = b := fun h => he (by rw [h])
  simp only [he', Option.bind_eq_bind, Option.bind_some, Option.bind_none, if_true, if_false, Bool.false_eq_true, Bool.true_eq_false, Int.toNat_natCast, Int.natCast_nonneg, beq_iff_eq, decide_eq_true_eq, Int.ofNat_lt, hp, decide_false]
structure Item.Fits (x : Item) : Prop where
 names : x.names.length ≤ 9223372036854775807
 layout : x.layout.Fits
theorem f59 (a b : Item) (ha : a.Fits) (hb : b.Fits) : n_59 (a, b, ()) = some (decide (a = b), ()) := by
 unfold n_59
 simp only [ba_beq, f60 a.names b.names ha.names, eta, f61 a.layout ha.layout b.layout hb.layout, Option.bind_eq_bind, Option.bind_some, Option.bind_none, if_true, if_false, Bool.false_eq_true, Bool.true_eq_false, Int.toNat_natCast, Int.natCast_nonneg, beq_iff_eq, decide_eq_true_eq, Int.ofNat_lt, item_ext a b]
 by_cases h1 : a.kind = b.kind <;> by_cases h2 : a.name0 = b.name0 <;> by_cases h3 : a.n = b.n <;> by_cases h4 : a.names = b.names <;> by_cases h5 : a.layout = b.layout <;> simp [h1, h2, h3, h4, h5]
theorem f58 (a b : List Item) (ha : ∀ x ∈ a, x.Fits) (hb : ∀ x ∈ b, x.Fits) (hn : a.length ≤ 9223372036854775807) : n_58c59 (a, b, ()) = some (decide (a = b), ()) := by
 have loop : ∀ (m k : Nat), a.length = b.length → a.length - k = m → n_58c59l4 (b, a, a.length, k, ()) = some (if a.drop k = b.drop k then .inr () else .inl (false, ())) := by
  intro m
  induction m with
  | zero =>
   intro k he hm
   have hlt : ¬ k < a.length := by omega
   have hlt' : ¬ k < b.length := by omega
   rw [n_58c59l4]
   simp only [Option.bind_eq_bind, Option.bind_some, Option.bind_none, if_true, if_false, Bool.false_eq_true, Bool.true_eq_false, Int.toNat_natCast, Int.natCast_nonneg, beq_iff_eq, decide_eq_true_eq, Int.ofNat_lt, hlt, drop_end hlt, drop_end hlt']
  | succ m ihm =>
   intro k he hm
   have hlt : k < a.length := by omega
   obtain ⟨p, hp1, hpm, hd, g1, g2⟩ := at_lt hlt
   obtain ⟨q, hq1, hqm, hd', _, _⟩ := at_lt (xs := b) (k := k) (by omega)
   have hih := ihm (k + 1) he (by omega)
   rw [n_58c59l4]
   simp only [Option.bind_eq_bind, Option.bind_some, Option.bind_none, if_true, if_false, Bool.false_eq_true, Bool.true_eq_false, Int.toNat_natCast, Int.natCast_nonneg, beq_iff_eq, decide_eq_true_eq, Int.ofNat_lt, hlt, hp1, hq1, f59 p q (ha p hpm) (hb q hqm), wrap_succ hlt hn, hih]
   rw [hd, hd']
   by_cases hpq : p = q
   ·simp [hpq]
   ·simp [hpq]
 rw [n_58c59]
 by_cases he : a.length = b.length
 ·have h := loop _ 0 he rfl
  simp only [Int.natCast_zero, Int.ofNat_eq_natCast, List.drop_zero] at h
  have he' : ((a.length : Int) != (b.length : Int)) = false := by simp [he]
  simp only [he', Option.bind_eq_bind, Option.bind_some, Option.bind_none, if_true, if_false, Bool.false_eq_true, Bool.true_eq_false, Int.toNat_natCast, Int.natCast_nonneg, beq_iff_eq, decide_eq_true_eq, Int.ofNat_lt, h]
  by_cases hp : a = b
  ·simp [hp]
  ·simp [hp]
 ·have he' : ((a.length : Int) != (b.length : Int)) = true := by simp; omega
  have hp : ¬ a = b := fun h => he (by rw [h])
  simp only [he', Option.bind_eq_bind, Option.bind_some, Option.bind_none, if_true, if_false, Bool.false_eq_true, Bool.true_eq_false, Int.toNat_natCast, Int.natCast_nonneg, beq_iff_eq, decide_eq_true_eq, Int.ofNat_lt, hp, decide_false]
theorem f31 (a b : List Item) (ha : ∀ x ∈ a, x.Fits) (hb : ∀ x ∈ b, x.Fits) (hn : a.length ≤ 9223372036854775807) : n_31 (a, b, ()) = some (decide (a = b), ()) := by
 unfold n_31; simp only [f58 a b ha hb hn, Option.bind_eq_bind, Option.bind_some, Option.bind_none, if_true, if_false, Bool.false_eq_true, Bool.true_eq_false, Int.toNat_natCast, Int.natCast_nonneg, beq_iff_eq, decide_eq_true_eq, Int.ofNat_lt]
theorem f14 (a b : List Item) (ha : ∀ x ∈ a, x.Fits) (hb : ∀ x ∈ b, x.Fits) (hn : a.length ≤ 9223372036854775807) : n_14 (a, b, ()) = some (decide (a = b), ()) := by
 have loop : ∀ (m k : Nat), a.length = b.length → a.length - k = m → n_14l4 (a, b, k, ()) = some (if a.drop k = b.drop k then .inr () else .inl (false, ())) := by
  intro m
  induction m with
  | zero =>
   intro k he hm
   have hlt : ¬ k < a.length := by omega
   have hlt' : ¬ k < b.length := by omega
   rw [n_14l4]
   simp only [Option.bind_eq_bind, Option.bind_some, Option.bind_none, if_true, if_false, Bool.false_eq_true, Bool.true_eq_false, Int.toNat_natCast, Int.natCast_nonneg, beq_iff_eq, decide_eq_true_eq, Int.ofNat_lt, hlt, drop_end hlt, drop_end hlt']
  | succ m ihm =>
   intro k he hm
   have hlt : k < a.length := by omega
   obtain ⟨p, hp1, hpm, hd, g1, g2⟩ := at_lt hlt
   obtain ⟨q, hq1, hqm, hd', _, _⟩ := at_lt (xs := b) (k := k) (by omega)
   have hih := ihm (k + 1) he (by omega)
   have fp := ha p hpm
   have fq := hb q hqm
   have hih2 : n_14l4 (a, b, IntKind.i64.wrap ((k : Int) + 1), ()) = some (if List.drop (k + 1) a = List.drop (k + 1) b then Sum.inr () else Sum.inl (false, ())) := by rw [wrap_succ hlt hn]; exact hih
   rw [n_14l4]
   simp only [Option.bind_eq_bind, Option.bind_some, Option.bind_none, if_true, if_false, Bool.false_eq_true, Bool.true_eq_false, Int.toNat_natCast, Int.natCast_nonneg, beq_iff_eq, decide_eq_true_eq, Int.ofNat_lt, hlt, hp1, hq1, ba_beq, f15 p.names q.names fp.names, eta, f39 p.layout fp.layout q.layout fq.layout, wrap_succ hlt hn, hih]
   rw [hd, hd']
   by_cases h1 : p.kind = q.kind
   rotate_left
   ·simp [h1, item_ext p q]
   by_cases h2 : p.name0 = q.name0
   rotate_left
   ·simp [h1, h2, item_ext p q]
   by_cases h3 : p.n = q.n
   rotate_left
   ·simp [h1, h2, h3, item_ext p q]
   by_cases h4 : p.names = q.names
   rotate_left
   ·simp [h1, h2, h3, h4, item_ext p q]
   by_cases h5 : p.layout = q.layout
   ·simp [h1, h2, h3, h4, h5, item_ext p q, hih2]
   ·simp [h1, h2, h3, h4, h5, item_ext p q]
 rw [n_14]
 by_cases he : a.length = b.length
 ·have h := loop _ 0 he rfl
  simp only [Int.natCast_zero, Int.ofNat_eq_natCast, List.drop_zero] at h
  have he' : ((a.length : Int) != (b.length : Int)) = false := by simp [he]
  simp only [he', Option.bind_eq_bind, Option.bind_some, Option.bind_none, if_true, if_false, Bool.false_eq_true, Bool.true_eq_false, Int.toNat_natCast, Int.natCast_nonneg, beq_iff_eq, decide_eq_true_eq, Int.ofNat_lt, h]
  by_cases hp : a = b
  ·simp [hp]
  ·simp [hp]
 ·have he' : ((a.length : Int) != (b.length : Int)) = true := by simp; omega
  have hp : ¬ a = b := fun h => he (by rw [h])
  simp only [he', Option.bind_eq_bind, Option.bind_some, Option.bind_none, if_true, if_false, Bool.false_eq_true, Bool.true_eq_false, Int.toNat_natCast, Int.natCast_nonneg, beq_iff_eq, decide_eq_true_eq, Int.ofNat_lt, hp, decide_false]
theorem allL_drop {ps : List Layout} {k : Nat} {p : Layout} (h : ps.drop k = p :: ps.drop (k + 1)) : Layout.allL (ps.drop k) = p.all ++ Layout.allL (ps.drop (k + 1)) := by
 rw [h, Layout.allL]
theorem len_allL : ∀ ps : List Layout, ps.length ≤ (Layout.allL ps).length
 | [] => by simp
 | p :: r => by
  have := len_allL r
  simp only [Layout.allL, List.length_append, List.length_cons]
  rw [p.all_eq]
  simp only [List.length_cons]
  omega
theorem f57 : ∀ l : Layout, l.all.length ≤ 1048576 → n_57 (l, ()) = some (l.all, ()) := by
 refine Layout.ind fun l ih h => ?_
 have he := l.all_eq
 have hl : (Layout.allL l.parts).length + 1 ≤ 1048576 := by rw [he] at h; simpa using h
 have hn := len_allL l.parts
 have loop : ∀ (m k : Nat) (acc : List Layout), l.parts.length - k = m → acc.length + (Layout.allL (l.parts.drop k)).length ≤ 1048576 → n_57l3 (k, l, acc, ()) = some (acc ++ Layout.allL (l.parts.drop k), ()) := by
  intro m
  induction m with
  | zero =>
   intro k acc hm hb
   have hlt : ¬ k < l.parts.length := by omega
   rw [n_57l3]
   simp only [Option.bind_eq_bind, Option.bind_some, Option.bind_none, if_true, if_false, Bool.false_eq_true, Bool.true_eq_false, Int.toNat_natCast, Int.natCast_nonneg, beq_iff_eq, decide_eq_true_eq, Int.ofNat_lt, hlt, drop_end hlt, Layout.allL, List.append_nil]
  | succ m ihm =>
   intro k acc hm hb
   have hlt : k < l.parts.length := by omega
   obtain ⟨p, hp1, hpm, hd, g1, g2⟩ := at_lt hlt
   have e := allL_drop hd
   rw [e, List.length_append] at hb
   have hp := ih p hpm (by omega)
   have hih := ihm (k + 1) (acc ++ p.all) (by omega) (by rw [List.length_append]; omega)
   have h4 : acc.length + p.all.length ≤ 4294967296 := by omega
   rw [n_57l3]
   simp only [Option.bind_eq_bind, Option.bind_some, Option.bind_none, if_true, if_false, Bool.false_eq_true, Bool.true_eq_false, Int.toNat_natCast, Int.natCast_nonneg, beq_iff_eq, decide_eq_true_eq, Int.ofNat_lt, hlt, hp1, hp, h4, wrap_succ hlt (by omega), hih]
   rw [e, List.append_assoc]
 have h2 := loop _ 0 [l] rfl (by simp only [List.drop_zero, List.length_singleton]; omega)
 simp only [Int.natCast_zero, Int.ofNat_eq_natCast, List.drop_zero] at h2
 rw [n_57]
 simp only [h2, Option.bind_eq_bind, Option.bind_some, Option.bind_none, if_true, if_false, Bool.false_eq_true, Bool.true_eq_false, Int.toNat_natCast, Int.natCast_nonneg, beq_iff_eq, decide_eq_true_eq, Int.ofNat_lt, he, List.singleton_append]
def Item.wt (x : Item) : Nat := x.names.length + x.layout.all.length
def wts (l : List Item) : Nat := (l.map Item.wt).sum
theorem f30 (a : List Item) (h : wts a + a.length ≤ 1048576) : ∃ b, n_30 (a, ()) = some (b, ()) := by
 have loop : ∀ (m k n : Nat), a.length - k = m → n + wts (a.drop k) ≤ 1048576 → ∃ n' : Int, n_30l3 (a, (n : Int), (k : Int), ()) = some (a, n', ()) := by
  intro m
  induction m with
  | zero =>
   intro k n hm hb
   have hlt : ¬ k < a.length := by omega
   refine ⟨n, ?_⟩
   rw [n_30l3]
   simp only [Option.bind_eq_bind, Option.bind_some, Option.bind_none, if_true, if_false, Bool.false_eq_true, Bool.true_eq_false, Int.toNat_natCast, Int.natCast_nonneg, beq_iff_eq, decide_eq_true_eq, Int.ofNat_lt, hlt]
  | succ m ihm =>
   intro k n hm hb
   have hlt : k < a.length := by omega
   obtain ⟨p, hp1, hpm, hd, g1, g2⟩ := at_lt hlt
   have e : wts (a.drop k) = p.wt + wts (a.drop (k + 1)) := by rw [hd]; simp [wts]
   rw [e] at hb
   have hw : p.wt = p.names.length + p.layout.all.length := rfl
   obtain ⟨n', hih⟩ := ihm (k + 1) (n + (p.names.length + p.layout.all.length)) (by omega) (by omega)
   refine ⟨n', ?_⟩
   have e1 : IntKind.i64.wrap ((p.names.length : Int) + (p.layout.all.length : Int)) = ((p.names.length + p.layout.all.length : Nat) : Int) := by rw [wrap64 (by omega) (by omega)]; omega
   have e2 : IntKind.i64.wrap ((n : Int) + ((p.names.length + p.layout.all.length : Nat) : Int)) = ((n + (p.names.length + p.layout.all.length) : Nat) : Int) := by rw [wrap64 (by omega) (by omega)]; omega
   rw [n_30l3]
   simp only [Option.bind_eq_bind, Option.bind_some, Option.bind_none, if_true, if_false, Bool.false_eq_true, Bool.true_eq_false, Int.toNat_natCast, Int.natCast_nonneg, beq_iff_eq, decide_eq_true_eq, Int.ofNat_lt, hlt, hp1, eta, f57 p.layout (by omega), e1, e2, wrap_succ hlt (by omega), hih]
 obtain ⟨n', h2⟩ := loop _ 0 0 rfl (by simp only [List.drop_zero]; omega)
 simp only [Int.natCast_zero, Int.ofNat_eq_natCast, List.drop_zero] at h2
 rw [n_30]
 simp only [h2, Option.bind_eq_bind, Option.bind_some, Option.bind_none, if_true, if_false, Bool.false_eq_true, Bool.true_eq_false, Int.toNat_natCast, Int.natCast_nonneg, beq_iff_eq, decide_eq_true_eq, Int.ofNat_lt]
 split
 ·exact ⟨_, rfl⟩
 ·exact ⟨_, rfl⟩
theorem law7 (a b : List Item) (ha : ∀ x ∈ a, x.Fits) (hb : ∀ x ∈ b, x.Fits) (wa : wts a + a.length ≤ 1048576) (wb : wts b + b.length ≤ 1048576) : n_7 (a, b, ()) = some (true, ()) := by
 obtain ⟨x, hx⟩ := f30 a wa
 obtain ⟨y, hy⟩ := f30 b wb
 have hk := known_true
 have r1 := f31 a b ha hb (by omega)
 have r2 := f31 a a ha ha (by omega)
 have r3 := f14 a b ha hb (by omega)
 unfold n_7
 simp only [hx, hy, Option.bind_eq_bind, Option.bind_some, Option.bind_none, if_true, if_false, Bool.false_eq_true, Bool.true_eq_false, Int.toNat_natCast, Int.natCast_nonneg, beq_iff_eq, decide_eq_true_eq, Int.ofNat_lt]
 cases x <;> cases y <;> simp [hk, r1, r2, r3, hx, hy]
end Go.Proofs.YtpelkenpapfadaaGreatDoor
end
section
namespace Go.Proofs.YtpelkenpapfadaaGreatDoor
open Go.Tx
theorem ok_int64 {n : Int} (h : Ok vw (.int .i64) n) : -9223372036854775808 ≤ n ∧ n ≤ 9223372036854775807 := by
 cases h with
 | int h => simpa [Lit.wf, IntKind.min, IntKind.max, IntKind.signed, IntKind.bits] using h
theorem ok_sl {e : Ty SN} {xs : List (den NN e)} (h : Ok vw (.sl e) xs) : xs.length ≤ 9223372036854775807 ∧ ∀ x ∈ xs, Ok vw e x := by
 cases h with
 | sl h1 h2 =>
  have hmx : (maxLen : Nat) = 9223372036854775807 := by decide
  rw [hmx] at h1
  exact ⟨h1, h2⟩
theorem ok_st {i : SN} {x : NN i} (h : Ok vw (.st i) x) : ∀ l ∈ cellsN i x, Ok vw l.t l.x := by
 cases h with
 | st h => exact h
theorem fits_of_ok : ∀ l : Layout, Ok vw (.st .layoutT) l → l.Fits := by
 refine Layout.ind fun l ih h => ?_
 have hc := ok_st h
 have h0 := ok_int64 (hc ⟨.int .i64, l.kind⟩ (by simp [cellsN]))
 have h1 := ok_int64 (hc ⟨.int .i64, l.n⟩ (by simp [cellsN]))
 obtain ⟨h2, h3⟩ := ok_sl (hc ⟨.sl (.st .layoutT), l.parts⟩ (by simp [cellsN]))
 intro q hq
 rw [l.all_eq] at hq
 rcases List.mem_cons.1 hq with rfl | hq
 ·exact ⟨h0, h1, h2⟩
 ·have : ∀ ps : List Layout, (∀ p ∈ ps, p.Fits) → q ∈ Layout.allL ps → q.fit := by
   intro ps
   induction ps with
   | nil => intro _ hq; simp [Layout.allL] at hq
   | cons p r ihr =>
    intro hp hq
    rw [Layout.allL, List.mem_append] at hq
    rcases hq with hq | hq
    ·exact hp p List.mem_cons_self q hq
    ·exact ihr (fun p' hp' => hp p' (List.mem_cons_of_mem _ hp')) hq
  exact this l.parts (fun p hp => ih p hp (h3 p hp)) hq
theorem sum_take {α : Type} {xs : List α} {ns : List Nat} (f : α → Nat) (hl : ns.length = xs.length) (h : ∀ (i : Nat) (x : α) (n : Nat), xs[i]? = some x → ns[i]? = some n → f x ≤ n) : (xs.map f).sum ≤ ns.sum := by
 induction xs generalizing ns with
 | nil => simp
 | cons x xs ih =>
  cases ns with
  | nil => simp at hl
  | cons n ns =>
   have h0 := h 0 x n rfl rfl
   have h1 := ih (ns := ns) (by simpa using hl) fun i y m hy hm => h (i + 1) y m (by simpa using hy) (by simpa using hm)
   simp only [List.map_cons, List.sum_cons]
   omega
theorem bk_str {s : ByteArray} {m : Nat} (h : Bk vw .str s m) : s.size + 1 ≤ m := by
 cases h with
 | str h => exact h
theorem sum_ones {α : Type} : ∀ xs : List α, (xs.map fun _ => 1).sum = xs.length
 | [] => rfl
 | x :: r => by have := sum_ones r; simp only [List.map_cons, List.sum_cons, List.length_cons, this]; omega
theorem allL_sum : ∀ ps : List Layout, (Layout.allL ps).length = (ps.map fun p => p.all.length).sum
 | [] => by simp [Layout.allL]
 | p :: r => by rw [Layout.allL, List.length_append, List.map_cons, List.sum_cons, allL_sum r]
theorem parts_bk {ps : List Layout} {m : Nat} (ih : ∀ p ∈ ps, ∀ m, Bk vw (.st .layoutT) p m → p.all.length ≤ m) (h : Bk vw (.sl (.st .layoutT)) ps m) : (Layout.allL ps).length + 1 ≤ m := by
 rw [allL_sum]
 cases h with
 | sl ns j1 j2 j3 =>
  have := sum_take (xs := ps) (fun p => p.all.length) j1 fun i x n hx hn => ih x (List.mem_of_getElem? hx) n (j2 i x n hx hn)
  omega
theorem all_bk : ∀ (l : Layout) (m : Nat), Bk vw (.st .layoutT) l m → l.all.length ≤ m := by
 refine Layout.ind fun l ih m h => ?_
 cases h with
 | st ns h1 h2 h3 =>
  have h1 : ns.length = (cellsN .layoutT l).length := h1
  have hc : cellsN .layoutT l = [⟨.int .i64, l.kind⟩, ⟨.int .i64, l.n⟩, ⟨.bool, l.flag⟩, ⟨.sl (.st .layoutT), l.parts⟩] := by simp [cellsN]
  rw [hc] at h1
  match ns, h1 with
  | [a, b, c, d], _ =>
   have g (j : Nat) (x : Leaf NN) (n : Nat) (hl : (cellsN .layoutT l)[j]? = some x) (hn : [a, b, c, d][j]? = some n) : Bk vw x.t x.x n := h2 j x n hl hn
   rw [hc] at g
   have k := parts_bk ih (g 3 ⟨.sl (.st .layoutT), l.parts⟩ d rfl rfl)
   rw [l.all_eq, List.length_cons]
   simp only [List.sum_cons, List.sum_nil] at h3
   omega
theorem names_bk {l : List ByteArray} {m : Nat} (h : Bk vw (.sl .str) l m) : l.length + 1 ≤ m := by
 cases h with
 | sl ns j1 j2 j3 =>
  have := sum_take (xs := l) (fun _ => 1) j1 fun i x n hx hn => by have := bk_str (j2 i x n hx hn); omega
  rw [sum_ones] at this
  omega
theorem wt_bk {x : Item} {m : Nat} (h : Bk vw (.st .itemT) x m) : x.wt + 1 ≤ m := by
 cases h with
 | st ns h1 h2 h3 =>
  have h1 : ns.length = (cellsN .itemT x).length := h1
  have hc : cellsN .itemT x = [⟨(.int .i64), x.kind⟩, ⟨.str, x.name0⟩, ⟨(.int .i64), x.n⟩, ⟨(.sl .str), x.names⟩, ⟨(.int .i64), x.layout.kind⟩, ⟨(.int .i64), x.layout.n⟩, ⟨.bool, x.layout.flag⟩, ⟨(.sl (.st .layoutT)), x.layout.parts⟩] := by simp [cellsN]
  rw [hc] at h1
  match ns, h1 with
  | [a, b, c, d, e, f, p, q], _ =>
   have g (j : Nat) (y : Leaf NN) (n : Nat) (hl : (cellsN .itemT x)[j]? = some y) (hn : [a, b, c, d, e, f, p, q][j]? = some n) : Bk vw y.t y.x n := h2 j y n hl hn
   rw [hc] at g
   have k : (Layout.allL x.layout.parts).length + 1 ≤ q := parts_bk (fun p _ => all_bk p) (g 7 ⟨.sl (.st .layoutT), x.layout.parts⟩ q rfl rfl)
   have k2 : x.names.length + 1 ≤ d := names_bk (g 3 ⟨(.sl .str), x.names⟩ d rfl rfl)
   unfold Item.wt
   rw [x.layout.all_eq, List.length_cons]
   simp only [List.sum_cons, List.sum_nil] at h3
   omega
theorem sum_add {α : Type} (f : α → Nat) : ∀ xs : List α, (xs.map fun x => f x + 1).sum = (xs.map f).sum + xs.length
 | [] => rfl
 | x :: r => by simp only [List.map_cons, List.sum_cons, List.length_cons, sum_add f r]; omega
theorem wts_bk {l : List Item} {m : Nat} (h : Bk vw (.sl (.st .itemT)) l m) : wts l + l.length ≤ m := by
 cases h with
 | sl ns j1 j2 j3 =>
  have := sum_take (xs := l) (fun x => x.wt + 1) j1 fun i x n hx hn => wt_bk (j2 i x n hx hn)
  rw [sum_add] at this
  unfold wts
  omega
theorem item_fits {x : Item} (h : Ok vw (.st .itemT) x) : x.Fits := by
 have hc := ok_st h
 refine ⟨(ok_sl (hc ⟨.sl .str, x.names⟩ (by simp [cellsN]))).1, fits_of_ok x.layout (.st fun l hl => ?_)⟩
 have hl : l ∈ [(⟨.int .i64, x.layout.kind⟩ : Leaf NN), ⟨.int .i64, x.layout.n⟩, ⟨.bool, x.layout.flag⟩, ⟨.sl (.st .layoutT), x.layout.parts⟩] := hl
 rcases List.mem_cons.1 hl with rfl | hl
 ·exact hc ⟨.int .i64, x.layout.kind⟩ (by simp [cellsN])
 rcases List.mem_cons.1 hl with rfl | hl
 ·exact hc ⟨.int .i64, x.layout.n⟩ (by simp [cellsN])
 rcases List.mem_cons.1 hl with rfl | hl
 ·exact hc ⟨.bool, x.layout.flag⟩ (by simp [cellsN])
 rcases List.mem_cons.1 hl with rfl | hl
 ·exact hc ⟨.sl (.st .layoutT), x.layout.parts⟩ (by simp [cellsN])
 ·cases hl
theorem headSames_true (a b : List Item) (h0 : Ok vw (.sl (.st .itemT)) a) (h1 : Ok vw (.sl (.st .itemT)) b) (m0 : Nat) (b0 : Bk vw (.sl (.st .itemT)) a m0) (m1 : Nat) (b1 : Bk vw (.sl (.st .itemT)) b m1) (hm : m0 + m1 ≤ 1048576) :
  n_7 (a, b, ()) = some (true, ()) := by
 have w0 := wts_bk b0
 have w1 := wts_bk b1
 exact law7 a b (fun x hx => item_fits ((ok_sl h0).2 x hx)) (fun x hx => item_fits ((ok_sl h1).2 x hx)) (by omega) (by omega)
end Go.Proofs.YtpelkenpapfadaaGreatDoor
end
section
namespace Go.Proofs.YtpelkenpapfadaaGreatDoor.headSames
open Go.ChangeShapes Go.WideShapes Go.ChangeAt Go.RowKit Go.Awp Go.Tx
open Go.Proofs.Tryz (prog)
theorem laidOut : laidOutB prog = true := by kernel_rfl
theorem own : ownKnob prog.godebug = none := by kernel_rfl
theorem contract (x0 : (List Item)) (x1 : (List Item)) (h0 : Ok vw (.sl (.st .itemT)) x0) (h1 : Ok vw (.sl (.st .itemT)) x1) (m0 : Nat) (b0 : Bk vw (.sl (.st .itemT)) x0 m0) (m1 : Nat) (b1 : Bk vw (.sl (.st .itemT)) x1 m1) (hm : m0 + m1 ≤ 1048576) : FnOk prog 7 [.d (encD szN encN (.sl (.st .itemT)) x0), .d (encD szN encN (.sl (.st .itemT)) x1)] [] (.d (.v (.bool true))) [] :=
 kcast (by kernel_rfl) (n_7_ok (x0, x1, ()) (true, ()) (.lf .bool true) (headSames_true x0 x1 h0 h1 m0 b0 m1 b1 hm) rfl)
noncomputable def w0 (os : Os) : World := World.laidAll prog os Rows.headSamesUptoRow.laid
theorem laid_met (os : Os) : laidMetH prog Rows.headSamesUptoRow.laid ((w0 os).forCall (fun _ _ => 0) ⟨#[], #[.slice none 0 0, .slice none 0 0], []⟩).memory := by
 rw [MakeChecks.laidMetH_plain _ _ _ (by kernel_rfl)]; exact laidMet_laidAll _ (by kernel_rfl) (by kernel_rfl)
set_option maxRecDepth 100000 in
theorem reads (os : Os) {H : Type} (enc : TypeId × Value → H) : DataW.whole enc prog ((w0 os).forCall (fun _ _ => 0) ⟨#[], #[.slice none 0 0, .slice none 0 0], []⟩).memory Tryz.f7.params.toList Rows.headSamesSpec.vars false #[.slice none 0 0, .slice none 0 0].toList 8 = some ([.nil, .nil], [], []) := by kernel_rfl
set_option maxRecDepth 100000 in
theorem lifted (os : Os) (started : os.Started) (H : Type) (enc : TypeId × Value → H) (F : Stop.Interp) :
  ReturnsInHanded {} Tryz.checked os 7 .any ((Rows.OpenSpec.upto Rows.headSamesSpec).preRow enc prog Tryz.f7 Rows.headSamesUptoRow.domain false Rows.headSamesUptoRow.laid) (((Rows.OpenSpec.upto Rows.headSamesSpec).at F).post enc prog Tryz.f7 false true false false) := by
 have hok : Input.okWideB prog ((w0 os).forCall (fun _ _ => 0) ⟨#[], #[.slice none 0 0, .slice none 0 0], []⟩) 7 ⟨#[], #[.slice none 0 0, .slice none 0 0], []⟩ = true := by kernel_rfl
 refine returnsInHanded_of_row (C := Tryz.checked) (s := (Rows.OpenSpec.upto Rows.headSamesSpec)) own started (by kernel_rfl) Tryz.func7
  ⟨w0 os, fun _ _ => 0, ⟨#[], #[.slice none 0 0, .slice none 0 0], []⟩, World.laidAll_os _ _ _, World.shaped_of_ZipB (by kernel_rfl) (by kernel_rfl), (Input.okWide_of_okWideB (base := 0) hok).1, (Input.okWide_of_okWideB hok).2,
   OpenSpec.preRow_of_cond 8 (reads os enc) (by kernel_rfl) (fun k hk => by cases hk; kernel_rfl) (by kernel_rfl) (laid_met os),
   by simp only [Assume.holds]; exact ⟨by simp, by simp, fun _ => Modest.zero, by simp, by simp⟩⟩ ?_
 intro W base args ds gs before hval0 hW _ hcond _ hL _ _
 have hval : ∀ (j : Nat) t v, Tryz.f7.params[j]? = some t → args[j]? = some v → Value.okWide prog W .any base t v := hval0
 have hW' := hW
 obtain ⟨p, q, hA0, hV, rfl, hfz, hnd⟩ := hW'
 have hA : DataW.TrodAll enc prog W 0 (fun _ => true) true Tryz.f7.params.toList args.toList ds p := hA0
 rw [Tryz.params7] at hA hval
 obtain ⟨v0, vs0, d0, ds0, p0, q0, ha0, rfl, rfl, h0, r0⟩ := trodAll_cons hA
 obtain ⟨v1, vs1, d1, ds1, p1, q1, ha1, rfl, rfl, h1, r1⟩ := trodAll_cons r0
 subst ha1
 obtain ⟨rfl, rfl, rfl⟩ := trodAll_nil r1
 obtain rfl : args = #[v0, v1] := by cases args; simp_all
 obtain ⟨rfl, rfl⟩ := trodVars_none hV
 have hk : Rows.uptoBulkAll ([d0, d1] ++ []) ≤ 1048576 := of_decide_eq_true (hcond _ rfl)
 have hlt0 : ∀ x ∈ p0, x.block < W.heap.size := fun x hx => by simpa using hW.lt x (by simp [hx])
 have hd0 := dbulk_le d0
 have hlt1 : ∀ x ∈ p1, x.block < W.heap.size := fun x hx => by simpa using hW.lt x (by simp [hx])
 have hd1 := dbulk_le d1
 obtain ⟨x0, ok0, hr0, hb0⟩ := open_valB facts (τ := (.sl (.st .itemT))) rfl (hval 0 23 v0 rfl rfl) h0
 obtain ⟨x1, ok1, hr1, hb1⟩ := open_valB facts (τ := (.sl (.st .itemT))) rfl (hval 1 23 v1 rfl rfl) h1
 have hm : dbulk d0 + dbulk d1 ≤ 1048576 := by
  simp only [List.append_nil, Rows.uptoBulkAll] at hk
  omega
 refine ((contract x0 x1 ok0 ok1 _ hb0 _ hb1 hm).closed (W := W) (vs := #[v0, v1]) (gmem_laid hL) ⟨rfl, fun i c x hc hx => ?_⟩).mono fun e W' ⟨he, hb⟩ => ?_
 ·match i with
  | 0 => simp at hc hx; subst hc; subst hx; exact .d hr0
  | 1 => simp at hc hx; subst hc; subst hx; exact .d hr1
  | i + 2 => simp at hc
 subst he
 exact ⟨_, rfl, _, _, _, [], _, [], hW, trodAll_cons_mk (shut_bool Tryz.underlying4 _) trodAll_mk0,
  (trodAll_cons_mk (Below.trod laidOut (by kernel_rfl) (of_decide_eq_true (by kernel_rfl)) h0 hb hlt0) (trodAll_cons_mk (Below.trod laidOut (by kernel_rfl) (of_decide_eq_true (by kernel_rfl)) h1 hb hlt1) trodAll_mk0)), rfl, hb.frame _, (fun h => by cases h)⟩
theorem row : Rows.HeadSamesUptoSaid :=
 OpenClaim.holds_of_cond 7 Tryz.f7 rfl rfl rfl rfl rfl rfl rfl ⟨rfl, rfl, rfl, rfl, rfl⟩ rfl rfl rfl rfl rfl (by kernel_rfl) Tryz.func7 (by kernel_rfl)
  (of_decide_eq_true (by kernel_rfl)) (by unfold Func.isWrapper; first | (rw [if_pos (by decide +kernel)]; kernel_rfl) | (rw [if_neg (by decide +kernel)]; exact ⟨rfl, rfl⟩))
  (fun os started H enc _ F => by rw [OpenClaim.pre_eq_preRow]; exact lifted os started H enc F)
theorem proved : Rows.HeadSamesUptoCardSaid :=
 Claim7.holds_tied_plain_at .later [] [.data, .data, .data, .data, .sentinel, .sentinel, .pinned] true (true, "916f158e77d004ae93d5d2cc5423fa60a285d3b19f506b9995d5e7b77cb84306") true row (fun _ h => by cases h) (by kernel_rfl) (fun _ h => by cases h) headSamesUpto_row_tie rfl ⟨rfl, rfl⟩ (by kernel_rfl) rfl
  (fun f fn hf hfn => by
    obtain rfl : f = 7 := Option.some.inj ((show prog.funcNamed "mandrel/mandrellaw24.HeadSames" = some 7 by kernel_rfl).symm.trans hf) |>.symm
    obtain rfl : fn = Tryz.f7 := (Option.some.inj (Tryz.func7.symm.trans hfn)).symm
    exact ⟨by kernel_rfl, fun j t ht => by
     rw [Tryz.params7] at ht
     have hm : t ∈ ([23, 23] : List TypeId) := by simpa using Array.mem_of_getElem? ht
     have hall : (([23, 23] : List TypeId).all fun u => !prog.wantsStandIn u) = true := by kernel_rfl
     exact (show prog.wantsStandIn t = false by simpa using List.all_eq_true.1 hall t hm)⟩)
  (by kernel_rfl)
end Go.Proofs.YtpelkenpapfadaaGreatDoor.headSames
end
