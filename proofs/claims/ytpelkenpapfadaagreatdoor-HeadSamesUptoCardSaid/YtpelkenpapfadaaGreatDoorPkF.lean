/-
  Texts of this claim, joined by a program of mine: what the theorem uses.
-/
import Derived.Test.YtpelkenpapfadaaGreatDoorPkE
import Derived.Test.YtpelkenpapfadaaGreatDoorPkC
set_option linter.unusedVariables false
section
namespace Go.Proofs.YtpelkenpapfadaaGreatDoor
open Go.Awp Go.Tx
open IntKind (i64)
open Go.Proofs.Tryz (prog)
set_option maxHeartbeats 4000000
set_option maxRecDepth 100000
noncomputable def c86r1 : Cut SN := ⟨[(2, .dat .bool)], []⟩
noncomputable def sh86 : Shape vw := { rcut := c86r1 }
noncomputable def pre86 : Nat → Bool := fun _ => false
noncomputable def sig86 : Sig vw := { params := [.dat (.int .u8)], rcut := c86r1, rvars := [.tmp 2] }
noncomputable def n_86 (v : Int × Unit) : Option (Bool × Unit) :=
 (if decide (v.1 ≥ (97 : Int)) = true then
    if decide (v.1 ≤ (122 : Int)) = true then
     some ((true, ()))
    else if decide (v.1 ≥ (65 : Int)) = true then
     if decide (v.1 ≤ (90 : Int)) = true then
      some ((true, ()))
     else some ((v.1 == (95 : Int), ()))
    else some ((v.1 == (95 : Int), ()))
   else if decide (v.1 ≥ (65 : Int)) = true then
    if decide (v.1 ≤ (90 : Int)) = true then
     some ((true, ()))
    else some ((v.1 == (95 : Int), ()))
   else some ((v.1 == (95 : Int), ()))) >>= fun x1 =>
 some ((x1.1, ()))
noncomputable def call86 : Caller vw := c0
noncomputable def x86 : Xc vw := { P := prog, n := 21, call := call86, pre := pre86, sh := sh86, regs := fun k => match k with | 1 => some c86r1 | _ => none }
theorem call86_ok : CallerOk prog call86 := c0_ok
theorem n_86_ok : SigOk prog 86 sig86 n_86 := fun v r x h hx =>
 fn_ok (X := x86) (sig := sig86) rfl Tryz.func86 (c := bodyOf Tryz.f86) (by kernel_rfl) Tryz.ntmps86 (by kernel_rfl) (by kernel_rfl) rfl Ty.mixed call86_ok rfl (fun C hP hN => (lok_all (kcast (by kernel_rfl) trivial))) (kcast (by kernel_rfl) h) x hx
noncomputable def sh87 : Shape vw := { rcut := c86r1 }
noncomputable def pre87 : Nat → Bool := fun _ => false
noncomputable def sig87 : Sig vw := { params := [.dat (.int .u8)], rcut := c86r1, rvars := [.tmp 2] }
noncomputable def n_87 (v : Int × Unit) : Option (Bool × Unit) :=
 (if decide (v.1 ≥ (48 : Int)) = true then
    some ((decide (v.1 ≤ (57 : Int)), ()))
   else some ((false, ()))) >>= fun x1 =>
 some ((x1.1, ()))
noncomputable def call87 : Caller vw := c0
noncomputable def x87 : Xc vw := { P := prog, n := 9, call := call87, pre := pre87, sh := sh87, regs := fun k => match k with | 1 => some c86r1 | _ => none }
theorem call87_ok : CallerOk prog call87 := c0_ok
theorem n_87_ok : SigOk prog 87 sig87 n_87 := fun v r x h hx =>
 fn_ok (X := x87) (sig := sig87) rfl Tryz.func87 (c := bodyOf Tryz.f87) (by kernel_rfl) Tryz.ntmps87 (by kernel_rfl) (by kernel_rfl) rfl Ty.mixed call87_ok rfl (fun C hP hN => (lok_all (kcast (by kernel_rfl) trivial))) (kcast (by kernel_rfl) h) x hx
noncomputable def c52sa9d1l3 : Cut SN := ⟨[(0, .dat .str), (3, .vh 1003), (4, .dat (.int .i64))], [(1003, .vec 9 .str)]⟩
noncomputable def c52sa9d1l9 : Cut SN := ⟨[(0, .dat .str), (3, .vh 1003), (4, .dat (.int .i64)), (5, .dat (.int .i64))], [(1003, .vec 9 .str)]⟩
noncomputable def c52sa9d1r6 : Cut SN := ⟨[(0, .dat .str), (3, .vh 1003), (4, .dat (.int .i64)), (5, .dat (.int .i64)), (6, .dat (.int .u8)), (14, .dat .bool)], [(1003, .vec 9 .str)]⟩
noncomputable def c52sa9d1r9 : Cut SN := ⟨[(0, .dat .str), (3, .vh 1003), (4, .dat (.int .i64)), (5, .dat (.int .i64)), (51, .dat .bool)], [(1003, .vec 9 .str)]⟩
noncomputable def c52sa9d1r12 : Cut SN := ⟨[(0, .dat .str), (3, .vh 1003), (4, .dat (.int .i64)), (5, .dat (.int .i64)), (70, .dat .bool)], [(1003, .vec 9 .str)]⟩
noncomputable def c52sa9d1e0 : Cut SN := ⟨[(3, .vh 1003)], [(1003, .vec 9 .str)]⟩
noncomputable def c52sa9d1z : Cut SN := ⟨[(2, .vh 2002)], [(2002, .vec 9 .str)]⟩
noncomputable def sh52sa9d1 : Shape vw := { exits := fun id => match id with | 0 => c52sa9d1e0 | 1 => c52sa9d1l3 | 3 => c52sa9d1l9 | 5 => c52sa9d1l9 | _ => ⟨[], []⟩, rcut := c52sa9d1z }
noncomputable def pre52sa9d1 : Nat → Bool := fun _ => false
noncomputable def sig52sa9d1 : Sig vw := { params := [.dat .str], rcut := c52sa9d1z, rvars := [.tmp 2], keep := [2002] }
noncomputable def u_52sa9d1l9 (k : Nat) : (ByteArray × Int × Int × (List ByteArray) × Unit → Option ((ByteArray × Int × Int × (List ByteArray) × Unit))) :=
 Nat.rec (motive := fun _ => (ByteArray × Int × Int × (List ByteArray) × Unit → Option ((ByteArray × Int × Int × (List ByteArray) × Unit)))) (fun _ => none) (fun _ g v =>
 (if decide (i64.wrap (v.2.1 + v.2.2.1) < (↑v.1.size : Int)) = true then
    if (0 : Int) ≤ i64.wrap (v.2.1 + v.2.2.1) then
     v.1[(i64.wrap (v.2.1 + v.2.2.1)).toNat]? >>= fun x1 =>
     n_86 ((↑x1.toNat : Int), ()) >>= fun x2 =>
     if x2.1 = true then
      some ((v.1, v.2.1, v.2.2.1, true, v.2.2.2.1, ()))
     else if (0 : Int) ≤ i64.wrap (v.2.1 + v.2.2.1) then
      v.1[(i64.wrap (v.2.1 + v.2.2.1)).toNat]? >>= fun x3 =>
      n_87 ((↑x3.toNat : Int), ()) >>= fun x4 =>
      some ((v.1, v.2.1, v.2.2.1, x4.1, v.2.2.2.1, ()))
     else none
    else none
   else some ((v.1, v.2.1, v.2.2.1, false, v.2.2.2.1, ()))) >>= fun x1 =>
 if x1.2.2.2.1 = true then
  g (x1.1, x1.2.1, i64.wrap (x1.2.2.1 + (1 : Int)), x1.2.2.2.2.1, ())
 else some ((x1.1, x1.2.1, x1.2.2.1, x1.2.2.2.2.1, ()))) k
noncomputable def n_52sa9d1l9 (v : ByteArray × Int × Int × (List ByteArray) × Unit) : Option ((ByteArray × Int × Int × (List ByteArray) × Unit)) := (u_52sa9d1l9 400) v
noncomputable def u_52sa9d1l12 (k : Nat) : (ByteArray × Int × Int × (List ByteArray) × Unit → Option ((ByteArray × Int × Int × (List ByteArray) × Unit))) :=
 Nat.rec (motive := fun _ => (ByteArray × Int × Int × (List ByteArray) × Unit → Option ((ByteArray × Int × Int × (List ByteArray) × Unit)))) (fun _ => none) (fun _ g v =>
 (if decide (i64.wrap (v.2.1 + v.2.2.1) < (↑v.1.size : Int)) = true then
    if (0 : Int) ≤ i64.wrap (v.2.1 + v.2.2.1) then
     v.1[(i64.wrap (v.2.1 + v.2.2.1)).toNat]? >>= fun x1 =>
     n_87 ((↑x1.toNat : Int), ()) >>= fun x2 =>
     some ((v.1, v.2.1, v.2.2.1, x2.1, v.2.2.2.1, ()))
    else none
   else some ((v.1, v.2.1, v.2.2.1, false, v.2.2.2.1, ()))) >>= fun x1 =>
 if x1.2.2.2.1 = true then
  g (x1.1, x1.2.1, i64.wrap (x1.2.2.1 + (1 : Int)), x1.2.2.2.2.1, ())
 else some ((x1.1, x1.2.1, x1.2.2.1, x1.2.2.2.2.1, ()))) k
noncomputable def n_52sa9d1l12 (v : ByteArray × Int × Int × (List ByteArray) × Unit) : Option ((ByteArray × Int × Int × (List ByteArray) × Unit)) := (u_52sa9d1l12 400) v
noncomputable def u_52sa9d1l3 (k : Nat) : (ByteArray × Int × (List ByteArray) × Unit → Option (((List ByteArray) × Unit))) :=
 Nat.rec (motive := fun _ => (ByteArray × Int × (List ByteArray) × Unit → Option (((List ByteArray) × Unit)))) (fun _ => none) (fun _ g v =>
 if decide (v.2.1 < (↑v.1.size : Int)) = true then
  (if (0 : Int) ≤ v.2.1 then
     v.1[v.2.1.toNat]? >>= fun x1 =>
     (if ((↑x1.toNat : Int) == (32 : Int)) = true then
        some ((v.1, v.2.1, (1 : Int), (↑x1.toNat : Int), true, v.2.2.1, ()))
       else if ((↑x1.toNat : Int) == (9 : Int)) = true then
        some ((v.1, v.2.1, (1 : Int), (↑x1.toNat : Int), true, v.2.2.1, ()))
       else some ((v.1, v.2.1, (1 : Int), (↑x1.toNat : Int), (↑x1.toNat : Int) == (10 : Int), v.2.2.1, ()))) >>= fun x2 =>
     if x2.2.2.2.2.1 = true then
      some (Sum.inr (x2.1, i64.wrap (x2.2.1 + (1 : Int)), x2.2.2.2.2.2.1, ()))
     else n_86 (x2.2.2.2.1, ()) >>= fun x3 =>
     if x3.1 = true then
      n_52sa9d1l9 (x2.1, x2.2.1, x2.2.2.1, x2.2.2.2.2.2.1, ()) >>= fun x4 =>
      some (Sum.inl (x4.1, x4.2.1, x4.2.2.1, x4.2.2.2.1, ()))
     else n_87 (x2.2.2.2.1, ()) >>= fun x4 =>
     if x4.1 = true then
      n_52sa9d1l12 (x2.1, x2.2.1, x2.2.2.1, x2.2.2.2.2.2.1, ()) >>= fun x5 =>
      some (Sum.inl (x5.1, x5.2.1, x5.2.2.1, x5.2.2.2.1, ()))
     else some (Sum.inl (x2.1, x2.2.1, x2.2.2.1, x2.2.2.2.2.2.1, ()))
    else none) >>= fun x1 => match x1 with
    | .inl y1 => if (0 : Int) ≤ y1.2.1 ∧ y1.2.1 ≤ i64.wrap (y1.2.1 + y1.2.2.1) ∧ i64.wrap (y1.2.1 + y1.2.2.1) ≤ (↑y1.1.size : Int) then
      if y1.2.2.2.1.length + [y1.1.extract y1.2.1.toNat (i64.wrap (y1.2.1 + y1.2.2.1)).toNat].length ≤ (4294967296 : Nat) then
       g (y1.1, i64.wrap (y1.2.1 + y1.2.2.1), y1.2.2.2.1 ++ [y1.1.extract y1.2.1.toNat (i64.wrap (y1.2.1 + y1.2.2.1)).toNat], ())
      else none
     else none
    | .inr y1 => g (y1.1, y1.2.1, y1.2.2.1, ())
 else some ((v.2.2.1, ()))) k
noncomputable def n_52sa9d1l3 (v : ByteArray × Int × (List ByteArray) × Unit) : Option (((List ByteArray) × Unit)) := (u_52sa9d1l3 400) v
noncomputable def n_52sa9d1 (v : ByteArray × Unit) : Option ((List ByteArray) × Unit) :=
 n_52sa9d1l3 (v.1, (0 : Int), [], ()) >>= fun x1 =>
 some ((x1.1, ()))
noncomputable def call52sa9d1 : Caller vw := cP prog 86 sig86 n_86 (cP prog 87 sig87 n_87 c0)
noncomputable def x52sa9d1 : Xc vw := { P := prog, n := 86, call := call52sa9d1, pre := pre52sa9d1, sh := sh52sa9d1, joins := fun k => match k with | 14 => some (c52sa9d1l9, [.norm, .exit 1]) | _ => none, regs := fun k => match k with | 6 => some c52sa9d1r6 | 9 => some c52sa9d1r9 | 12 => some c52sa9d1r12 | _ => none, loops := fun k => match k with | 3 => some { cut := c52sa9d1l3, alts := [.exit 0], F := n_52sa9d1l3 } | 9 => some { cut := c52sa9d1l9, alts := [.exit 3], F := n_52sa9d1l9 } | 12 => some { cut := c52sa9d1l9, alts := [.exit 5], F := n_52sa9d1l12 } | _ => none }
theorem call52sa9d1_ok : CallerOk prog call52sa9d1 := cP_ok n_86_ok rfl rfl (cP_ok n_87_ok rfl rfl c0_ok)
theorem n_52sa9d1l9_ok (C : Ctx) (hP : C.P = prog) (hN : C.N = 86 ∧ Fx C pre52sa9d1) : LoopOk C (loopNo (loopNo (bodyOf Tryz.f52) 0) 0) (sh := sh52sa9d1) { cut := c52sa9d1l9, alts := [.exit 3], F := n_52sa9d1l9 } :=
 fun v out h => (Nat.rec (motive := fun k => ∀ v out, (u_52sa9d1l9 k) v = some out → (AWpL C (loopNo (loopNo (bodyOf Tryz.f52) 0) 0) (Go.Tx.encS vw (conc vw c52sa9d1l9 v)) (OutQ sh52sa9d1 [.exit 3] out))) (fun v out h => by have h : (none : Option ((ByteArray × Int × Int × (List ByteArray) × Unit))) = some out := h; cases h) (fun k ih v out h => loop_step (X := x52sa9d1) (b := (loopNo (loopNo (bodyOf Tryz.f52) 0) 0)) hP hN Ty.mixed call52sa9d1_ok (lok_all (X := x52sa9d1) (c := (loopNo (loopNo (bodyOf Tryz.f52) 0) 0)) (kcast (by kernel_rfl : True = AllB (LoopsP C (x52sa9d1)) (loopsIn (loopNo (loopNo (bodyOf Tryz.f52) 0) 0))) trivial)) ih (kcast (by kernel_rfl) h)) 400 : ∀ v out, (u_52sa9d1l9 400) v = some out → (AWpL C (loopNo (loopNo (bodyOf Tryz.f52) 0) 0) (Go.Tx.encS vw (conc vw c52sa9d1l9 v)) (OutQ sh52sa9d1 [.exit 3] out))) v out h
theorem n_52sa9d1l12_ok (C : Ctx) (hP : C.P = prog) (hN : C.N = 86 ∧ Fx C pre52sa9d1) : LoopOk C (loopNo (loopNo (bodyOf Tryz.f52) 0) 1) (sh := sh52sa9d1) { cut := c52sa9d1l9, alts := [.exit 5], F := n_52sa9d1l12 } :=
 fun v out h => (Nat.rec (motive := fun k => ∀ v out, (u_52sa9d1l12 k) v = some out → (AWpL C (loopNo (loopNo (bodyOf Tryz.f52) 0) 1) (Go.Tx.encS vw (conc vw c52sa9d1l9 v)) (OutQ sh52sa9d1 [.exit 5] out))) (fun v out h => by have h : (none : Option ((ByteArray × Int × Int × (List ByteArray) × Unit))) = some out := h; cases h) (fun k ih v out h => loop_step (X := x52sa9d1) (b := (loopNo (loopNo (bodyOf Tryz.f52) 0) 1)) hP hN Ty.mixed call52sa9d1_ok (lok_all (X := x52sa9d1) (c := (loopNo (loopNo (bodyOf Tryz.f52) 0) 1)) (kcast (by kernel_rfl : True = AllB (LoopsP C (x52sa9d1)) (loopsIn (loopNo (loopNo (bodyOf Tryz.f52) 0) 1))) trivial)) ih (kcast (by kernel_rfl) h)) 400 : ∀ v out, (u_52sa9d1l12 400) v = some out → (AWpL C (loopNo (loopNo (bodyOf Tryz.f52) 0) 1) (Go.Tx.encS vw (conc vw c52sa9d1l9 v)) (OutQ sh52sa9d1 [.exit 5] out))) v out h
theorem n_52sa9d1l3_ok (C : Ctx) (hP : C.P = prog) (hN : C.N = 86 ∧ Fx C pre52sa9d1) : LoopOk C (loopNo (bodyOf Tryz.f52) 0) (sh := sh52sa9d1) { cut := c52sa9d1l3, alts := [.exit 0], F := n_52sa9d1l3 } :=
 fun v out h => (Nat.rec (motive := fun k => ∀ v out, (u_52sa9d1l3 k) v = some out → (AWpL C (loopNo (bodyOf Tryz.f52) 0) (Go.Tx.encS vw (conc vw c52sa9d1l3 v)) (OutQ sh52sa9d1 [.exit 0] out))) (fun v out h => by have h : (none : Option (((List ByteArray) × Unit))) = some out := h; cases h) (fun k ih v out h => loop_step (X := x52sa9d1) (b := (loopNo (bodyOf Tryz.f52) 0)) hP hN Ty.mixed call52sa9d1_ok (lok_all (X := x52sa9d1) (c := (loopNo (bodyOf Tryz.f52) 0)) (kcast (by kernel_rfl : AllB (LoopsP C (x52sa9d1)) [(loopNo (loopNo (bodyOf Tryz.f52) 0) 0), (loopNo (loopNo (bodyOf Tryz.f52) 0) 1)] = AllB (LoopsP C (x52sa9d1)) (loopsIn (loopNo (bodyOf Tryz.f52) 0))) ⟨loop_at (X := x52sa9d1) (b := (loopNo (loopNo (bodyOf Tryz.f52) 0) 0)) (by kernel_rfl) (n_52sa9d1l9_ok C hP hN), loop_at (X := x52sa9d1) (b := (loopNo (loopNo (bodyOf Tryz.f52) 0) 1)) (by kernel_rfl) (n_52sa9d1l12_ok C hP hN), trivial⟩)) ih (kcast (by kernel_rfl) h)) 400 : ∀ v out, (u_52sa9d1l3 400) v = some out → (AWpL C (loopNo (bodyOf Tryz.f52) 0) (Go.Tx.encS vw (conc vw c52sa9d1l3 v)) (OutQ sh52sa9d1 [.exit 0] out))) v out h
theorem n_52sa9d1_ok : SigOk prog 52 sig52sa9d1 n_52sa9d1 := fun v r x h hx =>
 fn_ok (X := x52sa9d1) (sig := sig52sa9d1) rfl Tryz.func52 (c := bodyOf Tryz.f52) (by kernel_rfl) Tryz.ntmps52 (by kernel_rfl) (by kernel_rfl) rfl Ty.mixed call52sa9d1_ok rfl (fun C hP hN => (lok_all (kcast (by kernel_rfl : AllB (LoopsP C (x52sa9d1)) [(loopNo (bodyOf Tryz.f52) 0)] = AllB (LoopsP C (x52sa9d1)) (loopsIn (bodyOf Tryz.f52))) ⟨loop_at (X := x52sa9d1) (b := (loopNo (bodyOf Tryz.f52) 0)) (by kernel_rfl) (n_52sa9d1l3_ok C hP hN), trivial⟩))) (kcast (by kernel_rfl) h) x hx
noncomputable def c150l2 : Cut SN := ⟨[(2, .dat (.int .i64)), (4, .bp 4 0)], [(4, .iter)]⟩
noncomputable def c150e0 : Cut SN := ⟨[(2, .dat (.int .i64))], []⟩
noncomputable def sh150 : Shape vw := { exits := fun id => match id with | 0 => c150e0 | _ => ⟨[], []⟩, rcut := c150e0 }
noncomputable def pre150 : Nat → Bool := fun _ => false
noncomputable def sig150 : Sig vw := { params := [.dat .str], rcut := c150e0, rvars := [.tmp 2] }
noncomputable def u_150l2 (k : Nat) : (Int × ByteArray × Int × Unit → Option ((Int × Unit))) :=
 Nat.rec (motive := fun _ => (Int × ByteArray × Int × Unit → Option ((Int × Unit)))) (fun _ => none) (fun _ g v =>
 if (0 : Int) ≤ v.2.2.1 then
  if v.2.2.1 < (↑v.2.1.size : Int) then
   g (i64.wrap (v.1 + (1 : Int)), v.2.1, v.2.2.1 + Bs.wid v.2.1 v.2.2.1, ())
  else some ((v.1, ()))
 else none) k
noncomputable def n_150l2 (v : Int × ByteArray × Int × Unit) : Option ((Int × Unit)) := (u_150l2 400) v
noncomputable def n_150 (v : ByteArray × Unit) : Option (Int × Unit) :=
 n_150l2 ((0 : Int), v.1, (0 : Int), ()) >>= fun x1 =>
 some ((x1.1, ()))
noncomputable def call150 : Caller vw := c0
noncomputable def x150 : Xc vw := { P := prog, n := 10, call := call150, pre := pre150, sh := sh150, loops := fun k => match k with | 2 => some { cut := c150l2, alts := [.exit 0], F := n_150l2 } | _ => none }
theorem call150_ok : CallerOk prog call150 := c0_ok
theorem n_150l2_ok (C : Ctx) (hP : C.P = prog) (hN : C.N = 10 ∧ Fx C pre150) : LoopOk C (loopNo (bodyOf Tryz.f150) 0) (sh := sh150) { cut := c150l2, alts := [.exit 0], F := n_150l2 } :=
 fun v out h => (Nat.rec (motive := fun k => ∀ v out, (u_150l2 k) v = some out → (AWpL C (loopNo (bodyOf Tryz.f150) 0) (Go.Tx.encS vw (conc vw c150l2 v)) (OutQ sh150 [.exit 0] out))) (fun v out h => by have h : (none : Option ((Int × Unit))) = some out := h; cases h) (fun k ih v out h => loop_step (X := x150) (b := (loopNo (bodyOf Tryz.f150) 0)) hP hN Ty.mixed call150_ok (lok_all (X := x150) (c := (loopNo (bodyOf Tryz.f150) 0)) (kcast (by kernel_rfl : True = AllB (LoopsP C (x150)) (loopsIn (loopNo (bodyOf Tryz.f150) 0))) trivial)) ih (kcast (by kernel_rfl) h)) 400 : ∀ v out, (u_150l2 400) v = some out → (AWpL C (loopNo (bodyOf Tryz.f150) 0) (Go.Tx.encS vw (conc vw c150l2 v)) (OutQ sh150 [.exit 0] out))) v out h
theorem n_150_ok : SigOk prog 150 sig150 n_150 := fun v r x h hx =>
 fn_ok (X := x150) (sig := sig150) rfl Tryz.func150 (c := bodyOf Tryz.f150) (by kernel_rfl) Tryz.ntmps150 (by kernel_rfl) (by kernel_rfl) rfl Ty.mixed call150_ok rfl (fun C hP hN => (lok_all (kcast (by kernel_rfl : AllB (LoopsP C (x150)) [(loopNo (bodyOf Tryz.f150) 0)] = AllB (LoopsP C (x150)) (loopsIn (bodyOf Tryz.f150))) ⟨loop_at (X := x150) (b := (loopNo (bodyOf Tryz.f150) 0)) (by kernel_rfl) (n_150l2_ok C hP hN), trivial⟩))) (kcast (by kernel_rfl) h) x hx
noncomputable def c151z : Cut SN := ⟨[(2, .dat (.int .i32)), (3, .dat (.int .i64))], []⟩
noncomputable def sig151 : Sig vw := { params := [.dat .str], rcut := c151z, rvars := [.tmp 2, .tmp 3] }
noncomputable def n_151 (v : ByteArray × Unit) : Option (Int × Int × Unit) :=
 some ((Lib.decodeGo v.1).1, (Lib.decodeGo v.1).2, ())
theorem n_151_ok : SigOk prog 151 sig151 n_151 := fun v r x h hx => by
 obtain ⟨s, u⟩ := v
 cases h; cases hx
 exact kcast (by kernel_rfl) (FnOk.pure (P := prog) (f := 151) (args := [.d (.v (.string s))]) (r := .tup [.d (.v (.int .i32 (Lib.decodeGo s).1)), .d (.v (.int .i64 (Lib.decodeGo s).2))]) (by kernel_rfl) fun E M w vs hg hm hv => by
  obtain ⟨v1, rfl, h1⟩ := hreps_one hv
  rw [h1.dv]
  exact (Tryz.utf8_DecodeRuneInString s w (tabs_utf8 hg hm)).mono fun e w' ⟨he, hw⟩ => ⟨_, he, hrep_pair, hw⟩)
noncomputable def c119l6 : Cut SN := ⟨[(0, .dat .str), (1, .dat (.int .i64)), (6, .vh 1006), (7, .dat (.int .i64))], [(1006, .vec 9 .str)]⟩
noncomputable def c119j4 : Cut SN := ⟨[(0, .dat .str), (1, .dat (.int .i64))], []⟩
noncomputable def c119j13 : Cut SN := ⟨[(6, .vh 1006)], [(1006, .vec 9 .str)]⟩
noncomputable def c119r2 : Cut SN := ⟨[(0, .dat .str), (1, .dat (.int .i64)), (5, .dat (.int .i64)), (18, .dat .bool)], []⟩
noncomputable def c119e0 : Cut SN := ⟨[(0, .dat .str), (1, .dat (.int .i64)), (6, .vh 1006)], [(1006, .vec 9 .str)]⟩
noncomputable def c119z : Cut SN := ⟨[(4, .dat (.sl .str))], []⟩
noncomputable def sh119 : Shape vw := { exits := fun id => match id with | 0 => c119e0 | _ => ⟨[], []⟩, rcut := c119z }
noncomputable def pre119 : Nat → Bool := fun _ => false
noncomputable def sig119 : Sig vw := { params := [.dat .str, .dat (.int .i64)], rcut := c119z, rvars := [.tmp 4] }
noncomputable def u_119l6 (k : Nat) : (ByteArray × Int × Int × (List ByteArray) × Unit → Option ((ByteArray × Int × (List ByteArray) × Unit))) :=
 Nat.rec (motive := fun _ => (ByteArray × Int × Int × (List ByteArray) × Unit → Option ((ByteArray × Int × (List ByteArray) × Unit)))) (fun _ => none) (fun _ g v =>
 if decide (v.2.2.1 < i64.wrap (v.2.1 - (1 : Int))) = true then
  n_151 (v.1, ()) >>= fun x1 =>
  if (0 : Int) ≤ (0 : Int) ∧ (0 : Int) ≤ x1.2.1 ∧ x1.2.1 ≤ (↑v.1.size : Int) then
   if (0 : Int) ≤ v.2.2.1 ∧ v.2.2.1 < (↑v.2.2.2.1.length : Int) then
    v.2.2.2.1[v.2.2.1.toNat]? >>= fun x2 =>
    if (0 : Int) ≤ x1.2.1 ∧ x1.2.1 ≤ (↑v.1.size : Int) ∧ (↑v.1.size : Int) ≤ (↑v.1.size : Int) then
     g (v.1.extract x1.2.1.toNat (↑v.1.size : Int).toNat, v.2.1, i64.wrap (v.2.2.1 + (1 : Int)), v.2.2.2.1.set v.2.2.1.toNat (v.1.extract (Int.toNat (0 : Int)) x1.2.1.toNat), ())
    else none
   else none
  else none
 else some ((v.1, v.2.1, v.2.2.2.1, ()))) k
noncomputable def n_119l6 (v : ByteArray × Int × Int × (List ByteArray) × Unit) : Option ((ByteArray × Int × (List ByteArray) × Unit)) := (u_119l6 400) v
noncomputable def n_119 (v : ByteArray × Int × Unit) : Option ((List ByteArray) × Unit) :=
 n_150 (v.1, ()) >>= fun x1 =>
 ((if decide (v.2.1 < (0 : Int)) = true then
     some ((v.1, v.2.1, x1.1, true, ()))
    else some ((v.1, v.2.1, x1.1, decide (v.2.1 > x1.1), ()))) >>= fun x2 =>
   if x2.2.2.2.1 = true then
    some ((x2.1, x2.2.2.1, ()))
   else some ((x2.1, x2.2.1, ()))) >>= fun x2 =>
 if (0 : Int) ≤ x2.2.1 then
  if x2.2.1 ≤ (4294967296 : Int) then
   n_119l6 (x2.1, x2.2.1, (0 : Int), List.replicate x2.2.1.toNat (ByteArray.mk #[]), ()) >>= fun x3 =>
   (if decide (x3.2.1 > (0 : Int)) = true then
      if (0 : Int) ≤ i64.wrap (x3.2.1 - (1 : Int)) ∧ i64.wrap (x3.2.1 - (1 : Int)) < (↑x3.2.2.1.length : Int) then
       x3.2.2.1[(i64.wrap (x3.2.1 - (1 : Int))).toNat]? >>= fun x4 =>
       some ((x3.2.2.1.set (i64.wrap (x3.2.1 - (1 : Int))).toNat x3.1, ()))
      else none
     else some ((x3.2.2.1, ()))) >>= fun x4 =>
   some ((x4.1, ()))
  else none
 else none
noncomputable def call119 : Caller vw := cP prog 150 sig150 n_150 (cP prog 151 sig151 n_151 c0)
noncomputable def x119 : Xc vw := { P := prog, n := 50, call := call119, pre := pre119, sh := sh119, joins := fun k => match k with | 4 => some (c119j4, [.norm]) | 13 => some (c119j13, [.norm]) | _ => none, regs := fun k => match k with | 2 => some c119r2 | _ => none, loops := fun k => match k with | 6 => some { cut := c119l6, alts := [.exit 0], F := n_119l6 } | _ => none }
theorem call119_ok : CallerOk prog call119 := cP_ok n_150_ok rfl rfl (cP_ok n_151_ok rfl rfl c0_ok)
theorem n_119l6_ok (C : Ctx) (hP : C.P = prog) (hN : C.N = 50 ∧ Fx C pre119) : LoopOk C (loopNo (bodyOf Tryz.f119) 0) (sh := sh119) { cut := c119l6, alts := [.exit 0], F := n_119l6 } :=
 fun v out h => (Nat.rec (motive := fun k => ∀ v out, (u_119l6 k) v = some out → (AWpL C (loopNo (bodyOf Tryz.f119) 0) (Go.Tx.encS vw (conc vw c119l6 v)) (OutQ sh119 [.exit 0] out))) (fun v out h => by have h : (none : Option ((ByteArray × Int × (List ByteArray) × Unit))) = some out := h; cases h) (fun k ih v out h => loop_step (X := x119) (b := (loopNo (bodyOf Tryz.f119) 0)) hP hN Ty.mixed call119_ok (lok_all (X := x119) (c := (loopNo (bodyOf Tryz.f119) 0)) (kcast (by kernel_rfl : True = AllB (LoopsP C (x119)) (loopsIn (loopNo (bodyOf Tryz.f119) 0))) trivial)) ih (kcast (by kernel_rfl) h)) 400 : ∀ v out, (u_119l6 400) v = some out → (AWpL C (loopNo (bodyOf Tryz.f119) 0) (Go.Tx.encS vw (conc vw c119l6 v)) (OutQ sh119 [.exit 0] out))) v out h
theorem n_119_ok : SigOk prog 119 sig119 n_119 := fun v r x h hx =>
 fn_ok (X := x119) (sig := sig119) rfl Tryz.func119 (c := bodyOf Tryz.f119) (by kernel_rfl) Tryz.ntmps119 (by kernel_rfl) (by kernel_rfl) rfl Ty.mixed call119_ok rfl (fun C hP hN => (lok_all (kcast (by kernel_rfl : AllB (LoopsP C (x119)) [(loopNo (bodyOf Tryz.f119) 0)] = AllB (LoopsP C (x119)) (loopsIn (bodyOf Tryz.f119))) ⟨loop_at (X := x119) (b := (loopNo (bodyOf Tryz.f119) 0)) (by kernel_rfl) (n_119l6_ok C hP hN), trivial⟩))) (kcast (by kernel_rfl) h) x hx
noncomputable def c120z : Cut SN := ⟨[(4, .dat (.int .i64))], []⟩
noncomputable def sig120 : Sig vw := { params := [.dat .str, .dat .str], rcut := c120z, rvars := [.tmp 4] }
noncomputable def n_120 (v : ByteArray × ByteArray × Unit) : Option (Int × Unit) :=
 match v.2.1.data.toList with | [c] => some (((Lib.countByte v.1.data.toList c : Nat) : Int), ()) | _ => none
theorem n_120_ok : SigOk prog 120 sig120 n_120 := fun v r x h hx => by
 obtain ⟨s, c, u⟩ := v
 unfold n_120 at h
 simp only at h
 split at h
 ·rename_i c0 hc
  obtain rfl : c = ⟨#[c0]⟩ := by
   obtain ⟨⟨l⟩⟩ := c
   simp only at hc
   rw [hc]
  cases h; cases hx
  exact kcast (by kernel_rfl) (FnOk.pure (P := prog) (f := 120) (args := [.d (.v (.string s)), .d (.v (.string ⟨#[c0]⟩))]) (r := .d (.v (.int .i64 (((Lib.countByte s.data.toList c0 : Nat) : Int))))) (by kernel_rfl) fun E M w vs hg hm hv => by
   obtain ⟨v1, v2, rfl, h1, h2⟩ := hreps_two hv
   rw [h1.dv, h2.dv]
   exact (Tryz.strings_Count_one s c0 w).mono fun e w' ⟨he, hw⟩ => ⟨_, he, .d (.v _), hw ▸ Go.RowKit.Below.refl _ _⟩)
 ·cases h
noncomputable def sig121 : Sig vw := { params := [.dat .str, .dat .str], rcut := c120z, rvars := [.tmp 4] }
noncomputable def n_121 (v : ByteArray × ByteArray × Unit) : Option (Int × Unit) :=
 match v.2.1.data.toList with | [c] => some (Lib.indexByte v.1.data.toList c, ()) | _ => none
theorem n_121_ok : SigOk prog 121 sig121 n_121 := fun v r x h hx => by
 obtain ⟨s, c, u⟩ := v
 unfold n_121 at h
 simp only at h
 split at h
 ·rename_i c0 hc
  obtain rfl : c = ⟨#[c0]⟩ := by
   obtain ⟨⟨l⟩⟩ := c
   simp only at hc
   rw [hc]
  cases h; cases hx
  exact kcast (by kernel_rfl) (FnOk.pure (P := prog) (f := 121) (args := [.d (.v (.string s)), .d (.v (.string ⟨#[c0]⟩))]) (r := .d (.v (.int .i64 (Lib.indexByte s.data.toList c0)))) (by kernel_rfl) fun E M w vs hg hm hv => by
   obtain ⟨v1, v2, rfl, h1, h2⟩ := hreps_two hv
   rw [h1.dv, h2.dv]
   exact (Tryz.strings_Index_one s c0 w).mono fun e w' ⟨he, hw⟩ => ⟨_, he, .d (.v _), hw ▸ Go.RowKit.Below.refl _ _⟩)
 ·cases h
noncomputable def c96l11 : Cut SN := ⟨[(0, .dat .str), (1, .dat .str), (2, .dat (.int .i64)), (3, .dat (.int .i64)), (9, .vh 1009), (10, .dat (.int .i64))], [(1009, .vec 9 .str)]⟩
noncomputable def c96j7 : Cut SN := ⟨[(0, .dat .str), (1, .dat .str), (2, .dat (.int .i64)), (3, .dat (.int .i64))], []⟩
noncomputable def c96e0 : Cut SN := ⟨[(0, .dat .str), (9, .vh 1009), (10, .dat (.int .i64))], [(1009, .vec 9 .str)]⟩
noncomputable def c96z : Cut SN := ⟨[(8, .dat (.sl .str))], []⟩
noncomputable def sh96 : Shape vw := { exits := fun id => match id with | 0 => c96e0 | _ => ⟨[], []⟩, rcut := c96z }
noncomputable def pre96 : Nat → Bool := fun _ => false
noncomputable def sig96 : Sig vw := { params := [.dat .str, .dat .str, .dat (.int .i64), .dat (.int .i64)], rcut := c96z, rvars := [.tmp 8] }
noncomputable def u_96l11 (k : Nat) : (ByteArray × ByteArray × Int × Int × Int × (List ByteArray) × Unit → Option ((ByteArray × Int × (List ByteArray) × Unit))) :=
 Nat.rec (motive := fun _ => (ByteArray × ByteArray × Int × Int × Int × (List ByteArray) × Unit → Option ((ByteArray × Int × (List ByteArray) × Unit)))) (fun _ => none) (fun _ g v =>
 if decide (v.2.2.2.2.1 < v.2.2.2.1) = true then
  n_121 (v.1, v.2.1, ()) >>= fun x1 =>
  if decide (x1.1 < (0 : Int)) = true then
   some ((v.1, v.2.2.2.2.1, v.2.2.2.2.2.1, ()))
  else if (0 : Int) ≤ (0 : Int) ∧ (0 : Int) ≤ i64.wrap (x1.1 + v.2.2.1) ∧ i64.wrap (x1.1 + v.2.2.1) ≤ (↑v.1.size : Int) then
   if (0 : Int) ≤ v.2.2.2.2.1 ∧ v.2.2.2.2.1 < (↑v.2.2.2.2.2.1.length : Int) then
    v.2.2.2.2.2.1[v.2.2.2.2.1.toNat]? >>= fun x2 =>
    if (0 : Int) ≤ i64.wrap (x1.1 + (↑v.2.1.size : Int)) ∧ i64.wrap (x1.1 + (↑v.2.1.size : Int)) ≤ (↑v.1.size : Int) ∧ (↑v.1.size : Int) ≤ (↑v.1.size : Int) then
     g (v.1.extract (i64.wrap (x1.1 + (↑v.2.1.size : Int))).toNat (↑v.1.size : Int).toNat, v.2.1, v.2.2.1, v.2.2.2.1, i64.wrap (v.2.2.2.2.1 + (1 : Int)), v.2.2.2.2.2.1.set v.2.2.2.2.1.toNat (v.1.extract (Int.toNat (0 : Int)) (i64.wrap (x1.1 + v.2.2.1)).toNat), ())
    else none
   else none
  else none
 else some ((v.1, v.2.2.2.2.1, v.2.2.2.2.2.1, ()))) k
noncomputable def n_96l11 (v : ByteArray × ByteArray × Int × Int × Int × (List ByteArray) × Unit) : Option ((ByteArray × Int × (List ByteArray) × Unit)) := (u_96l11 400) v
noncomputable def n_96 (v : ByteArray × ByteArray × Int × Int × Unit) : Option ((List ByteArray) × Unit) :=
 if (v.2.2.2.1 == (0 : Int)) = true then
  some (([], ()))
 else if (v.2.1.toList == (ByteArray.mk #[]).toList) = true then
  n_119 (v.1, v.2.2.2.1, ()) >>= fun x1 =>
  some ((x1.1, ()))
 else (if decide (v.2.2.2.1 < (0 : Int)) = true then
   n_120 (v.1, v.2.1, ()) >>= fun x1 =>
   some ((v.1, v.2.1, v.2.2.1, i64.wrap (x1.1 + (1 : Int)), ()))
  else some ((v.1, v.2.1, v.2.2.1, v.2.2.2.1, ()))) >>= fun x1 =>
 if (0 : Int) ≤ min x1.2.2.2.1 (i64.wrap ((↑x1.1.size : Int) + (1 : Int))) then
  if min x1.2.2.2.1 (i64.wrap ((↑x1.1.size : Int) + (1 : Int))) ≤ (4294967296 : Int) then
   n_96l11 (x1.1, x1.2.1, x1.2.2.1, i64.wrap (min x1.2.2.2.1 (i64.wrap ((↑x1.1.size : Int) + (1 : Int))) - (1 : Int)), (0 : Int), List.replicate (min x1.2.2.2.1 (i64.wrap ((↑x1.1.size : Int) + (1 : Int)))).toNat (ByteArray.mk #[]), ()) >>= fun x2 =>
   if (0 : Int) ≤ x2.2.1 ∧ x2.2.1 < (↑x2.2.2.1.length : Int) then
    x2.2.2.1[x2.2.1.toNat]? >>= fun x3 =>
    if (0 : Int) ≤ (0 : Int) ∧ (0 : Int) ≤ i64.wrap (x2.2.1 + (1 : Int)) ∧ i64.wrap (x2.2.1 + (1 : Int)) ≤ (↑(x2.2.2.1.set x2.2.1.toNat x2.1).length : Int) then
     some ((List.take (i64.wrap (x2.2.1 + (1 : Int))).toNat (x2.2.2.1.set x2.2.1.toNat x2.1), ()))
    else none
   else none
  else none
 else none
noncomputable def call96 : Caller vw := cP prog 119 sig119 n_119 (cP prog 120 sig120 n_120 (cP prog 121 sig121 n_121 c0))
noncomputable def x96 : Xc vw := { P := prog, n := 66, call := call96, pre := pre96, sh := sh96, joins := fun k => match k with | 7 => some (c96j7, [.norm]) | _ => none, loops := fun k => match k with | 11 => some { cut := c96l11, alts := [.exit 0], F := n_96l11 } | _ => none }
theorem call96_ok : CallerOk prog call96 := cP_ok n_119_ok rfl rfl (cP_ok n_120_ok rfl rfl (cP_ok n_121_ok rfl rfl c0_ok))
theorem n_96l11_ok (C : Ctx) (hP : C.P = prog) (hN : C.N = 66 ∧ Fx C pre96) : LoopOk C (loopNo (bodyOf Tryz.f96) 0) (sh := sh96) { cut := c96l11, alts := [.exit 0], F := n_96l11 } :=
 fun v out h => (Nat.rec (motive := fun k => ∀ v out, (u_96l11 k) v = some out → (AWpL C (loopNo (bodyOf Tryz.f96) 0) (Go.Tx.encS vw (conc vw c96l11 v)) (OutQ sh96 [.exit 0] out))) (fun v out h => by have h : (none : Option ((ByteArray × Int × (List ByteArray) × Unit))) = some out := h; cases h) (fun k ih v out h => loop_step (X := x96) (b := (loopNo (bodyOf Tryz.f96) 0)) hP hN Ty.mixed call96_ok (lok_all (X := x96) (c := (loopNo (bodyOf Tryz.f96) 0)) (kcast (by kernel_rfl : True = AllB (LoopsP C (x96)) (loopsIn (loopNo (bodyOf Tryz.f96) 0))) trivial)) ih (kcast (by kernel_rfl) h)) 400 : ∀ v out, (u_96l11 400) v = some out → (AWpL C (loopNo (bodyOf Tryz.f96) 0) (Go.Tx.encS vw (conc vw c96l11 v)) (OutQ sh96 [.exit 0] out))) v out h
theorem n_96_ok : SigOk prog 96 sig96 n_96 := fun v r x h hx =>
 fn_ok (X := x96) (sig := sig96) rfl Tryz.func96 (c := bodyOf Tryz.f96) (by kernel_rfl) Tryz.ntmps96 (by kernel_rfl) (by kernel_rfl) rfl Ty.mixed call96_ok rfl (fun C hP hN => (lok_all (kcast (by kernel_rfl : AllB (LoopsP C (x96)) [(loopNo (bodyOf Tryz.f96) 0)] = AllB (LoopsP C (x96)) (loopsIn (bodyOf Tryz.f96))) ⟨loop_at (X := x96) (b := (loopNo (bodyOf Tryz.f96) 0)) (by kernel_rfl) (n_96l11_ok C hP hN), trivial⟩))) (kcast (by kernel_rfl) h) x hx
noncomputable def sh65 : Shape vw := { rcut := c119z }
noncomputable def pre65 : Nat → Bool := fun _ => false
noncomputable def sig65 : Sig vw := { params := [.dat .str, .dat .str], rcut := c119z, rvars := [.tmp 4] }
noncomputable def n_65 (v : ByteArray × ByteArray × Unit) : Option ((List ByteArray) × Unit) :=
 n_96 (v.1, v.2.1, (0 : Int), (-1 : Int), ()) >>= fun x1 =>
 some ((x1.1, ()))
noncomputable def call65 : Caller vw := cP prog 96 sig96 n_96 c0
noncomputable def x65 : Xc vw := { P := prog, n := 8, call := call65, pre := pre65, sh := sh65 }
theorem call65_ok : CallerOk prog call65 := cP_ok n_96_ok rfl rfl c0_ok
theorem n_65_ok : SigOk prog 65 sig65 n_65 := fun v r x h hx =>
 fn_ok (X := x65) (sig := sig65) rfl Tryz.func65 (c := bodyOf Tryz.f65) (by kernel_rfl) Tryz.ntmps65 (by kernel_rfl) (by kernel_rfl) rfl Ty.mixed call65_ok rfl (fun C hP hN => (lok_all (kcast (by kernel_rfl) trivial))) (kcast (by kernel_rfl) h) x hx
noncomputable def c97r1 : Cut SN := ⟨[(4, .dat .bool)], []⟩
noncomputable def sh97 : Shape vw := { rcut := c97r1 }
noncomputable def pre97 : Nat → Bool := fun _ => false
noncomputable def sig97 : Sig vw := { params := [.dat .str, .dat .str], rcut := c97r1, rvars := [.tmp 4] }
noncomputable def n_97 (v : ByteArray × ByteArray × Unit) : Option (Bool × Unit) :=
 (if decide ((↑v.1.size : Int) ≥ (↑v.2.1.size : Int)) = true then
    if (0 : Int) ≤ (0 : Int) ∧ (0 : Int) ≤ (↑v.2.1.size : Int) ∧ (↑v.2.1.size : Int) ≤ (↑v.1.size : Int) then
     some (((v.1.extract (Int.toNat (0 : Int)) (↑v.2.1.size : Int).toNat).toList == v.2.1.toList, ()))
    else none
   else some ((false, ()))) >>= fun x1 =>
 some ((x1.1, ()))
noncomputable def call97 : Caller vw := c0
noncomputable def x97 : Xc vw := { P := prog, n := 18, call := call97, pre := pre97, sh := sh97, regs := fun k => match k with | 1 => some c97r1 | _ => none }
theorem call97_ok : CallerOk prog call97 := c0_ok
theorem n_97_ok : SigOk prog 97 sig97 n_97 := fun v r x h hx =>
 fn_ok (X := x97) (sig := sig97) rfl Tryz.func97 (c := bodyOf Tryz.f97) (by kernel_rfl) Tryz.ntmps97 (by kernel_rfl) (by kernel_rfl) rfl Ty.mixed call97_ok rfl (fun C hP hN => (lok_all (kcast (by kernel_rfl) trivial))) (kcast (by kernel_rfl) h) x hx
noncomputable def sh66 : Shape vw := { rcut := c97r1 }
noncomputable def pre66 : Nat → Bool := fun _ => false
noncomputable def sig66 : Sig vw := { params := [.dat .str, .dat .str], rcut := c97r1, rvars := [.tmp 4] }
noncomputable def n_66 (v : ByteArray × ByteArray × Unit) : Option (Bool × Unit) :=
 n_97 (v.1, v.2.1, ()) >>= fun x1 =>
 some ((x1.1, ()))
noncomputable def call66 : Caller vw := cP prog 97 sig97 n_97 c0
noncomputable def x66 : Xc vw := { P := prog, n := 8, call := call66, pre := pre66, sh := sh66 }
theorem call66_ok : CallerOk prog call66 := cP_ok n_97_ok rfl rfl c0_ok
theorem n_66_ok : SigOk prog 66 sig66 n_66 := fun v r x h hx =>
 fn_ok (X := x66) (sig := sig66) rfl Tryz.func66 (c := bodyOf Tryz.f66) (by kernel_rfl) Tryz.ntmps66 (by kernel_rfl) (by kernel_rfl) rfl Ty.mixed call66_ok rfl (fun C hP hN => (lok_all (kcast (by kernel_rfl) trivial))) (kcast (by kernel_rfl) h) x hx
noncomputable def c34l4 : Cut SN := ⟨[(3, .vh 1003), (4, .dat (.int .i64)), (5, .dat (.int .i64)), (11, .dat (.sl .str)), (12, .dat (.int .i64)), (13, .dat (.int .i64))], [(1003, .dvec 24 (.sl .str) false)]⟩
noncomputable def c34l9 : Cut SN := ⟨[(3, .vh 1003), (4, .dat (.int .i64)), (5, .dat (.int .i64)), (11, .dat (.sl .str)), (12, .dat (.int .i64)), (13, .dat (.int .i64)), (25, .vh 1025), (26, .dat (.int .i64)), (27, .dat (.int .i64))], [(1003, .dvec 24 (.sl .str) false), (1025, .vec 9 .str)]⟩
noncomputable def c34j14 : Cut SN := ⟨[(3, .vh 1003), (4, .dat (.int .i64)), (5, .dat (.int .i64)), (9, .dat .str), (11, .dat (.sl .str)), (12, .dat (.int .i64)), (13, .dat (.int .i64)), (25, .vh 1025), (26, .dat (.int .i64)), (27, .dat (.int .i64))], [(1003, .dvec 24 (.sl .str) false), (1025, .vec 9 .str)]⟩
noncomputable def c34r17 : Cut SN := ⟨[(3, .vh 1003), (4, .dat (.int .i64)), (5, .dat (.int .i64)), (9, .dat .str), (11, .dat (.sl .str)), (12, .dat (.int .i64)), (13, .dat (.int .i64)), (25, .vh 1025), (26, .dat (.int .i64)), (27, .dat (.int .i64)), (53, .dat .bool)], [(1003, .dvec 24 (.sl .str) false), (1025, .vec 9 .str)]⟩
noncomputable def c34r19 : Cut SN := ⟨[(3, .vh 1003), (4, .dat (.int .i64)), (5, .dat (.int .i64)), (11, .dat (.sl .str)), (12, .dat (.int .i64)), (13, .dat (.int .i64)), (25, .vh 1025), (26, .dat (.int .i64)), (27, .dat (.int .i64)), (62, .dat .bool)], [(1003, .dvec 24 (.sl .str) false), (1025, .vec 9 .str)]⟩
noncomputable def c34e0 : Cut SN := ⟨[(3, .vh 1003)], [(1003, .dvec 24 (.sl .str) false)]⟩
noncomputable def c34z : Cut SN := ⟨[(2, .dat (.sl (.sl .str)))], []⟩
noncomputable def sh34 : Shape vw := { exits := fun id => match id with | 0 => c34e0 | 2 => c34l4 | _ => ⟨[], []⟩, rcut := c34z }
noncomputable def pre34 : Nat → Bool := fun k => match k with | 1000022 => true | 1000036 => true | _ => false
noncomputable def sig34 : Sig vw := { params := [.dat .str], rcut := c34z, rvars := [.tmp 2] }
noncomputable def u_34l9 (k : Nat) : (Int × Int × (List ByteArray) × Int × Int × Int × Int × (List (List ByteArray)) × (List ByteArray) × Unit → Option ((Int × Int × (List ByteArray) × Int × Int × (List (List ByteArray)) × Unit))) :=
 Nat.rec (motive := fun _ => (Int × Int × (List ByteArray) × Int × Int × Int × Int × (List (List ByteArray)) × (List ByteArray) × Unit → Option ((Int × Int × (List ByteArray) × Int × Int × (List (List ByteArray)) × Unit)))) (fun _ => none) (fun _ g v =>
 if decide (v.2.2.2.2.2.2.1 < v.2.2.2.2.2.1) = true then
  (if (0 : Int) ≤ v.2.2.2.2.2.2.1 ∧ v.2.2.2.2.2.2.1 < (↑v.2.2.2.2.2.2.2.2.1.length : Int) then
     v.2.2.2.2.2.2.2.2.1[v.2.2.2.2.2.2.1.toNat]? >>= fun x1 =>
     (if decide (v.1 < (0 : Int)) = true then
        if v.2.2.2.2.2.2.2.1.length + (1 : Nat) ≤ (4294967296 : Nat) then
         some (((↑v.2.2.2.2.2.2.2.1.length : Int), v.2.1, x1, v.2.2.1, v.2.2.2.1, v.2.2.2.2.1, v.2.2.2.2.2.1, v.2.2.2.2.2.2.1, v.2.2.2.2.2.2.2.1 ++ [[]], v.2.2.2.2.2.2.2.2.1, ()))
        else none
       else some ((v.1, v.2.1, x1, v.2.2.1, v.2.2.2.1, v.2.2.2.2.1, v.2.2.2.2.2.1, v.2.2.2.2.2.2.1, v.2.2.2.2.2.2.2.1, v.2.2.2.2.2.2.2.2.1, ()))) >>= fun x2 =>
     if (0 : Int) ≤ x2.1 ∧ x2.1 < (↑x2.2.2.2.2.2.2.2.2.1.length : Int) then
      x2.2.2.2.2.2.2.2.2.1[x2.1.toNat]? >>= fun x3 =>
      if x3.length + [x2.2.2.1].length ≤ (4294967296 : Nat) then
       if (0 : Int) ≤ x2.1 ∧ x2.1 < (↑((List.map some x2.2.2.2.2.2.2.2.2.1).set x2.1.toNat none).length : Int) then
        ((List.map some x2.2.2.2.2.2.2.2.2.1).set x2.1.toNat none)[x2.1.toNat]? >>= fun x4 =>
        allS (((List.map some x2.2.2.2.2.2.2.2.2.1).set x2.1.toNat none).set x2.1.toNat (some (x3 ++ [x2.2.2.1]))) >>= fun x5 =>
        if (x2.2.2.1.toList == (ByteArray.mk #[123]).toList) = true then
         some ((x2.1, i64.wrap (x2.2.1 + (1 : Int)), x2.2.2.2.1, x2.2.2.2.2.1, x2.2.2.2.2.2.1, x2.2.2.2.2.2.2.1, x2.2.2.2.2.2.2.2.1, x5, x2.2.2.2.2.2.2.2.2.2.1, ()))
        else (if (x2.2.2.1.toList == (ByteArray.mk #[125]).toList) = true then
          some ((x2.1, x2.2.1, x2.2.2.1, x2.2.2.2.1, x2.2.2.2.2.1, x2.2.2.2.2.2.1, x2.2.2.2.2.2.2.1, x2.2.2.2.2.2.2.2.1, decide (x2.2.1 > (0 : Int)), x5, x2.2.2.2.2.2.2.2.2.2.1, ()))
         else some ((x2.1, x2.2.1, x2.2.2.1, x2.2.2.2.1, x2.2.2.2.2.1, x2.2.2.2.2.2.1, x2.2.2.2.2.2.2.1, x2.2.2.2.2.2.2.2.1, false, x5, x2.2.2.2.2.2.2.2.2.2.1, ()))) >>= fun x6 =>
        if x6.2.2.2.2.2.2.2.2.1 = true then
         some ((x6.1, i64.wrap (x6.2.1 - (1 : Int)), x6.2.2.2.1, x6.2.2.2.2.1, x6.2.2.2.2.2.1, x6.2.2.2.2.2.2.1, x6.2.2.2.2.2.2.2.1, x6.2.2.2.2.2.2.2.2.2.1, x6.2.2.2.2.2.2.2.2.2.2.1, ()))
        else (if (x6.2.2.1.toList == (ByteArray.mk #[59]).toList) = true then
          some ((x6.1, x6.2.1, x6.2.2.2.1, x6.2.2.2.2.1, x6.2.2.2.2.2.1, x6.2.2.2.2.2.2.1, x6.2.2.2.2.2.2.2.1, x6.2.1 == (0 : Int), x6.2.2.2.2.2.2.2.2.2.1, x6.2.2.2.2.2.2.2.2.2.2.1, ()))
         else some ((x6.1, x6.2.1, x6.2.2.2.1, x6.2.2.2.2.1, x6.2.2.2.2.2.1, x6.2.2.2.2.2.2.1, x6.2.2.2.2.2.2.2.1, false, x6.2.2.2.2.2.2.2.2.2.1, x6.2.2.2.2.2.2.2.2.2.2.1, ()))) >>= fun x7 =>
        if x7.2.2.2.2.2.2.2.1 = true then
         some (((-1 : Int), x7.2.1, x7.2.2.1, x7.2.2.2.1, x7.2.2.2.2.1, x7.2.2.2.2.2.1, x7.2.2.2.2.2.2.1, x7.2.2.2.2.2.2.2.2.1, x7.2.2.2.2.2.2.2.2.2.1, ()))
        else some ((x7.1, x7.2.1, x7.2.2.1, x7.2.2.2.1, x7.2.2.2.2.1, x7.2.2.2.2.2.1, x7.2.2.2.2.2.2.1, x7.2.2.2.2.2.2.2.2.1, x7.2.2.2.2.2.2.2.2.2.1, ()))
       else none
      else none
     else none
    else none) >>= fun x1 =>
  g (x1.1, x1.2.1, x1.2.2.1, x1.2.2.2.1, x1.2.2.2.2.1, x1.2.2.2.2.2.1, i64.wrap (x1.2.2.2.2.2.2.1 + (1 : Int)), x1.2.2.2.2.2.2.2.1, x1.2.2.2.2.2.2.2.2.1, ())
 else some ((v.1, v.2.1, v.2.2.1, v.2.2.2.1, v.2.2.2.2.1, v.2.2.2.2.2.2.2.1, ()))) k
noncomputable def n_34l9 (v : Int × Int × (List ByteArray) × Int × Int × Int × Int × (List (List ByteArray)) × (List ByteArray) × Unit) : Option ((Int × Int × (List ByteArray) × Int × Int × (List (List ByteArray)) × Unit)) := (u_34l9 400) v
noncomputable def u_34l4 (k : Nat) : (Int × Int × (List ByteArray) × Int × Int × (List (List ByteArray)) × Unit → Option (((List (List ByteArray)) × Unit))) :=
 Nat.rec (motive := fun _ => (Int × Int × (List ByteArray) × Int × Int × (List (List ByteArray)) × Unit → Option (((List (List ByteArray)) × Unit)))) (fun _ => none) (fun _ g v =>
 if decide (v.2.2.2.2.1 < v.2.2.2.1) = true then
  (if (0 : Int) ≤ v.2.2.2.2.1 then
     v.2.2.1[v.2.2.2.2.1.toNat]? >>= fun x1 =>
     n_66 (x1, ByteArray.mk #[35], ()) >>= fun x2 =>
     if x2.1 = true then
      n_52sa9d1 (x1, ()) >>= fun x3 =>
      if v.2.2.2.2.2.1.length + [x3.1].length ≤ (4294967296 : Nat) then
       some ((v.1, v.2.1, v.2.2.1, v.2.2.2.1, v.2.2.2.2.1, v.2.2.2.2.2.1 ++ [x3.1], ()))
      else none
     else n_52sa9d1 (x1, ()) >>= fun x3 =>
     n_34l9 (v.1, v.2.1, v.2.2.1, v.2.2.2.1, v.2.2.2.2.1, (↑x3.1.length : Int), (0 : Int), v.2.2.2.2.2.1, x3.1, ()) >>= fun x4 =>
     some ((x4.1, x4.2.1, x4.2.2.1, x4.2.2.2.1, x4.2.2.2.2.1, x4.2.2.2.2.2.1, ()))
    else none) >>= fun x1 =>
  g (x1.1, x1.2.1, x1.2.2.1, x1.2.2.2.1, i64.wrap (x1.2.2.2.2.1 + (1 : Int)), x1.2.2.2.2.2.1, ())
 else some ((v.2.2.2.2.2.1, ()))) k
noncomputable def n_34l4 (v : Int × Int × (List ByteArray) × Int × Int × (List (List ByteArray)) × Unit) : Option (((List (List ByteArray)) × Unit)) := (u_34l4 400) v
noncomputable def n_34 (v : ByteArray × Unit) : Option ((List (List ByteArray)) × Unit) :=
 n_65 (v.1, ByteArray.mk #[10], ()) >>= fun x1 =>
 n_34l4 ((-1 : Int), (0 : Int), x1.1, (↑x1.1.length : Int), (0 : Int), [], ()) >>= fun x2 =>
 some ((x2.1, ()))
noncomputable def call34 : Caller vw := cO prog 52 sig52sa9d1 n_52sa9d1 (cP prog 65 sig65 n_65 (cP prog 66 sig66 n_66 c0))
noncomputable def x34 : Xc vw := { P := prog, n := 72, call := call34, pre := pre34, sh := sh34, joins := fun k => match k with | 14 => some (c34j14, [.norm]) | 21 => some (c34l9, [.norm]) | 22 => some (c34l4, [.norm]) | _ => none, regs := fun k => match k with | 17 => some c34r17 | 19 => some c34r19 | _ => none, loops := fun k => match k with | 4 => some { cut := c34l4, alts := [.exit 0], F := n_34l4 } | 9 => some { cut := c34l9, alts := [.exit 2], F := n_34l9 } | _ => none }
theorem call34_ok : CallerOk prog call34 := cO_ok n_52sa9d1_ok (cP_ok n_65_ok rfl rfl (cP_ok n_66_ok rfl rfl c0_ok))
theorem n_34l9_ok (C : Ctx) (hP : C.P = prog) (hN : C.N = 72 ∧ Fx C pre34) : LoopOk C (loopNo (loopNo (bodyOf Tryz.f34) 0) 0) (sh := sh34) { cut := c34l9, alts := [.exit 2], F := n_34l9 } :=
 fun v out h => (Nat.rec (motive := fun k => ∀ v out, (u_34l9 k) v = some out → (AWpL C (loopNo (loopNo (bodyOf Tryz.f34) 0) 0) (Go.Tx.encS vw (conc vw c34l9 v)) (OutQ sh34 [.exit 2] out))) (fun v out h => by have h : (none : Option ((Int × Int × (List ByteArray) × Int × Int × (List (List ByteArray)) × Unit))) = some out := h; cases h) (fun k ih v out h => loop_step (X := x34) (b := (loopNo (loopNo (bodyOf Tryz.f34) 0) 0)) hP hN Ty.mixed call34_ok (lok_all (X := x34) (c := (loopNo (loopNo (bodyOf Tryz.f34) 0) 0)) (kcast (by kernel_rfl : True = AllB (LoopsP C (x34)) (loopsIn (loopNo (loopNo (bodyOf Tryz.f34) 0) 0))) trivial)) ih (kcast (by kernel_rfl) h)) 400 : ∀ v out, (u_34l9 400) v = some out → (AWpL C (loopNo (loopNo (bodyOf Tryz.f34) 0) 0) (Go.Tx.encS vw (conc vw c34l9 v)) (OutQ sh34 [.exit 2] out))) v out h
theorem n_34l4_ok (C : Ctx) (hP : C.P = prog) (hN : C.N = 72 ∧ Fx C pre34) : LoopOk C (loopNo (bodyOf Tryz.f34) 0) (sh := sh34) { cut := c34l4, alts := [.exit 0], F := n_34l4 } :=
 fun v out h => (Nat.rec (motive := fun k => ∀ v out, (u_34l4 k) v = some out → (AWpL C (loopNo (bodyOf Tryz.f34) 0) (Go.Tx.encS vw (conc vw c34l4 v)) (OutQ sh34 [.exit 0] out))) (fun v out h => by have h : (none : Option (((List (List ByteArray)) × Unit))) = some out := h; cases h) (fun k ih v out h => loop_step (X := x34) (b := (loopNo (bodyOf Tryz.f34) 0)) hP hN Ty.mixed call34_ok (lok_all (X := x34) (c := (loopNo (bodyOf Tryz.f34) 0)) (kcast (by kernel_rfl : AllB (LoopsP C (x34)) [(loopNo (loopNo (bodyOf Tryz.f34) 0) 0)] = AllB (LoopsP C (x34)) (loopsIn (loopNo (bodyOf Tryz.f34) 0))) ⟨loop_at (X := x34) (b := (loopNo (loopNo (bodyOf Tryz.f34) 0) 0)) (by kernel_rfl) (n_34l9_ok C hP hN), trivial⟩)) ih (kcast (by kernel_rfl) h)) 400 : ∀ v out, (u_34l4 400) v = some out → (AWpL C (loopNo (bodyOf Tryz.f34) 0) (Go.Tx.encS vw (conc vw c34l4 v)) (OutQ sh34 [.exit 0] out))) v out h
theorem n_34_ok : SigOk prog 34 sig34 n_34 := fun v r x h hx =>
 fn_ok (X := x34) (sig := sig34) rfl Tryz.func34 (c := bodyOf Tryz.f34) (by kernel_rfl) Tryz.ntmps34 (by kernel_rfl) (by kernel_rfl) rfl Ty.mixed call34_ok rfl (fun C hP hN => (lok_all (kcast (by kernel_rfl : AllB (LoopsP C (x34)) [(loopNo (bodyOf Tryz.f34) 0)] = AllB (LoopsP C (x34)) (loopsIn (bodyOf Tryz.f34))) ⟨loop_at (X := x34) (b := (loopNo (bodyOf Tryz.f34) 0)) (by kernel_rfl) (n_34l4_ok C hP hN), trivial⟩))) (kcast (by kernel_rfl) h) x hx
noncomputable def c67s8e18z : Cut SN := ⟨[(0, .bp 100000 0), (1, .bp 100001 0)], [(100000, .box none [.bp 100002 0]), (100001, .box none [.vh 100003]), (100002, .box none [.vh 100003]), (100003, .vec 44 (.st .itemT))]⟩
noncomputable def sh67s8e18 : Shape vw := { rcut := c67s8e18z }
noncomputable def pre67s8e18 : Nat → Bool := fun _ => false
noncomputable def sig67s8e18 : Sig vw := { params := [.bp 100000 0, .bp 100001 0], objs := [(100000, .box none [.bp 100002 0]), (100001, .box none [.dat (.sl (.st .itemT))]), (100002, .box none [.vh 100003]), (100003, .vec 44 (.st .itemT))], rcut := c67s8e18z, rvars := [], keep := [100000, 100001, 100002, 100003] }
noncomputable def n_67s8e18 (v : (List Item) × (List Item) × Unit) : Option ((List Item) × Unit) :=
 some ((v.2.1, ()))
noncomputable def call67s8e18 : Caller vw := c0
noncomputable def x67s8e18 : Xc vw := { P := prog, n := 6, call := call67s8e18, pre := pre67s8e18, sh := sh67s8e18 }
theorem call67s8e18_ok : CallerOk prog call67s8e18 := c0_ok
theorem n_67s8e18_okD : SigOkD prog 67 sig67s8e18 n_67s8e18 := fun v r x h hx =>
 fn_okD (X := x67s8e18) (sig := sig67s8e18) rfl Tryz.func67 (c := bodyOf Tryz.f67) (by kernel_rfl) Tryz.ntmps67 (by kernel_rfl) (by kernel_rfl) rfl Ty.mixed call67s8e18_ok rfl (fun C hP hN => (lok_all (kcast (by kernel_rfl) trivial))) (kcast (by kernel_rfl) h) x hx
theorem n_67s8e18_ok : SigOk prog 67 sig67s8e18 n_67s8e18 := fun v r x h hx =>
 fn_ok (X := x67s8e18) (sig := sig67s8e18) rfl Tryz.func67 (c := bodyOf Tryz.f67) (by kernel_rfl) Tryz.ntmps67 (by kernel_rfl) (by kernel_rfl) rfl Ty.mixed call67s8e18_ok rfl (fun C hP hN => (lok_all (kcast (by kernel_rfl) trivial))) (kcast (by kernel_rfl) h) x hx
noncomputable def c162s496dz : Cut SN := ⟨[(0, .bp 100000 0), (2, .dat .str)], [(100000, .box none [.bp 100001 0, .dat (.sl .str), .dat .bool]), (100001, .box none [.vh 100002]), (100002, .vec 44 (.st .itemT))]⟩
noncomputable def sh162s496d : Shape vw := { rcut := c162s496dz }
noncomputable def pre162s496d : Nat → Bool := fun _ => false
noncomputable def sig162s496d : Sig vw := { params := [.bp 100000 0], objs := [(100000, .box none [.bp 100001 0, .dat (.sl .str), .dat .bool]), (100001, .box none [.vh 100002]), (100002, .vec 44 (.st .itemT))], rcut := c162s496dz, rvars := [.tmp 2], keep := [100000, 100001, 100002] }
noncomputable def n_162s496d (v : (List ByteArray) × Bool × (List Item) × Unit) : Option (ByteArray × (List ByteArray) × Bool × (List Item) × Unit) :=
 if ((↑v.1.length : Int) == (0 : Int)) = true then
  some ((ByteArray.mk #[], v.1, v.2.1, v.2.2.1, ()))
 else v.1[Int.toNat (0 : Int)]? >>= fun x1 =>
 some ((x1, v.1, v.2.1, v.2.2.1, ()))
noncomputable def call162s496d : Caller vw := c0
noncomputable def x162s496d : Xc vw := { P := prog, n := 15, call := call162s496d, pre := pre162s496d, sh := sh162s496d }
theorem call162s496d_ok : CallerOk prog call162s496d := c0_ok
theorem n_162s496d_ok : SigOk prog 162 sig162s496d n_162s496d := fun v r x h hx =>
 fn_ok (X := x162s496d) (sig := sig162s496d) rfl Tryz.func162 (c := bodyOf Tryz.f162) (by kernel_rfl) Tryz.ntmps162 (by kernel_rfl) (by kernel_rfl) rfl Ty.mixed call162s496d_ok rfl (fun C hP hN => (lok_all (kcast (by kernel_rfl) trivial))) (kcast (by kernel_rfl) h) x hx
noncomputable def c156sf3c8r1 : Cut SN := ⟨[(0, .bp 100000 0), (12, .dat .bool)], [(100000, .box none [.bp 100001 0, .dat (.sl .str), .dat .bool]), (100001, .box none [.vh 100002]), (100002, .vec 44 (.st .itemT))]⟩
noncomputable def c156sf3c8z : Cut SN := ⟨[(0, .bp 100000 0), (4, .dat .bool)], [(100000, .box none [.bp 100001 0, .dat (.sl .str), .dat .bool]), (100001, .box none [.vh 100002]), (100002, .vec 44 (.st .itemT))]⟩
noncomputable def sh156sf3c8 : Shape vw := { rcut := c156sf3c8z }
noncomputable def pre156sf3c8 : Nat → Bool := fun _ => false
noncomputable def sig156sf3c8 : Sig vw := { params := [.bp 100000 0, .dat .str], objs := [(100000, .box none [.bp 100001 0, .dat (.sl .str), .dat .bool]), (100001, .box none [.vh 100002]), (100002, .vec 44 (.st .itemT))], rcut := c156sf3c8z, rvars := [.tmp 4], keep := [100000, 100001, 100002] }
noncomputable def n_156sf3c8 (v : ByteArray × (List ByteArray) × Bool × (List Item) × Unit) : Option (Bool × (List ByteArray) × Bool × (List Item) × Unit) :=
 (n_162s496d (v.2.1, v.2.2.1, v.2.2.2.1, ()) >>= fun x1 =>
   if x1.2.2.2.1.length = v.2.2.2.1.length then
    if (!x1.1.toList == v.1.toList) = true then
     some ((true, x1.2.1, x1.2.2.1, x1.2.2.2.1, ()))
    else some ((v.1.toList == (ByteArray.mk #[]).toList, x1.2.1, x1.2.2.1, x1.2.2.2.1, ()))
   else none) >>= fun x1 =>
 if x1.1 = true then
  some ((false, x1.2.1, x1.2.2.1, x1.2.2.2.1, ()))
 else if (0 : Int) ≤ (1 : Int) ∧ (1 : Int) ≤ (↑x1.2.1.length : Int) ∧ (↑x1.2.1.length : Int) ≤ (↑x1.2.1.length : Int) then
  some ((true, List.drop (Int.toNat (1 : Int)) (List.take (↑x1.2.1.length : Int).toNat x1.2.1), x1.2.2.1, x1.2.2.2.1, ()))
 else none
noncomputable def call156sf3c8 : Caller vw := cO prog 162 sig162s496d n_162s496d c0
noncomputable def x156sf3c8 : Xc vw := { P := prog, n := 21, call := call156sf3c8, pre := pre156sf3c8, sh := sh156sf3c8, regs := fun k => match k with | 1 => some c156sf3c8r1 | _ => none }
theorem call156sf3c8_ok : CallerOk prog call156sf3c8 := cO_ok n_162s496d_ok c0_ok
theorem n_156sf3c8_ok : SigOk prog 156 sig156sf3c8 n_156sf3c8 := fun v r x h hx =>
 fn_ok (X := x156sf3c8) (sig := sig156sf3c8) rfl Tryz.func156 (c := bodyOf Tryz.f156) (by kernel_rfl) Tryz.ntmps156 (by kernel_rfl) (by kernel_rfl) rfl Ty.mixed call156sf3c8_ok rfl (fun C hP hN => (lok_all (kcast (by kernel_rfl) trivial))) (kcast (by kernel_rfl) h) x hx
noncomputable def c154se4eal1 : Cut SN := ⟨[(0, .bp 100000 0), (6, .dat (.sl .str)), (7, .dat (.int .i64)), (8, .dat (.int .i64))], [(100000, .box none [.bp 100001 0, .dat (.sl .str), .dat .bool]), (100001, .box none [.vh 100002]), (100002, .vec 44 (.st .itemT))]⟩
noncomputable def c154se4eae0 : Cut SN := ⟨[(0, .bp 100000 0)], [(100000, .box none [.bp 100001 0, .dat (.sl .str), .dat .bool]), (100001, .box none [.vh 100002]), (100002, .vec 44 (.st .itemT))]⟩
noncomputable def sh154se4ea : Shape vw := { exits := fun id => match id with | 0 => c154se4eae0 | _ => ⟨[], []⟩, rcut := c154se4eae0 }
noncomputable def pre154se4ea : Nat → Bool := fun _ => false
noncomputable def sig154se4ea : Sig vw := { params := [.bp 100000 0, .dat (.sl .str)], objs := [(100000, .box none [.bp 100001 0, .dat (.sl .str), .dat .bool]), (100001, .box none [.vh 100002]), (100002, .vec 44 (.st .itemT))], rcut := c154se4eae0, rvars := [], keep := [100000, 100001, 100002] }
noncomputable def u_154se4eal1 (k : Nat) : ((List ByteArray) × Int × Int × (List ByteArray) × Bool × (List Item) × Unit → Option (((List ByteArray) × Bool × (List Item) × Unit))) :=
 Nat.rec (motive := fun _ => ((List ByteArray) × Int × Int × (List ByteArray) × Bool × (List Item) × Unit → Option (((List ByteArray) × Bool × (List Item) × Unit)))) (fun _ => none) (fun _ g v =>
 if decide (v.2.2.1 < v.2.1) = true then
  (if (0 : Int) ≤ v.2.2.1 then
     v.1[v.2.2.1.toNat]? >>= fun x1 =>
     n_156sf3c8 (x1, v.2.2.2.1, v.2.2.2.2.1, v.2.2.2.2.2.1, ()) >>= fun x2 =>
     if x2.2.2.2.1.length = v.2.2.2.2.2.1.length then
      if (!x2.1) = true then
       some ((v.1, v.2.1, v.2.2.1, x2.2.1, true, x2.2.2.2.1, ()))
      else some ((v.1, v.2.1, v.2.2.1, x2.2.1, x2.2.2.1, x2.2.2.2.1, ()))
     else none
    else none) >>= fun x1 =>
  g (x1.1, x1.2.1, i64.wrap (x1.2.2.1 + (1 : Int)), x1.2.2.2.1, x1.2.2.2.2.1, x1.2.2.2.2.2.1, ())
 else some ((v.2.2.2.1, v.2.2.2.2.1, v.2.2.2.2.2.1, ()))) k
noncomputable def n_154se4eal1 (v : (List ByteArray) × Int × Int × (List ByteArray) × Bool × (List Item) × Unit) : Option (((List ByteArray) × Bool × (List Item) × Unit)) := (u_154se4eal1 400) v
noncomputable def n_154se4ea (v : (List ByteArray) × (List ByteArray) × Bool × (List Item) × Unit) : Option ((List ByteArray) × Bool × (List Item) × Unit) :=
 n_154se4eal1 (v.1, (↑v.1.length : Int), (0 : Int), v.2.1, v.2.2.1, v.2.2.2.1, ()) >>= fun x1 =>
 some ((x1.1, x1.2.1, x1.2.2.1, ()))
noncomputable def call154se4ea : Caller vw := cO prog 156 sig156sf3c8 n_156sf3c8 c0
noncomputable def x154se4ea : Xc vw := { P := prog, n := 20, call := call154se4ea, pre := pre154se4ea, sh := sh154se4ea, joins := fun k => match k with | 5 => some (c154se4eal1, [.norm]) | _ => none, loops := fun k => match k with | 1 => some { cut := c154se4eal1, alts := [.exit 0], F := n_154se4eal1 } | _ => none }
theorem call154se4ea_ok : CallerOk prog call154se4ea := cO_ok n_156sf3c8_ok c0_ok
theorem n_154se4eal1_ok (C : Ctx) (hP : C.P = prog) (hN : C.N = 20 ∧ Fx C pre154se4ea) : LoopOk C (loopNo (bodyOf Tryz.f154) 0) (sh := sh154se4ea) { cut := c154se4eal1, alts := [.exit 0], F := n_154se4eal1 } :=
 fun v out h => (Nat.rec (motive := fun k => ∀ v out, (u_154se4eal1 k) v = some out → (AWpL C (loopNo (bodyOf Tryz.f154) 0) (Go.Tx.encS vw (conc vw c154se4eal1 v)) (OutQ sh154se4ea [.exit 0] out))) (fun v out h => by have h : (none : Option (((List ByteArray) × Bool × (List Item) × Unit))) = some out := h; cases h) (fun k ih v out h => loop_step (X := x154se4ea) (b := (loopNo (bodyOf Tryz.f154) 0)) hP hN Ty.mixed call154se4ea_ok (lok_all (X := x154se4ea) (c := (loopNo (bodyOf Tryz.f154) 0)) (kcast (by kernel_rfl : True = AllB (LoopsP C (x154se4ea)) (loopsIn (loopNo (bodyOf Tryz.f154) 0))) trivial)) ih (kcast (by kernel_rfl) h)) 400 : ∀ v out, (u_154se4eal1 400) v = some out → (AWpL C (loopNo (bodyOf Tryz.f154) 0) (Go.Tx.encS vw (conc vw c154se4eal1 v)) (OutQ sh154se4ea [.exit 0] out))) v out h
theorem n_154se4ea_ok : SigOk prog 154 sig154se4ea n_154se4ea := fun v r x h hx =>
 fn_ok (X := x154se4ea) (sig := sig154se4ea) rfl Tryz.func154 (c := bodyOf Tryz.f154) (by kernel_rfl) Tryz.ntmps154 (by kernel_rfl) (by kernel_rfl) rfl Ty.mixed call154se4ea_ok rfl (fun C hP hN => (lok_all (kcast (by kernel_rfl : AllB (LoopsP C (x154se4ea)) [(loopNo (bodyOf Tryz.f154) 0)] = AllB (LoopsP C (x154se4ea)) (loopsIn (bodyOf Tryz.f154))) ⟨loop_at (X := x154se4ea) (b := (loopNo (bodyOf Tryz.f154) 0)) (by kernel_rfl) (n_154se4eal1_ok C hP hN), trivial⟩))) (kcast (by kernel_rfl) h) x hx
noncomputable def c164s496dj4 : Cut SN := ⟨[(0, .bp 100000 0), (3, .dat .str)], [(100000, .box none [.bp 100001 0, .dat (.sl .str), .dat .bool]), (100001, .box none [.vh 100002]), (100002, .vec 44 (.st .itemT))]⟩
noncomputable def sh164s496d : Shape vw := { rcut := c162s496dz }
noncomputable def pre164s496d : Nat → Bool := fun _ => false
noncomputable def sig164s496d : Sig vw := { params := [.bp 100000 0], objs := [(100000, .box none [.bp 100001 0, .dat (.sl .str), .dat .bool]), (100001, .box none [.vh 100002]), (100002, .vec 44 (.st .itemT))], rcut := c162s496dz, rvars := [.tmp 2], keep := [100000, 100001, 100002] }
noncomputable def n_164s496d (v : (List ByteArray) × Bool × (List Item) × Unit) : Option (ByteArray × (List ByteArray) × Bool × (List Item) × Unit) :=
 n_162s496d (v.1, v.2.1, v.2.2.1, ()) >>= fun x1 =>
 if x1.2.2.2.1.length = v.2.2.1.length then
  (if (!x1.1.toList == (ByteArray.mk #[]).toList) = true then
     if (0 : Int) ≤ (1 : Int) ∧ (1 : Int) ≤ (↑x1.2.1.length : Int) ∧ (↑x1.2.1.length : Int) ≤ (↑x1.2.1.length : Int) then
      some ((x1.1, List.drop (Int.toNat (1 : Int)) (List.take (↑x1.2.1.length : Int).toNat x1.2.1), x1.2.2.1, x1.2.2.2.1, ()))
     else none
    else some ((x1.1, x1.2.1, x1.2.2.1, x1.2.2.2.1, ()))) >>= fun x2 =>
  some ((x2.1, x2.2.1, x2.2.2.1, x2.2.2.2.1, ()))
 else none
noncomputable def call164s496d : Caller vw := cO prog 162 sig162s496d n_162s496d c0
noncomputable def x164s496d : Xc vw := { P := prog, n := 17, call := call164s496d, pre := pre164s496d, sh := sh164s496d, joins := fun k => match k with | 4 => some (c164s496dj4, [.norm]) | _ => none }
theorem call164s496d_ok : CallerOk prog call164s496d := cO_ok n_162s496d_ok c0_ok
theorem n_164s496d_ok : SigOk prog 164 sig164s496d n_164s496d := fun v r x h hx =>
 fn_ok (X := x164s496d) (sig := sig164s496d) rfl Tryz.func164 (c := bodyOf Tryz.f164) (by kernel_rfl) Tryz.ntmps164 (by kernel_rfl) (by kernel_rfl) rfl Ty.mixed call164s496d_ok rfl (fun C hP hN => (lok_all (kcast (by kernel_rfl) trivial))) (kcast (by kernel_rfl) h) x hx
noncomputable def sh182 : Shape vw := { rcut := c86r1 }
noncomputable def pre182 : Nat → Bool := fun _ => false
noncomputable def sig182 : Sig vw := { params := [.dat .str], rcut := c86r1, rvars := [.tmp 2] }
noncomputable def n_182 (v : ByteArray × Unit) : Option (Bool × Unit) :=
 (if (v.1.toList == (ByteArray.mk #[99, 104, 97, 114]).toList) = true then
    some ((true, ()))
   else if (v.1.toList == (ByteArray.mk #[115, 104, 111, 114, 116]).toList) = true then
    some ((true, ()))
   else if (v.1.toList == (ByteArray.mk #[105, 110, 116]).toList) = true then
    some ((true, ()))
   else if (v.1.toList == (ByteArray.mk #[108, 111, 110, 103]).toList) = true then
    some ((true, ()))
   else if (v.1.toList == (ByteArray.mk #[117, 110, 115, 105, 103, 110, 101, 100]).toList) = true then
    some ((true, ()))
   else if (v.1.toList == (ByteArray.mk #[118, 111, 105, 100]).toList) = true then
    some ((true, ()))
   else if (v.1.toList == (ByteArray.mk #[115, 116, 114, 117, 99, 116]).toList) = true then
    some ((true, ()))
   else some ((v.1.toList == (ByteArray.mk #[101, 110, 117, 109]).toList, ()))) >>= fun x1 =>
 if x1.1 = true then
  some ((true, ()))
 else some ((false, ()))
noncomputable def call182 : Caller vw := c0
noncomputable def x182 : Xc vw := { P := prog, n := 13, call := call182, pre := pre182, sh := sh182, joins := fun k => match k with | 10 => some (c97r1, [.norm]) | _ => none }
theorem call182_ok : CallerOk prog call182 := c0_ok
theorem n_182_ok : SigOk prog 182 sig182 n_182 := fun v r x h hx =>
 fn_ok (X := x182) (sig := sig182) rfl Tryz.func182 (c := bodyOf Tryz.f182) (by kernel_rfl) Tryz.ntmps182 (by kernel_rfl) (by kernel_rfl) rfl Ty.mixed call182_ok rfl (fun C hP hN => (lok_all (kcast (by kernel_rfl) trivial))) (kcast (by kernel_rfl) h) x hx
noncomputable def c155s496dr2 : Cut SN := ⟨[(0, .bp 100000 0), (3, .dat .str), (17, .dat .bool)], [(100000, .box none [.bp 100001 0, .dat (.sl .str), .dat .bool]), (100001, .box none [.vh 100002]), (100002, .vec 44 (.st .itemT))]⟩
noncomputable def sh155s496d : Shape vw := { rcut := c162s496dz }
noncomputable def pre155s496d : Nat → Bool := fun _ => false
noncomputable def sig155s496d : Sig vw := { params := [.bp 100000 0], objs := [(100000, .box none [.bp 100001 0, .dat (.sl .str), .dat .bool]), (100001, .box none [.vh 100002]), (100002, .vec 44 (.st .itemT))], rcut := c162s496dz, rvars := [.tmp 2], keep := [100000, 100001, 100002] }
noncomputable def n_155s496d (v : (List ByteArray) × Bool × (List Item) × Unit) : Option (ByteArray × (List ByteArray) × Bool × (List Item) × Unit) :=
 n_164s496d (v.1, v.2.1, v.2.2.1, ()) >>= fun x1 =>
 if x1.2.2.2.1.length = v.2.2.1.length then
  ((if (x1.1.toList == (ByteArray.mk #[]).toList) = true then
      some ((x1.1, true, x1.2.1, x1.2.2.1, x1.2.2.2.1, ()))
     else x1.1[Int.toNat (0 : Int)]? >>= fun x2 =>
     n_86 ((↑x2.toNat : Int), ()) >>= fun x3 =>
     if (!x3.1) = true then
      some ((x1.1, true, x1.2.1, x1.2.2.1, x1.2.2.2.1, ()))
     else n_182 (x1.1, ()) >>= fun x4 =>
     some ((x1.1, x4.1, x1.2.1, x1.2.2.1, x1.2.2.2.1, ()))) >>= fun x2 =>
    if x2.2.1 = true then
     some ((x2.1, x2.2.2.1, true, x2.2.2.2.2.1, ()))
    else some ((x2.1, x2.2.2.1, x2.2.2.2.1, x2.2.2.2.2.1, ()))) >>= fun x2 =>
  some ((x2.1, x2.2.1, x2.2.2.1, x2.2.2.2.1, ()))
 else none
noncomputable def call155s496d : Caller vw := cP prog 86 sig86 n_86 (cO prog 164 sig164s496d n_164s496d (cP prog 182 sig182 n_182 c0))
noncomputable def x155s496d : Xc vw := { P := prog, n := 22, call := call155s496d, pre := pre155s496d, sh := sh155s496d, joins := fun k => match k with | 4 => some (c164s496dj4, [.norm]) | _ => none, regs := fun k => match k with | 2 => some c155s496dr2 | _ => none }
theorem call155s496d_ok : CallerOk prog call155s496d := cP_ok n_86_ok rfl rfl (cO_ok n_164s496d_ok (cP_ok n_182_ok rfl rfl c0_ok))
theorem n_155s496d_ok : SigOk prog 155 sig155s496d n_155s496d := fun v r x h hx =>
 fn_ok (X := x155s496d) (sig := sig155s496d) rfl Tryz.func155 (c := bodyOf Tryz.f155) (by kernel_rfl) Tryz.ntmps155 (by kernel_rfl) (by kernel_rfl) rfl Ty.mixed call155s496d_ok rfl (fun C hP hN => (lok_all (kcast (by kernel_rfl) trivial))) (kcast (by kernel_rfl) h) x hx
noncomputable def c170z : Cut SN := ⟨[(2, .dat (.int .i64)), (3, .dat .er)], []⟩
noncomputable def sig170 : Sig vw := { params := [.dat .str], rcut := c170z, rvars := [.tmp 2, .tmp 3] }
noncomputable def n_170 (v : ByteArray × Unit) : Option (Int × Bool × Unit) :=
 if v.1.size ≤ 1000000000000 then (match Lib.atoiAll v.1.data.toList with | .ok n => some (n, false, ()) | .range => some (Lib.atoiSat v.1.data.toList, true, ()) | _ => some (0, true, ())) else none
theorem n_170_ok : SigOk prog 170 sig170 n_170 := fun v r x h hx => by
 obtain ⟨s, u⟩ := v
 unfold n_170 at h
 split at h
 ·rename_i hc
  simp only at hc h
  cases hq : Lib.atoiAll s.data.toList with
  | ok n =>
   simp only [hq] at h
   cases h; cases hx
   exact kcast (by kernel_rfl) (FnOk.pure (P := prog) (f := 170) (args := [.d (.v (.string s))]) (r := .tup [.d (.v (.int .i64 n)), .d (.er false)]) (by kernel_rfl) fun E M w vs hg hm hv => by
    obtain ⟨v1, rfl, h1⟩ := hreps_one hv
    rw [h1.dv]
    exact (Tryz.strconv_Atoi_ok s (by omega) n hq w).mono fun e w' ⟨he, hw⟩ => ⟨_, he, hrep_er .ern, below_bytes hw⟩)
  | range =>
   simp only [hq] at h
   cases h; cases hx
   exact kcast (by kernel_rfl) (FnOk.pure (P := prog) (f := 170) (args := [.d (.v (.string s))]) (r := .tup [.d (.v (.int .i64 (Lib.atoiSat s.data.toList))), .d (.er true)]) (by kernel_rfl) fun E M w vs hg hm hv => by
    obtain ⟨v1, rfl, h1⟩ := hreps_one hv
    rw [h1.dv]
    obtain ⟨te, pe, hev⟩ := gm_range hg hm
    exact (Tryz.strconv_Atoi_range s (by omega) hq _ w hev (.inr ⟨te, pe, rfl⟩)).mono fun e w' ⟨N, he, _, _, hw⟩ => ⟨_, he, hrep_er (.ere _ _), hw⟩)
  | _ =>
   simp only [hq] at h
   cases h; cases hx
   exact kcast (by kernel_rfl) (FnOk.pure (P := prog) (f := 170) (args := [.d (.v (.string s))]) (r := .tup [.d (.v (.int .i64 0)), .d (.er true)]) (by kernel_rfl) fun E M w vs hg hm hv => by
    obtain ⟨v1, rfl, h1⟩ := hreps_one hv
    rw [h1.dv]
    obtain ⟨te, pe, hev⟩ := gm_syntax hg hm
    exact (Tryz.strconv_Atoi_syntax s (by omega) ⟨fun n hn => (by rw [hq] at hn; cases hn), fun hn => (by rw [hq] at hn; cases hn)⟩ _ w hev (.inr ⟨te, pe, rfl⟩)).mono fun e w' ⟨N, he, _, _, hw⟩ => ⟨_, he, hrep_er (.ere _ _), hw⟩)
 ·cases h
noncomputable def c157s496dj5 : Cut SN := ⟨[(0, .bp 100000 0), (4, .dat (.int .i64))], [(100000, .box none [.bp 100001 0, .dat (.sl .str), .dat .bool]), (100001, .box none [.vh 100002]), (100002, .vec 44 (.st .itemT))]⟩
noncomputable def c157s496dr3 : Cut SN := ⟨[(0, .bp 100000 0), (4, .dat (.int .i64)), (25, .dat .bool)], [(100000, .box none [.bp 100001 0, .dat (.sl .str), .dat .bool]), (100001, .box none [.vh 100002]), (100002, .vec 44 (.st .itemT))]⟩
noncomputable def c157s496dz : Cut SN := ⟨[(0, .bp 100000 0), (2, .dat (.int .i64))], [(100000, .box none [.bp 100001 0, .dat (.sl .str), .dat .bool]), (100001, .box none [.vh 100002]), (100002, .vec 44 (.st .itemT))]⟩
noncomputable def sh157s496d : Shape vw := { rcut := c157s496dz }
noncomputable def pre157s496d : Nat → Bool := fun _ => false
noncomputable def sig157s496d : Sig vw := { params := [.bp 100000 0], objs := [(100000, .box none [.bp 100001 0, .dat (.sl .str), .dat .bool]), (100001, .box none [.vh 100002]), (100002, .vec 44 (.st .itemT))], rcut := c157s496dz, rvars := [.tmp 2], keep := [100000, 100001, 100002] }
noncomputable def n_157s496d (v : (List ByteArray) × Bool × (List Item) × Unit) : Option (Int × (List ByteArray) × Bool × (List Item) × Unit) :=
 n_164s496d (v.1, v.2.1, v.2.2.1, ()) >>= fun x1 =>
 if x1.2.2.2.1.length = v.2.2.1.length then
  n_170 (x1.1, ()) >>= fun x2 =>
  ((if x2.2.1 = true then
      some ((x2.1, true, x1.2.1, x1.2.2.1, x1.2.2.2.1, ()))
     else x1.1[Int.toNat (0 : Int)]? >>= fun x3 =>
     n_87 ((↑x3.toNat : Int), ()) >>= fun x4 =>
     if (!x4.1) = true then
      some ((x2.1, true, x1.2.1, x1.2.2.1, x1.2.2.2.1, ()))
     else some ((x2.1, decide ((↑x1.1.size : Int) > (9 : Int)), x1.2.1, x1.2.2.1, x1.2.2.2.1, ()))) >>= fun x3 =>
    if x3.2.1 = true then
     some ((x3.1, x3.2.2.1, true, x3.2.2.2.2.1, ()))
    else some ((x3.1, x3.2.2.1, x3.2.2.2.1, x3.2.2.2.2.1, ()))) >>= fun x3 =>
  some ((x3.1, x3.2.1, x3.2.2.1, x3.2.2.2.1, ()))
 else none
noncomputable def call157s496d : Caller vw := cP prog 87 sig87 n_87 (cO prog 164 sig164s496d n_164s496d (cP prog 170 sig170 n_170 c0))
noncomputable def x157s496d : Xc vw := { P := prog, n := 30, call := call157s496d, pre := pre157s496d, sh := sh157s496d, joins := fun k => match k with | 5 => some (c157s496dj5, [.norm]) | _ => none, regs := fun k => match k with | 3 => some c157s496dr3 | _ => none }
theorem call157s496d_ok : CallerOk prog call157s496d := cP_ok n_87_ok rfl rfl (cO_ok n_164s496d_ok (cP_ok n_170_ok rfl rfl c0_ok))
theorem n_157s496d_ok : SigOk prog 157 sig157s496d n_157s496d := fun v r x h hx =>
 fn_ok (X := x157s496d) (sig := sig157s496d) rfl Tryz.func157 (c := bodyOf Tryz.f157) (by kernel_rfl) Tryz.ntmps157 (by kernel_rfl) (by kernel_rfl) rfl Ty.mixed call157s496d_ok rfl (fun C hP hN => (lok_all (kcast (by kernel_rfl) trivial))) (kcast (by kernel_rfl) h) x hx
noncomputable def c186s87ber1 : Cut SN := ⟨[(1, .bp 100000 0), (2, .bp 100001 0), (4, .dat .bool)], [(100000, .box none [.dat (.int .i64)]), (100001, .box none [.dat .str])]⟩
noncomputable def sh186s87be : Shape vw := { rcut := c186s87ber1 }
noncomputable def pre186s87be : Nat → Bool := fun _ => false
noncomputable def sig186s87be : Sig vw := { params := [.dat (.st .itemT), .bp 100000 0, .bp 100001 0], objs := [(100000, .box none [.dat (.int .i64)]), (100001, .box none [.dat .str])], rcut := c186s87ber1, rvars := [.tmp 4], keep := [100000, 100001] }
noncomputable def n_186s87be (v : Item × Int × ByteArray × Unit) : Option (Bool × Int × ByteArray × Unit) :=
 (if (v.1.kind == v.2.1) = true then
    some ((v.1.name0.toList == v.2.2.1.toList, v.2.1, v.2.2.1, ()))
   else some ((false, v.2.1, v.2.2.1, ()))) >>= fun x1 =>
 some ((x1.1, x1.2.1, x1.2.2.1, ()))
noncomputable def call186s87be : Caller vw := c0
noncomputable def x186s87be : Xc vw := { P := prog, n := 15, call := call186s87be, pre := pre186s87be, sh := sh186s87be, regs := fun k => match k with | 1 => some c186s87ber1 | _ => none }
theorem call186s87be_ok : CallerOk prog call186s87be := c0_ok
theorem n_186s87be_ok : SigOk prog 186 sig186s87be n_186s87be := fun v r x h hx =>
 fn_ok (X := x186s87be) (sig := sig186s87be) rfl Tryz.func186 (c := bodyOf Tryz.f186) (by kernel_rfl) Tryz.ntmps186 (by kernel_rfl) (by kernel_rfl) rfl Ty.mixed call186s87be_ok rfl (fun C hP hN => (lok_all (kcast (by kernel_rfl) trivial))) (kcast (by kernel_rfl) h) x hx
noncomputable def c83se24cl2 : Cut SN := ⟨[(0, .vh 100000), (1, .fn 186 [] [100001, 100002]), (7, .dat (.int .i64)), (8, .dat (.int .i64))], [(100000, .vec 44 (.st .itemT)), (100001, .box none [.dat (.int .i64)]), (100002, .box none [.dat .str])]⟩
noncomputable def c83se24ce0 : Cut SN := ⟨[(0, .vh 100000), (1, .fn 186 [] [100001, 100002])], [(100000, .vec 44 (.st .itemT)), (100001, .box none [.dat (.int .i64)]), (100002, .box none [.dat .str])]⟩
noncomputable def c83se24cz : Cut SN := ⟨[(0, .vh 100000), (1, .fn 186 [] [100001, 100002]), (4, .dat (.int .i64))], [(100000, .vec 44 (.st .itemT)), (100001, .box none [.dat (.int .i64)]), (100002, .box none [.dat .str])]⟩
noncomputable def sh83se24c : Shape vw := { exits := fun id => match id with | 0 => c83se24ce0 | _ => ⟨[], []⟩, rcut := c83se24cz }
noncomputable def pre83se24c : Nat → Bool := fun _ => false
noncomputable def sig83se24c : Sig vw := { params := [.vh 100000, .fn 186 [] [100001, 100002]], objs := [(100000, .vec 44 (.st .itemT)), (100001, .box none [.dat (.int .i64)]), (100002, .box none [.dat .str])], rcut := c83se24cz, rvars := [.tmp 4], keep := [100000, 100001, 100002] }
noncomputable def u_83se24cl2 (k : Nat) : (Int × Int × (List Item) × Int × ByteArray × Unit → Option (((Int × (List Item) × Int × ByteArray × Unit) ⊕ ((List Item) × Int × ByteArray × Unit)))) :=
 Nat.rec (motive := fun _ => (Int × Int × (List Item) × Int × ByteArray × Unit → Option (((Int × (List Item) × Int × ByteArray × Unit) ⊕ ((List Item) × Int × ByteArray × Unit))))) (fun _ => none) (fun _ g v =>
 if decide (v.2.1 < v.1) = true then
  if (0 : Int) ≤ v.2.1 ∧ v.2.1 < (↑v.2.2.1.length : Int) then
   v.2.2.1[v.2.1.toNat]? >>= fun x1 =>
   n_186s87be (x1, v.2.2.2.1, v.2.2.2.2.1, ()) >>= fun x2 =>
   if x2.1 = true then
    some (Sum.inl (v.2.1, v.2.2.1, x2.2.1, x2.2.2.1, ()))
   else g (v.1, i64.wrap (v.2.1 + (1 : Int)), v.2.2.1, x2.2.1, x2.2.2.1, ())
  else none
 else some (Sum.inr (v.2.2.1, v.2.2.2.1, v.2.2.2.2.1, ()))) k
noncomputable def n_83se24cl2 (v : Int × Int × (List Item) × Int × ByteArray × Unit) : Option (((Int × (List Item) × Int × ByteArray × Unit) ⊕ ((List Item) × Int × ByteArray × Unit))) := (u_83se24cl2 400) v
noncomputable def n_83se24c (v : (List Item) × Int × ByteArray × Unit) : Option (Int × (List Item) × Int × ByteArray × Unit) :=
 n_83se24cl2 ((↑v.1.length : Int), (0 : Int), v.1, v.2.1, v.2.2.1, ()) >>= fun x1 => match x1 with
  | .inl y1 => some y1
  | .inr y1 => some (((-1 : Int), y1.1, y1.2.1, y1.2.2.1, ()))
noncomputable def call83se24c : Caller vw := cO prog 186 sig186s87be n_186s87be c0
noncomputable def x83se24c : Xc vw := { P := prog, n := 19, call := call83se24c, pre := pre83se24c, sh := sh83se24c, loops := fun k => match k with | 2 => some { cut := c83se24cl2, alts := [.ret, .exit 0], F := n_83se24cl2 } | _ => none }
theorem call83se24c_ok : CallerOk prog call83se24c := cO_ok n_186s87be_ok c0_ok
theorem n_83se24cl2_ok (C : Ctx) (hP : C.P = prog) (hN : C.N = 19 ∧ Fx C pre83se24c) : LoopOk C (loopNo (bodyOf Tryz.f83) 0) (sh := sh83se24c) { cut := c83se24cl2, alts := [.ret, .exit 0], F := n_83se24cl2 } :=
 fun v out h => (Nat.rec (motive := fun k => ∀ v out, (u_83se24cl2 k) v = some out → (AWpL C (loopNo (bodyOf Tryz.f83) 0) (Go.Tx.encS vw (conc vw c83se24cl2 v)) (OutQ sh83se24c [.ret, .exit 0] out))) (fun v out h => by have h : (none : Option (((Int × (List Item) × Int × ByteArray × Unit) ⊕ ((List Item) × Int × ByteArray × Unit)))) = some out := h; cases h) (fun k ih v out h => loop_step (X := x83se24c) (b := (loopNo (bodyOf Tryz.f83) 0)) hP hN Ty.mixed call83se24c_ok (lok_all (X := x83se24c) (c := (loopNo (bodyOf Tryz.f83) 0)) (kcast (by kernel_rfl : True = AllB (LoopsP C (x83se24c)) (loopsIn (loopNo (bodyOf Tryz.f83) 0))) trivial)) ih (kcast (by kernel_rfl) h)) 400 : ∀ v out, (u_83se24cl2 400) v = some out → (AWpL C (loopNo (bodyOf Tryz.f83) 0) (Go.Tx.encS vw (conc vw c83se24cl2 v)) (OutQ sh83se24c [.ret, .exit 0] out))) v out h
theorem n_83se24c_ok : SigOk prog 83 sig83se24c n_83se24c := fun v r x h hx =>
 fn_ok (X := x83se24c) (sig := sig83se24c) rfl Tryz.func83 (c := bodyOf Tryz.f83) (by kernel_rfl) Tryz.ntmps83 (by kernel_rfl) (by kernel_rfl) rfl Ty.mixed call83se24c_ok rfl (fun C hP hN => (lok_all (kcast (by kernel_rfl : AllB (LoopsP C (x83se24c)) [(loopNo (bodyOf Tryz.f83) 0)] = AllB (LoopsP C (x83se24c)) (loopsIn (bodyOf Tryz.f83))) ⟨loop_at (X := x83se24c) (b := (loopNo (bodyOf Tryz.f83) 0)) (by kernel_rfl) (n_83se24cl2_ok C hP hN), trivial⟩))) (kcast (by kernel_rfl) h) x hx
noncomputable def c183se24cz : Cut SN := ⟨[(0, .vh 100000), (1, .fn 186 [] [100001, 100002]), (4, .dat .bool)], [(100000, .vec 44 (.st .itemT)), (100001, .box none [.dat (.int .i64)]), (100002, .box none [.dat .str])]⟩
noncomputable def sh183se24c : Shape vw := { rcut := c183se24cz }
noncomputable def pre183se24c : Nat → Bool := fun _ => false
noncomputable def sig183se24c : Sig vw := { params := [.vh 100000, .fn 186 [] [100001, 100002]], objs := [(100000, .vec 44 (.st .itemT)), (100001, .box none [.dat (.int .i64)]), (100002, .box none [.dat .str])], rcut := c183se24cz, rvars := [.tmp 4], keep := [100000, 100001, 100002] }
noncomputable def n_183se24c (v : (List Item) × Int × ByteArray × Unit) : Option (Bool × (List Item) × Int × ByteArray × Unit) :=
 n_83se24c (v.1, v.2.1, v.2.2.1, ()) >>= fun x1 =>
 if x1.2.1.length = v.1.length then
  some ((decide (x1.1 ≥ (0 : Int)), x1.2.1, x1.2.2.1, x1.2.2.2.1, ()))
 else none
noncomputable def call183se24c : Caller vw := cO prog 83 sig83se24c n_83se24c c0
noncomputable def x183se24c : Xc vw := { P := prog, n := 9, call := call183se24c, pre := pre183se24c, sh := sh183se24c }
theorem call183se24c_ok : CallerOk prog call183se24c := cO_ok n_83se24c_ok c0_ok
theorem n_183se24c_ok : SigOk prog 183 sig183se24c n_183se24c := fun v r x h hx =>
 fn_ok (X := x183se24c) (sig := sig183se24c) rfl Tryz.func183 (c := bodyOf Tryz.f183) (by kernel_rfl) Tryz.ntmps183 (by kernel_rfl) (by kernel_rfl) rfl Ty.mixed call183se24c_ok rfl (fun C hP hN => (lok_all (kcast (by kernel_rfl) trivial))) (kcast (by kernel_rfl) h) x hx
noncomputable def c159s854dz : Cut SN := ⟨[(0, .bp 100000 0), (6, .dat .bool)], [(100000, .box none [.vh 100001]), (100001, .vec 44 (.st .itemT))]⟩
noncomputable def sh159s854d : Shape vw := { rcut := c159s854dz }
noncomputable def pre159s854d : Nat → Bool := fun _ => false
noncomputable def sig159s854d : Sig vw := { params := [.bp 100000 0, .dat (.int .i64), .dat .str], objs := [(100000, .box none [.vh 100001]), (100001, .vec 44 (.st .itemT))], rcut := c159s854dz, rvars := [.tmp 6], keep := [100000, 100001] }
noncomputable def n_159s854d (v : Int × ByteArray × (List Item) × Unit) : Option (Bool × (List Item) × Unit) :=
 n_183se24c (v.2.2.1, v.1, v.2.1, ()) >>= fun x1 =>
 if x1.2.1.length = v.2.2.1.length then
  some ((x1.1, x1.2.1, ()))
 else none
noncomputable def call159s854d : Caller vw := cO prog 183 sig183se24c n_183se24c c0
noncomputable def x159s854d : Xc vw := { P := prog, n := 13, call := call159s854d, pre := pre159s854d, sh := sh159s854d }
theorem call159s854d_ok : CallerOk prog call159s854d := cO_ok n_183se24c_ok c0_ok
theorem n_159s854d_ok : SigOk prog 159 sig159s854d n_159s854d := fun v r x h hx =>
 fn_ok (X := x159s854d) (sig := sig159s854d) rfl Tryz.func159 (c := bodyOf Tryz.f159) (by kernel_rfl) Tryz.ntmps159 (by kernel_rfl) (by kernel_rfl) rfl Ty.mixed call159s854d_ok rfl (fun C hP hN => (lok_all (kcast (by kernel_rfl) trivial))) (kcast (by kernel_rfl) h) x hx
noncomputable def c44l2 : Cut SN := ⟨[(0, .dat (.sl .str)), (1, .dat .str), (7, .dat (.int .i64)), (8, .dat (.int .i64))], []⟩
noncomputable def c44e0 : Cut SN := ⟨[], []⟩
noncomputable def sh44 : Shape vw := { exits := fun id => match id with | 0 => c44e0 | _ => ⟨[], []⟩, rcut := c120z }
noncomputable def pre44 : Nat → Bool := fun _ => false
noncomputable def sig44 : Sig vw := { params := [.dat (.sl .str), .dat .str], rcut := c120z, rvars := [.tmp 4] }
noncomputable def u_44l2 (k : Nat) : ((List ByteArray) × ByteArray × Int × Int × Unit → Option (((Int × Unit) ⊕ (Unit)))) :=
 Nat.rec (motive := fun _ => ((List ByteArray) × ByteArray × Int × Int × Unit → Option (((Int × Unit) ⊕ (Unit))))) (fun _ => none) (fun _ g v =>
 if decide (v.2.2.2.1 < v.2.2.1) = true then
  if (0 : Int) ≤ v.2.2.2.1 then
   v.1[v.2.2.2.1.toNat]? >>= fun x1 =>
   if (v.2.1.toList == x1.toList) = true then
    some (Sum.inl (v.2.2.2.1, ()))
   else g (v.1, v.2.1, v.2.2.1, i64.wrap (v.2.2.2.1 + (1 : Int)), ())
  else none
 else some (Sum.inr ())) k
noncomputable def n_44l2 (v : (List ByteArray) × ByteArray × Int × Int × Unit) : Option (((Int × Unit) ⊕ (Unit))) := (u_44l2 400) v
noncomputable def n_44 (v : (List ByteArray) × ByteArray × Unit) : Option (Int × Unit) :=
 n_44l2 (v.1, v.2.1, (↑v.1.length : Int), (0 : Int), ()) >>= fun x1 => match x1 with
  | .inl y1 => some y1
  | .inr y1 => some (((-1 : Int), ()))
noncomputable def call44 : Caller vw := c0
noncomputable def x44 : Xc vw := { P := prog, n := 19, call := call44, pre := pre44, sh := sh44, loops := fun k => match k with | 2 => some { cut := c44l2, alts := [.ret, .exit 0], F := n_44l2 } | _ => none }
theorem call44_ok : CallerOk prog call44 := c0_ok
theorem n_44l2_ok (C : Ctx) (hP : C.P = prog) (hN : C.N = 19 ∧ Fx C pre44) : LoopOk C (loopNo (bodyOf Tryz.f44) 0) (sh := sh44) { cut := c44l2, alts := [.ret, .exit 0], F := n_44l2 } :=
 fun v out h => (Nat.rec (motive := fun k => ∀ v out, (u_44l2 k) v = some out → (AWpL C (loopNo (bodyOf Tryz.f44) 0) (Go.Tx.encS vw (conc vw c44l2 v)) (OutQ sh44 [.ret, .exit 0] out))) (fun v out h => by have h : (none : Option (((Int × Unit) ⊕ (Unit)))) = some out := h; cases h) (fun k ih v out h => loop_step (X := x44) (b := (loopNo (bodyOf Tryz.f44) 0)) hP hN Ty.mixed call44_ok (lok_all (X := x44) (c := (loopNo (bodyOf Tryz.f44) 0)) (kcast (by kernel_rfl : True = AllB (LoopsP C (x44)) (loopsIn (loopNo (bodyOf Tryz.f44) 0))) trivial)) ih (kcast (by kernel_rfl) h)) 400 : ∀ v out, (u_44l2 400) v = some out → (AWpL C (loopNo (bodyOf Tryz.f44) 0) (Go.Tx.encS vw (conc vw c44l2 v)) (OutQ sh44 [.ret, .exit 0] out))) v out h
theorem n_44_ok : SigOk prog 44 sig44 n_44 := fun v r x h hx =>
 fn_ok (X := x44) (sig := sig44) rfl Tryz.func44 (c := bodyOf Tryz.f44) (by kernel_rfl) Tryz.ntmps44 (by kernel_rfl) (by kernel_rfl) rfl Ty.mixed call44_ok rfl (fun C hP hN => (lok_all (kcast (by kernel_rfl : AllB (LoopsP C (x44)) [(loopNo (bodyOf Tryz.f44) 0)] = AllB (LoopsP C (x44)) (loopsIn (bodyOf Tryz.f44))) ⟨loop_at (X := x44) (b := (loopNo (bodyOf Tryz.f44) 0)) (by kernel_rfl) (n_44l2_ok C hP hN), trivial⟩))) (kcast (by kernel_rfl) h) x hx
noncomputable def sh185 : Shape vw := { rcut := c97r1 }
noncomputable def pre185 : Nat → Bool := fun _ => false
noncomputable def sig185 : Sig vw := { params := [.dat (.sl .str), .dat .str], rcut := c97r1, rvars := [.tmp 4] }
noncomputable def n_185 (v : (List ByteArray) × ByteArray × Unit) : Option (Bool × Unit) :=
 n_44 (v.1, v.2.1, ()) >>= fun x1 =>
 some ((decide (x1.1 ≥ (0 : Int)), ()))
noncomputable def call185 : Caller vw := cP prog 44 sig44 n_44 c0
noncomputable def x185 : Xc vw := { P := prog, n := 9, call := call185, pre := pre185, sh := sh185 }
theorem call185_ok : CallerOk prog call185 := cP_ok n_44_ok rfl rfl c0_ok
theorem n_185_ok : SigOk prog 185 sig185 n_185 := fun v r x h hx =>
 fn_ok (X := x185) (sig := sig185) rfl Tryz.func185 (c := bodyOf Tryz.f185) (by kernel_rfl) Tryz.ntmps185 (by kernel_rfl) (by kernel_rfl) rfl Ty.mixed call185_ok rfl (fun C hP hN => (lok_all (kcast (by kernel_rfl) trivial))) (kcast (by kernel_rfl) h) x hx
noncomputable def c184s3d54r1 : Cut SN := ⟨[(1, .bp 100000 0), (3, .dat .bool)], [(100000, .box none [.dat .str])]⟩
noncomputable def sh184s3d54 : Shape vw := { rcut := c184s3d54r1 }
noncomputable def pre184s3d54 : Nat → Bool := fun _ => false
noncomputable def sig184s3d54 : Sig vw := { params := [.dat (.st .itemT), .bp 100000 0], objs := [(100000, .box none [.dat .str])], rcut := c184s3d54r1, rvars := [.tmp 3], keep := [100000] }
noncomputable def n_184s3d54 (v : Item × ByteArray × Unit) : Option (Bool × ByteArray × Unit) :=
 (if (v.1.kind == (1 : Int)) = true then
    n_185 (v.1.names, v.2.1, ()) >>= fun x1 =>
    some ((x1.1, v.2.1, ()))
   else some ((false, v.2.1, ()))) >>= fun x1 =>
 some ((x1.1, x1.2.1, ()))
noncomputable def call184s3d54 : Caller vw := cP prog 185 sig185 n_185 c0
noncomputable def x184s3d54 : Xc vw := { P := prog, n := 13, call := call184s3d54, pre := pre184s3d54, sh := sh184s3d54, regs := fun k => match k with | 1 => some c184s3d54r1 | _ => none }
theorem call184s3d54_ok : CallerOk prog call184s3d54 := cP_ok n_185_ok rfl rfl c0_ok
theorem n_184s3d54_ok : SigOk prog 184 sig184s3d54 n_184s3d54 := fun v r x h hx =>
 fn_ok (X := x184s3d54) (sig := sig184s3d54) rfl Tryz.func184 (c := bodyOf Tryz.f184) (by kernel_rfl) Tryz.ntmps184 (by kernel_rfl) (by kernel_rfl) rfl Ty.mixed call184s3d54_ok rfl (fun C hP hN => (lok_all (kcast (by kernel_rfl) trivial))) (kcast (by kernel_rfl) h) x hx
noncomputable def c83se36cl2 : Cut SN := ⟨[(0, .vh 100000), (1, .fn 184 [] [100001]), (7, .dat (.int .i64)), (8, .dat (.int .i64))], [(100000, .vec 44 (.st .itemT)), (100001, .box none [.dat .str])]⟩
noncomputable def c83se36ce0 : Cut SN := ⟨[(0, .vh 100000), (1, .fn 184 [] [100001])], [(100000, .vec 44 (.st .itemT)), (100001, .box none [.dat .str])]⟩
noncomputable def c83se36cz : Cut SN := ⟨[(0, .vh 100000), (1, .fn 184 [] [100001]), (4, .dat (.int .i64))], [(100000, .vec 44 (.st .itemT)), (100001, .box none [.dat .str])]⟩
noncomputable def sh83se36c : Shape vw := { exits := fun id => match id with | 0 => c83se36ce0 | _ => ⟨[], []⟩, rcut := c83se36cz }
noncomputable def pre83se36c : Nat → Bool := fun _ => false
noncomputable def sig83se36c : Sig vw := { params := [.vh 100000, .fn 184 [] [100001]], objs := [(100000, .vec 44 (.st .itemT)), (100001, .box none [.dat .str])], rcut := c83se36cz, rvars := [.tmp 4], keep := [100000, 100001] }
noncomputable def u_83se36cl2 (k : Nat) : (Int × Int × (List Item) × ByteArray × Unit → Option (((Int × (List Item) × ByteArray × Unit) ⊕ ((List Item) × ByteArray × Unit)))) :=
 Nat.rec (motive := fun _ => (Int × Int × (List Item) × ByteArray × Unit → Option (((Int × (List Item) × ByteArray × Unit) ⊕ ((List Item) × ByteArray × Unit))))) (fun _ => none) (fun _ g v =>
 if decide (v.2.1 < v.1) = true then
  if (0 : Int) ≤ v.2.1 ∧ v.2.1 < (↑v.2.2.1.length : Int) then
   v.2.2.1[v.2.1.toNat]? >>= fun x1 =>
   n_184s3d54 (x1, v.2.2.2.1, ()) >>= fun x2 =>
   if x2.1 = true then
    some (Sum.inl (v.2.1, v.2.2.1, x2.2.1, ()))
   else g (v.1, i64.wrap (v.2.1 + (1 : Int)), v.2.2.1, x2.2.1, ())
  else none
 else some (Sum.inr (v.2.2.1, v.2.2.2.1, ()))) k
noncomputable def n_83se36cl2 (v : Int × Int × (List Item) × ByteArray × Unit) : Option (((Int × (List Item) × ByteArray × Unit) ⊕ ((List Item) × ByteArray × Unit))) := (u_83se36cl2 400) v
noncomputable def n_83se36c (v : (List Item) × ByteArray × Unit) : Option (Int × (List Item) × ByteArray × Unit) :=
 n_83se36cl2 ((↑v.1.length : Int), (0 : Int), v.1, v.2.1, ()) >>= fun x1 => match x1 with
  | .inl y1 => some y1
  | .inr y1 => some (((-1 : Int), y1.1, y1.2.1, ()))
noncomputable def call83se36c : Caller vw := cO prog 184 sig184s3d54 n_184s3d54 c0
noncomputable def x83se36c : Xc vw := { P := prog, n := 19, call := call83se36c, pre := pre83se36c, sh := sh83se36c, loops := fun k => match k with | 2 => some { cut := c83se36cl2, alts := [.ret, .exit 0], F := n_83se36cl2 } | _ => none }
theorem call83se36c_ok : CallerOk prog call83se36c := cO_ok n_184s3d54_ok c0_ok
theorem n_83se36cl2_ok (C : Ctx) (hP : C.P = prog) (hN : C.N = 19 ∧ Fx C pre83se36c) : LoopOk C (loopNo (bodyOf Tryz.f83) 0) (sh := sh83se36c) { cut := c83se36cl2, alts := [.ret, .exit 0], F := n_83se36cl2 } :=
 fun v out h => (Nat.rec (motive := fun k => ∀ v out, (u_83se36cl2 k) v = some out → (AWpL C (loopNo (bodyOf Tryz.f83) 0) (Go.Tx.encS vw (conc vw c83se36cl2 v)) (OutQ sh83se36c [.ret, .exit 0] out))) (fun v out h => by have h : (none : Option (((Int × (List Item) × ByteArray × Unit) ⊕ ((List Item) × ByteArray × Unit)))) = some out := h; cases h) (fun k ih v out h => loop_step (X := x83se36c) (b := (loopNo (bodyOf Tryz.f83) 0)) hP hN Ty.mixed call83se36c_ok (lok_all (X := x83se36c) (c := (loopNo (bodyOf Tryz.f83) 0)) (kcast (by kernel_rfl : True = AllB (LoopsP C (x83se36c)) (loopsIn (loopNo (bodyOf Tryz.f83) 0))) trivial)) ih (kcast (by kernel_rfl) h)) 400 : ∀ v out, (u_83se36cl2 400) v = some out → (AWpL C (loopNo (bodyOf Tryz.f83) 0) (Go.Tx.encS vw (conc vw c83se36cl2 v)) (OutQ sh83se36c [.ret, .exit 0] out))) v out h
theorem n_83se36c_ok : SigOk prog 83 sig83se36c n_83se36c := fun v r x h hx =>
 fn_ok (X := x83se36c) (sig := sig83se36c) rfl Tryz.func83 (c := bodyOf Tryz.f83) (by kernel_rfl) Tryz.ntmps83 (by kernel_rfl) (by kernel_rfl) rfl Ty.mixed call83se36c_ok rfl (fun C hP hN => (lok_all (kcast (by kernel_rfl : AllB (LoopsP C (x83se36c)) [(loopNo (bodyOf Tryz.f83) 0)] = AllB (LoopsP C (x83se36c)) (loopsIn (bodyOf Tryz.f83))) ⟨loop_at (X := x83se36c) (b := (loopNo (bodyOf Tryz.f83) 0)) (by kernel_rfl) (n_83se36cl2_ok C hP hN), trivial⟩))) (kcast (by kernel_rfl) h) x hx
noncomputable def c183se36cz : Cut SN := ⟨[(0, .vh 100000), (1, .fn 184 [] [100001]), (4, .dat .bool)], [(100000, .vec 44 (.st .itemT)), (100001, .box none [.dat .str])]⟩
noncomputable def sh183se36c : Shape vw := { rcut := c183se36cz }
noncomputable def pre183se36c : Nat → Bool := fun _ => false
noncomputable def sig183se36c : Sig vw := { params := [.vh 100000, .fn 184 [] [100001]], objs := [(100000, .vec 44 (.st .itemT)), (100001, .box none [.dat .str])], rcut := c183se36cz, rvars := [.tmp 4], keep := [100000, 100001] }
noncomputable def n_183se36c (v : (List Item) × ByteArray × Unit) : Option (Bool × (List Item) × ByteArray × Unit) :=
 n_83se36c (v.1, v.2.1, ()) >>= fun x1 =>
 if x1.2.1.length = v.1.length then
  some ((decide (x1.1 ≥ (0 : Int)), x1.2.1, x1.2.2.1, ()))
 else none
noncomputable def call183se36c : Caller vw := cO prog 83 sig83se36c n_83se36c c0
noncomputable def x183se36c : Xc vw := { P := prog, n := 9, call := call183se36c, pre := pre183se36c, sh := sh183se36c }
theorem call183se36c_ok : CallerOk prog call183se36c := cO_ok n_83se36c_ok c0_ok
theorem n_183se36c_ok : SigOk prog 183 sig183se36c n_183se36c := fun v r x h hx =>
 fn_ok (X := x183se36c) (sig := sig183se36c) rfl Tryz.func183 (c := bodyOf Tryz.f183) (by kernel_rfl) Tryz.ntmps183 (by kernel_rfl) (by kernel_rfl) rfl Ty.mixed call183se36c_ok rfl (fun C hP hN => (lok_all (kcast (by kernel_rfl) trivial))) (kcast (by kernel_rfl) h) x hx
noncomputable def c158sd50dr1 : Cut SN := ⟨[(0, .bp 100000 0), (4, .dat .bool)], [(100000, .box none [.vh 100001]), (100001, .vec 44 (.st .itemT))]⟩
noncomputable def sh158sd50d : Shape vw := { rcut := c158sd50dr1 }
noncomputable def pre158sd50d : Nat → Bool := fun _ => false
noncomputable def sig158sd50d : Sig vw := { params := [.bp 100000 0, .dat .str], objs := [(100000, .box none [.vh 100001]), (100001, .vec 44 (.st .itemT))], rcut := c158sd50dr1, rvars := [.tmp 4], keep := [100000, 100001] }
noncomputable def n_158sd50d (v : ByteArray × (List Item) × Unit) : Option (Bool × (List Item) × Unit) :=
 (n_159s854d ((0 : Int), v.1, v.2.1, ()) >>= fun x1 =>
   if x1.2.1.length = v.2.1.length then
    if x1.1 = true then
     some ((true, x1.2.1, ()))
    else n_183se36c (x1.2.1, v.1, ()) >>= fun x2 =>
    if x2.2.1.length = x1.2.1.length then
     some ((x2.1, x2.2.1, ()))
    else none
   else none) >>= fun x1 =>
 some ((x1.1, x1.2.1, ()))
noncomputable def call158sd50d : Caller vw := cO prog 159 sig159s854d n_159s854d (cO prog 183 sig183se36c n_183se36c c0)
noncomputable def x158sd50d : Xc vw := { P := prog, n := 16, call := call158sd50d, pre := pre158sd50d, sh := sh158sd50d, regs := fun k => match k with | 1 => some c158sd50dr1 | _ => none }
theorem call158sd50d_ok : CallerOk prog call158sd50d := cO_ok n_159s854d_ok (cO_ok n_183se36c_ok c0_ok)
theorem n_158sd50d_ok : SigOk prog 158 sig158sd50d n_158sd50d := fun v r x h hx =>
 fn_ok (X := x158sd50d) (sig := sig158sd50d) rfl Tryz.func158 (c := bodyOf Tryz.f158) (by kernel_rfl) Tryz.ntmps158 (by kernel_rfl) (by kernel_rfl) rfl Ty.mixed call158sd50d_ok rfl (fun C hP hN => (lok_all (kcast (by kernel_rfl) trivial))) (kcast (by kernel_rfl) h) x hx
noncomputable def c122s496dj7 : Cut SN := ⟨[(0, .bp 100000 0), (2, .bp 2 0), (3, .bp 3 0)], [(100000, .box none [.bp 100001 0, .dat (.sl .str), .dat .bool]), (2, .st .itemT), (3, .st .itemT), (100001, .box none [.vh 100002]), (100002, .vec 44 (.st .itemT))]⟩
noncomputable def c122s496dz : Cut SN := ⟨[(0, .bp 100000 0), (2, .bp 2 0)], [(100000, .box none [.bp 100001 0, .dat (.sl .str), .dat .bool]), (100001, .box none [.vh 100002]), (100002, .vec 44 (.st .itemT)), (2, .st .itemT)]⟩
noncomputable def sh122s496d : Shape vw := { rcut := c122s496dz }
noncomputable def pre122s496d : Nat → Bool := fun _ => false
noncomputable def sig122s496d : Sig vw := { params := [.bp 100000 0], objs := [(100000, .box none [.bp 100001 0, .dat (.sl .str), .dat .bool]), (100001, .box none [.vh 100002]), (100002, .vec 44 (.st .itemT))], rcut := c122s496dz, rvars := [.cell 2 44], keep := [100000, 100001, 100002] }
noncomputable def n_122s496d (v : (List ByteArray) × Bool × (List Item) × Unit) : Option ((List ByteArray) × Bool × (List Item) × Item × Unit) :=
 n_154se4ea ([ByteArray.mk #[35], ByteArray.mk #[100, 101, 102, 105, 110, 101]], v.1, v.2.1, v.2.2.1, ()) >>= fun x1 =>
 if x1.2.2.1.length = v.2.2.1.length then
  n_155s496d (x1.1, x1.2.1, x1.2.2.1, ()) >>= fun x2 =>
  if x2.2.2.2.1.length = x1.2.2.1.length then
   n_156sf3c8 (ByteArray.mk #[45], x2.2.1, x2.2.2.1, x2.2.2.2.1, ()) >>= fun x3 =>
   if x3.2.2.2.1.length = x2.2.2.2.1.length then
    n_157s496d (x3.2.1, x3.2.2.1, x3.2.2.2.1, ()) >>= fun x4 =>
    if x4.2.2.2.1.length = x3.2.2.2.1.length then
     (if x3.1 = true then
        some ((x4.2.1, x4.2.2.1, Item.mk (0 : Int) (ByteArray.mk #[]) (0 : Int) [] (Layout.mk (0 : Int) (0 : Int) false []), Item.mk (Item.mk (0 : Int) x2.1 (0 : Int) [] (Layout.mk (0 : Int) (0 : Int) false [])).kind (Item.mk (0 : Int) x2.1 (0 : Int) [] (Layout.mk (0 : Int) (0 : Int) false [])).name0 (i64.wrap ((0 : Int) - x4.1)) (Item.mk (0 : Int) x2.1 (0 : Int) [] (Layout.mk (0 : Int) (0 : Int) false [])).names (Layout.mk (Item.mk (0 : Int) x2.1 (0 : Int) [] (Layout.mk (0 : Int) (0 : Int) false [])).layout.kind (Item.mk (0 : Int) x2.1 (0 : Int) [] (Layout.mk (0 : Int) (0 : Int) false [])).layout.n (Item.mk (0 : Int) x2.1 (0 : Int) [] (Layout.mk (0 : Int) (0 : Int) false [])).layout.flag (Item.mk (0 : Int) x2.1 (0 : Int) [] (Layout.mk (0 : Int) (0 : Int) false [])).layout.parts), x4.2.2.2.1, ()))
       else some ((x4.2.1, x4.2.2.1, Item.mk (0 : Int) (ByteArray.mk #[]) (0 : Int) [] (Layout.mk (0 : Int) (0 : Int) false []), Item.mk (Item.mk (0 : Int) x2.1 (0 : Int) [] (Layout.mk (0 : Int) (0 : Int) false [])).kind (Item.mk (0 : Int) x2.1 (0 : Int) [] (Layout.mk (0 : Int) (0 : Int) false [])).name0 x4.1 (Item.mk (0 : Int) x2.1 (0 : Int) [] (Layout.mk (0 : Int) (0 : Int) false [])).names (Layout.mk (Item.mk (0 : Int) x2.1 (0 : Int) [] (Layout.mk (0 : Int) (0 : Int) false [])).layout.kind (Item.mk (0 : Int) x2.1 (0 : Int) [] (Layout.mk (0 : Int) (0 : Int) false [])).layout.n (Item.mk (0 : Int) x2.1 (0 : Int) [] (Layout.mk (0 : Int) (0 : Int) false [])).layout.flag (Item.mk (0 : Int) x2.1 (0 : Int) [] (Layout.mk (0 : Int) (0 : Int) false [])).layout.parts), x4.2.2.2.1, ()))) >>= fun x5 =>
     (if x5.2.1 = true then
        some ((x5.1, true, x5.2.2.1, x5.2.2.2.1, x5.2.2.2.2.1, ()))
       else n_158sd50d (x5.2.2.2.1.name0, x5.2.2.2.2.1, ()) >>= fun x6 =>
       if x6.2.1.length = x5.2.2.2.2.1.length then
        some ((x5.1, x6.1, x5.2.2.1, x5.2.2.2.1, x6.2.1, ()))
       else none) >>= fun x6 =>
     some ((x6.1, x6.2.1, x6.2.2.2.2.1, x6.2.2.2.1, ()))
    else none
   else none
  else none
 else none
noncomputable def call122s496d : Caller vw := cO prog 154 sig154se4ea n_154se4ea (cO prog 155 sig155s496d n_155s496d (cO prog 156 sig156sf3c8 n_156sf3c8 (cO prog 157 sig157s496d n_157s496d (cO prog 158 sig158sd50d n_158sd50d c0))))
noncomputable def x122s496d : Xc vw := { P := prog, n := 38, call := call122s496d, pre := pre122s496d, sh := sh122s496d, joins := fun k => match k with | 7 => some (c122s496dj7, [.norm]) | _ => none, regs := fun k => match k with | 7 => some c122s496dj7 | _ => none }
theorem call122s496d_ok : CallerOk prog call122s496d := cO_ok n_154se4ea_ok (cO_ok n_155s496d_ok (cO_ok n_156sf3c8_ok (cO_ok n_157s496d_ok (cO_ok n_158sd50d_ok c0_ok))))
theorem n_122s496d_ok : SigOk prog 122 sig122s496d n_122s496d := fun v r x h hx =>
 fn_ok (X := x122s496d) (sig := sig122s496d) rfl Tryz.func122 (c := bodyOf Tryz.f122) (by kernel_rfl) Tryz.ntmps122 (by kernel_rfl) (by kernel_rfl) rfl Ty.mixed call122s496d_ok rfl (fun C hP hN => (lok_all (kcast (by kernel_rfl) trivial))) (kcast (by kernel_rfl) h) x hx
noncomputable def c160l2 : Cut SN := ⟨[(0, .dat (.sl .str)), (5, .dat (.sl .str)), (6, .dat (.int .i64)), (7, .dat (.int .i64))], []⟩
noncomputable def sh160 : Shape vw := { exits := fun id => match id with | 0 => c44e0 | _ => ⟨[], []⟩, rcut := c86r1 }
noncomputable def pre160 : Nat → Bool := fun _ => false
noncomputable def sig160 : Sig vw := { params := [.dat (.sl .str)], rcut := c86r1, rvars := [.tmp 2] }
noncomputable def u_160l2 (k : Nat) : ((List ByteArray) × (List ByteArray) × Int × Int × Unit → Option (((Bool × Unit) ⊕ (Unit)))) :=
 Nat.rec (motive := fun _ => ((List ByteArray) × (List ByteArray) × Int × Int × Unit → Option (((Bool × Unit) ⊕ (Unit))))) (fun _ => none) (fun _ g v =>
 if decide (v.2.2.2.1 < v.2.2.1) = true then
  if (0 : Int) ≤ v.2.2.2.1 then
   v.2.1[v.2.2.2.1.toNat]? >>= fun x1 =>
   if (0 : Int) ≤ (0 : Int) ∧ (0 : Int) ≤ v.2.2.2.1 ∧ v.2.2.2.1 ≤ (↑v.1.length : Int) then
    n_185 (List.take v.2.2.2.1.toNat v.1, x1, ()) >>= fun x2 =>
    if x2.1 = true then
     some (Sum.inl (false, ()))
    else g (v.1, v.2.1, v.2.2.1, i64.wrap (v.2.2.2.1 + (1 : Int)), ())
   else none
  else none
 else some (Sum.inr ())) k
noncomputable def n_160l2 (v : (List ByteArray) × (List ByteArray) × Int × Int × Unit) : Option (((Bool × Unit) ⊕ (Unit))) := (u_160l2 400) v
noncomputable def n_160 (v : (List ByteArray) × Unit) : Option (Bool × Unit) :=
 n_160l2 (v.1, v.1, (↑v.1.length : Int), (0 : Int), ()) >>= fun x1 => match x1 with
  | .inl y1 => some y1
  | .inr y1 => some ((true, ()))
noncomputable def call160 : Caller vw := cP prog 185 sig185 n_185 c0
noncomputable def x160 : Xc vw := { P := prog, n := 18, call := call160, pre := pre160, sh := sh160, loops := fun k => match k with | 2 => some { cut := c160l2, alts := [.ret, .exit 0], F := n_160l2 } | _ => none }
theorem call160_ok : CallerOk prog call160 := cP_ok n_185_ok rfl rfl c0_ok
theorem n_160l2_ok (C : Ctx) (hP : C.P = prog) (hN : C.N = 18 ∧ Fx C pre160) : LoopOk C (loopNo (bodyOf Tryz.f160) 0) (sh := sh160) { cut := c160l2, alts := [.ret, .exit 0], F := n_160l2 } :=
 fun v out h => (Nat.rec (motive := fun k => ∀ v out, (u_160l2 k) v = some out → (AWpL C (loopNo (bodyOf Tryz.f160) 0) (Go.Tx.encS vw (conc vw c160l2 v)) (OutQ sh160 [.ret, .exit 0] out))) (fun v out h => by have h : (none : Option (((Bool × Unit) ⊕ (Unit)))) = some out := h; cases h) (fun k ih v out h => loop_step (X := x160) (b := (loopNo (bodyOf Tryz.f160) 0)) hP hN Ty.mixed call160_ok (lok_all (X := x160) (c := (loopNo (bodyOf Tryz.f160) 0)) (kcast (by kernel_rfl : True = AllB (LoopsP C (x160)) (loopsIn (loopNo (bodyOf Tryz.f160) 0))) trivial)) ih (kcast (by kernel_rfl) h)) 400 : ∀ v out, (u_160l2 400) v = some out → (AWpL C (loopNo (bodyOf Tryz.f160) 0) (Go.Tx.encS vw (conc vw c160l2 v)) (OutQ sh160 [.ret, .exit 0] out))) v out h
theorem n_160_ok : SigOk prog 160 sig160 n_160 := fun v r x h hx =>
 fn_ok (X := x160) (sig := sig160) rfl Tryz.func160 (c := bodyOf Tryz.f160) (by kernel_rfl) Tryz.ntmps160 (by kernel_rfl) (by kernel_rfl) rfl Ty.mixed call160_ok rfl (fun C hP hN => (lok_all (kcast (by kernel_rfl : AllB (LoopsP C (x160)) [(loopNo (bodyOf Tryz.f160) 0)] = AllB (LoopsP C (x160)) (loopsIn (bodyOf Tryz.f160))) ⟨loop_at (X := x160) (b := (loopNo (bodyOf Tryz.f160) 0)) (by kernel_rfl) (n_160l2_ok C hP hN), trivial⟩))) (kcast (by kernel_rfl) h) x hx
noncomputable def c187s17f9l2 : Cut SN := ⟨[(0, .vh 100000), (1, .fn 158 [100001] []), (7, .dat (.int .i64)), (8, .dat (.int .i64))], [(100000, .vec 9 .str), (100001, .box none [.vh 100002]), (100002, .vec 44 (.st .itemT))]⟩
noncomputable def c187s17f9e0 : Cut SN := ⟨[(0, .vh 100000), (1, .fn 158 [100001] [])], [(100000, .vec 9 .str), (100001, .box none [.vh 100002]), (100002, .vec 44 (.st .itemT))]⟩
noncomputable def c187s17f9z : Cut SN := ⟨[(0, .vh 100000), (1, .fn 158 [100001] []), (4, .dat (.int .i64))], [(100000, .vec 9 .str), (100001, .box none [.vh 100002]), (100002, .vec 44 (.st .itemT))]⟩
noncomputable def sh187s17f9 : Shape vw := { exits := fun id => match id with | 0 => c187s17f9e0 | _ => ⟨[], []⟩, rcut := c187s17f9z }
noncomputable def pre187s17f9 : Nat → Bool := fun _ => false
noncomputable def sig187s17f9 : Sig vw := { params := [.vh 100000, .fn 158 [100001] []], objs := [(100000, .vec 9 .str), (100001, .box none [.vh 100002]), (100002, .vec 44 (.st .itemT))], rcut := c187s17f9z, rvars := [.tmp 4], keep := [100000, 100001, 100002] }
noncomputable def u_187s17f9l2 (k : Nat) : (Int × Int × (List ByteArray) × (List Item) × Unit → Option (((Int × (List ByteArray) × (List Item) × Unit) ⊕ ((List ByteArray) × (List Item) × Unit)))) :=
 Nat.rec (motive := fun _ => (Int × Int × (List ByteArray) × (List Item) × Unit → Option (((Int × (List ByteArray) × (List Item) × Unit) ⊕ ((List ByteArray) × (List Item) × Unit))))) (fun _ => none) (fun _ g v =>
 if decide (v.2.1 < v.1) = true then
  if (0 : Int) ≤ v.2.1 ∧ v.2.1 < (↑v.2.2.1.length : Int) then
   v.2.2.1[v.2.1.toNat]? >>= fun x1 =>
   n_158sd50d (x1, v.2.2.2.1, ()) >>= fun x2 =>
   if x2.2.1.length = v.2.2.2.1.length then
    if x2.1 = true then
     some (Sum.inl (v.2.1, v.2.2.1, x2.2.1, ()))
    else g (v.1, i64.wrap (v.2.1 + (1 : Int)), v.2.2.1, x2.2.1, ())
   else none
  else none
 else some (Sum.inr (v.2.2.1, v.2.2.2.1, ()))) k
noncomputable def n_187s17f9l2 (v : Int × Int × (List ByteArray) × (List Item) × Unit) : Option (((Int × (List ByteArray) × (List Item) × Unit) ⊕ ((List ByteArray) × (List Item) × Unit))) := (u_187s17f9l2 400) v
noncomputable def n_187s17f9 (v : (List ByteArray) × (List Item) × Unit) : Option (Int × (List ByteArray) × (List Item) × Unit) :=
 n_187s17f9l2 ((↑v.1.length : Int), (0 : Int), v.1, v.2.1, ()) >>= fun x1 => match x1 with
  | .inl y1 => some y1
  | .inr y1 => some (((-1 : Int), y1.1, y1.2.1, ()))
noncomputable def call187s17f9 : Caller vw := cO prog 158 sig158sd50d n_158sd50d c0
noncomputable def x187s17f9 : Xc vw := { P := prog, n := 19, call := call187s17f9, pre := pre187s17f9, sh := sh187s17f9, loops := fun k => match k with | 2 => some { cut := c187s17f9l2, alts := [.ret, .exit 0], F := n_187s17f9l2 } | _ => none }
theorem call187s17f9_ok : CallerOk prog call187s17f9 := cO_ok n_158sd50d_ok c0_ok
theorem n_187s17f9l2_ok (C : Ctx) (hP : C.P = prog) (hN : C.N = 19 ∧ Fx C pre187s17f9) : LoopOk C (loopNo (bodyOf Tryz.f187) 0) (sh := sh187s17f9) { cut := c187s17f9l2, alts := [.ret, .exit 0], F := n_187s17f9l2 } :=
 fun v out h => (Nat.rec (motive := fun k => ∀ v out, (u_187s17f9l2 k) v = some out → (AWpL C (loopNo (bodyOf Tryz.f187) 0) (Go.Tx.encS vw (conc vw c187s17f9l2 v)) (OutQ sh187s17f9 [.ret, .exit 0] out))) (fun v out h => by have h : (none : Option (((Int × (List ByteArray) × (List Item) × Unit) ⊕ ((List ByteArray) × (List Item) × Unit)))) = some out := h; cases h) (fun k ih v out h => loop_step (X := x187s17f9) (b := (loopNo (bodyOf Tryz.f187) 0)) hP hN Ty.mixed call187s17f9_ok (lok_all (X := x187s17f9) (c := (loopNo (bodyOf Tryz.f187) 0)) (kcast (by kernel_rfl : True = AllB (LoopsP C (x187s17f9)) (loopsIn (loopNo (bodyOf Tryz.f187) 0))) trivial)) ih (kcast (by kernel_rfl) h)) 400 : ∀ v out, (u_187s17f9l2 400) v = some out → (AWpL C (loopNo (bodyOf Tryz.f187) 0) (Go.Tx.encS vw (conc vw c187s17f9l2 v)) (OutQ sh187s17f9 [.ret, .exit 0] out))) v out h
theorem n_187s17f9_ok : SigOk prog 187 sig187s17f9 n_187s17f9 := fun v r x h hx =>
 fn_ok (X := x187s17f9) (sig := sig187s17f9) rfl Tryz.func187 (c := bodyOf Tryz.f187) (by kernel_rfl) Tryz.ntmps187 (by kernel_rfl) (by kernel_rfl) rfl Ty.mixed call187s17f9_ok rfl (fun C hP hN => (lok_all (kcast (by kernel_rfl : AllB (LoopsP C (x187s17f9)) [(loopNo (bodyOf Tryz.f187) 0)] = AllB (LoopsP C (x187s17f9)) (loopsIn (bodyOf Tryz.f187))) ⟨loop_at (X := x187s17f9) (b := (loopNo (bodyOf Tryz.f187) 0)) (by kernel_rfl) (n_187s17f9l2_ok C hP hN), trivial⟩))) (kcast (by kernel_rfl) h) x hx
noncomputable def c161s17f9z : Cut SN := ⟨[(0, .vh 100000), (1, .fn 158 [100001] []), (4, .dat .bool)], [(100000, .vec 9 .str), (100001, .box none [.vh 100002]), (100002, .vec 44 (.st .itemT))]⟩
noncomputable def sh161s17f9 : Shape vw := { rcut := c161s17f9z }
noncomputable def pre161s17f9 : Nat → Bool := fun _ => false
noncomputable def sig161s17f9 : Sig vw := { params := [.vh 100000, .fn 158 [100001] []], objs := [(100000, .vec 9 .str), (100001, .box none [.vh 100002]), (100002, .vec 44 (.st .itemT))], rcut := c161s17f9z, rvars := [.tmp 4], keep := [100000, 100001, 100002] }
noncomputable def n_161s17f9 (v : (List ByteArray) × (List Item) × Unit) : Option (Bool × (List ByteArray) × (List Item) × Unit) :=
 n_187s17f9 (v.1, v.2.1, ()) >>= fun x1 =>
 if x1.2.1.length = v.1.length then
  if x1.2.2.1.length = v.2.1.length then
   some ((decide (x1.1 ≥ (0 : Int)), x1.2.1, x1.2.2.1, ()))
  else none
 else none
noncomputable def call161s17f9 : Caller vw := cO prog 187 sig187s17f9 n_187s17f9 c0
noncomputable def x161s17f9 : Xc vw := { P := prog, n := 9, call := call161s17f9, pre := pre161s17f9, sh := sh161s17f9 }
theorem call161s17f9_ok : CallerOk prog call161s17f9 := cO_ok n_187s17f9_ok c0_ok
theorem n_161s17f9_ok : SigOk prog 161 sig161s17f9 n_161s17f9 := fun v r x h hx =>
 fn_ok (X := x161s17f9) (sig := sig161s17f9) rfl Tryz.func161 (c := bodyOf Tryz.f161) (by kernel_rfl) Tryz.ntmps161 (by kernel_rfl) (by kernel_rfl) rfl Ty.mixed call161s17f9_ok rfl (fun C hP hN => (lok_all (kcast (by kernel_rfl) trivial))) (kcast (by kernel_rfl) h) x hx
noncomputable def c123s496dl4 : Cut SN := ⟨[(0, .bp 100000 0), (2, .bp 2 0), (3, .bp 3 0)], [(100000, .box none [.bp 100001 0, .dat (.sl .str), .dat .bool]), (2, .st .itemT), (3, .box none [.dat (.int .i64), .dat .str, .dat (.int .i64), .vh 3033, .dat (.int .i64), .dat (.int .i64), .dat .bool, .vh 3037]), (100001, .box none [.vh 100002]), (3033, .vec 9 .str), (3037, .vec 42 (.st .layoutT)), (100002, .vec 44 (.st .itemT))]⟩
noncomputable def sh123s496d : Shape vw := { exits := fun id => match id with | 0 => c123s496dl4 | _ => ⟨[], []⟩, rcut := c122s496dz }
noncomputable def pre123s496d : Nat → Bool := fun _ => false
noncomputable def sig123s496d : Sig vw := { params := [.bp 100000 0], objs := [(100000, .box none [.bp 100001 0, .dat (.sl .str), .dat .bool]), (100001, .box none [.vh 100002]), (100002, .vec 44 (.st .itemT))], rcut := c122s496dz, rvars := [.cell 2 44], keep := [100000, 100001, 100002] }
noncomputable def u_123s496dl4 (k : Nat) : ((List ByteArray) × Bool × Item × Int × ByteArray × Int × Int × Int × Bool × (List ByteArray) × (List Layout) × (List Item) × Unit → Option (((List ByteArray) × Bool × Item × Int × ByteArray × Int × Int × Int × Bool × (List ByteArray) × (List Layout) × (List Item) × Unit))) :=
 Nat.rec (motive := fun _ => ((List ByteArray) × Bool × Item × Int × ByteArray × Int × Int × Int × Bool × (List ByteArray) × (List Layout) × (List Item) × Unit → Option (((List ByteArray) × Bool × Item × Int × ByteArray × Int × Int × Int × Bool × (List ByteArray) × (List Layout) × (List Item) × Unit)))) (fun _ => none) (fun _ g v =>
 n_155s496d (v.1, v.2.1, v.2.2.2.2.2.2.2.2.2.2.2.1, ()) >>= fun x1 =>
 if x1.2.2.2.1.length = v.2.2.2.2.2.2.2.2.2.2.2.1.length then
  if v.2.2.2.2.2.2.2.2.2.1.length + [x1.1].length ≤ (4294967296 : Nat) then
   n_156sf3c8 (ByteArray.mk #[44], x1.2.1, x1.2.2.1, x1.2.2.2.1, ()) >>= fun x2 =>
   if x2.2.2.2.1.length = x1.2.2.2.1.length then
    if (!x2.1) = true then
     some ((x2.2.1, x2.2.2.1, v.2.2.1, v.2.2.2.1, v.2.2.2.2.1, v.2.2.2.2.2.1, v.2.2.2.2.2.2.1, v.2.2.2.2.2.2.2.1, v.2.2.2.2.2.2.2.2.1, v.2.2.2.2.2.2.2.2.2.1 ++ [x1.1], v.2.2.2.2.2.2.2.2.2.2.1, x2.2.2.2.1, ()))
    else g (x2.2.1, x2.2.2.1, v.2.2.1, v.2.2.2.1, v.2.2.2.2.1, v.2.2.2.2.2.1, v.2.2.2.2.2.2.1, v.2.2.2.2.2.2.2.1, v.2.2.2.2.2.2.2.2.1, v.2.2.2.2.2.2.2.2.2.1 ++ [x1.1], v.2.2.2.2.2.2.2.2.2.2.1, x2.2.2.2.1, ())
   else none
  else none
 else none) k
noncomputable def n_123s496dl4 (v : (List ByteArray) × Bool × Item × Int × ByteArray × Int × Int × Int × Bool × (List ByteArray) × (List Layout) × (List Item) × Unit) : Option (((List ByteArray) × Bool × Item × Int × ByteArray × Int × Int × Int × Bool × (List ByteArray) × (List Layout) × (List Item) × Unit)) := (u_123s496dl4 400) v
noncomputable def n_123s496d (v : (List ByteArray) × Bool × (List Item) × Unit) : Option ((List ByteArray) × Bool × (List Item) × Item × Unit) :=
 n_154se4ea ([ByteArray.mk #[101, 110, 117, 109]], v.1, v.2.1, v.2.2.1, ()) >>= fun x1 =>
 if x1.2.2.1.length = v.2.2.1.length then
  (n_155s496d (x1.1, x1.2.1, x1.2.2.1, ()) >>= fun x2 =>
    if x2.2.2.2.1.length = x1.2.2.1.length then
     some ((x2.2.1, x2.2.2.1, Item.mk (0 : Int) (ByteArray.mk #[]) (0 : Int) [] (Layout.mk (0 : Int) (0 : Int) false []), (1 : Int), x2.1, (0 : Int), (0 : Int), (0 : Int), false, [], [], x2.2.2.2.1, ()))
    else none) >>= fun x2 =>
  n_154se4ea ([ByteArray.mk #[123]], x2.1, x2.2.1, x2.2.2.2.2.2.2.2.2.2.2.2.1, ()) >>= fun x3 =>
  if x3.2.2.1.length = x2.2.2.2.2.2.2.2.2.2.2.2.1.length then
   n_123s496dl4 (x3.1, x3.2.1, x2.2.2.1, x2.2.2.2.1, x2.2.2.2.2.1, x2.2.2.2.2.2.1, x2.2.2.2.2.2.2.1, x2.2.2.2.2.2.2.2.1, x2.2.2.2.2.2.2.2.2.1, x2.2.2.2.2.2.2.2.2.2.1, x2.2.2.2.2.2.2.2.2.2.2.1, x3.2.2.1, ()) >>= fun x4 =>
   n_154se4ea ([ByteArray.mk #[125], ByteArray.mk #[59]], x4.1, x4.2.1, x4.2.2.2.2.2.2.2.2.2.2.2.1, ()) >>= fun x5 =>
   if x5.2.2.1.length = x4.2.2.2.2.2.2.2.2.2.2.2.1.length then
    (if x5.2.1 = true then
       some ((x5.1, true, x4.2.2.1, x4.2.2.2.1, x4.2.2.2.2.1, x4.2.2.2.2.2.1, x4.2.2.2.2.2.2.1, x4.2.2.2.2.2.2.2.1, x4.2.2.2.2.2.2.2.2.1, x4.2.2.2.2.2.2.2.2.2.1, x4.2.2.2.2.2.2.2.2.2.2.1, x5.2.2.1, ()))
      else n_159s854d ((1 : Int), x4.2.2.2.2.1, x5.2.2.1, ()) >>= fun x6 =>
      if x6.2.1.length = x5.2.2.1.length then
       if x6.1 = true then
        some ((x5.1, true, x4.2.2.1, x4.2.2.2.1, x4.2.2.2.2.1, x4.2.2.2.2.2.1, x4.2.2.2.2.2.2.1, x4.2.2.2.2.2.2.2.1, x4.2.2.2.2.2.2.2.2.1, x4.2.2.2.2.2.2.2.2.2.1, x4.2.2.2.2.2.2.2.2.2.2.1, x6.2.1, ()))
       else n_160 (x4.2.2.2.2.2.2.2.2.2.1, ()) >>= fun x7 =>
       if (!x7.1) = true then
        some ((x5.1, true, x4.2.2.1, x4.2.2.2.1, x4.2.2.2.2.1, x4.2.2.2.2.2.1, x4.2.2.2.2.2.2.1, x4.2.2.2.2.2.2.2.1, x4.2.2.2.2.2.2.2.2.1, x4.2.2.2.2.2.2.2.2.2.1, x4.2.2.2.2.2.2.2.2.2.2.1, x6.2.1, ()))
       else n_161s17f9 (x4.2.2.2.2.2.2.2.2.2.1, x6.2.1, ()) >>= fun x8 =>
       if x8.2.1.length = x4.2.2.2.2.2.2.2.2.2.1.length then
        if x8.2.2.1.length = x6.2.1.length then
         some ((x5.1, x8.1, x4.2.2.1, x4.2.2.2.1, x4.2.2.2.2.1, x4.2.2.2.2.2.1, x4.2.2.2.2.2.2.1, x4.2.2.2.2.2.2.2.1, x4.2.2.2.2.2.2.2.2.1, x8.2.1, x4.2.2.2.2.2.2.2.2.2.2.1, x8.2.2.1, ()))
        else none
       else none
      else none) >>= fun x6 =>
    some ((x6.1, x6.2.1, x6.2.2.2.2.2.2.2.2.2.2.2.1, Item.mk x6.2.2.2.1 x6.2.2.2.2.1 x6.2.2.2.2.2.1 x6.2.2.2.2.2.2.2.2.2.1 (Layout.mk x6.2.2.2.2.2.2.1 x6.2.2.2.2.2.2.2.1 x6.2.2.2.2.2.2.2.2.1 x6.2.2.2.2.2.2.2.2.2.2.1), ()))
   else none
  else none
 else none
noncomputable def call123s496d : Caller vw := cO prog 154 sig154se4ea n_154se4ea (cO prog 155 sig155s496d n_155s496d (cO prog 156 sig156sf3c8 n_156sf3c8 (cO prog 159 sig159s854d n_159s854d (cP prog 160 sig160 n_160 (cO prog 161 sig161s17f9 n_161s17f9 c0)))))
noncomputable def x123s496d : Xc vw := { P := prog, n := 59, nm := fun d => match d with | 9 => 40009 | _ => d, call := call123s496d, pre := pre123s496d, sh := sh123s496d, regs := fun k => match k with | 2 => some c123s496dl4 | 7 => some c123s496dl4 | _ => none, loops := fun k => match k with | 4 => some { cut := c123s496dl4, alts := [.exit 0], F := n_123s496dl4 } | _ => none }
theorem call123s496d_ok : CallerOk prog call123s496d := cO_ok n_154se4ea_ok (cO_ok n_155s496d_ok (cO_ok n_156sf3c8_ok (cO_ok n_159s854d_ok (cP_ok n_160_ok rfl rfl (cO_ok n_161s17f9_ok c0_ok)))))
theorem n_123s496dl4_ok (C : Ctx) (hP : C.P = prog) (hN : C.N = 59 ∧ Fx C pre123s496d) : LoopOk C (loopNo (bodyOf Tryz.f123) 0) (sh := sh123s496d) { cut := c123s496dl4, alts := [.exit 0], F := n_123s496dl4 } :=
 fun v out h => (Nat.rec (motive := fun k => ∀ v out, (u_123s496dl4 k) v = some out → (AWpL C (loopNo (bodyOf Tryz.f123) 0) (Go.Tx.encS vw (conc vw c123s496dl4 v)) (OutQ sh123s496d [.exit 0] out))) (fun v out h => by have h : (none : Option (((List ByteArray) × Bool × Item × Int × ByteArray × Int × Int × Int × Bool × (List ByteArray) × (List Layout) × (List Item) × Unit))) = some out := h; cases h) (fun k ih v out h => loop_step (X := x123s496d) (b := (loopNo (bodyOf Tryz.f123) 0)) hP hN Ty.mixed call123s496d_ok (lok_all (X := x123s496d) (c := (loopNo (bodyOf Tryz.f123) 0)) (kcast (by kernel_rfl : True = AllB (LoopsP C (x123s496d)) (loopsIn (loopNo (bodyOf Tryz.f123) 0))) trivial)) ih (kcast (by kernel_rfl) h)) 400 : ∀ v out, (u_123s496dl4 400) v = some out → (AWpL C (loopNo (bodyOf Tryz.f123) 0) (Go.Tx.encS vw (conc vw c123s496dl4 v)) (OutQ sh123s496d [.exit 0] out))) v out h
theorem n_123s496d_ok : SigOk prog 123 sig123s496d n_123s496d := fun v r x h hx =>
 fn_ok (X := x123s496d) (sig := sig123s496d) rfl Tryz.func123 (c := bodyOf Tryz.f123) (by kernel_rfl) Tryz.ntmps123 (by kernel_rfl) (by kernel_rfl) rfl Ty.mixed call123s496d_ok rfl (fun C hP hN => (lok_all (kcast (by kernel_rfl : AllB (LoopsP C (x123s496d)) [(loopNo (bodyOf Tryz.f123) 0)] = AllB (LoopsP C (x123s496d)) (loopsIn (bodyOf Tryz.f123))) ⟨loop_at (X := x123s496d) (b := (loopNo (bodyOf Tryz.f123) 0)) (by kernel_rfl) (n_123s496dl4_ok C hP hN), trivial⟩))) (kcast (by kernel_rfl) h) x hx
noncomputable def c196l3 : Cut SN := ⟨[(1, .bp 1 0), (2, .bp 2 0), (3, .vh 1003), (7, .dat (.sl (.st .layoutT))), (8, .dat (.int .i64)), (9, .dat (.int .i64))], [(1, .st .layoutT), (2, .st .layoutT), (1003, .vec 42 (.st .layoutT))]⟩
noncomputable def c196e0 : Cut SN := ⟨[(1, .bp 1 0), (2, .bp 2 0), (3, .vh 1003)], [(1, .st .layoutT), (2, .st .layoutT), (1003, .vec 42 (.st .layoutT))]⟩
noncomputable def c196z : Cut SN := ⟨[(2, .bp 2 0)], [(2, .st .layoutT)]⟩
noncomputable def sh196 : Shape vw := { exits := fun id => match id with | 0 => c196e0 | _ => ⟨[], []⟩, rcut := c196z }
noncomputable def pre196 : Nat → Bool := fun _ => false
noncomputable def sig196 : Sig vw := { params := [.dat (.st .layoutT)], rcut := c196z, rvars := [.cell 2 42] }
noncomputable def u_196l3 (k : Nat) : ((List Layout) × Int × Int × Layout × Layout × (List Layout) × Unit → Option ((Layout × Layout × (List Layout) × Unit))) × (Layout × Unit → Option (Layout × Unit)) :=
 Nat.rec (motive := fun _ => ((List Layout) × Int × Int × Layout × Layout × (List Layout) × Unit → Option ((Layout × Layout × (List Layout) × Unit))) × (Layout × Unit → Option (Layout × Unit))) (fun _ => none, fun _ => none) (fun _ g => (fun v =>
 if decide (v.2.2.1 < v.2.1) = true then
  if (0 : Int) ≤ v.2.2.1 then
   v.1[v.2.2.1.toNat]? >>= fun x1 =>
   g.2 (x1, ()) >>= fun x2 =>
   if v.2.2.2.2.2.1.length + [x2.1].length ≤ (4294967296 : Nat) then
    g.1 (v.1, v.2.1, i64.wrap (v.2.2.1 + (1 : Int)), v.2.2.2.1, v.2.2.2.2.1, v.2.2.2.2.2.1 ++ [x2.1], ())
   else none
  else none
 else some ((v.2.2.2.1, v.2.2.2.2.1, v.2.2.2.2.2.1, ())),
  fun v =>
 g.1 (v.1.parts, (↑v.1.parts.length : Int), (0 : Int), v.1, Layout.mk (0 : Int) (0 : Int) false [], [], ()) >>= fun x1 =>
 some ((Layout.mk x1.1.kind x1.1.n x1.1.flag x1.2.2.1, ())))) k
noncomputable def n_196 (v : Layout × Unit) : Option (Layout × Unit) := (u_196l3 400).2 v
noncomputable def call196 (n_196l3 : (List Layout) × Int × Int × Layout × Layout × (List Layout) × Unit → Option ((Layout × Layout × (List Layout) × Unit))) (n_196 : Layout × Unit → Option (Layout × Unit)) : Caller vw := fun A fid args S k => match fid with | 196 => callPure prog sig196 n_196 A args S k | _ => none
noncomputable def x196 (n_196l3 : (List Layout) × Int × Int × Layout × Layout × (List Layout) × Unit → Option ((Layout × Layout × (List Layout) × Unit))) (n_196 : Layout × Unit → Option (Layout × Unit)) : Xc vw := { P := prog, n := 22, call := call196 n_196l3 n_196, pre := pre196, sh := sh196, loops := fun k => match k with | 3 => some { cut := c196l3, alts := [.exit 0], F := n_196l3 } | _ => none }
abbrev mn_196l3 (v : (List Layout) × Int × Int × Layout × Layout × (List Layout) × Unit) (r : (Layout × Layout × (List Layout) × Unit)) : Prop := (fun v out => ∀ C : Ctx, C.P = prog → C.N = 22 ∧ Fx C pre196 → AWpL C (loopNo (bodyOf Tryz.f196) 0) (Go.Tx.encS vw (conc vw c196l3 v)) (OutQ sh196 [.exit 0] out)) v r
abbrev mn_196 (v : Layout × Unit) (r : Layout × Unit) : Prop := (fun v r => ∀ x, resV prog sig196 r = some x → FnOk prog 196 (encL vw (startS sig196 v).len (startOs sig196 v).1) (encOs (startS sig196 v).len (startS sig196 v).own) (encV vw (conc vw sig196.rcut r).len x) (encOs (conc vw sig196.rcut r).len (kept sig196 r))) v r
theorem cn_196l3 (f0 : (List Layout) × Int × Int × Layout × Layout × (List Layout) × Unit → Option ((Layout × Layout × (List Layout) × Unit))) (f1 : Layout × Unit → Option (Layout × Unit)) (h0 : ∀ v r, f0 v = some r → mn_196l3 v r) (h1 : ∀ v r, f1 v = some r → mn_196 v r) : CallerOk prog (x196 f0 f1).call := (by
    intro A fid args S dst k r h
    unfold x196 call196 at h
    simp only at h
    split at h
    ·exact callPure_ok ((fun v r x h hx => h1 v r h x hx)) rfl rfl h
    ·cases h)
theorem sn_196l3 (f0 : (List Layout) × Int × Int × Layout × Layout × (List Layout) × Unit → Option ((Layout × Layout × (List Layout) × Unit))) (f1 : Layout × Unit → Option (Layout × Unit)) (h0 : ∀ v r, f0 v = some r → mn_196l3 v r) (h1 : ∀ v r, f1 v = some r → mn_196 v r) (v : (List Layout) × Int × Int × Layout × Layout × (List Layout) × Unit) (r : (Layout × Layout × (List Layout) × Unit)) (h : exL (x196 f0 f1) (loopNo (bodyOf Tryz.f196) 0) c196l3 [.exit 0] f0 v = some r) : mn_196l3 v r := fun C hP hN => loop_step (X := x196 f0 f1) (b := (loopNo (bodyOf Tryz.f196) 0)) hP hN Ty.mixed (cn_196l3 f0 f1 h0 h1) (lok_all (X := x196 f0 f1) (c := (loopNo (bodyOf Tryz.f196) 0)) (kcast (by kernel_rfl : True = AllB (LoopsP C (x196 f0 f1)) (loopsIn (loopNo (bodyOf Tryz.f196) 0))) trivial)) (cut := c196l3) (alts := [.exit 0]) (F := f0) (fun v out h => h0 v out h C hP hN) h
theorem cn_196 (f0 : (List Layout) × Int × Int × Layout × Layout × (List Layout) × Unit → Option ((Layout × Layout × (List Layout) × Unit))) (h0 : ∀ v r, f0 v = some r → mn_196l3 v r) : CallerOk prog (x196 f0 (fun _ => none)).call := (by
    intro A fid args S dst k r h
    unfold x196 call196 at h
    simp only at h
    split at h
    ·exact callPure_ok ((fun v r x h hx => by cases h)) rfl rfl h
    ·cases h)
theorem sn_196 (f0 : (List Layout) × Int × Int × Layout × Layout × (List Layout) × Unit → Option ((Layout × Layout × (List Layout) × Unit))) (h0 : ∀ v r, f0 v = some r → mn_196l3 v r) (v : Layout × Unit) (r : Layout × Unit) (h : exF (x196 f0 (fun _ => none)) sig196 rfl (bodyOf Tryz.f196) v = some r) : mn_196 v r := fun x hx => fn_ok (X := x196 f0 (fun _ => none)) (sig := sig196) rfl Tryz.func196 (c := bodyOf Tryz.f196) (by kernel_rfl) Tryz.ntmps196 (by kernel_rfl) (by kernel_rfl) rfl Ty.mixed (cn_196 f0 h0) rfl (fun C hP hN => (lok_all (X := x196 f0 (fun _ => none)) (c := (bodyOf Tryz.f196)) (kcast (by kernel_rfl : AllB (LoopsP C (x196 f0 (fun _ => none))) [(loopNo (bodyOf Tryz.f196) 0)] = AllB (LoopsP C (x196 f0 (fun _ => none))) (loopsIn (bodyOf Tryz.f196))) ⟨loop_at (X := x196 f0 (fun _ => none)) (b := (loopNo (bodyOf Tryz.f196) 0)) (by kernel_rfl) (show LoopOk C (loopNo (bodyOf Tryz.f196) 0) (sh := sh196) { cut := c196l3, alts := [.exit 0], F := f0 } from fun v out h => h0 v out h C hP hN), trivial⟩))) h x hx
theorem n_196l3_all : ∀ k, (∀ v r, (u_196l3 k).1 v = some r → mn_196l3 v r) ∧ (∀ v r, (u_196l3 k).2 v = some r → mn_196 v r) := fun k =>
 Nat.rec (motive := fun k => (∀ v r, (u_196l3 k).1 v = some r → mn_196l3 v r) ∧ (∀ v r, (u_196l3 k).2 v = some r → mn_196 v r)) ⟨(fun v r h => by have h : (none : Option ((Layout × Layout × (List Layout) × Unit))) = some r := h; cases h),
  (fun v r h => by have h : (none : Option (Layout × Unit)) = some r := h; cases h)⟩ (fun k ih => ⟨(fun v r h => sn_196l3 (u_196l3 k).1 (u_196l3 k).2 (ih.1) (ih.2) v r (kcast (by kernel_rfl) h)),
  (fun v r h => sn_196 (u_196l3 k).1 (ih.1) v r (kcast (by kernel_rfl) h))⟩) k
theorem n_196_ok : SigOk prog 196 sig196 n_196 := fun v r x h hx => (n_196l3_all 400).2 v r h x hx
noncomputable def sh84s87be : Shape vw := { rcut := c186s87ber1 }
noncomputable def pre84s87be : Nat → Bool := fun _ => false
noncomputable def sig84s87be : Sig vw := { params := [.dat (.st .itemT), .bp 100000 0, .bp 100001 0], objs := [(100000, .box none [.dat (.int .i64)]), (100001, .box none [.dat .str])], rcut := c186s87ber1, rvars := [.tmp 4], keep := [100000, 100001] }
noncomputable def n_84s87be (v : Item × Int × ByteArray × Unit) : Option (Bool × Int × ByteArray × Unit) :=
 (if (v.1.kind == v.2.1) = true then
    some ((v.1.name0.toList == v.2.2.1.toList, v.2.1, v.2.2.1, ()))
   else some ((false, v.2.1, v.2.2.1, ()))) >>= fun x1 =>
 some ((x1.1, x1.2.1, x1.2.2.1, ()))
noncomputable def call84s87be : Caller vw := c0
noncomputable def x84s87be : Xc vw := { P := prog, n := 15, call := call84s87be, pre := pre84s87be, sh := sh84s87be, regs := fun k => match k with | 1 => some c186s87ber1 | _ => none }
theorem call84s87be_ok : CallerOk prog call84s87be := c0_ok
theorem n_84s87be_ok : SigOk prog 84 sig84s87be n_84s87be := fun v r x h hx =>
 fn_ok (X := x84s87be) (sig := sig84s87be) rfl Tryz.func84 (c := bodyOf Tryz.f84) (by kernel_rfl) Tryz.ntmps84 (by kernel_rfl) (by kernel_rfl) rfl Ty.mixed call84s87be_ok rfl (fun C hP hN => (lok_all (kcast (by kernel_rfl) trivial))) (kcast (by kernel_rfl) h) x hx
noncomputable def c83s2e3bl2 : Cut SN := ⟨[(0, .vh 100000), (1, .fn 84 [] [100001, 100002]), (7, .dat (.int .i64)), (8, .dat (.int .i64))], [(100000, .vec 44 (.st .itemT)), (100001, .box none [.dat (.int .i64)]), (100002, .box none [.dat .str])]⟩
noncomputable def c83s2e3be0 : Cut SN := ⟨[(0, .vh 100000), (1, .fn 84 [] [100001, 100002])], [(100000, .vec 44 (.st .itemT)), (100001, .box none [.dat (.int .i64)]), (100002, .box none [.dat .str])]⟩
noncomputable def c83s2e3bz : Cut SN := ⟨[(0, .vh 100000), (1, .fn 84 [] [100001, 100002]), (4, .dat (.int .i64))], [(100000, .vec 44 (.st .itemT)), (100001, .box none [.dat (.int .i64)]), (100002, .box none [.dat .str])]⟩
noncomputable def sh83s2e3b : Shape vw := { exits := fun id => match id with | 0 => c83s2e3be0 | _ => ⟨[], []⟩, rcut := c83s2e3bz }
noncomputable def pre83s2e3b : Nat → Bool := fun _ => false
noncomputable def sig83s2e3b : Sig vw := { params := [.vh 100000, .fn 84 [] [100001, 100002]], objs := [(100000, .vec 44 (.st .itemT)), (100001, .box none [.dat (.int .i64)]), (100002, .box none [.dat .str])], rcut := c83s2e3bz, rvars := [.tmp 4], keep := [100000, 100001, 100002] }
noncomputable def u_83s2e3bl2 (k : Nat) : (Int × Int × (List Item) × Int × ByteArray × Unit → Option (((Int × (List Item) × Int × ByteArray × Unit) ⊕ ((List Item) × Int × ByteArray × Unit)))) :=
 Nat.rec (motive := fun _ => (Int × Int × (List Item) × Int × ByteArray × Unit → Option (((Int × (List Item) × Int × ByteArray × Unit) ⊕ ((List Item) × Int × ByteArray × Unit))))) (fun _ => none) (fun _ g v =>
 if decide (v.2.1 < v.1) = true then
  if (0 : Int) ≤ v.2.1 ∧ v.2.1 < (↑v.2.2.1.length : Int) then
   v.2.2.1[v.2.1.toNat]? >>= fun x1 =>
   n_84s87be (x1, v.2.2.2.1, v.2.2.2.2.1, ()) >>= fun x2 =>
   if x2.1 = true then
    some (Sum.inl (v.2.1, v.2.2.1, x2.2.1, x2.2.2.1, ()))
   else g (v.1, i64.wrap (v.2.1 + (1 : Int)), v.2.2.1, x2.2.1, x2.2.2.1, ())
  else none
 else some (Sum.inr (v.2.2.1, v.2.2.2.1, v.2.2.2.2.1, ()))) k
noncomputable def n_83s2e3bl2 (v : Int × Int × (List Item) × Int × ByteArray × Unit) : Option (((Int × (List Item) × Int × ByteArray × Unit) ⊕ ((List Item) × Int × ByteArray × Unit))) := (u_83s2e3bl2 400) v
noncomputable def n_83s2e3b (v : (List Item) × Int × ByteArray × Unit) : Option (Int × (List Item) × Int × ByteArray × Unit) :=
 n_83s2e3bl2 ((↑v.1.length : Int), (0 : Int), v.1, v.2.1, v.2.2.1, ()) >>= fun x1 => match x1 with
  | .inl y1 => some y1
  | .inr y1 => some (((-1 : Int), y1.1, y1.2.1, y1.2.2.1, ()))
noncomputable def call83s2e3b : Caller vw := cO prog 84 sig84s87be n_84s87be c0
noncomputable def x83s2e3b : Xc vw := { P := prog, n := 19, call := call83s2e3b, pre := pre83s2e3b, sh := sh83s2e3b, loops := fun k => match k with | 2 => some { cut := c83s2e3bl2, alts := [.ret, .exit 0], F := n_83s2e3bl2 } | _ => none }
theorem call83s2e3b_ok : CallerOk prog call83s2e3b := cO_ok n_84s87be_ok c0_ok
theorem n_83s2e3bl2_ok (C : Ctx) (hP : C.P = prog) (hN : C.N = 19 ∧ Fx C pre83s2e3b) : LoopOk C (loopNo (bodyOf Tryz.f83) 0) (sh := sh83s2e3b) { cut := c83s2e3bl2, alts := [.ret, .exit 0], F := n_83s2e3bl2 } :=
 fun v out h => (Nat.rec (motive := fun k => ∀ v out, (u_83s2e3bl2 k) v = some out → (AWpL C (loopNo (bodyOf Tryz.f83) 0) (Go.Tx.encS vw (conc vw c83s2e3bl2 v)) (OutQ sh83s2e3b [.ret, .exit 0] out))) (fun v out h => by have h : (none : Option (((Int × (List Item) × Int × ByteArray × Unit) ⊕ ((List Item) × Int × ByteArray × Unit)))) = some out := h; cases h) (fun k ih v out h => loop_step (X := x83s2e3b) (b := (loopNo (bodyOf Tryz.f83) 0)) hP hN Ty.mixed call83s2e3b_ok (lok_all (X := x83s2e3b) (c := (loopNo (bodyOf Tryz.f83) 0)) (kcast (by kernel_rfl : True = AllB (LoopsP C (x83s2e3b)) (loopsIn (loopNo (bodyOf Tryz.f83) 0))) trivial)) ih (kcast (by kernel_rfl) h)) 400 : ∀ v out, (u_83s2e3bl2 400) v = some out → (AWpL C (loopNo (bodyOf Tryz.f83) 0) (Go.Tx.encS vw (conc vw c83s2e3bl2 v)) (OutQ sh83s2e3b [.ret, .exit 0] out))) v out h
theorem n_83s2e3b_ok : SigOk prog 83 sig83s2e3b n_83s2e3b := fun v r x h hx =>
 fn_ok (X := x83s2e3b) (sig := sig83s2e3b) rfl Tryz.func83 (c := bodyOf Tryz.f83) (by kernel_rfl) Tryz.ntmps83 (by kernel_rfl) (by kernel_rfl) rfl Ty.mixed call83s2e3b_ok rfl (fun C hP hN => (lok_all (kcast (by kernel_rfl : AllB (LoopsP C (x83s2e3b)) [(loopNo (bodyOf Tryz.f83) 0)] = AllB (LoopsP C (x83s2e3b)) (loopsIn (bodyOf Tryz.f83))) ⟨loop_at (X := x83s2e3b) (b := (loopNo (bodyOf Tryz.f83) 0)) (by kernel_rfl) (n_83s2e3bl2_ok C hP hN), trivial⟩))) (kcast (by kernel_rfl) h) x hx
noncomputable def c47sd4e5z : Cut SN := ⟨[(0, .vh 100000), (6, .bp 6 0), (7, .dat .bool)], [(100000, .vec 44 (.st .itemT)), (6, .st .itemT)]⟩
noncomputable def sh47sd4e5 : Shape vw := { rcut := c47sd4e5z }
noncomputable def pre47sd4e5 : Nat → Bool := fun _ => false
noncomputable def sig47sd4e5 : Sig vw := { params := [.vh 100000, .dat (.int .i64), .dat .str], objs := [(100000, .vec 44 (.st .itemT))], rcut := c47sd4e5z, rvars := [.cell 6 44, .tmp 7], keep := [100000] }
noncomputable def n_47sd4e5 (v : Int × ByteArray × (List Item) × Unit) : Option (Bool × (List Item) × Item × Unit) :=
 n_83s2e3b (v.2.2.1, v.1, v.2.1, ()) >>= fun x1 =>
 if x1.2.1.length = v.2.2.1.length then
  if decide (x1.1 < (0 : Int)) = true then
   some ((false, x1.2.1, Item.mk (0 : Int) (ByteArray.mk #[]) (0 : Int) [] (Layout.mk (0 : Int) (0 : Int) false []), ()))
  else if (0 : Int) ≤ x1.1 ∧ x1.1 < (↑x1.2.1.length : Int) then
   x1.2.1[x1.1.toNat]? >>= fun x2 =>
   some ((true, x1.2.1, x2, ()))
  else none
 else none
noncomputable def call47sd4e5 : Caller vw := cO prog 83 sig83s2e3b n_83s2e3b c0
noncomputable def x47sd4e5 : Xc vw := { P := prog, n := 19, call := call47sd4e5, pre := pre47sd4e5, sh := sh47sd4e5 }
theorem call47sd4e5_ok : CallerOk prog call47sd4e5 := cO_ok n_83s2e3b_ok c0_ok
theorem n_47sd4e5_ok : SigOk prog 47 sig47sd4e5 n_47sd4e5 := fun v r x h hx =>
 fn_ok (X := x47sd4e5) (sig := sig47sd4e5) rfl Tryz.func47 (c := bodyOf Tryz.f47) (by kernel_rfl) Tryz.ntmps47 (by kernel_rfl) (by kernel_rfl) rfl Ty.mixed call47sd4e5_ok rfl (fun C hP hN => (lok_all (kcast (by kernel_rfl) trivial))) (kcast (by kernel_rfl) h) x hx
noncomputable def c188s496dj7 : Cut SN := ⟨[(0, .bp 100000 0), (2, .bp 2 0), (3, .dat .bool), (4, .dat .str), (12, .dat .bool)], [(100000, .box none [.bp 100001 0, .dat (.sl .str), .dat .bool]), (2, .st .layoutT), (100001, .box none [.vh 100002]), (100002, .vec 44 (.st .itemT))]⟩
noncomputable def c188s496dr8 : Cut SN := ⟨[(0, .bp 100000 0), (2, .bp 2 0), (4, .dat .str)], [(100000, .box none [.bp 100001 0, .dat (.sl .str), .dat .bool]), (2, .st .layoutT), (100001, .box none [.vh 100002]), (100002, .vec 44 (.st .itemT))]⟩
noncomputable def c188s496dr15 : Cut SN := ⟨[(0, .bp 100000 0), (2, .bp 2 0), (5, .bp 5 0), (6, .dat .bool)], [(100000, .box none [.bp 100001 0, .dat (.sl .str), .dat .bool]), (2, .st .layoutT), (5, .st .itemT), (100001, .box none [.vh 100002]), (100002, .vec 44 (.st .itemT))]⟩
noncomputable def c188s496dr16 : Cut SN := ⟨[(0, .bp 100000 0), (2, .bp 2 0), (5, .bp 5 0)], [(100000, .box none [.bp 100001 0, .dat (.sl .str), .dat .bool]), (2, .st .layoutT), (5, .st .itemT), (100001, .box none [.vh 100002]), (100002, .vec 44 (.st .itemT))]⟩
noncomputable def c188s496dr19 : Cut SN := ⟨[(0, .bp 100000 0), (2, .bp 2 0)], [(100000, .box none [.bp 100001 0, .dat (.sl .str), .dat .bool]), (2, .st .layoutT), (100001, .box none [.vh 100002]), (100002, .vec 44 (.st .itemT))]⟩
noncomputable def c188s496dz : Cut SN := ⟨[(0, .bp 100000 0), (2, .bp 2 0)], [(100000, .box none [.bp 100001 0, .dat (.sl .str), .dat .bool]), (100001, .box none [.vh 100002]), (100002, .vec 44 (.st .itemT)), (2, .st .layoutT)]⟩
noncomputable def sh188s496d : Shape vw := { rcut := c188s496dz }
noncomputable def pre188s496d : Nat → Bool := fun _ => false
noncomputable def sig188s496d : Sig vw := { params := [.bp 100000 0], objs := [(100000, .box none [.bp 100001 0, .dat (.sl .str), .dat .bool]), (100001, .box none [.vh 100002]), (100002, .vec 44 (.st .itemT))], rcut := c188s496dz, rvars := [.cell 2 42], keep := [100000, 100001, 100002] }
noncomputable def n_188s496d (v : (List ByteArray) × Bool × (List Item) × Unit) : Option ((List ByteArray) × Bool × (List Item) × Layout × Unit) :=
 n_156sf3c8 (ByteArray.mk #[117, 110, 115, 105, 103, 110, 101, 100], v.1, v.2.1, v.2.2.1, ()) >>= fun x1 =>
 if x1.2.2.2.1.length = v.2.2.1.length then
  n_164s496d (x1.2.1, x1.2.2.1, x1.2.2.2.1, ()) >>= fun x2 =>
  if x2.2.2.2.1.length = x1.2.2.2.1.length then
   (if (x2.1.toList == (ByteArray.mk #[99, 104, 97, 114]).toList) = true then
      some ((x1.1, x2.1, true, x2.2.1, x2.2.2.1, Layout.mk (0 : Int) (0 : Int) false [], x2.2.2.2.1, ()))
     else if (x2.1.toList == (ByteArray.mk #[115, 104, 111, 114, 116]).toList) = true then
      some ((x1.1, x2.1, true, x2.2.1, x2.2.2.1, Layout.mk (0 : Int) (0 : Int) false [], x2.2.2.2.1, ()))
     else some ((x1.1, x2.1, x2.1.toList == (ByteArray.mk #[105, 110, 116]).toList, x2.2.1, x2.2.2.1, Layout.mk (0 : Int) (0 : Int) false [], x2.2.2.2.1, ()))) >>= fun x3 =>
   if x3.2.2.1 = true then
    some ((x3.2.2.2.1, x3.2.2.2.2.1, x3.2.2.2.2.2.2.1, Layout.mk (2 : Int) ((Mp.get Mp.seq x3.2.1 (Mp.set Mp.seq Mp.slt (ByteArray.mk #[105, 110, 116]) (32 : Int) (Mp.set Mp.seq Mp.slt (ByteArray.mk #[115, 104, 111, 114, 116]) (16 : Int) (Mp.set Mp.seq Mp.slt (ByteArray.mk #[99, 104, 97, 114]) (8 : Int) [])))).getD (0 : Int)) (!x3.1) [], ()))
   else (if x3.2.2.2.2.1 = true then
     some ((x3.2.1, x3.2.2.2.1, true, x3.2.2.2.2.2.1, x3.2.2.2.2.2.2.1, ()))
    else some ((x3.2.1, x3.2.2.2.1, x3.1, x3.2.2.2.2.2.1, x3.2.2.2.2.2.2.1, ()))) >>= fun x4 =>
   if (x4.1.toList == (ByteArray.mk #[108, 111, 110, 103]).toList) = true then
    some ((x4.2.1, x4.2.2.1, x4.2.2.2.2.1, Layout.mk (3 : Int) (0 : Int) false [], ()))
   else if (x4.1.toList == (ByteArray.mk #[118, 111, 105, 100]).toList) = true then
    some ((x4.2.1, x4.2.2.1, x4.2.2.2.2.1, Layout.mk (0 : Int) (0 : Int) false [], ()))
   else if (x4.1.toList == (ByteArray.mk #[115, 116, 114, 117, 99, 116]).toList) = true then
    (comb 8 (n_155s496d (x4.2.1, x4.2.2.1, x4.2.2.2.2.1, ()) >>= fun x5 =>
       if x5.2.2.2.1.length = x4.2.2.2.2.1.length then
        n_47sd4e5 ((2 : Int), x5.1, x5.2.2.2.1, ()) >>= fun x6 =>
        if x6.2.1.length = x5.2.2.2.1.length then
         some ((x6.1, x5.2.1, x5.2.2.1, x4.2.2.2.1, x6.2.2.1, x6.2.1, ()))
        else none
       else none)) >>= fun x5 =>
    (if x5.2.2.1 = true then
       some ((x5.2.1, true, x5.2.2.2.1, x5.2.2.2.2.1, x5.2.2.2.2.2.1, ()))
      else some ((x5.2.1, !x5.1, x5.2.2.2.1, x5.2.2.2.2.1, x5.2.2.2.2.2.1, ()))) >>= fun x6 =>
    n_196 (Layout.mk x6.2.2.2.1.layout.kind x6.2.2.2.1.layout.n x6.2.2.2.1.layout.flag x6.2.2.2.1.layout.parts, ()) >>= fun x7 =>
    some ((x6.1, x6.2.1, x6.2.2.2.2.1, x7.1, ()))
   else if (x4.1.toList == (ByteArray.mk #[101, 110, 117, 109]).toList) = true then
    (comb 2 (n_155s496d (x4.2.1, x4.2.2.1, x4.2.2.2.2.1, ()) >>= fun x5 =>
       if x5.2.2.2.1.length = x4.2.2.2.2.1.length then
        n_159s854d ((1 : Int), x5.1, x5.2.2.2.1, ()) >>= fun x6 =>
        if x6.2.1.length = x5.2.2.2.1.length then
         if (!x6.1) = true then
          some ((x5.2.1, true, x4.2.2.2.1, x6.2.1, ()))
         else some ((x5.2.1, x5.2.2.1, x4.2.2.2.1, x6.2.1, ()))
        else none
       else none)) >>= fun x5 =>
    some ((x5.1, x5.2.1, x5.2.2.2.1, Layout.mk (2 : Int) (32 : Int) true [], ()))
   else some ((x4.2.1, true, x4.2.2.2.2.1, Layout.mk (0 : Int) (0 : Int) false [], ()))
  else none
 else none
noncomputable def call188s496d : Caller vw := cO prog 47 sig47sd4e5 n_47sd4e5 (cO prog 155 sig155s496d n_155s496d (cO prog 156 sig156sf3c8 n_156sf3c8 (cO prog 159 sig159s854d n_159s854d (cO prog 164 sig164s496d n_164s496d (cP prog 196 sig196 n_196 c0)))))
noncomputable def x188s496d : Xc vw := { P := prog, n := 93, call := call188s496d, pre := pre188s496d, sh := sh188s496d, joins := fun k => match k with | 7 => some (c188s496dj7, [.norm]) | _ => none, regs := fun k => match k with | 8 => some c188s496dr8 | 15 => some c188s496dr15 | 16 => some c188s496dr16 | 19 => some c188s496dr19 | _ => none, pair := fun k => match k with | 15 => (.node 6 7 .leaf (.node 7 8 .leaf (.node 5 6 .leaf (.node 4 5 .leaf (.node 3 4 .leaf (.node 6 7 .leaf (.node 5 6 .leaf (.node 4 5 .leaf .leaf)))))))) | 19 => (.node 4 5 .leaf (.node 5 6 .leaf .leaf)) | _ => .leaf }
theorem call188s496d_ok : CallerOk prog call188s496d := cO_ok n_47sd4e5_ok (cO_ok n_155s496d_ok (cO_ok n_156sf3c8_ok (cO_ok n_159s854d_ok (cO_ok n_164s496d_ok (cP_ok n_196_ok rfl rfl c0_ok)))))
theorem n_188s496d_ok : SigOk prog 188 sig188s496d n_188s496d := fun v r x h hx =>
 fn_ok (X := x188s496d) (sig := sig188s496d) rfl Tryz.func188 (c := bodyOf Tryz.f188) (by kernel_rfl) Tryz.ntmps188 (by kernel_rfl) (by kernel_rfl) rfl Ty.mixed call188s496d_ok rfl (fun C hP hN => (lok_all (kcast (by kernel_rfl) trivial))) (kcast (by kernel_rfl) h) x hx
noncomputable def c163s3d41l2 : Cut SN := ⟨[(0, .bp 100000 0), (1, .dat .bool), (4, .bp 4 0), (5, .bp 5 0)], [(100000, .box none [.bp 100001 0, .dat (.sl .str), .dat .bool]), (4, .st .layoutT), (5, .st .layoutT), (100001, .box none [.vh 100002]), (100002, .vec 44 (.st .itemT))]⟩
noncomputable def c163s3d41r4 : Cut SN := ⟨[(0, .bp 100000 0), (4, .bp 4 0), (5, .bp 5 0)], [(100000, .box none [.bp 100001 0, .dat (.sl .str), .dat .bool]), (4, .st .layoutT), (5, .st .layoutT), (100001, .box none [.vh 100002]), (100002, .vec 44 (.st .itemT))]⟩
noncomputable def c163s3d41z : Cut SN := ⟨[(0, .bp 100000 0), (4, .bp 4 0)], [(100000, .box none [.bp 100001 0, .dat (.sl .str), .dat .bool]), (100001, .box none [.vh 100002]), (100002, .vec 44 (.st .itemT)), (4, .st .layoutT)]⟩
noncomputable def sh163s3d41 : Shape vw := { exits := fun id => match id with | 0 => c163s3d41l2 | _ => ⟨[], []⟩, rcut := c163s3d41z }
noncomputable def pre163s3d41 : Nat → Bool := fun _ => false
noncomputable def sig163s3d41 : Sig vw := { params := [.bp 100000 0, .dat .bool], objs := [(100000, .box none [.bp 100001 0, .dat (.sl .str), .dat .bool]), (100001, .box none [.vh 100002]), (100002, .vec 44 (.st .itemT))], rcut := c163s3d41z, rvars := [.cell 4 42], keep := [100000, 100001, 100002] }
noncomputable def u_163s3d41l2 (k : Nat) : (Bool × (List ByteArray) × Bool × Layout × Layout × (List Item) × Unit → Option ((Bool × (List ByteArray) × Bool × Layout × Layout × (List Item) × Unit))) :=
 Nat.rec (motive := fun _ => (Bool × (List ByteArray) × Bool × Layout × Layout × (List Item) × Unit → Option ((Bool × (List ByteArray) × Bool × Layout × Layout × (List Item) × Unit)))) (fun _ => none) (fun _ g v =>
 n_156sf3c8 (ByteArray.mk #[42], v.2.1, v.2.2.1, v.2.2.2.2.2.1, ()) >>= fun x1 =>
 if x1.2.2.2.1.length = v.2.2.2.2.2.1.length then
  if x1.1 = true then
   g (v.1, x1.2.1, x1.2.2.1, v.2.2.2.1, Layout.mk (3 : Int) (0 : Int) false [], x1.2.2.2.1, ())
  else some ((v.1, x1.2.1, x1.2.2.1, v.2.2.2.1, v.2.2.2.2.1, x1.2.2.2.1, ()))
 else none) k
noncomputable def n_163s3d41l2 (v : Bool × (List ByteArray) × Bool × Layout × Layout × (List Item) × Unit) : Option ((Bool × (List ByteArray) × Bool × Layout × Layout × (List Item) × Unit)) := (u_163s3d41l2 400) v
noncomputable def n_163s3d41 (v : Bool × (List ByteArray) × Bool × (List Item) × Unit) : Option ((List ByteArray) × Bool × (List Item) × Layout × Unit) :=
 n_188s496d (v.2.1, v.2.2.1, v.2.2.2.1, ()) >>= fun x1 =>
 if x1.2.2.1.length = v.2.2.2.1.length then
  n_163s3d41l2 (v.1, x1.1, x1.2.1, Layout.mk (0 : Int) (0 : Int) false [], x1.2.2.2.1, x1.2.2.1, ()) >>= fun x2 =>
  (if x2.2.2.1 = true then
     some ((x2.2.1, true, x2.2.2.2.1, x2.2.2.2.2.1, x2.2.2.2.2.2.1, ()))
    else if (x2.2.2.2.2.1.kind == (0 : Int)) = true then
     some ((x2.2.1, !x2.1, x2.2.2.2.1, x2.2.2.2.2.1, x2.2.2.2.2.2.1, ()))
    else some ((x2.2.1, false, x2.2.2.2.1, x2.2.2.2.2.1, x2.2.2.2.2.2.1, ()))) >>= fun x3 =>
  some ((x3.1, x3.2.1, x3.2.2.2.2.1, x3.2.2.2.1, ()))
 else none
noncomputable def call163s3d41 : Caller vw := cO prog 156 sig156sf3c8 n_156sf3c8 (cO prog 188 sig188s496d n_188s496d c0)
noncomputable def x163s3d41 : Xc vw := { P := prog, n := 28, call := call163s3d41, pre := pre163s3d41, sh := sh163s3d41, regs := fun k => match k with | 4 => some c163s3d41r4 | _ => none, loops := fun k => match k with | 2 => some { cut := c163s3d41l2, alts := [.exit 0], F := n_163s3d41l2 } | _ => none }
theorem call163s3d41_ok : CallerOk prog call163s3d41 := cO_ok n_156sf3c8_ok (cO_ok n_188s496d_ok c0_ok)
theorem n_163s3d41l2_ok (C : Ctx) (hP : C.P = prog) (hN : C.N = 28 ∧ Fx C pre163s3d41) : LoopOk C (loopNo (bodyOf Tryz.f163) 0) (sh := sh163s3d41) { cut := c163s3d41l2, alts := [.exit 0], F := n_163s3d41l2 } :=
 fun v out h => (Nat.rec (motive := fun k => ∀ v out, (u_163s3d41l2 k) v = some out → (AWpL C (loopNo (bodyOf Tryz.f163) 0) (Go.Tx.encS vw (conc vw c163s3d41l2 v)) (OutQ sh163s3d41 [.exit 0] out))) (fun v out h => by have h : (none : Option ((Bool × (List ByteArray) × Bool × Layout × Layout × (List Item) × Unit))) = some out := h; cases h) (fun k ih v out h => loop_step (X := x163s3d41) (b := (loopNo (bodyOf Tryz.f163) 0)) hP hN Ty.mixed call163s3d41_ok (lok_all (X := x163s3d41) (c := (loopNo (bodyOf Tryz.f163) 0)) (kcast (by kernel_rfl : True = AllB (LoopsP C (x163s3d41)) (loopsIn (loopNo (bodyOf Tryz.f163) 0))) trivial)) ih (kcast (by kernel_rfl) h)) 400 : ∀ v out, (u_163s3d41l2 400) v = some out → (AWpL C (loopNo (bodyOf Tryz.f163) 0) (Go.Tx.encS vw (conc vw c163s3d41l2 v)) (OutQ sh163s3d41 [.exit 0] out))) v out h
theorem n_163s3d41_ok : SigOk prog 163 sig163s3d41 n_163s3d41 := fun v r x h hx =>
 fn_ok (X := x163s3d41) (sig := sig163s3d41) rfl Tryz.func163 (c := bodyOf Tryz.f163) (by kernel_rfl) Tryz.ntmps163 (by kernel_rfl) (by kernel_rfl) rfl Ty.mixed call163s3d41_ok rfl (fun C hP hN => (lok_all (kcast (by kernel_rfl : AllB (LoopsP C (x163s3d41)) [(loopNo (bodyOf Tryz.f163) 0)] = AllB (LoopsP C (x163s3d41)) (loopsIn (bodyOf Tryz.f163))) ⟨loop_at (X := x163s3d41) (b := (loopNo (bodyOf Tryz.f163) 0)) (by kernel_rfl) (n_163s3d41l2_ok C hP hN), trivial⟩))) (kcast (by kernel_rfl) h) x hx
noncomputable def c124s496dj12 : Cut SN := ⟨[(0, .bp 100000 0), (2, .bp 2 0), (3, .bp 3 0), (4, .bp 4 0)], [(100000, .box none [.bp 100001 0, .dat (.sl .str), .dat .bool]), (2, .st .itemT), (3, .box none [.dat (.int .i64), .dat .str, .dat (.int .i64), .vh 3033, .dat (.int .i64), .dat (.int .i64), .dat .bool, .vh 3037]), (4, .st .layoutT), (100001, .box none [.vh 100002]), (3033, .vec 9 .str), (3037, .vec 42 (.st .layoutT)), (100002, .vec 44 (.st .itemT))]⟩
noncomputable def c124s496dr4 : Cut SN := ⟨[(0, .bp 100000 0), (2, .bp 2 0), (3, .bp 3 0), (25, .dat .bool)], [(100000, .box none [.bp 100001 0, .dat (.sl .str), .dat .bool]), (2, .st .itemT), (3, .box none [.dat (.int .i64), .dat .str, .dat (.int .i64), .vh 3033, .dat (.int .i64), .dat (.int .i64), .dat .bool, .vh 3037]), (100001, .box none [.vh 100002]), (3033, .vec 9 .str), (3037, .vec 42 (.st .layoutT)), (100002, .vec 44 (.st .itemT))]⟩
noncomputable def c124s496dr9 : Cut SN := ⟨[(0, .bp 100000 0), (2, .bp 2 0), (3, .bp 3 0), (4, .bp 4 0), (5, .dat (.int .i64))], [(100000, .box none [.bp 100001 0, .dat (.sl .str), .dat .bool]), (2, .st .itemT), (3, .box none [.dat (.int .i64), .dat .str, .dat (.int .i64), .vh 3033, .dat (.int .i64), .dat (.int .i64), .dat .bool, .vh 3037]), (4, .st .layoutT), (100001, .box none [.vh 100002]), (3033, .vec 9 .str), (3037, .vec 42 (.st .layoutT)), (100002, .vec 44 (.st .itemT))]⟩
noncomputable def sh124s496d : Shape vw := { exits := fun id => match id with | 0 => c123s496dl4 | _ => ⟨[], []⟩, rcut := c122s496dz }
noncomputable def pre124s496d : Nat → Bool := fun _ => false
noncomputable def sig124s496d : Sig vw := { params := [.bp 100000 0], objs := [(100000, .box none [.bp 100001 0, .dat (.sl .str), .dat .bool]), (100001, .box none [.vh 100002]), (100002, .vec 44 (.st .itemT))], rcut := c122s496dz, rvars := [.cell 2 44], keep := [100000, 100001, 100002] }
noncomputable def u_124s496dl4 (k : Nat) : ((List ByteArray) × Bool × Item × Int × ByteArray × Int × Int × Int × Bool × (List ByteArray) × (List Layout) × (List Item) × Unit → Option (((List ByteArray) × Bool × Item × Int × ByteArray × Int × Int × Int × Bool × (List ByteArray) × (List Layout) × (List Item) × Unit))) :=
 Nat.rec (motive := fun _ => ((List ByteArray) × Bool × Item × Int × ByteArray × Int × Int × Int × Bool × (List ByteArray) × (List Layout) × (List Item) × Unit → Option (((List ByteArray) × Bool × Item × Int × ByteArray × Int × Int × Int × Bool × (List ByteArray) × (List Layout) × (List Item) × Unit)))) (fun _ => none) (fun _ g v =>
 (if (!v.2.1) = true then
    n_162s496d (v.1, v.2.1, v.2.2.2.2.2.2.2.2.2.2.2.1, ()) >>= fun x1 =>
    if x1.2.2.2.1.length = v.2.2.2.2.2.2.2.2.2.2.2.1.length then
     some ((!x1.1.toList == (ByteArray.mk #[125]).toList, x1.2.1, x1.2.2.1, v.2.2.1, v.2.2.2.1, v.2.2.2.2.1, v.2.2.2.2.2.1, v.2.2.2.2.2.2.1, v.2.2.2.2.2.2.2.1, v.2.2.2.2.2.2.2.2.1, v.2.2.2.2.2.2.2.2.2.1, v.2.2.2.2.2.2.2.2.2.2.1, x1.2.2.2.1, ()))
    else none
   else some ((false, v.1, v.2.1, v.2.2.1, v.2.2.2.1, v.2.2.2.2.1, v.2.2.2.2.2.1, v.2.2.2.2.2.2.1, v.2.2.2.2.2.2.2.1, v.2.2.2.2.2.2.2.2.1, v.2.2.2.2.2.2.2.2.2.1, v.2.2.2.2.2.2.2.2.2.2.1, v.2.2.2.2.2.2.2.2.2.2.2.1, ()))) >>= fun x1 =>
 if x1.1 = true then
  n_163s3d41 (false, x1.2.1, x1.2.2.1, x1.2.2.2.2.2.2.2.2.2.2.2.2.1, ()) >>= fun x2 =>
  if x2.2.2.1.length = x1.2.2.2.2.2.2.2.2.2.2.2.2.1.length then
   n_155s496d (x2.1, x2.2.1, x2.2.2.1, ()) >>= fun x3 =>
   if x3.2.2.2.1.length = x2.2.2.1.length then
    if x1.2.2.2.2.2.2.2.2.2.2.1.length + [x3.1].length ≤ (4294967296 : Nat) then
     (n_156sf3c8 (ByteArray.mk #[91], x3.2.1, x3.2.2.1, x3.2.2.2.1, ()) >>= fun x4 =>
       if x4.2.2.2.1.length = x3.2.2.2.1.length then
        if x4.1 = true then
         n_157s496d (x4.2.1, x4.2.2.1, x4.2.2.2.1, ()) >>= fun x5 =>
         if x5.2.2.2.1.length = x4.2.2.2.1.length then
          (if x5.2.2.1 = true then
             some ((x5.1, x5.2.1, true, x1.2.2.2.1, x1.2.2.2.2.1, x1.2.2.2.2.2.1, x1.2.2.2.2.2.2.1, x1.2.2.2.2.2.2.2.1, x1.2.2.2.2.2.2.2.2.1, x1.2.2.2.2.2.2.2.2.2.1, x2.2.2.2.1, x1.2.2.2.2.2.2.2.2.2.2.1 ++ [x3.1], x1.2.2.2.2.2.2.2.2.2.2.2.1, x5.2.2.2.1, ()))
            else some ((x5.1, x5.2.1, decide (x5.1 < (1 : Int)), x1.2.2.2.1, x1.2.2.2.2.1, x1.2.2.2.2.2.1, x1.2.2.2.2.2.2.1, x1.2.2.2.2.2.2.2.1, x1.2.2.2.2.2.2.2.2.1, x1.2.2.2.2.2.2.2.2.2.1, x2.2.2.2.1, x1.2.2.2.2.2.2.2.2.2.2.1 ++ [x3.1], x1.2.2.2.2.2.2.2.2.2.2.2.1, x5.2.2.2.1, ()))) >>= fun x6 =>
          n_154se4ea ([ByteArray.mk #[93]], x6.2.1, x6.2.2.1, x6.2.2.2.2.2.2.2.2.2.2.2.2.2.1, ()) >>= fun x7 =>
          if x7.2.2.1.length = x6.2.2.2.2.2.2.2.2.2.2.2.2.2.1.length then
           some ((x7.1, x7.2.1, x6.2.2.2.1, x6.2.2.2.2.1, x6.2.2.2.2.2.1, x6.2.2.2.2.2.2.1, x6.2.2.2.2.2.2.2.1, x6.2.2.2.2.2.2.2.2.1, x6.2.2.2.2.2.2.2.2.2.1, Layout.mk (5 : Int) x6.1 false [x6.2.2.2.2.2.2.2.2.2.2.1], x6.2.2.2.2.2.2.2.2.2.2.2.1, x6.2.2.2.2.2.2.2.2.2.2.2.2.1, x7.2.2.1, ()))
          else none
         else none
        else some ((x4.2.1, x4.2.2.1, x1.2.2.2.1, x1.2.2.2.2.1, x1.2.2.2.2.2.1, x1.2.2.2.2.2.2.1, x1.2.2.2.2.2.2.2.1, x1.2.2.2.2.2.2.2.2.1, x1.2.2.2.2.2.2.2.2.2.1, x2.2.2.2.1, x1.2.2.2.2.2.2.2.2.2.2.1 ++ [x3.1], x1.2.2.2.2.2.2.2.2.2.2.2.1, x4.2.2.2.1, ()))
       else none) >>= fun x4 =>
     n_154se4ea ([ByteArray.mk #[59]], x4.1, x4.2.1, x4.2.2.2.2.2.2.2.2.2.2.2.2.1, ()) >>= fun x5 =>
     if x5.2.2.1.length = x4.2.2.2.2.2.2.2.2.2.2.2.2.1.length then
      if x4.2.2.2.2.2.2.2.2.2.2.2.1.length + [x4.2.2.2.2.2.2.2.2.2.1].length ≤ (4294967296 : Nat) then
       g (x5.1, x5.2.1, x4.2.2.1, x4.2.2.2.1, x4.2.2.2.2.1, x4.2.2.2.2.2.1, x4.2.2.2.2.2.2.1, x4.2.2.2.2.2.2.2.1, x4.2.2.2.2.2.2.2.2.1, x4.2.2.2.2.2.2.2.2.2.2.1, x4.2.2.2.2.2.2.2.2.2.2.2.1 ++ [x4.2.2.2.2.2.2.2.2.2.1], x5.2.2.1, ())
      else none
     else none
    else none
   else none
  else none
 else some ((x1.2.1, x1.2.2.1, x1.2.2.2.1, x1.2.2.2.2.1, x1.2.2.2.2.2.1, x1.2.2.2.2.2.2.1, x1.2.2.2.2.2.2.2.1, x1.2.2.2.2.2.2.2.2.1, x1.2.2.2.2.2.2.2.2.2.1, x1.2.2.2.2.2.2.2.2.2.2.1, x1.2.2.2.2.2.2.2.2.2.2.2.1, x1.2.2.2.2.2.2.2.2.2.2.2.2.1, ()))) k
noncomputable def n_124s496dl4 (v : (List ByteArray) × Bool × Item × Int × ByteArray × Int × Int × Int × Bool × (List ByteArray) × (List Layout) × (List Item) × Unit) : Option (((List ByteArray) × Bool × Item × Int × ByteArray × Int × Int × Int × Bool × (List ByteArray) × (List Layout) × (List Item) × Unit)) := (u_124s496dl4 400) v
noncomputable def n_124s496d (v : (List ByteArray) × Bool × (List Item) × Unit) : Option ((List ByteArray) × Bool × (List Item) × Item × Unit) :=
 n_154se4ea ([ByteArray.mk #[115, 116, 114, 117, 99, 116]], v.1, v.2.1, v.2.2.1, ()) >>= fun x1 =>
 if x1.2.2.1.length = v.2.2.1.length then
  (n_155s496d (x1.1, x1.2.1, x1.2.2.1, ()) >>= fun x2 =>
    if x2.2.2.2.1.length = x1.2.2.1.length then
     some ((x2.2.1, x2.2.2.1, Item.mk (0 : Int) (ByteArray.mk #[]) (0 : Int) [] (Layout.mk (0 : Int) (0 : Int) false []), (2 : Int), x2.1, (0 : Int), (6 : Int), (0 : Int), false, [], [], x2.2.2.2.1, ()))
    else none) >>= fun x2 =>
  n_154se4ea ([ByteArray.mk #[123]], x2.1, x2.2.1, x2.2.2.2.2.2.2.2.2.2.2.2.1, ()) >>= fun x3 =>
  if x3.2.2.1.length = x2.2.2.2.2.2.2.2.2.2.2.2.1.length then
   n_124s496dl4 (x3.1, x3.2.1, x2.2.2.1, x2.2.2.2.1, x2.2.2.2.2.1, x2.2.2.2.2.2.1, x2.2.2.2.2.2.2.1, x2.2.2.2.2.2.2.2.1, x2.2.2.2.2.2.2.2.2.1, x2.2.2.2.2.2.2.2.2.2.1, x2.2.2.2.2.2.2.2.2.2.2.1, x3.2.2.1, ()) >>= fun x4 =>
   n_154se4ea ([ByteArray.mk #[125], ByteArray.mk #[59]], x4.1, x4.2.1, x4.2.2.2.2.2.2.2.2.2.2.2.1, ()) >>= fun x5 =>
   if x5.2.2.1.length = x4.2.2.2.2.2.2.2.2.2.2.2.1.length then
    (if x5.2.1 = true then
       some ((x5.1, true, x4.2.2.1, x4.2.2.2.1, x4.2.2.2.2.1, x4.2.2.2.2.2.1, x4.2.2.2.2.2.2.1, x4.2.2.2.2.2.2.2.1, x4.2.2.2.2.2.2.2.2.1, x4.2.2.2.2.2.2.2.2.2.1, x4.2.2.2.2.2.2.2.2.2.2.1, x5.2.2.1, ()))
      else if ((↑x4.2.2.2.2.2.2.2.2.2.1.length : Int) == (0 : Int)) = true then
       some ((x5.1, true, x4.2.2.1, x4.2.2.2.1, x4.2.2.2.2.1, x4.2.2.2.2.2.1, x4.2.2.2.2.2.2.1, x4.2.2.2.2.2.2.2.1, x4.2.2.2.2.2.2.2.2.1, x4.2.2.2.2.2.2.2.2.2.1, x4.2.2.2.2.2.2.2.2.2.2.1, x5.2.2.1, ()))
      else n_160 (x4.2.2.2.2.2.2.2.2.2.1, ()) >>= fun x6 =>
      if (!x6.1) = true then
       some ((x5.1, true, x4.2.2.1, x4.2.2.2.1, x4.2.2.2.2.1, x4.2.2.2.2.2.1, x4.2.2.2.2.2.2.1, x4.2.2.2.2.2.2.2.1, x4.2.2.2.2.2.2.2.2.1, x4.2.2.2.2.2.2.2.2.2.1, x4.2.2.2.2.2.2.2.2.2.2.1, x5.2.2.1, ()))
      else n_159s854d ((2 : Int), x4.2.2.2.2.1, x5.2.2.1, ()) >>= fun x7 =>
      if x7.2.1.length = x5.2.2.1.length then
       some ((x5.1, x7.1, x4.2.2.1, x4.2.2.2.1, x4.2.2.2.2.1, x4.2.2.2.2.2.1, x4.2.2.2.2.2.2.1, x4.2.2.2.2.2.2.2.1, x4.2.2.2.2.2.2.2.2.1, x4.2.2.2.2.2.2.2.2.2.1, x4.2.2.2.2.2.2.2.2.2.2.1, x7.2.1, ()))
      else none) >>= fun x6 =>
    some ((x6.1, x6.2.1, x6.2.2.2.2.2.2.2.2.2.2.2.1, Item.mk x6.2.2.2.1 x6.2.2.2.2.1 x6.2.2.2.2.2.1 x6.2.2.2.2.2.2.2.2.2.1 (Layout.mk x6.2.2.2.2.2.2.1 x6.2.2.2.2.2.2.2.1 x6.2.2.2.2.2.2.2.2.1 x6.2.2.2.2.2.2.2.2.2.2.1), ()))
   else none
  else none
 else none
noncomputable def call124s496d : Caller vw := cO prog 154 sig154se4ea n_154se4ea (cO prog 155 sig155s496d n_155s496d (cO prog 156 sig156sf3c8 n_156sf3c8 (cO prog 157 sig157s496d n_157s496d (cO prog 159 sig159s854d n_159s854d (cP prog 160 sig160 n_160 (cO prog 162 sig162s496d n_162s496d (cO prog 163 sig163s3d41 n_163s3d41 c0)))))))
noncomputable def x124s496d : Xc vw := { P := prog, n := 100, nm := fun d => match d with | 11 => 40011 | 12 => 40012 | _ => d, call := call124s496d, pre := pre124s496d, sh := sh124s496d, joins := fun k => match k with | 12 => some (c124s496dj12, [.norm]) | _ => none, regs := fun k => match k with | 2 => some c123s496dl4 | 4 => some c124s496dr4 | 9 => some c124s496dr9 | 15 => some c123s496dl4 | _ => none, loops := fun k => match k with | 4 => some { cut := c123s496dl4, alts := [.exit 0], F := n_124s496dl4 } | _ => none }
theorem call124s496d_ok : CallerOk prog call124s496d := cO_ok n_154se4ea_ok (cO_ok n_155s496d_ok (cO_ok n_156sf3c8_ok (cO_ok n_157s496d_ok (cO_ok n_159s854d_ok (cP_ok n_160_ok rfl rfl (cO_ok n_162s496d_ok (cO_ok n_163s3d41_ok c0_ok)))))))
theorem n_124s496dl4_ok (C : Ctx) (hP : C.P = prog) (hN : C.N = 100 ∧ Fx C pre124s496d) : LoopOk C (loopNo (bodyOf Tryz.f124) 0) (sh := sh124s496d) { cut := c123s496dl4, alts := [.exit 0], F := n_124s496dl4 } :=
 fun v out h => (Nat.rec (motive := fun k => ∀ v out, (u_124s496dl4 k) v = some out → (AWpL C (loopNo (bodyOf Tryz.f124) 0) (Go.Tx.encS vw (conc vw c123s496dl4 v)) (OutQ sh124s496d [.exit 0] out))) (fun v out h => by have h : (none : Option (((List ByteArray) × Bool × Item × Int × ByteArray × Int × Int × Int × Bool × (List ByteArray) × (List Layout) × (List Item) × Unit))) = some out := h; cases h) (fun k ih v out h => loop_step (X := x124s496d) (b := (loopNo (bodyOf Tryz.f124) 0)) hP hN Ty.mixed call124s496d_ok (lok_all (X := x124s496d) (c := (loopNo (bodyOf Tryz.f124) 0)) (kcast (by kernel_rfl : True = AllB (LoopsP C (x124s496d)) (loopsIn (loopNo (bodyOf Tryz.f124) 0))) trivial)) ih (kcast (by kernel_rfl) h)) 400 : ∀ v out, (u_124s496dl4 400) v = some out → (AWpL C (loopNo (bodyOf Tryz.f124) 0) (Go.Tx.encS vw (conc vw c123s496dl4 v)) (OutQ sh124s496d [.exit 0] out))) v out h
theorem n_124s496d_ok : SigOk prog 124 sig124s496d n_124s496d := fun v r x h hx =>
 fn_ok (X := x124s496d) (sig := sig124s496d) rfl Tryz.func124 (c := bodyOf Tryz.f124) (by kernel_rfl) Tryz.ntmps124 (by kernel_rfl) (by kernel_rfl) rfl Ty.mixed call124s496d_ok rfl (fun C hP hN => (lok_all (kcast (by kernel_rfl : AllB (LoopsP C (x124s496d)) [(loopNo (bodyOf Tryz.f124) 0)] = AllB (LoopsP C (x124s496d)) (loopsIn (bodyOf Tryz.f124))) ⟨loop_at (X := x124s496d) (b := (loopNo (bodyOf Tryz.f124) 0)) (by kernel_rfl) (n_124s496dl4_ok C hP hN), trivial⟩))) (kcast (by kernel_rfl) h) x hx
noncomputable def c125s496dl5 : Cut SN := ⟨[(0, .bp 100000 0), (2, .bp 2 0), (3, .bp 3 0), (4, .bp 4 0)], [(100000, .box none [.bp 100001 0, .dat (.sl .str), .dat .bool]), (2, .st .itemT), (3, .st .layoutT), (4, .box none [.dat (.int .i64), .dat .str, .dat (.int .i64), .vh 3043, .dat (.int .i64), .dat (.int .i64), .dat .bool, .vh 3047]), (100001, .box none [.vh 100002]), (3043, .vec 9 .str), (3047, .vec 42 (.st .layoutT)), (100002, .vec 44 (.st .itemT))]⟩
noncomputable def c125s496dr4 : Cut SN := ⟨[(0, .bp 100000 0), (2, .bp 2 0), (3, .bp 3 0), (4, .bp 4 0), (38, .dat .bool)], [(100000, .box none [.bp 100001 0, .dat (.sl .str), .dat .bool]), (2, .st .itemT), (3, .st .layoutT), (4, .box none [.dat (.int .i64), .dat .str, .dat (.int .i64), .vh 3043, .dat (.int .i64), .dat (.int .i64), .dat .bool, .vh 3047]), (100001, .box none [.vh 100002]), (3043, .vec 9 .str), (3047, .vec 42 (.st .layoutT)), (100002, .vec 44 (.st .itemT))]⟩
noncomputable def c125s496dr12 : Cut SN := ⟨[(0, .bp 100000 0), (2, .bp 2 0), (4, .bp 4 0)], [(100000, .box none [.bp 100001 0, .dat (.sl .str), .dat .bool]), (2, .st .itemT), (4, .box none [.dat (.int .i64), .dat .str, .dat (.int .i64), .vh 3043, .dat (.int .i64), .dat (.int .i64), .dat .bool, .vh 3047]), (100001, .box none [.vh 100002]), (3043, .vec 9 .str), (3047, .vec 42 (.st .layoutT)), (100002, .vec 44 (.st .itemT))]⟩
noncomputable def sh125s496d : Shape vw := { exits := fun id => match id with | 0 => c125s496dl5 | _ => ⟨[], []⟩, rcut := c122s496dz }
noncomputable def pre125s496d : Nat → Bool := fun _ => false
noncomputable def sig125s496d : Sig vw := { params := [.bp 100000 0], objs := [(100000, .box none [.bp 100001 0, .dat (.sl .str), .dat .bool]), (100001, .box none [.vh 100002]), (100002, .vec 44 (.st .itemT))], rcut := c122s496dz, rvars := [.cell 2 44], keep := [100000, 100001, 100002] }
noncomputable def u_125s496dl5 (k : Nat) : ((List ByteArray) × Bool × Item × Layout × Int × ByteArray × Int × Int × Int × Bool × (List ByteArray) × (List Layout) × (List Item) × Unit → Option (((List ByteArray) × Bool × Item × Layout × Int × ByteArray × Int × Int × Int × Bool × (List ByteArray) × (List Layout) × (List Item) × Unit))) :=
 Nat.rec (motive := fun _ => ((List ByteArray) × Bool × Item × Layout × Int × ByteArray × Int × Int × Int × Bool × (List ByteArray) × (List Layout) × (List Item) × Unit → Option (((List ByteArray) × Bool × Item × Layout × Int × ByteArray × Int × Int × Int × Bool × (List ByteArray) × (List Layout) × (List Item) × Unit)))) (fun _ => none) (fun _ g v =>
 n_163s3d41 (false, v.1, v.2.1, v.2.2.2.2.2.2.2.2.2.2.2.2.1, ()) >>= fun x1 =>
 if x1.2.2.1.length = v.2.2.2.2.2.2.2.2.2.2.2.2.1.length then
  n_155s496d (x1.1, x1.2.1, x1.2.2.1, ()) >>= fun x2 =>
  if x2.2.2.2.1.length = x1.2.2.1.length then
   if v.2.2.2.2.2.2.2.2.2.2.1.length + [x2.1].length ≤ (4294967296 : Nat) then
    if v.2.2.2.2.2.2.2.2.2.2.2.1.length + [x1.2.2.2.1].length ≤ (4294967296 : Nat) then
     n_156sf3c8 (ByteArray.mk #[44], x2.2.1, x2.2.2.1, x2.2.2.2.1, ()) >>= fun x3 =>
     if x3.2.2.2.1.length = x2.2.2.2.1.length then
      if (!x3.1) = true then
       some ((x3.2.1, x3.2.2.1, v.2.2.1, v.2.2.2.1, v.2.2.2.2.1, v.2.2.2.2.2.1, v.2.2.2.2.2.2.1, v.2.2.2.2.2.2.2.1, v.2.2.2.2.2.2.2.2.1, v.2.2.2.2.2.2.2.2.2.1, v.2.2.2.2.2.2.2.2.2.2.1 ++ [x2.1], v.2.2.2.2.2.2.2.2.2.2.2.1 ++ [x1.2.2.2.1], x3.2.2.2.1, ()))
      else g (x3.2.1, x3.2.2.1, v.2.2.1, v.2.2.2.1, v.2.2.2.2.1, v.2.2.2.2.2.1, v.2.2.2.2.2.2.1, v.2.2.2.2.2.2.2.1, v.2.2.2.2.2.2.2.2.1, v.2.2.2.2.2.2.2.2.2.1, v.2.2.2.2.2.2.2.2.2.2.1 ++ [x2.1], v.2.2.2.2.2.2.2.2.2.2.2.1 ++ [x1.2.2.2.1], x3.2.2.2.1, ())
     else none
    else none
   else none
  else none
 else none) k
noncomputable def n_125s496dl5 (v : (List ByteArray) × Bool × Item × Layout × Int × ByteArray × Int × Int × Int × Bool × (List ByteArray) × (List Layout) × (List Item) × Unit) : Option (((List ByteArray) × Bool × Item × Layout × Int × ByteArray × Int × Int × Int × Bool × (List ByteArray) × (List Layout) × (List Item) × Unit)) := (u_125s496dl5 400) v
noncomputable def n_125s496d (v : (List ByteArray) × Bool × (List Item) × Unit) : Option ((List ByteArray) × Bool × (List Item) × Item × Unit) :=
 n_163s3d41 (true, v.1, v.2.1, v.2.2.1, ()) >>= fun x1 =>
 if x1.2.2.1.length = v.2.2.1.length then
  (n_155s496d (x1.1, x1.2.1, x1.2.2.1, ()) >>= fun x2 =>
    if x2.2.2.2.1.length = x1.2.2.1.length then
     some ((x2.2.1, x2.2.2.1, Item.mk (0 : Int) (ByteArray.mk #[]) (0 : Int) [] (Layout.mk (0 : Int) (0 : Int) false []), x1.2.2.2.1, (3 : Int), x2.1, (0 : Int), (6 : Int), (0 : Int), false, [], [], x2.2.2.2.1, ()))
    else none) >>= fun x2 =>
  n_154se4ea ([ByteArray.mk #[40]], x2.1, x2.2.1, x2.2.2.2.2.2.2.2.2.2.2.2.2.1, ()) >>= fun x3 =>
  if x3.2.2.1.length = x2.2.2.2.2.2.2.2.2.2.2.2.2.1.length then
   ((if decide ((↑x3.1.length : Int) < (2 : Int)) = true then
       some ((true, x3.1, x3.2.1, x2.2.2.1, x2.2.2.2.1, x2.2.2.2.2.1, x2.2.2.2.2.2.1, x2.2.2.2.2.2.2.1, x2.2.2.2.2.2.2.2.1, x2.2.2.2.2.2.2.2.2.1, x2.2.2.2.2.2.2.2.2.2.1, x2.2.2.2.2.2.2.2.2.2.2.1, x2.2.2.2.2.2.2.2.2.2.2.2.1, x3.2.2.1, ()))
      else x3.1[Int.toNat (0 : Int)]? >>= fun x4 =>
      if (!x4.toList == (ByteArray.mk #[118, 111, 105, 100]).toList) = true then
       some ((true, x3.1, x3.2.1, x2.2.2.1, x2.2.2.2.1, x2.2.2.2.2.1, x2.2.2.2.2.2.1, x2.2.2.2.2.2.2.1, x2.2.2.2.2.2.2.2.1, x2.2.2.2.2.2.2.2.2.1, x2.2.2.2.2.2.2.2.2.2.1, x2.2.2.2.2.2.2.2.2.2.2.1, x2.2.2.2.2.2.2.2.2.2.2.2.1, x3.2.2.1, ()))
      else x3.1[Int.toNat (1 : Int)]? >>= fun x5 =>
      some ((!x5.toList == (ByteArray.mk #[41]).toList, x3.1, x3.2.1, x2.2.2.1, x2.2.2.2.1, x2.2.2.2.2.1, x2.2.2.2.2.2.1, x2.2.2.2.2.2.2.1, x2.2.2.2.2.2.2.2.1, x2.2.2.2.2.2.2.2.2.1, x2.2.2.2.2.2.2.2.2.2.1, x2.2.2.2.2.2.2.2.2.2.2.1, x2.2.2.2.2.2.2.2.2.2.2.2.1, x3.2.2.1, ()))) >>= fun x4 =>
     if x4.1 = true then
      n_125s496dl5 (x4.2.1, x4.2.2.1, x4.2.2.2.1, x4.2.2.2.2.1, x4.2.2.2.2.2.1, x4.2.2.2.2.2.2.1, x4.2.2.2.2.2.2.2.1, x4.2.2.2.2.2.2.2.2.1, x4.2.2.2.2.2.2.2.2.2.1, x4.2.2.2.2.2.2.2.2.2.2.1, x4.2.2.2.2.2.2.2.2.2.2.2.1, x4.2.2.2.2.2.2.2.2.2.2.2.2.1, x4.2.2.2.2.2.2.2.2.2.2.2.2.2.1, ()) >>= fun x5 =>
      some ((x5.1, x5.2.1, x5.2.2.1, x5.2.2.2.1, x5.2.2.2.2.1, x5.2.2.2.2.2.1, x5.2.2.2.2.2.2.1, x5.2.2.2.2.2.2.2.1, x5.2.2.2.2.2.2.2.2.1, x5.2.2.2.2.2.2.2.2.2.1, x5.2.2.2.2.2.2.2.2.2.2.1, x5.2.2.2.2.2.2.2.2.2.2.2.1, x5.2.2.2.2.2.2.2.2.2.2.2.2.1, ()))
     else n_164s496d (x4.2.1, x4.2.2.1, x4.2.2.2.2.2.2.2.2.2.2.2.2.2.1, ()) >>= fun x5 =>
     if x5.2.2.2.1.length = x4.2.2.2.2.2.2.2.2.2.2.2.2.2.1.length then
      some ((x5.2.1, x5.2.2.1, x4.2.2.2.1, x4.2.2.2.2.1, x4.2.2.2.2.2.1, x4.2.2.2.2.2.2.1, x4.2.2.2.2.2.2.2.1, x4.2.2.2.2.2.2.2.2.1, x4.2.2.2.2.2.2.2.2.2.1, x4.2.2.2.2.2.2.2.2.2.2.1, x4.2.2.2.2.2.2.2.2.2.2.2.1, x4.2.2.2.2.2.2.2.2.2.2.2.2.1, x5.2.2.2.1, ()))
     else none) >>= fun x4 =>
   n_154se4ea ([ByteArray.mk #[41], ByteArray.mk #[59]], x4.1, x4.2.1, x4.2.2.2.2.2.2.2.2.2.2.2.2.1, ()) >>= fun x5 =>
   if x5.2.2.1.length = x4.2.2.2.2.2.2.2.2.2.2.2.2.1.length then
    if x4.2.2.2.2.2.2.2.2.2.2.2.1.length + [x4.2.2.2.1].length ≤ (4294967296 : Nat) then
     (if x5.2.1 = true then
        some ((x5.1, true, x4.2.2.1, x4.2.2.2.2.1, x4.2.2.2.2.2.1, x4.2.2.2.2.2.2.1, x4.2.2.2.2.2.2.2.1, x4.2.2.2.2.2.2.2.2.1, x4.2.2.2.2.2.2.2.2.2.1, x4.2.2.2.2.2.2.2.2.2.2.1, x4.2.2.2.2.2.2.2.2.2.2.2.1 ++ [x4.2.2.2.1], x5.2.2.1, ()))
       else n_160 (x4.2.2.2.2.2.2.2.2.2.2.1, ()) >>= fun x6 =>
       if (!x6.1) = true then
        some ((x5.1, true, x4.2.2.1, x4.2.2.2.2.1, x4.2.2.2.2.2.1, x4.2.2.2.2.2.2.1, x4.2.2.2.2.2.2.2.1, x4.2.2.2.2.2.2.2.2.1, x4.2.2.2.2.2.2.2.2.2.1, x4.2.2.2.2.2.2.2.2.2.2.1, x4.2.2.2.2.2.2.2.2.2.2.2.1 ++ [x4.2.2.2.1], x5.2.2.1, ()))
       else n_159s854d ((3 : Int), x4.2.2.2.2.2.1, x5.2.2.1, ()) >>= fun x7 =>
       if x7.2.1.length = x5.2.2.1.length then
        some ((x5.1, x7.1, x4.2.2.1, x4.2.2.2.2.1, x4.2.2.2.2.2.1, x4.2.2.2.2.2.2.1, x4.2.2.2.2.2.2.2.1, x4.2.2.2.2.2.2.2.2.1, x4.2.2.2.2.2.2.2.2.2.1, x4.2.2.2.2.2.2.2.2.2.2.1, x4.2.2.2.2.2.2.2.2.2.2.2.1 ++ [x4.2.2.2.1], x7.2.1, ()))
       else none) >>= fun x6 =>
     some ((x6.1, x6.2.1, x6.2.2.2.2.2.2.2.2.2.2.2.1, Item.mk x6.2.2.2.1 x6.2.2.2.2.1 x6.2.2.2.2.2.1 x6.2.2.2.2.2.2.2.2.2.1 (Layout.mk x6.2.2.2.2.2.2.1 x6.2.2.2.2.2.2.2.1 x6.2.2.2.2.2.2.2.2.1 x6.2.2.2.2.2.2.2.2.2.2.1), ()))
    else none
   else none
  else none
 else none
noncomputable def call125s496d : Caller vw := cO prog 154 sig154se4ea n_154se4ea (cO prog 155 sig155s496d n_155s496d (cO prog 156 sig156sf3c8 n_156sf3c8 (cO prog 159 sig159s854d n_159s854d (cP prog 160 sig160 n_160 (cO prog 163 sig163s3d41 n_163s3d41 (cO prog 164 sig164s496d n_164s496d c0))))))
noncomputable def x125s496d : Xc vw := { P := prog, n := 95, nm := fun d => match d with | 10 => 40010 | 11 => 40011 | _ => d, call := call125s496d, pre := pre125s496d, sh := sh125s496d, joins := fun k => match k with | 10 => some (c125s496dl5, [.norm]) | _ => none, regs := fun k => match k with | 2 => some c125s496dl5 | 4 => some c125s496dr4 | 12 => some c125s496dr12 | _ => none, loops := fun k => match k with | 5 => some { cut := c125s496dl5, alts := [.exit 0], F := n_125s496dl5 } | _ => none }
theorem call125s496d_ok : CallerOk prog call125s496d := cO_ok n_154se4ea_ok (cO_ok n_155s496d_ok (cO_ok n_156sf3c8_ok (cO_ok n_159s854d_ok (cP_ok n_160_ok rfl rfl (cO_ok n_163s3d41_ok (cO_ok n_164s496d_ok c0_ok))))))
theorem n_125s496dl5_ok (C : Ctx) (hP : C.P = prog) (hN : C.N = 95 ∧ Fx C pre125s496d) : LoopOk C (loopNo (bodyOf Tryz.f125) 0) (sh := sh125s496d) { cut := c125s496dl5, alts := [.exit 0], F := n_125s496dl5 } :=
 fun v out h => (Nat.rec (motive := fun k => ∀ v out, (u_125s496dl5 k) v = some out → (AWpL C (loopNo (bodyOf Tryz.f125) 0) (Go.Tx.encS vw (conc vw c125s496dl5 v)) (OutQ sh125s496d [.exit 0] out))) (fun v out h => by have h : (none : Option (((List ByteArray) × Bool × Item × Layout × Int × ByteArray × Int × Int × Int × Bool × (List ByteArray) × (List Layout) × (List Item) × Unit))) = some out := h; cases h) (fun k ih v out h => loop_step (X := x125s496d) (b := (loopNo (bodyOf Tryz.f125) 0)) hP hN Ty.mixed call125s496d_ok (lok_all (X := x125s496d) (c := (loopNo (bodyOf Tryz.f125) 0)) (kcast (by kernel_rfl : True = AllB (LoopsP C (x125s496d)) (loopsIn (loopNo (bodyOf Tryz.f125) 0))) trivial)) ih (kcast (by kernel_rfl) h)) 400 : ∀ v out, (u_125s496dl5 400) v = some out → (AWpL C (loopNo (bodyOf Tryz.f125) 0) (Go.Tx.encS vw (conc vw c125s496dl5 v)) (OutQ sh125s496d [.exit 0] out))) v out h
theorem n_125s496d_ok : SigOk prog 125 sig125s496d n_125s496d := fun v r x h hx =>
 fn_ok (X := x125s496d) (sig := sig125s496d) rfl Tryz.func125 (c := bodyOf Tryz.f125) (by kernel_rfl) Tryz.ntmps125 (by kernel_rfl) (by kernel_rfl) rfl Ty.mixed call125s496d_ok rfl (fun C hP hN => (lok_all (kcast (by kernel_rfl : AllB (LoopsP C (x125s496d)) [(loopNo (bodyOf Tryz.f125) 0)] = AllB (LoopsP C (x125s496d)) (loopsIn (bodyOf Tryz.f125))) ⟨loop_at (X := x125s496d) (b := (loopNo (bodyOf Tryz.f125) 0)) (by kernel_rfl) (n_125s496dl5_ok C hP hN), trivial⟩))) (kcast (by kernel_rfl) h) x hx
noncomputable def c98z : Cut SN := ⟨[(0, .dat (.sl .fnc))], []⟩
noncomputable def sh98 : Shape vw := { rcut := c98z }
noncomputable def pre98 : Nat → Bool := fun _ => false
noncomputable def sig98 : Sig vw := { params := [], rcut := c98z, rvars := [.tmp 0] }
noncomputable def n_98 (v : Unit) : Option ((List Nat) × Unit) :=
 some (([(122 : Nat), (123 : Nat), (124 : Nat), (125 : Nat)], ()))
noncomputable def call98 : Caller vw := c0
noncomputable def x98 : Xc vw := { P := prog, n := 2, call := call98, pre := pre98, sh := sh98 }
theorem call98_ok : CallerOk prog call98 := c0_ok
theorem n_98_ok : SigOk prog 98 sig98 n_98 := fun v r x h hx =>
 fn_ok (X := x98) (sig := sig98) rfl Tryz.func98 (c := bodyOf Tryz.f98) (by kernel_rfl) Tryz.ntmps98 (by kernel_rfl) (by kernel_rfl) rfl Ty.mixed call98_ok rfl (fun C hP hN => (lok_all (kcast (by kernel_rfl) trivial))) (kcast (by kernel_rfl) h) x hx
end Go.Proofs.YtpelkenpapfadaaGreatDoor
end
