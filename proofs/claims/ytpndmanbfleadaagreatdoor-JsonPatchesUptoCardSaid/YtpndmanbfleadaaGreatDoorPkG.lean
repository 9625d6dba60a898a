/-
  Texts of this claim, joined by a program of mine: what the theorem uses.
-/
import Derived.Test.YtpndmanbfleadaaGreatDoorPkE
import Derived.Test.YtpndmanbfleadaaGreatDoorPkC
import Derived.Test.YtpndmanbfleadaaGreatDoorPkF
import Derived.Test.YtpndmanbfleadaaGreatDoorCards
import Derived.Test.YtpndmanbfleadaaGreatDoorTie
import Derived.WalkKit
import Derived.ProofKit
import Derived.OpenShut
import Derived.LaidMore
import Derived.Lay
import Derived.SevenTiedAt
import Derived.Stop.Joined
import Derived.Deep.DeepHandedRow
set_option linter.unusedVariables false
set_option linter.unusedSimpArgs false
section
namespace Go.Proofs.YtpndmanbfleadaaGreatDoor
open Go.Awp Go.Tx
open IntKind (i32)
open IntKind (i64)
open Go.Proofs.Tryz (prog)
set_option maxHeartbeats 4000000
set_option maxRecDepth 100000
noncomputable def c56l7 : Cut SN := ⟨[(1, .dat .str), (2, .bp 2 0), (7, .dat (.int .i64))], [(2, .st .tagT)]⟩
noncomputable def c56r3 : Cut SN := ⟨[(5, .dat (.int .i64)), (23, .dat .bool)], []⟩
noncomputable def sh56 : Shape vw := { exits := fun id => match id with | 0 => c103c75e0 | _ => ⟨[], []⟩, rcut := c103c75z }
noncomputable def sig56 : Sig vw := { params := [.dat (.st .tagT), .dat .str], rcut := c103c75z, rvars := [.tmp 4] }
noncomputable def n_56l7 (v : ByteArray × Int × Tag × Unit) : Option (((Int × Unit) ⊕ (Unit))) :=
 if decide (v.2.1 < (↑v.2.2.1.names.length : Int)) = true then
  if (0 : Int) ≤ v.2.1 then
   v.2.2.1.names[v.2.1.toNat]? >>= fun x1 =>
   if (x1.toList == v.1.toList) = true then
    some (Sum.inl (v.2.1, ()))
   else n_56l7 (v.1, i64.wrap (v.2.1 + (1 : Int)), v.2.2.1, ())
  else none
 else some (Sum.inr ())
 partial_fixpoint
noncomputable def n_56 (v : Tag × ByteArray × Unit) : Option (Int × Unit) :=
 if (v.1.kind == (5 : Int)) = true then
  n_57 (v.2.1, ()) >>= fun x1 =>
  (if x1.2.1 = true then
     some ((x1.1, decide (x1.1 < (↑v.1.parts.length : Int)), ()))
    else some ((x1.1, false, ()))) >>= fun x2 =>
  if x2.2.1 = true then
   some ((x2.1, ()))
  else some (((-1 : Int), ()))
 else n_56l7 (v.2.1, (0 : Int), v.1, ()) >>= fun x1 => match x1 with
  | .inl y1 => some y1
  | .inr y1 => some (((-1 : Int), ()))
noncomputable def call56 : Caller vw := fun A fid args S k => match fid with | 57 => callPure prog sig57 n_57 A args S k | _ => none
noncomputable def x56 : Xc vw := { P := prog, n := 40, call := call56, sh := sh56, regs := fun k => match k with | 3 => some c56r3 | _ => none, loops := fun k => match k with | 7 => some { cut := c56l7, alts := [.ret, .exit 0], F := n_56l7 } | _ => none }
theorem call56_ok : CallerOk prog call56 := fun A fid args S dst k r h => by
 unfold call56 at h
 split at h
 ·exact callPure_ok (n_57_ok) rfl rfl h
 ·cases h
theorem n_56l7_ok (C : Ctx) (hP : C.P = prog) (hN : C.N = 40) : LoopOk C (loopNo (bodyOf Tryz.f56) 0) (sh := sh56) { cut := c56l7, alts := [.ret, .exit 0], F := n_56l7 } :=
 n_56l7.partial_correctness (motive := fun v out => AWpL C (loopNo (bodyOf Tryz.f56) 0) (Go.Tx.encS vw (conc vw c56l7 v)) (OutQ sh56 [.ret, .exit 0] out)) fun F ih v out h =>
  loop_step (X := x56) (b := (loopNo (bodyOf Tryz.f56) 0)) hP hN Ty.mixed call56_ok (lok_all (X := x56) (c := (loopNo (bodyOf Tryz.f56) 0)) (kcast (by kernel_rfl : True = AllB (LoopsP C (x56)) (loopsIn (loopNo (bodyOf Tryz.f56) 0))) trivial)) ih (kcast (by kernel_rfl) h)
theorem n_56_ok : SigOk prog 56 sig56 n_56 := fun v r x h hx =>
 fn_ok (X := x56) (sig := sig56) rfl Tryz.func56 (c := bodyOf Tryz.f56) (by kernel_rfl) Tryz.ntmps56 (by kernel_rfl) (by kernel_rfl) rfl Ty.mixed call56_ok rfl (fun C hP hN => (lok_all (kcast (by kernel_rfl : AllB (LoopsP C (x56)) [(loopNo (bodyOf Tryz.f56) 0)] = AllB (LoopsP C (x56)) (loopsIn (bodyOf Tryz.f56))) ⟨loop_at (X := x56) (b := (loopNo (bodyOf Tryz.f56) 0)) (by kernel_rfl) (n_56l7_ok C hP hN), trivial⟩))) (kcast (by kernel_rfl) h) x hx
noncomputable def c34j20 : Cut SN := ⟨[(3, .bp 3 0), (5, .bp 5 0), (6, .bp 6 0)], [(3, .box none [.dat (.int .i64), .dat (.int .i64), .dat .str, .vh 3033, .vh 3034]), (5, .st .tagT), (6, .st .tagT), (3033, .vec 9 .str), (3034, .vec 25 (.st .tagT))]⟩
noncomputable def c34r16 : Cut SN := ⟨[(3, .bp 3 0), (5, .bp 5 0), (6, .bp 6 0), (77, .dat .bool)], [(3, .box none [.dat (.int .i64), .dat (.int .i64), .dat .str, .vh 3033, .vh 3034]), (5, .st .tagT), (6, .st .tagT), (3033, .vec 9 .str), (3034, .vec 25 (.st .tagT))]⟩
noncomputable def c34z : Cut SN := ⟨[(6, .bp 6 0), (7, .dat .bool)], [(6, .st .tagT)]⟩
noncomputable def sh34 : Shape vw := { rcut := c34z }
noncomputable def sig34 : Sig vw := { params := [.dat (.st .tagT), .dat (.sl .str), .dat (.st .tagT)], rcut := c34z, rvars := [.cell 6 25, .tmp 7] }
noncomputable def n_34 (v : Tag × (List ByteArray) × Tag × Unit) : Option (Bool × Tag × Unit) :=
 if ((↑v.2.1.length : Int) == (0 : Int)) = true then
  some ((true, v.2.2.1, ()))
 else if 0 + v.1.names.length ≤ (4294967296 : Nat) then
  if 0 + v.1.parts.length ≤ (4294967296 : Nat) then
   v.2.1[Int.toNat (0 : Int)]? >>= fun x1 =>
   n_56 (Tag.mk v.1.kind v.1.n v.1.text ([] ++ v.1.names) ([] ++ v.1.parts), x1, ()) >>= fun x2 =>
   if decide (x2.1 ≥ (0 : Int)) = true then
    if (0 : Int) ≤ x2.1 ∧ x2.1 < (↑([] ++ v.1.parts).length : Int) then
     ([] ++ v.1.parts)[x2.1.toNat]? >>= fun x3 =>
     if (0 : Int) ≤ (1 : Int) ∧ (1 : Int) ≤ (↑v.2.1.length : Int) ∧ (↑v.2.1.length : Int) ≤ (↑v.2.1.length : Int) then
      n_34 (x3, List.drop (Int.toNat (1 : Int)) (List.take (↑v.2.1.length : Int).toNat v.2.1), v.2.2.1, ()) >>= fun x4 =>
      if (0 : Int) ≤ x2.1 ∧ x2.1 < (↑([] ++ v.1.parts).length : Int) then
       ([] ++ v.1.parts)[x2.1.toNat]? >>= fun x5 =>
       some ((x4.1, Tag.mk v.1.kind v.1.n v.1.text ([] ++ v.1.names) (([] ++ v.1.parts).set x2.1.toNat (Tag.mk x4.2.1.kind x4.2.1.n x4.2.1.text x4.2.1.names x4.2.1.parts)), ()))
      else none
     else none
    else none
   else if decide ((↑v.2.1.length : Int) > (1 : Int)) = true then
    some ((false, Tag.mk (0 : Int) (0 : Int) (ByteArray.mk #[]) [] [], ()))
   else (if (v.1.kind == (5 : Int)) = true then
     v.2.1[Int.toNat (0 : Int)]? >>= fun x3 =>
     n_57 (x3, ()) >>= fun x4 =>
     (if (!x4.2.1) = true then
        some ((true, v.1.kind, v.1.n, v.1.text, v.2.2.1, Tag.mk (0 : Int) (0 : Int) (ByteArray.mk #[]) [] [], [] ++ v.1.names, [] ++ v.1.parts, ()))
       else some ((x4.1 != (↑([] ++ v.1.parts).length : Int), v.1.kind, v.1.n, v.1.text, v.2.2.1, Tag.mk (0 : Int) (0 : Int) (ByteArray.mk #[]) [] [], [] ++ v.1.names, [] ++ v.1.parts, ()))) >>= fun x5 =>
     if x5.1 = true then
      some (Sum.inr (false, Tag.mk (0 : Int) (0 : Int) (ByteArray.mk #[]) [] [], ()))
     else some (Sum.inl (x5.2.1, x5.2.2.1, x5.2.2.2.1, x5.2.2.2.2.1, x5.2.2.2.2.2.1, x5.2.2.2.2.2.2.1, x5.2.2.2.2.2.2.2.1, ()))
    else if (v.1.kind == (6 : Int)) = true then
     v.2.1[Int.toNat (0 : Int)]? >>= fun x3 =>
     if ([] ++ v.1.names).length + [x3].length ≤ (4294967296 : Nat) then
      some (Sum.inl (v.1.kind, v.1.n, v.1.text, v.2.2.1, Tag.mk (0 : Int) (0 : Int) (ByteArray.mk #[]) [] [], [] ++ v.1.names ++ [x3], [] ++ v.1.parts, ()))
     else none
    else some (Sum.inr (false, Tag.mk (0 : Int) (0 : Int) (ByteArray.mk #[]) [] [], ()))) >>= fun x3 => match x3 with
    | .inl y3 => if y3.2.2.2.2.2.2.1.length + [y3.2.2.2.1].length ≤ (4294967296 : Nat) then
      some ((true, Tag.mk y3.1 y3.2.1 y3.2.2.1 y3.2.2.2.2.2.1 (y3.2.2.2.2.2.2.1 ++ [y3.2.2.2.1]), ()))
     else none
    | .inr y3 => some y3
  else none
 else none
 partial_fixpoint
noncomputable def call34 (n_34 : Tag × (List ByteArray) × Tag × Unit → Option (Bool × Tag × Unit)) : Caller vw := fun A fid args S k => match fid with | 34 => callPure prog sig34 n_34 A args S k | 56 => callPure prog sig56 n_56 A args S k | 57 => callPure prog sig57 n_57 A args S k | _ => none
noncomputable def x34 (n_34 : Tag × (List ByteArray) × Tag × Unit → Option (Bool × Tag × Unit)) : Xc vw := { P := prog, n := 96, nm := fun d => match d with | 17 => 40017 | 22 => 40022 | _ => d, call := call34 n_34, sh := sh34, joins := fun k => match k with | 20 => some (c34j20, [.norm, .ret]) | _ => none, regs := fun k => match k with | 16 => some c34r16 | _ => none }
abbrev mn_34 (v : Tag × (List ByteArray) × Tag × Unit) (r : Bool × Tag × Unit) : Prop := (fun v r => ∀ x, resV prog sig34 r = some x → FnOk prog 34 (encL vw (startS sig34 v).len (startOs sig34 v).1) (encOs (startS sig34 v).len (startS sig34 v).own) (encV vw (conc vw sig34.rcut r).len x) (encOs (conc vw sig34.rcut r).len (kept sig34 r))) v r
theorem cn_34 (f0 : Tag × (List ByteArray) × Tag × Unit → Option (Bool × Tag × Unit)) (h0 : ∀ v r, f0 v = some r → mn_34 v r) : CallerOk prog (x34 f0).call := (by
    intro A fid args S dst k r h
    unfold x34 call34 at h
    simp only at h
    split at h
    ·exact callPure_ok ((fun v r x h hx => h0 v r h x hx)) rfl rfl h
    ·exact callPure_ok (n_56_ok) rfl rfl h
    ·exact callPure_ok (n_57_ok) rfl rfl h
    ·cases h)
theorem sn_34 (f0 : Tag × (List ByteArray) × Tag × Unit → Option (Bool × Tag × Unit)) (h0 : ∀ v r, f0 v = some r → mn_34 v r) (v : Tag × (List ByteArray) × Tag × Unit) (r : Bool × Tag × Unit) (h : exF (x34 f0) sig34 rfl (bodyOf Tryz.f34) v = some r) : mn_34 v r := fun x hx => fn_ok (X := x34 f0) (sig := sig34) rfl Tryz.func34 (c := bodyOf Tryz.f34) (by kernel_rfl) Tryz.ntmps34 (by kernel_rfl) (by kernel_rfl) rfl Ty.mixed (cn_34 f0 h0) rfl (fun C hP hN => (lok_all (X := x34 f0) (c := (bodyOf Tryz.f34)) (kcast (by kernel_rfl : True = AllB (LoopsP C (x34 f0)) (loopsIn (bodyOf Tryz.f34))) trivial))) h x hx
theorem n_34_ok : SigOk prog 34 sig34 n_34 := fun v r x h hx => (n_34.partial_correctness (motive := mn_34) (fun f0 h0 v r h => sn_34 f0 h0 v r (kcast (by kernel_rfl) h))) v r h x hx
noncomputable def c41j14 : Cut SN := ⟨[(2, .bp 2 0), (4, .bp 4 0), (7, .vh 1007), (8, .vh 1008)], [(2, .st .tagT), (4, .st .tagT), (1007, .vec 9 .str), (1008, .vec 25 (.st .tagT))]⟩
noncomputable def sh41 : Shape vw := { rcut := c36z }
noncomputable def sig41 : Sig vw := { params := [.dat (.st .tagT), .dat (.sl .str)], rcut := c36z, rvars := [.cell 4 25, .tmp 5] }
noncomputable def n_41 (v : Tag × (List ByteArray) × Unit) : Option (Bool × Tag × Unit) :=
 v.2.1[Int.toNat (0 : Int)]? >>= fun x1 =>
 n_56 (v.1, x1, ()) >>= fun x2 =>
 if decide (x2.1 < (0 : Int)) = true then
  some ((false, Tag.mk (0 : Int) (0 : Int) (ByteArray.mk #[]) [] [], ()))
 else if 0 + v.1.names.length ≤ (4294967296 : Nat) then
  if 0 + v.1.parts.length ≤ (4294967296 : Nat) then
   (if decide ((↑v.2.1.length : Int) > (1 : Int)) = true then
      if (0 : Int) ≤ x2.1 ∧ x2.1 < (↑([] ++ v.1.parts).length : Int) then
       ([] ++ v.1.parts)[x2.1.toNat]? >>= fun x3 =>
       if (0 : Int) ≤ (1 : Int) ∧ (1 : Int) ≤ (↑v.2.1.length : Int) ∧ (↑v.2.1.length : Int) ≤ (↑v.2.1.length : Int) then
        n_41 (x3, List.drop (Int.toNat (1 : Int)) (List.take (↑v.2.1.length : Int).toNat v.2.1), ()) >>= fun x4 =>
        if (!x4.1) = true then
         some (Sum.inr (false, Tag.mk (0 : Int) (0 : Int) (ByteArray.mk #[]) [] [], ()))
        else if (0 : Int) ≤ x2.1 ∧ x2.1 < (↑([] ++ v.1.parts).length : Int) then
         ([] ++ v.1.parts)[x2.1.toNat]? >>= fun x5 =>
         some (Sum.inl (v.1, Tag.mk (0 : Int) (0 : Int) (ByteArray.mk #[]) [] [], [] ++ v.1.names, ([] ++ v.1.parts).set x2.1.toNat (Tag.mk x4.2.1.kind x4.2.1.n x4.2.1.text x4.2.1.names x4.2.1.parts), ()))
        else none
       else none
      else none
     else if (prog.types[(25 : Nat)].size = (5 : Nat) ∧ (0 : Nat) < ([] ++ v.1.parts).length) ∧ (0 : Int) ≤ (0 : Int) ∧ (0 : Int) ≤ x2.1 ∧ x2.1 ≤ (↑([] ++ v.1.parts).length : Int) then
      if (prog.types[(25 : Nat)].size = (5 : Nat) ∧ (0 : Nat) < ([] ++ v.1.parts).length) ∧ (0 : Int) ≤ i64.wrap (x2.1 + (1 : Int)) ∧ i64.wrap (x2.1 + (1 : Int)) ≤ (↑([] ++ v.1.parts).length : Int) ∧ (↑([] ++ v.1.parts).length : Int) ≤ (↑([] ++ v.1.parts).length : Int) then
       if (((23 : Nat) = (23 : Nat) ∧ (25 : Nat) = (25 : Nat)) ∧ (prog.types[(25 : Nat)].size = (5 : Nat) ∧ (5 : Nat) = prog.types[(25 : Nat)].size) ∧ (5 : Nat) = prog.types[(25 : Nat)].size ∧ (26 : Nat) = (26 : Nat)) ∧ (Int.toNat (0 : Int) = (0 : Nat) ∧ (↑([] ++ v.1.parts).length : Int).toNat - (i64.wrap (x2.1 + (1 : Int))).toNat = ([] ++ v.1.parts).length - (i64.wrap (x2.1 + (1 : Int))).toNat) ∧ x2.1.toNat - Int.toNat (0 : Int) ≤ (i64.wrap (x2.1 + (1 : Int))).toNat ∧ (i64.wrap (x2.1 + (1 : Int))).toNat ≤ ([] ++ v.1.parts).length then
        if (v.1.kind == (6 : Int)) = true then
         if (prog.types[(9 : Nat)].size = (1 : Nat) ∧ (0 : Nat) < ([] ++ v.1.names).length) ∧ (0 : Int) ≤ (0 : Int) ∧ (0 : Int) ≤ x2.1 ∧ x2.1 ≤ (↑([] ++ v.1.names).length : Int) then
          if (prog.types[(9 : Nat)].size = (1 : Nat) ∧ (0 : Nat) < ([] ++ v.1.names).length) ∧ (0 : Int) ≤ i64.wrap (x2.1 + (1 : Int)) ∧ i64.wrap (x2.1 + (1 : Int)) ≤ (↑([] ++ v.1.names).length : Int) ∧ (↑([] ++ v.1.names).length : Int) ≤ (↑([] ++ v.1.names).length : Int) then
           if (((22 : Nat) = (22 : Nat) ∧ (9 : Nat) = (9 : Nat)) ∧ (prog.types[(9 : Nat)].size = (1 : Nat) ∧ (1 : Nat) = prog.types[(9 : Nat)].size) ∧ (1 : Nat) = prog.types[(9 : Nat)].size ∧ (22 : Nat) = (22 : Nat)) ∧ (Int.toNat (0 : Int) = (0 : Nat) ∧ (↑([] ++ v.1.names).length : Int).toNat - (i64.wrap (x2.1 + (1 : Int))).toNat = ([] ++ v.1.names).length - (i64.wrap (x2.1 + (1 : Int))).toNat) ∧ x2.1.toNat - Int.toNat (0 : Int) ≤ (i64.wrap (x2.1 + (1 : Int))).toNat ∧ (i64.wrap (x2.1 + (1 : Int))).toNat ≤ ([] ++ v.1.names).length then
            some (Sum.inl (v.1, Tag.mk (0 : Int) (0 : Int) (ByteArray.mk #[]) [] [], List.take (x2.1.toNat - Int.toNat (0 : Int)) ([] ++ v.1.names) ++ List.drop (i64.wrap (x2.1 + (1 : Int))).toNat ([] ++ v.1.names), List.take (x2.1.toNat - Int.toNat (0 : Int)) ([] ++ v.1.parts) ++ List.drop (i64.wrap (x2.1 + (1 : Int))).toNat ([] ++ v.1.parts), ()))
           else none
          else none
         else none
        else some (Sum.inl (v.1, Tag.mk (0 : Int) (0 : Int) (ByteArray.mk #[]) [] [], [] ++ v.1.names, List.take (x2.1.toNat - Int.toNat (0 : Int)) ([] ++ v.1.parts) ++ List.drop (i64.wrap (x2.1 + (1 : Int))).toNat ([] ++ v.1.parts), ()))
       else none
      else none
     else none) >>= fun x3 => match x3 with
     | .inl y3 => some ((true, Tag.mk y3.1.kind y3.1.n y3.1.text y3.2.2.1 y3.2.2.2.1, ()))
     | .inr y3 => some y3
  else none
 else none
 partial_fixpoint
noncomputable def call41 (n_41 : Tag × (List ByteArray) × Unit → Option (Bool × Tag × Unit)) : Caller vw := fun A fid args S k => match fid with | 41 => callPure prog sig41 n_41 A args S k | 56 => callPure prog sig56 n_56 A args S k | _ => none
noncomputable def x41 (n_41 : Tag × (List ByteArray) × Unit → Option (Bool × Tag × Unit)) : Xc vw := { P := prog, n := 71, nm := fun d => match d with | 19 => 40019 | 23 => 40023 | _ => d, call := call41 n_41, pre := fun k => match k with | 3000049 => true | 3000053 => true | 3000060 => true | 3000064 => true | _ => false, sh := sh41, joins := fun k => match k with | 14 => some (c41j14, [.norm, .ret]) | _ => none }
abbrev mn_41 (v : Tag × (List ByteArray) × Unit) (r : Bool × Tag × Unit) : Prop := (fun v r => ∀ x, resV prog sig41 r = some x → FnOk prog 41 (encL vw (startS sig41 v).len (startOs sig41 v).1) (encOs (startS sig41 v).len (startS sig41 v).own) (encV vw (conc vw sig41.rcut r).len x) (encOs (conc vw sig41.rcut r).len (kept sig41 r))) v r
theorem cn_41 (f0 : Tag × (List ByteArray) × Unit → Option (Bool × Tag × Unit)) (h0 : ∀ v r, f0 v = some r → mn_41 v r) : CallerOk prog (x41 f0).call := (by
    intro A fid args S dst k r h
    unfold x41 call41 at h
    simp only at h
    split at h
    ·exact callPure_ok ((fun v r x h hx => h0 v r h x hx)) rfl rfl h
    ·exact callPure_ok (n_56_ok) rfl rfl h
    ·cases h)
theorem sn_41 (f0 : Tag × (List ByteArray) × Unit → Option (Bool × Tag × Unit)) (h0 : ∀ v r, f0 v = some r → mn_41 v r) (v : Tag × (List ByteArray) × Unit) (r : Bool × Tag × Unit) (h : exF (x41 f0) sig41 rfl (bodyOf Tryz.f41) v = some r) : mn_41 v r := fun x hx => fn_ok (X := x41 f0) (sig := sig41) rfl Tryz.func41 (c := bodyOf Tryz.f41) (by kernel_rfl) Tryz.ntmps41 (by kernel_rfl) (by kernel_rfl) rfl Ty.mixed (cn_41 f0 h0) rfl (fun C hP hN => (lok_all (X := x41 f0) (c := (bodyOf Tryz.f41)) (kcast (by kernel_rfl : True = AllB (LoopsP C (x41 f0)) (loopsIn (bodyOf Tryz.f41))) trivial))) h x hx
theorem n_41_ok : SigOk prog 41 sig41 n_41 := fun v r x h hx => (n_41.partial_correctness (motive := mn_41) (fun f0 h0 v r h => sn_41 f0 h0 v r (kcast (by kernel_rfl) h))) v r h x hx
noncomputable def c38l6 : Cut SN := ⟨[(2, .bp 2 0), (3, .bp 3 0), (4, .bp 4 0), (5, .dat (.int .i64))], [(2, .st .tagT), (3, .st .tagT), (4, .st .tagT)]⟩
noncomputable def c38j15 : Cut SN := ⟨[(2, .bp 2 0), (3, .bp 3 0), (4, .bp 4 0), (5, .dat (.int .i64)), (7, .bp 7 0)], [(2, .st .tagT), (3, .st .tagT), (4, .st .tagT), (7, .st .tagT)]⟩
noncomputable def c38z : Cut SN := ⟨[(4, .bp 4 0)], [(4, .st .tagT)]⟩
noncomputable def sh38 : Shape vw := { exits := fun id => match id with | 0 => c36e0 | _ => ⟨[], []⟩, rcut := c38z }
noncomputable def sig38 : Sig vw := { params := [.dat (.st .tagT), .dat (.st .tagT)], rcut := c38z, rvars := [.cell 4 25] }
mutual
noncomputable def n_38l6 (v : Int × Tag × Tag × Tag × Unit) : Option ((Tag × Tag × Unit)) :=
 if decide (v.1 < (↑v.2.2.1.names.length : Int)) = true then
  (if (0 : Int) ≤ v.1 then
     v.2.2.1.names[v.1.toNat]? >>= fun x1 =>
     n_56 (v.2.1, x1, ()) >>= fun x2 =>
     if (0 : Int) ≤ v.1 then
      v.2.2.1.parts[v.1.toNat]? >>= fun x3 =>
      if (x3.kind == (0 : Int)) = true then
       if decide (x2.1 ≥ (0 : Int)) = true then
        if (0 : Int) ≤ v.1 ∧ v.1 ≤ i64.wrap (v.1 + (1 : Int)) ∧ i64.wrap (v.1 + (1 : Int)) ≤ (↑v.2.2.1.names.length : Int) then
         n_41 (v.2.1, List.drop v.1.toNat (List.take (i64.wrap (v.1 + (1 : Int))).toNat v.2.2.1.names), ()) >>= fun x4 =>
         some ((v.1, x4.2.1, v.2.2.1, v.2.2.2.1, ()))
        else none
       else some ((v.1, v.2.1, v.2.2.1, v.2.2.2.1, ()))
      else (if decide (x2.1 ≥ (0 : Int)) = true then
        if (0 : Int) ≤ x2.1 then
         v.2.1.parts[x2.1.toNat]? >>= fun x4 =>
         some ((v.1, v.2.1, v.2.2.1, v.2.2.2.1, x4, ()))
        else none
       else some ((v.1, v.2.1, v.2.2.1, v.2.2.2.1, Tag.mk (0 : Int) (0 : Int) (ByteArray.mk #[]) [] [], ()))) >>= fun x4 =>
      if (0 : Int) ≤ x4.1 ∧ x4.1 ≤ i64.wrap (x4.1 + (1 : Int)) ∧ i64.wrap (x4.1 + (1 : Int)) ≤ (↑x4.2.2.1.names.length : Int) then
       if (0 : Int) ≤ x4.1 then
        x4.2.2.1.parts[x4.1.toNat]? >>= fun x5 =>
        n_38 (x4.2.2.2.2.1, x5, ()) >>= fun x6 =>
        n_34 (x4.2.1, List.drop x4.1.toNat (List.take (i64.wrap (x4.1 + (1 : Int))).toNat x4.2.2.1.names), x6.1, ()) >>= fun x7 =>
        some ((x4.1, x7.2.1, x4.2.2.1, x4.2.2.2.1, ()))
       else none
      else none
     else none
    else none) >>= fun x1 =>
  n_38l6 (i64.wrap (x1.1 + (1 : Int)), x1.2.1, x1.2.2.1, x1.2.2.2.1, ())
 else some ((v.2.1, v.2.2.2.1, ()))
 partial_fixpoint
noncomputable def n_38 (v : Tag × Tag × Unit) : Option (Tag × Unit) :=
 if (v.2.1.kind != (6 : Int)) = true then
  some ((v.2.1, ()))
 else (if (v.1.kind != (6 : Int)) = true then
   some ((Tag.mk (6 : Int) (0 : Int) (ByteArray.mk #[]) [] [], v.2.1, Tag.mk (0 : Int) (0 : Int) (ByteArray.mk #[]) [] [], ()))
  else some ((v.1, v.2.1, Tag.mk (0 : Int) (0 : Int) (ByteArray.mk #[]) [] [], ()))) >>= fun x1 =>
 n_38l6 ((0 : Int), x1.1, x1.2.1, x1.2.2.1, ()) >>= fun x2 =>
 some ((x2.1, ()))
 partial_fixpoint
end
noncomputable def call38 (n_38l6 : Int × Tag × Tag × Tag × Unit → Option ((Tag × Tag × Unit))) (n_38 : Tag × Tag × Unit → Option (Tag × Unit)) : Caller vw := fun A fid args S k => match fid with | 34 => callPure prog sig34 n_34 A args S k | 38 => callPure prog sig38 n_38 A args S k | 41 => callPure prog sig41 n_41 A args S k | 56 => callPure prog sig56 n_56 A args S k | _ => none
noncomputable def x38 (n_38l6 : Int × Tag × Tag × Tag × Unit → Option ((Tag × Tag × Unit))) (n_38 : Tag × Tag × Unit → Option (Tag × Unit)) : Xc vw := { P := prog, n := 77, call := call38 n_38l6 n_38, sh := sh38, joins := fun k => match k with | 5 => some (c14e0, [.norm]) | 7 => some (c38l6, [.norm]) | 15 => some (c38j15, [.norm]) | _ => none, loops := fun k => match k with | 6 => some { cut := c38l6, alts := [.exit 0], F := n_38l6 } | _ => none }
abbrev mn_38l6 (v : Int × Tag × Tag × Tag × Unit) (r : (Tag × Tag × Unit)) : Prop := (fun v out => ∀ C : Ctx, C.P = prog → C.N = 77 → AWpL C (loopNo (bodyOf Tryz.f38) 0) (Go.Tx.encS vw (conc vw c38l6 v)) (OutQ sh38 [.exit 0] out)) v r
abbrev mn_38 (v : Tag × Tag × Unit) (r : Tag × Unit) : Prop := (fun v r => ∀ x, resV prog sig38 r = some x → FnOk prog 38 (encL vw (startS sig38 v).len (startOs sig38 v).1) (encOs (startS sig38 v).len (startS sig38 v).own) (encV vw (conc vw sig38.rcut r).len x) (encOs (conc vw sig38.rcut r).len (kept sig38 r))) v r
theorem cn_38l6 (f0 : Int × Tag × Tag × Tag × Unit → Option ((Tag × Tag × Unit))) (f1 : Tag × Tag × Unit → Option (Tag × Unit)) (h0 : ∀ v r, f0 v = some r → mn_38l6 v r) (h1 : ∀ v r, f1 v = some r → mn_38 v r) : CallerOk prog (x38 f0 f1).call := (by
    intro A fid args S dst k r h
    unfold x38 call38 at h
    simp only at h
    split at h
    ·exact callPure_ok (n_34_ok) rfl rfl h
    ·exact callPure_ok ((fun v r x h hx => h1 v r h x hx)) rfl rfl h
    ·exact callPure_ok (n_41_ok) rfl rfl h
    ·exact callPure_ok (n_56_ok) rfl rfl h
    ·cases h)
theorem sn_38l6 (f0 : Int × Tag × Tag × Tag × Unit → Option ((Tag × Tag × Unit))) (f1 : Tag × Tag × Unit → Option (Tag × Unit)) (h0 : ∀ v r, f0 v = some r → mn_38l6 v r) (h1 : ∀ v r, f1 v = some r → mn_38 v r) (v : Int × Tag × Tag × Tag × Unit) (r : (Tag × Tag × Unit)) (h : exL (x38 f0 f1) (loopNo (bodyOf Tryz.f38) 0) c38l6 [.exit 0] f0 v = some r) : mn_38l6 v r := fun C hP hN => loop_step (X := x38 f0 f1) (b := (loopNo (bodyOf Tryz.f38) 0)) hP hN Ty.mixed (cn_38l6 f0 f1 h0 h1) (lok_all (X := x38 f0 f1) (c := (loopNo (bodyOf Tryz.f38) 0)) (kcast (by kernel_rfl : True = AllB (LoopsP C (x38 f0 f1)) (loopsIn (loopNo (bodyOf Tryz.f38) 0))) trivial)) (cut := c38l6) (alts := [.exit 0]) (F := f0) (fun v out h => h0 v out h C hP hN) h
theorem cn_38 (f0 : Int × Tag × Tag × Tag × Unit → Option ((Tag × Tag × Unit))) (h0 : ∀ v r, f0 v = some r → mn_38l6 v r) : CallerOk prog (x38 f0 (fun _ => none)).call := (by
    intro A fid args S dst k r h
    unfold x38 call38 at h
    simp only at h
    split at h
    ·exact callPure_ok (n_34_ok) rfl rfl h
    ·exact callPure_ok ((fun v r x h hx => by cases h)) rfl rfl h
    ·exact callPure_ok (n_41_ok) rfl rfl h
    ·exact callPure_ok (n_56_ok) rfl rfl h
    ·cases h)
theorem sn_38 (f0 : Int × Tag × Tag × Tag × Unit → Option ((Tag × Tag × Unit))) (h0 : ∀ v r, f0 v = some r → mn_38l6 v r) (v : Tag × Tag × Unit) (r : Tag × Unit) (h : exF (x38 f0 (fun _ => none)) sig38 rfl (bodyOf Tryz.f38) v = some r) : mn_38 v r := fun x hx => fn_ok (X := x38 f0 (fun _ => none)) (sig := sig38) rfl Tryz.func38 (c := bodyOf Tryz.f38) (by kernel_rfl) Tryz.ntmps38 (by kernel_rfl) (by kernel_rfl) rfl Ty.mixed (cn_38 f0 h0) rfl (fun C hP hN => (lok_all (X := x38 f0 (fun _ => none)) (c := (bodyOf Tryz.f38)) (kcast (by kernel_rfl : AllB (LoopsP C (x38 f0 (fun _ => none))) [(loopNo (bodyOf Tryz.f38) 0)] = AllB (LoopsP C (x38 f0 (fun _ => none))) (loopsIn (bodyOf Tryz.f38))) ⟨loop_at (X := x38 f0 (fun _ => none)) (b := (loopNo (bodyOf Tryz.f38) 0)) (by kernel_rfl) (show LoopOk C (loopNo (bodyOf Tryz.f38) 0) (sh := sh38) { cut := c38l6, alts := [.exit 0], F := f0 } from fun v out h => h0 v out h C hP hN), trivial⟩))) h x hx
theorem n_38l6_all : (∀ v r, n_38l6 v = some r → mn_38l6 v r) ∧ (∀ v r, n_38 v = some r → mn_38 v r) := by
 refine n_38l6.mutual_partial_correctness
  (motive_1 := mn_38l6)
  (motive_2 := mn_38)
  ?_ ?_
 ·exact (fun f0 f1 h0 h1 v r h => sn_38l6 f0 f1 h0 h1 v r (kcast (by kernel_rfl) h))
 ·exact (fun f0 h0 v r h => sn_38 f0 h0 v r (kcast (by kernel_rfl) h))
theorem n_38_ok : SigOk prog 38 sig38 n_38 := fun v r x h hx => n_38l6_all.2 v r h x hx
noncomputable def sh15 : Shape vw := { rcut := c14z }
noncomputable def sig15 : Sig vw := { params := [.dat (.st .tagT), .dat (.st .tagT)], rcut := c14z, rvars := [.cell 4 25, .tmp 5] }
noncomputable def n_15 (v : Tag × Tag × Unit) : Option (Int × Tag × Unit) :=
 n_33 (v.1, ()) >>= fun x1 =>
 if (x1.1 != (0 : Int)) = true then
  some ((x1.1, Tag.mk (0 : Int) (0 : Int) (ByteArray.mk #[]) [] [], ()))
 else n_33 (v.2.1, ()) >>= fun x2 =>
 if (x2.1 != (0 : Int)) = true then
  some ((x2.1, Tag.mk (0 : Int) (0 : Int) (ByteArray.mk #[]) [] [], ()))
 else n_38 (v.1, v.2.1, ()) >>= fun x3 =>
 n_35 (x3.1, ()) >>= fun x4 =>
 some ((x4.1, x4.2.1, ()))
noncomputable def call15 : Caller vw := fun A fid args S k => match fid with | 33 => callPure prog sig33 n_33 A args S k | 35 => callPure prog sig35 n_35 A args S k | 38 => callPure prog sig38 n_38 A args S k | _ => none
noncomputable def x15 : Xc vw := { P := prog, n := 25, call := call15, sh := sh15 }
theorem call15_ok : CallerOk prog call15 := fun A fid args S dst k r h => by
 unfold call15 at h
 split at h
 ·exact callPure_ok (n_33_ok) rfl rfl h
 ·exact callPure_ok (n_35_ok) rfl rfl h
 ·exact callPure_ok (n_38_ok) rfl rfl h
 ·cases h
theorem n_15_ok : SigOk prog 15 sig15 n_15 := fun v r x h hx =>
 fn_ok (X := x15) (sig := sig15) rfl Tryz.func15 (c := bodyOf Tryz.f15) (by kernel_rfl) Tryz.ntmps15 (by kernel_rfl) (by kernel_rfl) rfl Ty.mixed call15_ok rfl (fun C hP hN => (lok_all (kcast (by kernel_rfl) trivial))) (kcast (by kernel_rfl) h) x hx
noncomputable def c50s0e1dl0 : Cut SN := ⟨[(0, .bp 100000 0)], [(100000, .st .readerT)]⟩
noncomputable def sh50s0e1d : Shape vw := { exits := fun id => match id with | 0 => c50s0e1dl0 | _ => ⟨[], []⟩, rcut := c50s0e1dl0 }
noncomputable def sig50s0e1d : Sig vw := { params := [.bp 100000 0], objs := [(100000, .st .readerT)], rcut := c50s0e1dl0, rvars := [], keep := [100000] }
noncomputable def n_50s0e1dl0 (v : Reader × Unit) : Option ((Reader × Unit)) :=
 n_74s5bd0 (ByteArray.mk #[32, 10, 9, 13], v.1, ()) >>= fun x1 =>
 if x1.1 = true then
  n_50s0e1dl0 (x1.2.1, ())
 else some ((x1.2.1, ()))
 partial_fixpoint
noncomputable def n_50s0e1d (v : Reader × Unit) : Option (Reader × Unit) :=
 n_50s0e1dl0 (v.1, ()) >>= fun x1 =>
 some ((x1.1, ()))
noncomputable def call50s0e1d : Caller vw := fun A fid args S k => match fid with | 74 => callObj prog sig74s5bd0 n_74s5bd0 A args S k | _ => none
noncomputable def x50s0e1d : Xc vw := { P := prog, n := 4, call := call50s0e1d, sh := sh50s0e1d, loops := fun k => match k with | 0 => some { cut := c50s0e1dl0, alts := [.exit 0], F := n_50s0e1dl0 } | _ => none }
theorem call50s0e1d_ok : CallerOk prog call50s0e1d := fun A fid args S dst k r h => by
 unfold call50s0e1d at h
 split at h
 ·exact callObj_ok (n_74s5bd0_ok) h
 ·cases h
theorem n_50s0e1dl0_ok (C : Ctx) (hP : C.P = prog) (hN : C.N = 4) : LoopOk C (loopNo (bodyOf Tryz.f50) 0) (sh := sh50s0e1d) { cut := c50s0e1dl0, alts := [.exit 0], F := n_50s0e1dl0 } :=
 n_50s0e1dl0.partial_correctness (motive := fun v out => AWpL C (loopNo (bodyOf Tryz.f50) 0) (Go.Tx.encS vw (conc vw c50s0e1dl0 v)) (OutQ sh50s0e1d [.exit 0] out)) fun F ih v out h =>
  loop_step (X := x50s0e1d) (b := (loopNo (bodyOf Tryz.f50) 0)) hP hN Ty.mixed call50s0e1d_ok (lok_all (X := x50s0e1d) (c := (loopNo (bodyOf Tryz.f50) 0)) (kcast (by kernel_rfl : True = AllB (LoopsP C (x50s0e1d)) (loopsIn (loopNo (bodyOf Tryz.f50) 0))) trivial)) ih (kcast (by kernel_rfl) h)
theorem n_50s0e1d_ok : SigOk prog 50 sig50s0e1d n_50s0e1d := fun v r x h hx =>
 fn_ok (X := x50s0e1d) (sig := sig50s0e1d) rfl Tryz.func50 (c := bodyOf Tryz.f50) (by kernel_rfl) Tryz.ntmps50 (by kernel_rfl) (by kernel_rfl) rfl Ty.mixed call50s0e1d_ok rfl (fun C hP hN => (lok_all (kcast (by kernel_rfl : AllB (LoopsP C (x50s0e1d)) [(loopNo (bodyOf Tryz.f50) 0)] = AllB (LoopsP C (x50s0e1d)) (loopsIn (bodyOf Tryz.f50))) ⟨loop_at (X := x50s0e1d) (b := (loopNo (bodyOf Tryz.f50) 0)) (by kernel_rfl) (n_50s0e1dl0_ok C hP hN), trivial⟩))) (kcast (by kernel_rfl) h) x hx
noncomputable def c68s0e1dz : Cut SN := ⟨[(0, .bp 100000 0), (2, .dat (.int .u8))], [(100000, .st .readerT)]⟩
noncomputable def sh68s0e1d : Shape vw := { rcut := c68s0e1dz }
noncomputable def sig68s0e1d : Sig vw := { params := [.bp 100000 0], objs := [(100000, .st .readerT)], rcut := c68s0e1dz, rvars := [.tmp 2], keep := [100000] }
noncomputable def n_68s0e1d (v : Reader × Unit) : Option (Int × Reader × Unit) :=
 if (v.1.at0 == (↑v.1.s.size : Int)) = true then
  some (((0 : Int), v.1, ()))
 else if (0 : Int) ≤ v.1.at0 then
  v.1.s[v.1.at0.toNat]? >>= fun x1 =>
  some (((↑x1.toNat : Int), v.1, ()))
 else none
noncomputable def call68s0e1d : Caller vw := fun _ _ _ _ _ => none
noncomputable def x68s0e1d : Xc vw := { P := prog, n := 22, call := call68s0e1d, sh := sh68s0e1d }
theorem call68s0e1d_ok : CallerOk prog call68s0e1d := call_none
theorem n_68s0e1d_ok : SigOk prog 68 sig68s0e1d n_68s0e1d := fun v r x h hx =>
 fn_ok (X := x68s0e1d) (sig := sig68s0e1d) rfl Tryz.func68 (c := bodyOf Tryz.f68) (by kernel_rfl) Tryz.ntmps68 (by kernel_rfl) (by kernel_rfl) rfl Ty.mixed call68s0e1d_ok rfl (fun C hP hN => (lok_all (kcast (by kernel_rfl) trivial))) (kcast (by kernel_rfl) h) x hx
noncomputable def c69s5bd0l2 : Cut SN := ⟨[(0, .bp 100000 0), (1, .dat .str), (7, .dat (.int .i64)), (8, .dat (.int .i64))], [(100000, .st .readerT)]⟩
noncomputable def sh69s5bd0 : Shape vw := { exits := fun id => match id with | 0 => c50s0e1dl0 | _ => ⟨[], []⟩, rcut := c74s5bd0z }
noncomputable def sig69s5bd0 : Sig vw := { params := [.bp 100000 0, .dat .str], objs := [(100000, .st .readerT)], rcut := c74s5bd0z, rvars := [.tmp 4], keep := [100000] }
noncomputable def n_69s5bd0l2 (v : ByteArray × Int × Int × Reader × Unit) : Option (((Bool × Reader × Unit) ⊕ (Reader × Unit))) :=
 if decide (v.2.2.1 < v.2.1) = true then
  if (0 : Int) ≤ v.2.2.1 ∧ v.2.2.1 ≤ i64.wrap (v.2.2.1 + (1 : Int)) ∧ i64.wrap (v.2.2.1 + (1 : Int)) ≤ (↑v.1.size : Int) then
   n_74s5bd0 (v.1.extract v.2.2.1.toNat (i64.wrap (v.2.2.1 + (1 : Int))).toNat, v.2.2.2.1, ()) >>= fun x1 =>
   if (!x1.1) = true then
    some (Sum.inl (false, x1.2.1, ()))
   else n_69s5bd0l2 (v.1, v.2.1, i64.wrap (v.2.2.1 + (1 : Int)), x1.2.1, ())
  else none
 else some (Sum.inr (v.2.2.2.1, ()))
 partial_fixpoint
noncomputable def n_69s5bd0 (v : ByteArray × Reader × Unit) : Option (Bool × Reader × Unit) :=
 n_69s5bd0l2 (v.1, (↑v.1.size : Int), (0 : Int), v.2.1, ()) >>= fun x1 => match x1 with
  | .inl y1 => some y1
  | .inr y1 => some ((true, y1.1, ()))
noncomputable def call69s5bd0 : Caller vw := fun A fid args S k => match fid with | 74 => callObj prog sig74s5bd0 n_74s5bd0 A args S k | _ => none
noncomputable def x69s5bd0 : Xc vw := { P := prog, n := 20, call := call69s5bd0, sh := sh69s5bd0, loops := fun k => match k with | 2 => some { cut := c69s5bd0l2, alts := [.ret, .exit 0], F := n_69s5bd0l2 } | _ => none }
theorem call69s5bd0_ok : CallerOk prog call69s5bd0 := fun A fid args S dst k r h => by
 unfold call69s5bd0 at h
 split at h
 ·exact callObj_ok (n_74s5bd0_ok) h
 ·cases h
theorem n_69s5bd0l2_ok (C : Ctx) (hP : C.P = prog) (hN : C.N = 20) : LoopOk C (loopNo (bodyOf Tryz.f69) 0) (sh := sh69s5bd0) { cut := c69s5bd0l2, alts := [.ret, .exit 0], F := n_69s5bd0l2 } :=
 n_69s5bd0l2.partial_correctness (motive := fun v out => AWpL C (loopNo (bodyOf Tryz.f69) 0) (Go.Tx.encS vw (conc vw c69s5bd0l2 v)) (OutQ sh69s5bd0 [.ret, .exit 0] out)) fun F ih v out h =>
  loop_step (X := x69s5bd0) (b := (loopNo (bodyOf Tryz.f69) 0)) hP hN Ty.mixed call69s5bd0_ok (lok_all (X := x69s5bd0) (c := (loopNo (bodyOf Tryz.f69) 0)) (kcast (by kernel_rfl : True = AllB (LoopsP C (x69s5bd0)) (loopsIn (loopNo (bodyOf Tryz.f69) 0))) trivial)) ih (kcast (by kernel_rfl) h)
theorem n_69s5bd0_ok : SigOk prog 69 sig69s5bd0 n_69s5bd0 := fun v r x h hx =>
 fn_ok (X := x69s5bd0) (sig := sig69s5bd0) rfl Tryz.func69 (c := bodyOf Tryz.f69) (by kernel_rfl) Tryz.ntmps69 (by kernel_rfl) (by kernel_rfl) rfl Ty.mixed call69s5bd0_ok rfl (fun C hP hN => (lok_all (kcast (by kernel_rfl : AllB (LoopsP C (x69s5bd0)) [(loopNo (bodyOf Tryz.f69) 0)] = AllB (LoopsP C (x69s5bd0)) (loopsIn (bodyOf Tryz.f69))) ⟨loop_at (X := x69s5bd0) (b := (loopNo (bodyOf Tryz.f69) 0)) (by kernel_rfl) (n_69s5bd0l2_ok C hP hN), trivial⟩))) (kcast (by kernel_rfl) h) x hx
noncomputable def c70s0e1dl6 : Cut SN := ⟨[(0, .bp 100000 0), (2, .bp 2 0), (4, .dat .bool), (5, .dat (.int .i64))], [(100000, .st .readerT), (2, .st .tagT)]⟩
noncomputable def c70s0e1dj11 : Cut SN := ⟨[(0, .bp 100000 0), (2, .bp 2 0), (5, .dat (.int .i64))], [(100000, .st .readerT), (2, .st .tagT)]⟩
noncomputable def c70s0e1dr5 : Cut SN := ⟨[(0, .bp 100000 0), (2, .bp 2 0), (4, .dat .bool), (5, .dat (.int .i64)), (12, .dat .bool)], [(100000, .st .readerT), (2, .st .tagT)]⟩
noncomputable def c70s0e1dr6 : Cut SN := ⟨[(0, .bp 100000 0), (2, .bp 2 0), (4, .dat .bool), (5, .dat (.int .i64)), (28, .dat .bool)], [(100000, .st .readerT), (2, .st .tagT)]⟩
noncomputable def c70s0e1dz : Cut SN := ⟨[(0, .bp 100000 0), (2, .bp 2 0), (3, .dat .bool)], [(100000, .st .readerT), (2, .st .tagT)]⟩
noncomputable def sh70s0e1d : Shape vw := { exits := fun id => match id with | 1 => c70s0e1dl6 | _ => ⟨[], []⟩, rcut := c70s0e1dz }
noncomputable def sig70s0e1d : Sig vw := { params := [.bp 100000 0], objs := [(100000, .st .readerT)], rcut := c70s0e1dz, rvars := [.cell 2 25, .tmp 3], keep := [100000] }
noncomputable def n_70s0e1dl6 (v : Bool × Int × Reader × Tag × Unit) : Option ((Bool × Int × Reader × Tag × Unit)) :=
 (n_68s0e1d (v.2.2.1, ()) >>= fun x1 =>
   if decide (x1.1 ≥ (48 : Int)) = true then
    n_68s0e1d (x1.2.1, ()) >>= fun x2 =>
    some ((v.1, v.2.1, decide (x2.1 ≤ (57 : Int)), x2.2.1, v.2.2.2.1, ()))
   else some ((v.1, v.2.1, false, x1.2.1, v.2.2.2.1, ()))) >>= fun x1 =>
 if x1.2.2.1 = true then
  n_68s0e1d (x1.2.2.2.1, ()) >>= fun x2 =>
  n_70s0e1dl6 (x1.1, min (i64.wrap (i64.wrap ((10 : Int) * x1.2.1) + i64.wrap (IntKind.u8.wrap (x2.1 - (48 : Int))))) (576460752303423488 : Int), Reader.mk x2.2.1.s (i64.wrap (x2.2.1.at0 + (1 : Int))), x1.2.2.2.2.1, ())
 else some ((x1.1, x1.2.1, x1.2.2.2.1, x1.2.2.2.2.1, ()))
 partial_fixpoint
noncomputable def n_70s0e1d (v : Reader × Unit) : Option (Bool × Reader × Tag × Unit) :=
 n_74s5bd0 (ByteArray.mk #[45], v.1, ()) >>= fun x1 =>
 (n_74s5bd0 (ByteArray.mk #[48], x1.2.1, ()) >>= fun x2 =>
   if x2.1 = true then
    some (Sum.inl (x1.1, (0 : Int), x2.2.1, Tag.mk (0 : Int) (0 : Int) (ByteArray.mk #[]) [] [], ()))
   else (n_68s0e1d (x2.2.1, ()) >>= fun x3 =>
    if decide (x3.1 ≥ (49 : Int)) = true then
     n_68s0e1d (x3.2.1, ()) >>= fun x4 =>
     some ((x1.1, (0 : Int), decide (x4.1 ≤ (57 : Int)), x4.2.1, Tag.mk (0 : Int) (0 : Int) (ByteArray.mk #[]) [] [], ()))
    else some ((x1.1, (0 : Int), false, x3.2.1, Tag.mk (0 : Int) (0 : Int) (ByteArray.mk #[]) [] [], ()))) >>= fun x3 =>
   if x3.2.2.1 = true then
    n_70s0e1dl6 (x3.1, x3.2.1, x3.2.2.2.1, x3.2.2.2.2.1, ()) >>= fun x4 =>
    some (Sum.inl (x4.1, x4.2.1, x4.2.2.1, x4.2.2.2.1, ()))
   else some (Sum.inr (false, x3.2.2.2.1, Tag.mk (0 : Int) (0 : Int) (ByteArray.mk #[]) [] [], ()))) >>= fun x2 => match x2 with
   | .inl y2 => (if y2.1 = true then
      some ((i64.wrap ((0 : Int) - y2.2.1), y2.2.2.1, y2.2.2.2.1, ()))
     else some ((y2.2.1, y2.2.2.1, y2.2.2.2.1, ()))) >>= fun x3 =>
    some ((true, x3.2.1, Tag.mk (3 : Int) x3.1 (ByteArray.mk #[]) [] [], ()))
   | .inr y2 => some y2
noncomputable def call70s0e1d : Caller vw := fun A fid args S k => match fid with | 68 => callObj prog sig68s0e1d n_68s0e1d A args S k | 74 => callObj prog sig74s5bd0 n_74s5bd0 A args S k | _ => none
noncomputable def x70s0e1d : Xc vw := { P := prog, n := 49, call := call70s0e1d, sh := sh70s0e1d, joins := fun k => match k with | 9 => some (c70s0e1dl6, [.norm, .ret]) | 11 => some (c70s0e1dj11, [.norm]) | _ => none, regs := fun k => match k with | 5 => some c70s0e1dr5 | 6 => some c70s0e1dr6 | _ => none, loops := fun k => match k with | 6 => some { cut := c70s0e1dl6, alts := [.exit 1], F := n_70s0e1dl6 } | _ => none }
theorem call70s0e1d_ok : CallerOk prog call70s0e1d := fun A fid args S dst k r h => by
 unfold call70s0e1d at h
 split at h
 ·exact callObj_ok (n_68s0e1d_ok) h
 ·exact callObj_ok (n_74s5bd0_ok) h
 ·cases h
theorem n_70s0e1dl6_ok (C : Ctx) (hP : C.P = prog) (hN : C.N = 49) : LoopOk C (loopNo (bodyOf Tryz.f70) 0) (sh := sh70s0e1d) { cut := c70s0e1dl6, alts := [.exit 1], F := n_70s0e1dl6 } :=
 n_70s0e1dl6.partial_correctness (motive := fun v out => AWpL C (loopNo (bodyOf Tryz.f70) 0) (Go.Tx.encS vw (conc vw c70s0e1dl6 v)) (OutQ sh70s0e1d [.exit 1] out)) fun F ih v out h =>
  loop_step (X := x70s0e1d) (b := (loopNo (bodyOf Tryz.f70) 0)) hP hN Ty.mixed call70s0e1d_ok (lok_all (X := x70s0e1d) (c := (loopNo (bodyOf Tryz.f70) 0)) (kcast (by kernel_rfl : True = AllB (LoopsP C (x70s0e1d)) (loopsIn (loopNo (bodyOf Tryz.f70) 0))) trivial)) ih (kcast (by kernel_rfl) h)
theorem n_70s0e1d_ok : SigOk prog 70 sig70s0e1d n_70s0e1d := fun v r x h hx =>
 fn_ok (X := x70s0e1d) (sig := sig70s0e1d) rfl Tryz.func70 (c := bodyOf Tryz.f70) (by kernel_rfl) Tryz.ntmps70 (by kernel_rfl) (by kernel_rfl) rfl Ty.mixed call70s0e1d_ok rfl (fun C hP hN => (lok_all (kcast (by kernel_rfl : AllB (LoopsP C (x70s0e1d)) [(loopNo (bodyOf Tryz.f70) 0)] = AllB (LoopsP C (x70s0e1d)) (loopsIn (bodyOf Tryz.f70))) ⟨loop_at (X := x70s0e1d) (b := (loopNo (bodyOf Tryz.f70) 0)) (by kernel_rfl) (n_70s0e1dl6_ok C hP hN), trivial⟩))) (kcast (by kernel_rfl) h) x hx
noncomputable def sh96s8e4d : Shape vw := { rcut := c133z }
noncomputable def sig96s8e4d : Sig vw := { params := [.bp 100000 0], objs := [(100000, .box (some 108) [.np 100000, .vh 100001]), (100001, .vec 5 (.int .u8))], rcut := c133z, rvars := [.tmp 2] }
noncomputable def n_96s8e4d (v : Bool × (List Int) × Unit) : Option (ByteArray × Unit) :=
 if (↑v.2.1.length : Int) = (↑v.2.1.length : Int) ∧ v.2.1.length ≤ (4294967296 : Nat) then
  some ((Bs.bytes v.2.1, ()))
 else none
noncomputable def call96s8e4d : Caller vw := fun _ _ _ _ _ => none
noncomputable def x96s8e4d : Xc vw := { P := prog, n := 14, call := call96s8e4d, sh := sh96s8e4d }
theorem call96s8e4d_ok : CallerOk prog call96s8e4d := call_none
theorem n_96s8e4d_ok : SigOk prog 96 sig96s8e4d n_96s8e4d := fun v r x h hx =>
 fn_ok (X := x96s8e4d) (sig := sig96s8e4d) rfl Tryz.func96 (c := bodyOf Tryz.f96) (by kernel_rfl) Tryz.ntmps96 (by kernel_rfl) (by kernel_rfl) rfl Ty.mixed call96s8e4d_ok rfl (fun C hP hN => (lok_all (kcast (by kernel_rfl) trivial))) (kcast (by kernel_rfl) h) x hx
noncomputable def c97s0e1dr2 : Cut SN := ⟨[(0, .bp 100000 0), (4, .dat (.int .i64)), (24, .dat .bool)], [(100000, .st .readerT)]⟩
noncomputable def c97s0e1dr8 : Cut SN := ⟨[(0, .bp 100000 0), (5, .dat (.int .i32)), (6, .dat .bool), (52, .dat .bool)], [(100000, .st .readerT)]⟩
noncomputable def c97s0e1dz : Cut SN := ⟨[(0, .bp 100000 0), (2, .dat (.int .i32)), (3, .dat .bool)], [(100000, .st .readerT)]⟩
noncomputable def sh97s0e1d : Shape vw := { rcut := c97s0e1dz }
noncomputable def sig97s0e1d : Sig vw := { params := [.bp 100000 0], objs := [(100000, .st .readerT)], rcut := c97s0e1dz, rvars := [.tmp 2, .tmp 3], keep := [100000] }
noncomputable def n_97s0e1d (v : Reader × Unit) : Option (Int × Bool × Reader × Unit) :=
 n_68s0e1d (v.1, ()) >>= fun x1 =>
 n_118 (ByteArray.mk #[34, 92, 47, 98, 102, 110, 114, 116], x1.1, ()) >>= fun x2 =>
 (if decide (x1.2.1.at0 < (↑x1.2.1.s.size : Int)) = true then
    some ((x2.1, decide (x2.1 ≥ (0 : Int)), x1.2.1, ()))
   else some ((x2.1, false, x1.2.1, ()))) >>= fun x3 =>
 if x3.2.1 = true then
  if (0 : Int) ≤ x3.1 then
   (ByteArray.mk #[34, 92, 47, 8, 12, 10, 13, 9])[x3.1.toNat]? >>= fun x4 =>
   some ((i32.wrap (↑x4.toNat : Int), true, Reader.mk x3.2.2.1.s (i64.wrap (x3.2.2.1.at0 + (1 : Int))), ()))
  else none
 else n_74s5bd0 (ByteArray.mk #[117], x3.2.2.1, ()) >>= fun x4 =>
 if (!x4.1) = true then
  some (((0 : Int), false, x4.2.1, ()))
 else n_119sadb0 (ByteArray.mk #[48, 49, 50, 51, 52, 53, 54, 55, 56, 57, 97, 98, 99, 101, 102, 65, 66, 67, 69, 70], ByteArray.mk #[48, 49, 50, 51, 52, 53, 54, 55, 56, 57, 97, 98, 65, 66], x4.2.1, ()) >>= fun x5 =>
 (if (!x5.2.1) = true then
    some ((x5.1, x5.2.1, true, x5.2.2.1, ()))
   else if decide (x5.1 < (55296 : Int)) = true then
    some ((x5.1, x5.2.1, true, x5.2.2.1, ()))
   else some ((x5.1, x5.2.1, decide (x5.1 ≥ (56320 : Int)), x5.2.2.1, ()))) >>= fun x6 =>
 if x6.2.2.1 = true then
  some ((x6.1, x6.2.1, x6.2.2.2.1, ()))
 else n_69s5bd0 (ByteArray.mk #[92, 117], x6.2.2.2.1, ()) >>= fun x7 =>
 if (!x7.1) = true then
  some (((0 : Int), false, x7.2.1, ()))
 else n_119sadb0 (ByteArray.mk #[], ByteArray.mk #[99, 100, 101, 102, 67, 68, 69, 70], x7.2.1, ()) >>= fun x8 =>
 some ((i32.wrap (i32.wrap (i32.wrap ((65536 : Int) + Bs.ishl i32 (i32.wrap (x6.1 - (55296 : Int))) (10 : Int)) + x8.1) - (56320 : Int)), x8.2.1, x8.2.2.1, ()))
noncomputable def call97s0e1d : Caller vw := fun A fid args S k => match fid with | 68 => callObj prog sig68s0e1d n_68s0e1d A args S k | 69 => callObj prog sig69s5bd0 n_69s5bd0 A args S k | 74 => callObj prog sig74s5bd0 n_74s5bd0 A args S k | 118 => callPure prog sig118 n_118 A args S k | 119 => callObj prog sig119sadb0 n_119sadb0 A args S k | _ => none
noncomputable def x97s0e1d : Xc vw := { P := prog, n := 71, call := call97s0e1d, sh := sh97s0e1d, regs := fun k => match k with | 2 => some c97s0e1dr2 | 8 => some c97s0e1dr8 | _ => none }
theorem call97s0e1d_ok : CallerOk prog call97s0e1d := fun A fid args S dst k r h => by
 unfold call97s0e1d at h
 split at h
 ·exact callObj_ok (n_68s0e1d_ok) h
 ·exact callObj_ok (n_69s5bd0_ok) h
 ·exact callObj_ok (n_74s5bd0_ok) h
 ·exact callPure_ok (n_118_ok) rfl rfl h
 ·exact callObj_ok (n_119sadb0_ok) h
 ·cases h
theorem n_97s0e1d_ok : SigOk prog 97 sig97s0e1d n_97s0e1d := fun v r x h hx =>
 fn_ok (X := x97s0e1d) (sig := sig97s0e1d) rfl Tryz.func97 (c := bodyOf Tryz.f97) (by kernel_rfl) Tryz.ntmps97 (by kernel_rfl) (by kernel_rfl) rfl Ty.mixed call97s0e1d_ok rfl (fun C hP hN => (lok_all (kcast (by kernel_rfl) trivial))) (kcast (by kernel_rfl) h) x hx
noncomputable def sh98se46d : Shape vw := { rcut := c100s52d8z }
noncomputable def sig98se46d : Sig vw := { params := [.bp 100000 0, .dat (.int .i32)], objs := [(100000, .box (some 108) [.np 100000, .vh 100001]), (100001, .vec 5 (.int .u8))], rcut := c100s52d8z, rvars := [.tmp 4, .tmp 5], keep := [100000, 3001] }
noncomputable def n_98se46d (v : Int × Bool × (List Int) × Unit) : Option (Int × Bool × (List Int) × Unit) :=
 n_120s8e4d (v.2.1, v.2.2.1, ()) >>= fun x1 =>
 n_121s43b2 (v.1, x1.2.1, ()) >>= fun x2 =>
 some ((i64.wrap ((↑x2.1.length : Int) - (↑x1.2.1.length : Int)), x1.1, x2.1, ()))
noncomputable def call98se46d : Caller vw := fun A fid args S k => match fid with | 120 => callObj prog sig120s8e4d n_120s8e4d A args S k | 121 => callObj prog sig121s43b2 n_121s43b2 A args S k | _ => none
noncomputable def x98se46d : Xc vw := { P := prog, n := 30, call := call98se46d, sh := sh98se46d }
theorem call98se46d_ok : CallerOk prog call98se46d := fun A fid args S dst k r h => by
 unfold call98se46d at h
 split at h
 ·exact callObj_ok (n_120s8e4d_ok) h
 ·exact callObj_ok (n_121s43b2_ok) h
 ·cases h
theorem n_98se46d_ok : SigOk prog 98 sig98se46d n_98se46d := fun v r x h hx =>
 fn_ok (X := x98se46d) (sig := sig98se46d) rfl Tryz.func98 (c := bodyOf Tryz.f98) (by kernel_rfl) Tryz.ntmps98 (by kernel_rfl) (by kernel_rfl) rfl Ty.mixed call98se46d_ok rfl (fun C hP hN => (lok_all (kcast (by kernel_rfl) trivial))) (kcast (by kernel_rfl) h) x hx
noncomputable def c99s0e1dl22 : Cut SN := ⟨[(0, .bp 100000 0), (4, .dat (.int .u8)), (5, .dat (.int .u8)), (48, .dat (.int .i64)), (49, .dat (.int .i64))], [(100000, .st .readerT)]⟩
noncomputable def c99s0e1dj11 : Cut SN := ⟨[(0, .bp 100000 0), (3, .dat (.int .u8)), (4, .dat (.int .u8)), (5, .dat (.int .u8)), (6, .dat (.int .i64))], [(100000, .st .readerT)]⟩
noncomputable def c99s0e1dj20 : Cut SN := ⟨[(0, .bp 100000 0), (4, .dat (.int .u8)), (5, .dat (.int .u8)), (6, .dat (.int .i64))], [(100000, .st .readerT)]⟩
noncomputable def c99s0e1dr5 : Cut SN := ⟨[(0, .bp 100000 0), (3, .dat (.int .u8)), (4, .dat (.int .u8)), (5, .dat (.int .u8)), (19, .dat .bool)], [(100000, .st .readerT)]⟩
noncomputable def c99s0e1dz : Cut SN := ⟨[(0, .bp 100000 0), (2, .dat .bool)], [(100000, .st .readerT)]⟩
noncomputable def sh99s0e1d : Shape vw := { exits := fun id => match id with | 2 => c50s0e1dl0 | _ => ⟨[], []⟩, rcut := c99s0e1dz }
noncomputable def sig99s0e1d : Sig vw := { params := [.bp 100000 0], objs := [(100000, .st .readerT)], rcut := c99s0e1dz, rvars := [.tmp 2], keep := [100000] }
noncomputable def n_99s0e1dl22 (v : Int × Int × Int × Int × Reader × Unit) : Option (((Bool × Reader × Unit) ⊕ (Reader × Unit))) :=
 if decide (v.2.2.2.1 < v.2.2.1) = true then
  n_122s07d3 (v.1, v.2.1, v.2.2.2.2.1, ()) >>= fun x1 =>
  if (!x1.1) = true then
   some (Sum.inl (false, x1.2.1, ()))
  else n_99s0e1dl22 ((128 : Int), (191 : Int), v.2.2.1, i64.wrap (v.2.2.2.1 + (1 : Int)), x1.2.1, ())
 else some (Sum.inr (v.2.2.2.2.1, ()))
 partial_fixpoint
noncomputable def n_99s0e1d (v : Reader × Unit) : Option (Bool × Reader × Unit) :=
 if (0 : Int) ≤ v.1.at0 then
  v.1.s[v.1.at0.toNat]? >>= fun x1 =>
  (if decide ((↑x1.toNat : Int) < (128 : Int)) = true then
     some (Sum.inl ((↑x1.toNat : Int), (128 : Int), (191 : Int), (0 : Int), v.1, ()))
    else (if decide ((↑x1.toNat : Int) < (194 : Int)) = true then
      some (((↑x1.toNat : Int), (128 : Int), (191 : Int), true, v.1, ()))
     else some (((↑x1.toNat : Int), (128 : Int), (191 : Int), decide ((↑x1.toNat : Int) > (244 : Int)), v.1, ()))) >>= fun x2 =>
    if x2.2.2.2.1 = true then
     some (Sum.inr (false, x2.2.2.2.2.1, ()))
    else if decide (x2.1 < (224 : Int)) = true then
     some (Sum.inl (x2.1, x2.2.1, x2.2.2.1, (1 : Int), x2.2.2.2.2.1, ()))
    else if decide (x2.1 < (240 : Int)) = true then
     some (Sum.inl (x2.1, x2.2.1, x2.2.2.1, (2 : Int), x2.2.2.2.2.1, ()))
    else some (Sum.inl (x2.1, x2.2.1, x2.2.2.1, (3 : Int), x2.2.2.2.2.1, ()))) >>= fun x2 => match x2 with
    | .inl y2 => (if (y2.1 == (224 : Int)) = true then
       some (((160 : Int), y2.2.2.1, y2.2.2.2.1, y2.2.2.2.2.1, ()))
      else if (y2.1 == (237 : Int)) = true then
       some ((y2.2.1, (159 : Int), y2.2.2.2.1, y2.2.2.2.2.1, ()))
      else if (y2.1 == (240 : Int)) = true then
       some (((144 : Int), y2.2.2.1, y2.2.2.2.1, y2.2.2.2.2.1, ()))
      else if (y2.1 == (244 : Int)) = true then
       some ((y2.2.1, (143 : Int), y2.2.2.2.1, y2.2.2.2.2.1, ()))
      else some ((y2.2.1, y2.2.2.1, y2.2.2.2.1, y2.2.2.2.2.1, ()))) >>= fun x3 =>
     n_99s0e1dl22 (x3.1, x3.2.1, x3.2.2.1, (0 : Int), Reader.mk x3.2.2.2.1.s (i64.wrap (x3.2.2.2.1.at0 + (1 : Int))), ()) >>= fun x4 => match x4 with
      | .inl y4 => some y4
      | .inr y4 => some ((true, y4.1, ()))
    | .inr y2 => some y2
 else none
noncomputable def call99s0e1d : Caller vw := fun A fid args S k => match fid with | 122 => callObj prog sig122s07d3 n_122s07d3 A args S k | _ => none
noncomputable def x99s0e1d : Xc vw := { P := prog, n := 57, call := call99s0e1d, sh := sh99s0e1d, joins := fun k => match k with | 11 => some (c99s0e1dj11, [.norm, .ret]) | 20 => some (c99s0e1dj20, [.norm]) | _ => none, regs := fun k => match k with | 5 => some c99s0e1dr5 | _ => none, loops := fun k => match k with | 22 => some { cut := c99s0e1dl22, alts := [.ret, .exit 2], F := n_99s0e1dl22 } | _ => none }
theorem call99s0e1d_ok : CallerOk prog call99s0e1d := fun A fid args S dst k r h => by
 unfold call99s0e1d at h
 split at h
 ·exact callObj_ok (n_122s07d3_ok) h
 ·cases h
theorem n_99s0e1dl22_ok (C : Ctx) (hP : C.P = prog) (hN : C.N = 57) : LoopOk C (loopNo (bodyOf Tryz.f99) 0) (sh := sh99s0e1d) { cut := c99s0e1dl22, alts := [.ret, .exit 2], F := n_99s0e1dl22 } :=
 n_99s0e1dl22.partial_correctness (motive := fun v out => AWpL C (loopNo (bodyOf Tryz.f99) 0) (Go.Tx.encS vw (conc vw c99s0e1dl22 v)) (OutQ sh99s0e1d [.ret, .exit 2] out)) fun F ih v out h =>
  loop_step (X := x99s0e1d) (b := (loopNo (bodyOf Tryz.f99) 0)) hP hN Ty.mixed call99s0e1d_ok (lok_all (X := x99s0e1d) (c := (loopNo (bodyOf Tryz.f99) 0)) (kcast (by kernel_rfl : True = AllB (LoopsP C (x99s0e1d)) (loopsIn (loopNo (bodyOf Tryz.f99) 0))) trivial)) ih (kcast (by kernel_rfl) h)
theorem n_99s0e1d_ok : SigOk prog 99 sig99s0e1d n_99s0e1d := fun v r x h hx =>
 fn_ok (X := x99s0e1d) (sig := sig99s0e1d) rfl Tryz.func99 (c := bodyOf Tryz.f99) (by kernel_rfl) Tryz.ntmps99 (by kernel_rfl) (by kernel_rfl) rfl Ty.mixed call99s0e1d_ok rfl (fun C hP hN => (lok_all (kcast (by kernel_rfl : AllB (LoopsP C (x99s0e1d)) [(loopNo (bodyOf Tryz.f99) 0)] = AllB (LoopsP C (x99s0e1d)) (loopsIn (bodyOf Tryz.f99))) ⟨loop_at (X := x99s0e1d) (b := (loopNo (bodyOf Tryz.f99) 0)) (by kernel_rfl) (n_99s0e1dl22_ok C hP hN), trivial⟩))) (kcast (by kernel_rfl) h) x hx
noncomputable def c71s0e1dl3 : Cut SN := ⟨[(0, .bp 100000 0), (4, .bp 4 0)], [(100000, .st .readerT), (4, .box (some 108) [.np 4, .vh 3041]), (3041, .vec 5 (.int .u8))]⟩
noncomputable def c71s0e1dz : Cut SN := ⟨[(0, .bp 100000 0), (2, .dat .str), (3, .dat .bool)], [(100000, .st .readerT)]⟩
noncomputable def sh71s0e1d : Shape vw := { rcut := c71s0e1dz }
noncomputable def sig71s0e1d : Sig vw := { params := [.bp 100000 0], objs := [(100000, .st .readerT)], rcut := c71s0e1dz, rvars := [.tmp 2, .tmp 3], keep := [100000] }
noncomputable def n_71s0e1dl3 (v : Reader × Bool × (List Int) × Unit) : Option ((ByteArray × Bool × Reader × Unit)) :=
 n_68s0e1d (v.1, ()) >>= fun x1 =>
 if (x1.1 == (34 : Int)) = true then
  n_96s8e4d (v.2.1, v.2.2.1, ()) >>= fun x2 =>
  some ((x2.1, true, Reader.mk x1.2.1.s (i64.wrap (x1.2.1.at0 + (1 : Int))), ()))
 else if decide (x1.1 < (32 : Int)) = true then
  some ((ByteArray.mk #[], false, x1.2.1, ()))
 else if (x1.1 == (92 : Int)) = true then
  n_97s0e1d (Reader.mk x1.2.1.s (i64.wrap (x1.2.1.at0 + (1 : Int))), ()) >>= fun x2 =>
  if (!x2.2.1) = true then
   some ((ByteArray.mk #[], false, x2.2.2.1, ()))
  else n_98se46d (x2.1, v.2.1, v.2.2.1, ()) >>= fun x3 =>
  n_71s0e1dl3 (x2.2.2.1, x3.2.1, x3.2.2.1, ())
 else n_99s0e1d (x1.2.1, ()) >>= fun x2 =>
 if (!x2.1) = true then
  some ((ByteArray.mk #[], false, x2.2.1, ()))
 else if (0 : Int) ≤ x1.2.1.at0 ∧ x1.2.1.at0 ≤ x2.2.1.at0 ∧ x2.2.1.at0 ≤ (↑x2.2.1.s.size : Int) then
  n_100s52d8 (x2.2.1.s.extract x1.2.1.at0.toNat x2.2.1.at0.toNat, v.2.1, v.2.2.1, ()) >>= fun x3 =>
  n_71s0e1dl3 (x2.2.1, x3.2.1, x3.2.2.1, ())
 else none
 partial_fixpoint
noncomputable def n_71s0e1d (v : Reader × Unit) : Option (ByteArray × Bool × Reader × Unit) :=
 some (v.1, false, [], ()) >>= fun x1 =>
 n_71s0e1dl3 (Reader.mk x1.1.s (i64.wrap (x1.1.at0 + (1 : Int))), x1.2.1, x1.2.2.1, ()) >>= fun x2 =>
 some x2
noncomputable def call71s0e1d : Caller vw := fun A fid args S k => match fid with | 68 => callObj prog sig68s0e1d n_68s0e1d A args S k | 96 => callObj prog sig96s8e4d n_96s8e4d A args S k | 97 => callObj prog sig97s0e1d n_97s0e1d A args S k | 98 => callObj prog sig98se46d n_98se46d A args S k | 99 => callObj prog sig99s0e1d n_99s0e1d A args S k | 100 => callObj prog sig100s52d8 n_100s52d8 A args S k | _ => none
noncomputable def x71s0e1d : Xc vw := { P := prog, n := 69, call := call71s0e1d, sh := sh71s0e1d, regs := fun k => match k with | 1 => some c71s0e1dl3 | _ => none, loops := fun k => match k with | 3 => some { cut := c71s0e1dl3, alts := [.ret], F := n_71s0e1dl3 } | _ => none }
theorem call71s0e1d_ok : CallerOk prog call71s0e1d := fun A fid args S dst k r h => by
 unfold call71s0e1d at h
 split at h
 ·exact callObj_ok (n_68s0e1d_ok) h
 ·exact callObj_ok (n_96s8e4d_ok) h
 ·exact callObj_ok (n_97s0e1d_ok) h
 ·exact callObj_ok (n_98se46d_ok) h
 ·exact callObj_ok (n_99s0e1d_ok) h
 ·exact callObj_ok (n_100s52d8_ok) h
 ·cases h
theorem n_71s0e1dl3_ok (C : Ctx) (hP : C.P = prog) (hN : C.N = 69) : LoopOk C (loopNo (bodyOf Tryz.f71) 0) (sh := sh71s0e1d) { cut := c71s0e1dl3, alts := [.ret], F := n_71s0e1dl3 } :=
 n_71s0e1dl3.partial_correctness (motive := fun v out => AWpL C (loopNo (bodyOf Tryz.f71) 0) (Go.Tx.encS vw (conc vw c71s0e1dl3 v)) (OutQ sh71s0e1d [.ret] out)) fun F ih v out h =>
  loop_step (X := x71s0e1d) (b := (loopNo (bodyOf Tryz.f71) 0)) hP hN Ty.mixed call71s0e1d_ok (lok_all (X := x71s0e1d) (c := (loopNo (bodyOf Tryz.f71) 0)) (kcast (by kernel_rfl : True = AllB (LoopsP C (x71s0e1d)) (loopsIn (loopNo (bodyOf Tryz.f71) 0))) trivial)) ih (kcast (by kernel_rfl) h)
theorem n_71s0e1d_ok : SigOk prog 71 sig71s0e1d n_71s0e1d := fun v r x h hx =>
 fn_ok (X := x71s0e1d) (sig := sig71s0e1d) rfl Tryz.func71 (c := bodyOf Tryz.f71) (by kernel_rfl) Tryz.ntmps71 (by kernel_rfl) (by kernel_rfl) rfl Ty.mixed call71s0e1d_ok rfl (fun C hP hN => (lok_all (kcast (by kernel_rfl : AllB (LoopsP C (x71s0e1d)) [(loopNo (bodyOf Tryz.f71) 0)] = AllB (LoopsP C (x71s0e1d)) (loopsIn (bodyOf Tryz.f71))) ⟨loop_at (X := x71s0e1d) (b := (loopNo (bodyOf Tryz.f71) 0)) (by kernel_rfl) (n_71s0e1dl3_ok C hP hN), trivial⟩))) (kcast (by kernel_rfl) h) x hx
noncomputable def c49s0e1dr9 : Cut SN := ⟨[(0, .bp 100000 0), (2, .bp 2 0), (4, .dat (.int .u8)), (29, .dat .bool)], [(100000, .st .readerT), (2, .st .tagT)]⟩
noncomputable def sh49s0e1d : Shape vw := { rcut := c70s0e1dz }
noncomputable def sig49s0e1d : Sig vw := { params := [.bp 100000 0], objs := [(100000, .st .readerT)], rcut := c70s0e1dz, rvars := [.cell 2 25, .tmp 3], keep := [100000] }
noncomputable def c72s0e1dg1 : Cut SN := ⟨[(0, .bp 100000 0), (2, .bp 2 0), (4, .bp 4 0)], [(100000, .st .readerT), (2, .st .tagT), (4, .box none [.dat (.int .i64), .dat (.int .i64), .dat .str, .vh 3043, .vh 3044]), (3043, .vec 9 .str), (3044, .vec 25 (.st .tagT))]⟩
noncomputable def sh72s0e1d : Shape vw := { exits := fun id => match id with | 1000000 => c72s0e1dg1 | _ => ⟨[], []⟩, rcut := c70s0e1dz }
noncomputable def sig72s0e1d : Sig vw := { params := [.bp 100000 0], objs := [(100000, .st .readerT)], rcut := c70s0e1dz, rvars := [.cell 2 25, .tmp 3], keep := [100000] }
noncomputable def sh73s0e1d : Shape vw := { exits := fun id => match id with | 1000000 => c72s0e1dg1 | _ => ⟨[], []⟩, rcut := c70s0e1dz }
noncomputable def sig73s0e1d : Sig vw := { params := [.bp 100000 0], objs := [(100000, .st .readerT)], rcut := c70s0e1dz, rvars := [.cell 2 25, .tmp 3], keep := [100000] }
mutual
noncomputable def n_49s0e1d (v : Reader × Unit) : Option (Bool × Reader × Tag × Unit) :=
 n_50s0e1d (v.1, ()) >>= fun x1 =>
 n_68s0e1d (x1.1, ()) >>= fun x2 =>
 if (x2.1 == (110 : Int)) = true then
  n_69s5bd0 (ByteArray.mk #[110, 117, 108, 108], x2.2.1, ()) >>= fun x3 =>
  some ((x3.1, x3.2.1, Tag.mk (0 : Int) (0 : Int) (ByteArray.mk #[]) [] [], ()))
 else if (x2.1 == (102 : Int)) = true then
  n_69s5bd0 (ByteArray.mk #[102, 97, 108, 115, 101], x2.2.1, ()) >>= fun x3 =>
  some ((x3.1, x3.2.1, Tag.mk (1 : Int) (0 : Int) (ByteArray.mk #[]) [] [], ()))
 else if (x2.1 == (116 : Int)) = true then
  n_69s5bd0 (ByteArray.mk #[116, 114, 117, 101], x2.2.1, ()) >>= fun x3 =>
  some ((x3.1, x3.2.1, Tag.mk (2 : Int) (0 : Int) (ByteArray.mk #[]) [] [], ()))
 else (if (x2.1 == (45 : Int)) = true then
   some ((x2.1, true, x2.2.1, Tag.mk (0 : Int) (0 : Int) (ByteArray.mk #[]) [] [], ()))
  else if decide (x2.1 ≥ (48 : Int)) = true then
   some ((x2.1, decide (x2.1 ≤ (57 : Int)), x2.2.1, Tag.mk (0 : Int) (0 : Int) (ByteArray.mk #[]) [] [], ()))
  else some ((x2.1, false, x2.2.1, Tag.mk (0 : Int) (0 : Int) (ByteArray.mk #[]) [] [], ()))) >>= fun x3 =>
 if x3.2.1 = true then
  n_70s0e1d (x3.2.2.1, ()) >>= fun x4 =>
  some ((x4.1, x4.2.1, x4.2.2.1, ()))
 else if (x3.1 == (34 : Int)) = true then
  n_71s0e1d (x3.2.2.1, ()) >>= fun x4 =>
  some ((x4.2.1, x4.2.2.1, Tag.mk (4 : Int) (0 : Int) x4.1 [] [], ()))
 else if (x3.1 == (91 : Int)) = true then
  n_72s0e1d (x3.2.2.1, ()) >>= fun x4 =>
  some ((x4.1, x4.2.1, x4.2.2.1, ()))
 else if (x3.1 == (123 : Int)) = true then
  n_73s0e1d (x3.2.2.1, ()) >>= fun x4 =>
  some ((x4.1, x4.2.1, x4.2.2.1, ()))
 else some ((false, x3.2.2.1, Tag.mk (0 : Int) (0 : Int) (ByteArray.mk #[]) [] [], ()))
 partial_fixpoint
noncomputable def n_73s0e1d (v : Reader × Unit) : Option (Bool × Reader × Tag × Unit) :=
 some (v.1, Tag.mk (0 : Int) (0 : Int) (ByteArray.mk #[]) [] [], (6 : Int), (0 : Int), ByteArray.mk #[], [], [], ()) >>= fun x1 =>
 n_50s0e1d (Reader.mk x1.1.s (i64.wrap (x1.1.at0 + (1 : Int))), ()) >>= fun x2 =>
 n_74s5bd0 (ByteArray.mk #[125], x2.1, ()) >>= fun x3 =>
 if x3.1 = true then
  some ((true, x3.2.1, Tag.mk x1.2.2.1 x1.2.2.2.1 x1.2.2.2.2.1 x1.2.2.2.2.2.1 x1.2.2.2.2.2.2.1, ()))
 else n_50s0e1d (x3.2.1, ()) >>= fun x4 =>
 n_68s0e1d (x4.1, ()) >>= fun x5 =>
 if (x5.1 != (34 : Int)) = true then
  some ((false, x5.2.1, Tag.mk (0 : Int) (0 : Int) (ByteArray.mk #[]) [] [], ()))
 else n_71s0e1d (x5.2.1, ()) >>= fun x6 =>
 if (!x6.2.1) = true then
  some ((false, x6.2.2.1, Tag.mk (0 : Int) (0 : Int) (ByteArray.mk #[]) [] [], ()))
 else n_50s0e1d (x6.2.2.1, ()) >>= fun x7 =>
 n_74s5bd0 (ByteArray.mk #[58], x7.1, ()) >>= fun x8 =>
 if (!x8.1) = true then
  some ((false, x8.2.1, Tag.mk (0 : Int) (0 : Int) (ByteArray.mk #[]) [] [], ()))
 else n_49s0e1d (x8.2.1, ()) >>= fun x9 =>
 if (!x9.1) = true then
  some ((false, x9.2.1, Tag.mk (0 : Int) (0 : Int) (ByteArray.mk #[]) [] [], ()))
 else if x1.2.2.2.2.2.1.length + [x6.1].length ≤ (4294967296 : Nat) then
  if x1.2.2.2.2.2.2.1.length + [x9.2.2.1].length ≤ (4294967296 : Nat) then
   n_50s0e1d (x9.2.1, ()) >>= fun x10 =>
   n_74s5bd0 (ByteArray.mk #[44], x10.1, ()) >>= fun x11 =>
   if x11.1 = true then
    n_73s0e1dg1 (x11.2.1, x1.2.1, x1.2.2.1, x1.2.2.2.1, x1.2.2.2.2.1, x1.2.2.2.2.2.1 ++ [x6.1], x1.2.2.2.2.2.2.1 ++ [x9.2.2.1], ()) >>= fun x12 =>
    some x12
   else n_74s5bd0 (ByteArray.mk #[125], x11.2.1, ()) >>= fun x12 =>
   some ((x12.1, x12.2.1, Tag.mk x1.2.2.1 x1.2.2.2.1 x1.2.2.2.2.1 (x1.2.2.2.2.2.1 ++ [x6.1]) (x1.2.2.2.2.2.2.1 ++ [x9.2.2.1]), ()))
  else none
 else none
 partial_fixpoint
noncomputable def n_73s0e1dg1 (v : Reader × Tag × Int × Int × ByteArray × (List ByteArray) × (List Tag) × Unit) : Option ((Bool × Reader × Tag × Unit)) :=
 n_50s0e1d (v.1, ()) >>= fun x1 =>
 n_68s0e1d (x1.1, ()) >>= fun x2 =>
 if (x2.1 != (34 : Int)) = true then
  some ((false, x2.2.1, Tag.mk (0 : Int) (0 : Int) (ByteArray.mk #[]) [] [], ()))
 else n_71s0e1d (x2.2.1, ()) >>= fun x3 =>
 if (!x3.2.1) = true then
  some ((false, x3.2.2.1, Tag.mk (0 : Int) (0 : Int) (ByteArray.mk #[]) [] [], ()))
 else n_50s0e1d (x3.2.2.1, ()) >>= fun x4 =>
 n_74s5bd0 (ByteArray.mk #[58], x4.1, ()) >>= fun x5 =>
 if (!x5.1) = true then
  some ((false, x5.2.1, Tag.mk (0 : Int) (0 : Int) (ByteArray.mk #[]) [] [], ()))
 else n_49s0e1d (x5.2.1, ()) >>= fun x6 =>
 if (!x6.1) = true then
  some ((false, x6.2.1, Tag.mk (0 : Int) (0 : Int) (ByteArray.mk #[]) [] [], ()))
 else if v.2.2.2.2.2.1.length + [x3.1].length ≤ (4294967296 : Nat) then
  if v.2.2.2.2.2.2.1.length + [x6.2.2.1].length ≤ (4294967296 : Nat) then
   n_50s0e1d (x6.2.1, ()) >>= fun x7 =>
   n_74s5bd0 (ByteArray.mk #[44], x7.1, ()) >>= fun x8 =>
   if x8.1 = true then
    n_73s0e1dg1 (x8.2.1, v.2.1, v.2.2.1, v.2.2.2.1, v.2.2.2.2.1, v.2.2.2.2.2.1 ++ [x3.1], v.2.2.2.2.2.2.1 ++ [x6.2.2.1], ())
   else n_74s5bd0 (ByteArray.mk #[125], x8.2.1, ()) >>= fun x9 =>
   some ((x9.1, x9.2.1, Tag.mk v.2.2.1 v.2.2.2.1 v.2.2.2.2.1 (v.2.2.2.2.2.1 ++ [x3.1]) (v.2.2.2.2.2.2.1 ++ [x6.2.2.1]), ()))
  else none
 else none
 partial_fixpoint
noncomputable def n_72s0e1d (v : Reader × Unit) : Option (Bool × Reader × Tag × Unit) :=
 some (v.1, Tag.mk (0 : Int) (0 : Int) (ByteArray.mk #[]) [] [], (5 : Int), (0 : Int), ByteArray.mk #[], [], [], ()) >>= fun x1 =>
 n_50s0e1d (Reader.mk x1.1.s (i64.wrap (x1.1.at0 + (1 : Int))), ()) >>= fun x2 =>
 n_74s5bd0 (ByteArray.mk #[93], x2.1, ()) >>= fun x3 =>
 if x3.1 = true then
  some ((true, x3.2.1, Tag.mk x1.2.2.1 x1.2.2.2.1 x1.2.2.2.2.1 x1.2.2.2.2.2.1 x1.2.2.2.2.2.2.1, ()))
 else n_49s0e1d (x3.2.1, ()) >>= fun x4 =>
 if (!x4.1) = true then
  some ((false, x4.2.1, Tag.mk (0 : Int) (0 : Int) (ByteArray.mk #[]) [] [], ()))
 else if x1.2.2.2.2.2.2.1.length + [x4.2.2.1].length ≤ (4294967296 : Nat) then
  n_50s0e1d (x4.2.1, ()) >>= fun x5 =>
  n_74s5bd0 (ByteArray.mk #[44], x5.1, ()) >>= fun x6 =>
  if x6.1 = true then
   n_72s0e1dg1 (x6.2.1, x1.2.1, x1.2.2.1, x1.2.2.2.1, x1.2.2.2.2.1, x1.2.2.2.2.2.1, x1.2.2.2.2.2.2.1 ++ [x4.2.2.1], ()) >>= fun x7 =>
   some x7
  else n_74s5bd0 (ByteArray.mk #[93], x6.2.1, ()) >>= fun x7 =>
  some ((x7.1, x7.2.1, Tag.mk x1.2.2.1 x1.2.2.2.1 x1.2.2.2.2.1 x1.2.2.2.2.2.1 (x1.2.2.2.2.2.2.1 ++ [x4.2.2.1]), ()))
 else none
 partial_fixpoint
noncomputable def n_72s0e1dg1 (v : Reader × Tag × Int × Int × ByteArray × (List ByteArray) × (List Tag) × Unit) : Option ((Bool × Reader × Tag × Unit)) :=
 n_49s0e1d (v.1, ()) >>= fun x1 =>
 if (!x1.1) = true then
  some ((false, x1.2.1, Tag.mk (0 : Int) (0 : Int) (ByteArray.mk #[]) [] [], ()))
 else if v.2.2.2.2.2.2.1.length + [x1.2.2.1].length ≤ (4294967296 : Nat) then
  n_50s0e1d (x1.2.1, ()) >>= fun x2 =>
  n_74s5bd0 (ByteArray.mk #[44], x2.1, ()) >>= fun x3 =>
  if x3.1 = true then
   n_72s0e1dg1 (x3.2.1, v.2.1, v.2.2.1, v.2.2.2.1, v.2.2.2.2.1, v.2.2.2.2.2.1, v.2.2.2.2.2.2.1 ++ [x1.2.2.1], ())
  else n_74s5bd0 (ByteArray.mk #[93], x3.2.1, ()) >>= fun x4 =>
  some ((x4.1, x4.2.1, Tag.mk v.2.2.1 v.2.2.2.1 v.2.2.2.2.1 v.2.2.2.2.2.1 (v.2.2.2.2.2.2.1 ++ [x1.2.2.1]), ()))
 else none
 partial_fixpoint
end
noncomputable def call49s0e1d (n_49s0e1d : Reader × Unit → Option (Bool × Reader × Tag × Unit)) (n_73s0e1d : Reader × Unit → Option (Bool × Reader × Tag × Unit)) (n_73s0e1dg1 : Reader × Tag × Int × Int × ByteArray × (List ByteArray) × (List Tag) × Unit → Option ((Bool × Reader × Tag × Unit))) (n_72s0e1d : Reader × Unit → Option (Bool × Reader × Tag × Unit)) (n_72s0e1dg1 : Reader × Tag × Int × Int × ByteArray × (List ByteArray) × (List Tag) × Unit → Option ((Bool × Reader × Tag × Unit))) : Caller vw := fun A fid args S k => match fid with | 50 => callObj prog sig50s0e1d n_50s0e1d A args S k | 68 => callObj prog sig68s0e1d n_68s0e1d A args S k | 69 => callObj prog sig69s5bd0 n_69s5bd0 A args S k | 70 => callObj prog sig70s0e1d n_70s0e1d A args S k | 71 => callObj prog sig71s0e1d n_71s0e1d A args S k | 72 => callObj prog sig72s0e1d n_72s0e1d A args S k | 73 => callObj prog sig73s0e1d n_73s0e1d A args S k | _ => none
noncomputable def x49s0e1d (n_49s0e1d : Reader × Unit → Option (Bool × Reader × Tag × Unit)) (n_73s0e1d : Reader × Unit → Option (Bool × Reader × Tag × Unit)) (n_73s0e1dg1 : Reader × Tag × Int × Int × ByteArray × (List ByteArray) × (List Tag) × Unit → Option ((Bool × Reader × Tag × Unit))) (n_72s0e1d : Reader × Unit → Option (Bool × Reader × Tag × Unit)) (n_72s0e1dg1 : Reader × Tag × Int × Int × ByteArray × (List ByteArray) × (List Tag) × Unit → Option ((Bool × Reader × Tag × Unit))) : Xc vw := { P := prog, n := 70, call := call49s0e1d n_49s0e1d n_73s0e1d n_73s0e1dg1 n_72s0e1d n_72s0e1dg1, sh := sh49s0e1d, regs := fun k => match k with | 9 => some c49s0e1dr9 | _ => none }
noncomputable def call72s0e1d (n_49s0e1d : Reader × Unit → Option (Bool × Reader × Tag × Unit)) (n_73s0e1d : Reader × Unit → Option (Bool × Reader × Tag × Unit)) (n_73s0e1dg1 : Reader × Tag × Int × Int × ByteArray × (List ByteArray) × (List Tag) × Unit → Option ((Bool × Reader × Tag × Unit))) (n_72s0e1d : Reader × Unit → Option (Bool × Reader × Tag × Unit)) (n_72s0e1dg1 : Reader × Tag × Int × Int × ByteArray × (List ByteArray) × (List Tag) × Unit → Option ((Bool × Reader × Tag × Unit))) : Caller vw := fun A fid args S k => match fid with | 49 => callObj prog sig49s0e1d n_49s0e1d A args S k | 50 => callObj prog sig50s0e1d n_50s0e1d A args S k | 74 => callObj prog sig74s5bd0 n_74s5bd0 A args S k | _ => none
noncomputable def x72s0e1d (n_49s0e1d : Reader × Unit → Option (Bool × Reader × Tag × Unit)) (n_73s0e1d : Reader × Unit → Option (Bool × Reader × Tag × Unit)) (n_73s0e1dg1 : Reader × Tag × Int × Int × ByteArray × (List ByteArray) × (List Tag) × Unit → Option ((Bool × Reader × Tag × Unit))) (n_72s0e1d : Reader × Unit → Option (Bool × Reader × Tag × Unit)) (n_72s0e1dg1 : Reader × Tag × Int × Int × ByteArray × (List ByteArray) × (List Tag) × Unit → Option ((Bool × Reader × Tag × Unit))) : Xc vw := { P := prog, n := 41, nm := fun d => match d with | 7 => 40007 | _ => d, call := call72s0e1d n_49s0e1d n_73s0e1d n_73s0e1dg1 n_72s0e1d n_72s0e1dg1, sh := sh72s0e1d, regs := fun k => match k with | 1 => some c72s0e1dg1 | _ => none, jumps := fun k => match k with | 1 => some (0, { cut := c72s0e1dg1, alts := [.ret], F := n_72s0e1dg1 }) | _ => none }
noncomputable def call73s0e1d (n_49s0e1d : Reader × Unit → Option (Bool × Reader × Tag × Unit)) (n_73s0e1d : Reader × Unit → Option (Bool × Reader × Tag × Unit)) (n_73s0e1dg1 : Reader × Tag × Int × Int × ByteArray × (List ByteArray) × (List Tag) × Unit → Option ((Bool × Reader × Tag × Unit))) (n_72s0e1d : Reader × Unit → Option (Bool × Reader × Tag × Unit)) (n_72s0e1dg1 : Reader × Tag × Int × Int × ByteArray × (List ByteArray) × (List Tag) × Unit → Option ((Bool × Reader × Tag × Unit))) : Caller vw := fun A fid args S k => match fid with | 49 => callObj prog sig49s0e1d n_49s0e1d A args S k | 50 => callObj prog sig50s0e1d n_50s0e1d A args S k | 68 => callObj prog sig68s0e1d n_68s0e1d A args S k | 71 => callObj prog sig71s0e1d n_71s0e1d A args S k | 74 => callObj prog sig74s5bd0 n_74s5bd0 A args S k | _ => none
noncomputable def x73s0e1d (n_49s0e1d : Reader × Unit → Option (Bool × Reader × Tag × Unit)) (n_73s0e1d : Reader × Unit → Option (Bool × Reader × Tag × Unit)) (n_73s0e1dg1 : Reader × Tag × Int × Int × ByteArray × (List ByteArray) × (List Tag) × Unit → Option ((Bool × Reader × Tag × Unit))) (n_72s0e1d : Reader × Unit → Option (Bool × Reader × Tag × Unit)) (n_72s0e1dg1 : Reader × Tag × Int × Int × ByteArray × (List ByteArray) × (List Tag) × Unit → Option ((Bool × Reader × Tag × Unit))) : Xc vw := { P := prog, n := 68, nm := fun d => match d with | 8 => 40008 | _ => d, call := call73s0e1d n_49s0e1d n_73s0e1d n_73s0e1dg1 n_72s0e1d n_72s0e1dg1, sh := sh73s0e1d, regs := fun k => match k with | 1 => some c72s0e1dg1 | _ => none, jumps := fun k => match k with | 1 => some (0, { cut := c72s0e1dg1, alts := [.ret], F := n_73s0e1dg1 }) | _ => none }
abbrev mn_49s0e1d (v : Reader × Unit) (r : Bool × Reader × Tag × Unit) : Prop := (fun v r => ∀ x, resV prog sig49s0e1d r = some x → FnOk prog 49 (encL vw (startS sig49s0e1d v).len (startOs sig49s0e1d v).1) (encOs (startS sig49s0e1d v).len (startS sig49s0e1d v).own) (encV vw (conc vw sig49s0e1d.rcut r).len x) (encOs (conc vw sig49s0e1d.rcut r).len (kept sig49s0e1d r))) v r
abbrev mn_73s0e1d (v : Reader × Unit) (r : Bool × Reader × Tag × Unit) : Prop := (fun v r => ∀ x, resV prog sig73s0e1d r = some x → FnOk prog 73 (encL vw (startS sig73s0e1d v).len (startOs sig73s0e1d v).1) (encOs (startS sig73s0e1d v).len (startS sig73s0e1d v).own) (encV vw (conc vw sig73s0e1d.rcut r).len x) (encOs (conc vw sig73s0e1d.rcut r).len (kept sig73s0e1d r))) v r
abbrev mn_73s0e1dg1 (v : Reader × Tag × Int × Int × ByteArray × (List ByteArray) × (List Tag) × Unit) (r : (Bool × Reader × Tag × Unit)) : Prop := (fun v out => ∀ C : Ctx, C.P = prog → C.N = 68 → AWpJ C (scopeNo (bodyOf Tryz.f73) 0) (restOf (scopeNo (bodyOf Tryz.f73) 0) 0) (Go.Tx.encS vw (conc vw c72s0e1dg1 v)) (OutQ sh73s0e1d [.ret] out)) v r
abbrev mn_72s0e1d (v : Reader × Unit) (r : Bool × Reader × Tag × Unit) : Prop := (fun v r => ∀ x, resV prog sig72s0e1d r = some x → FnOk prog 72 (encL vw (startS sig72s0e1d v).len (startOs sig72s0e1d v).1) (encOs (startS sig72s0e1d v).len (startS sig72s0e1d v).own) (encV vw (conc vw sig72s0e1d.rcut r).len x) (encOs (conc vw sig72s0e1d.rcut r).len (kept sig72s0e1d r))) v r
abbrev mn_72s0e1dg1 (v : Reader × Tag × Int × Int × ByteArray × (List ByteArray) × (List Tag) × Unit) (r : (Bool × Reader × Tag × Unit)) : Prop := (fun v out => ∀ C : Ctx, C.P = prog → C.N = 41 → AWpJ C (scopeNo (bodyOf Tryz.f72) 0) (restOf (scopeNo (bodyOf Tryz.f72) 0) 0) (Go.Tx.encS vw (conc vw c72s0e1dg1 v)) (OutQ sh72s0e1d [.ret] out)) v r
theorem cn_49s0e1d (f0 : Reader × Unit → Option (Bool × Reader × Tag × Unit)) (f1 : Reader × Unit → Option (Bool × Reader × Tag × Unit)) (h0 : ∀ v r, f0 v = some r → mn_73s0e1d v r) (h1 : ∀ v r, f1 v = some r → mn_72s0e1d v r) : CallerOk prog (x49s0e1d (fun _ => none) f0 (fun _ => none) f1 (fun _ => none)).call := (by
    intro A fid args S dst k r h
    unfold x49s0e1d call49s0e1d at h
    simp only at h
    split at h
    ·exact callObj_ok (n_50s0e1d_ok) h
    ·exact callObj_ok (n_68s0e1d_ok) h
    ·exact callObj_ok (n_69s5bd0_ok) h
    ·exact callObj_ok (n_70s0e1d_ok) h
    ·exact callObj_ok (n_71s0e1d_ok) h
    ·exact callObj_ok ((fun v r x h hx => h1 v r h x hx)) h
    ·exact callObj_ok ((fun v r x h hx => h0 v r h x hx)) h
    ·cases h)
theorem sn_49s0e1d (f0 : Reader × Unit → Option (Bool × Reader × Tag × Unit)) (f1 : Reader × Unit → Option (Bool × Reader × Tag × Unit)) (h0 : ∀ v r, f0 v = some r → mn_73s0e1d v r) (h1 : ∀ v r, f1 v = some r → mn_72s0e1d v r) (v : Reader × Unit) (r : Bool × Reader × Tag × Unit) (h : exF (x49s0e1d (fun _ => none) f0 (fun _ => none) f1 (fun _ => none)) sig49s0e1d rfl (bodyOf Tryz.f49) v = some r) : mn_49s0e1d v r := fun x hx => fn_ok (X := x49s0e1d (fun _ => none) f0 (fun _ => none) f1 (fun _ => none)) (sig := sig49s0e1d) rfl Tryz.func49 (c := bodyOf Tryz.f49) (by kernel_rfl) Tryz.ntmps49 (by kernel_rfl) (by kernel_rfl) rfl Ty.mixed (cn_49s0e1d f0 f1 h0 h1) rfl (fun C hP hN => (lok_all (X := x49s0e1d (fun _ => none) f0 (fun _ => none) f1 (fun _ => none)) (c := (bodyOf Tryz.f49)) (kcast (by kernel_rfl : True = AllB (LoopsP C (x49s0e1d (fun _ => none) f0 (fun _ => none) f1 (fun _ => none))) (loopsIn (bodyOf Tryz.f49))) trivial))) h x hx
theorem cn_73s0e1d (f0 : Reader × Unit → Option (Bool × Reader × Tag × Unit)) (f1 : Reader × Tag × Int × Int × ByteArray × (List ByteArray) × (List Tag) × Unit → Option ((Bool × Reader × Tag × Unit))) (h0 : ∀ v r, f0 v = some r → mn_49s0e1d v r) (h1 : ∀ v r, f1 v = some r → mn_73s0e1dg1 v r) : CallerOk prog (x73s0e1d f0 (fun _ => none) f1 (fun _ => none) (fun _ => none)).call := (by
    intro A fid args S dst k r h
    unfold x73s0e1d call73s0e1d at h
    simp only at h
    split at h
    ·exact callObj_ok ((fun v r x h hx => h0 v r h x hx)) h
    ·exact callObj_ok (n_50s0e1d_ok) h
    ·exact callObj_ok (n_68s0e1d_ok) h
    ·exact callObj_ok (n_71s0e1d_ok) h
    ·exact callObj_ok (n_74s5bd0_ok) h
    ·cases h)
theorem sn_73s0e1d (f0 : Reader × Unit → Option (Bool × Reader × Tag × Unit)) (f1 : Reader × Tag × Int × Int × ByteArray × (List ByteArray) × (List Tag) × Unit → Option ((Bool × Reader × Tag × Unit))) (h0 : ∀ v r, f0 v = some r → mn_49s0e1d v r) (h1 : ∀ v r, f1 v = some r → mn_73s0e1dg1 v r) (v : Reader × Unit) (r : Bool × Reader × Tag × Unit) (h : exF (x73s0e1d f0 (fun _ => none) f1 (fun _ => none) (fun _ => none)) sig73s0e1d rfl (bodyOf Tryz.f73) v = some r) : mn_73s0e1d v r := fun x hx => fn_ok (X := x73s0e1d f0 (fun _ => none) f1 (fun _ => none) (fun _ => none)) (sig := sig73s0e1d) rfl Tryz.func73 (c := bodyOf Tryz.f73) (by kernel_rfl) Tryz.ntmps73 (by kernel_rfl) (by kernel_rfl) rfl Ty.mixed (cn_73s0e1d f0 f1 h0 h1) rfl (fun C hP hN => (lok_all2 (X := x73s0e1d f0 (fun _ => none) f1 (fun _ => none) (fun _ => none)) (c := (bodyOf Tryz.f73)) (kcast (by kernel_rfl : AllB (LoopsP C (x73s0e1d f0 (fun _ => none) f1 (fun _ => none) (fun _ => none))) [] = AllB (LoopsP C (x73s0e1d f0 (fun _ => none) f1 (fun _ => none) (fun _ => none))) (loopsIn (bodyOf Tryz.f73))) trivial) (kcast (by kernel_rfl : AllB (JumpsP C (x73s0e1d f0 (fun _ => none) f1 (fun _ => none) (fun _ => none))) [(scopeNo (bodyOf Tryz.f73) 0)] = AllB (JumpsP C (x73s0e1d f0 (fun _ => none) f1 (fun _ => none) (fun _ => none))) (jumpsIn (bodyOf Tryz.f73))) ⟨jump_at (X := x73s0e1d f0 (fun _ => none) f1 (fun _ => none) (fun _ => none)) (x := (scopeNo (bodyOf Tryz.f73) 0)) (l := 0) (by kernel_rfl) (show JumpOk C (scopeNo (bodyOf Tryz.f73) 0) 0 (sh := sh73s0e1d) { cut := c72s0e1dg1, alts := [.ret], F := f1 } from ⟨(restOf (scopeNo (bodyOf Tryz.f73) 0) 0), by kernel_rfl, fun v out h => h1 v out h C hP hN⟩), trivial⟩))) h x hx
theorem cn_73s0e1dg1 (f0 : Reader × Unit → Option (Bool × Reader × Tag × Unit)) (f1 : Reader × Tag × Int × Int × ByteArray × (List ByteArray) × (List Tag) × Unit → Option ((Bool × Reader × Tag × Unit))) (h0 : ∀ v r, f0 v = some r → mn_49s0e1d v r) (h1 : ∀ v r, f1 v = some r → mn_73s0e1dg1 v r) : CallerOk prog (x73s0e1d f0 (fun _ => none) f1 (fun _ => none) (fun _ => none)).call := (by
    intro A fid args S dst k r h
    unfold x73s0e1d call73s0e1d at h
    simp only at h
    split at h
    ·exact callObj_ok ((fun v r x h hx => h0 v r h x hx)) h
    ·exact callObj_ok (n_50s0e1d_ok) h
    ·exact callObj_ok (n_68s0e1d_ok) h
    ·exact callObj_ok (n_71s0e1d_ok) h
    ·exact callObj_ok (n_74s5bd0_ok) h
    ·cases h)
theorem sn_73s0e1dg1 (f0 : Reader × Unit → Option (Bool × Reader × Tag × Unit)) (f1 : Reader × Tag × Int × Int × ByteArray × (List ByteArray) × (List Tag) × Unit → Option ((Bool × Reader × Tag × Unit))) (h0 : ∀ v r, f0 v = some r → mn_49s0e1d v r) (h1 : ∀ v r, f1 v = some r → mn_73s0e1dg1 v r) (v : Reader × Tag × Int × Int × ByteArray × (List ByteArray) × (List Tag) × Unit) (r : (Bool × Reader × Tag × Unit)) (h : exJ (x73s0e1d f0 (fun _ => none) f1 (fun _ => none) (fun _ => none)) (restOf (scopeNo (bodyOf Tryz.f73) 0) 0) 0 c72s0e1dg1 [.ret] f1 v = some r) : mn_73s0e1dg1 v r := fun C hP hN => jump_step (X := x73s0e1d f0 (fun _ => none) f1 (fun _ => none) (fun _ => none)) (x := (scopeNo (bodyOf Tryz.f73) 0)) (b := (restOf (scopeNo (bodyOf Tryz.f73) 0) 0)) (l := 0) hP hN Ty.mixed (cn_73s0e1dg1 f0 f1 h0 h1) (by kernel_rfl) (lok_all2 (X := x73s0e1d f0 (fun _ => none) f1 (fun _ => none) (fun _ => none)) (c := (restOf (scopeNo (bodyOf Tryz.f73) 0) 0)) (kcast (by kernel_rfl : AllB (LoopsP C (x73s0e1d f0 (fun _ => none) f1 (fun _ => none) (fun _ => none))) [] = AllB (LoopsP C (x73s0e1d f0 (fun _ => none) f1 (fun _ => none) (fun _ => none))) (loopsIn (restOf (scopeNo (bodyOf Tryz.f73) 0) 0))) trivial) (kcast (by kernel_rfl : AllB (JumpsP C (x73s0e1d f0 (fun _ => none) f1 (fun _ => none) (fun _ => none))) [] = AllB (JumpsP C (x73s0e1d f0 (fun _ => none) f1 (fun _ => none) (fun _ => none))) (jumpsIn (restOf (scopeNo (bodyOf Tryz.f73) 0) 0))) trivial)) (cut := c72s0e1dg1) (alts := [.ret]) (F := f1) (fun v out h => h1 v out h C hP hN) h
theorem cn_72s0e1d (f0 : Reader × Unit → Option (Bool × Reader × Tag × Unit)) (f1 : Reader × Tag × Int × Int × ByteArray × (List ByteArray) × (List Tag) × Unit → Option ((Bool × Reader × Tag × Unit))) (h0 : ∀ v r, f0 v = some r → mn_49s0e1d v r) (h1 : ∀ v r, f1 v = some r → mn_72s0e1dg1 v r) : CallerOk prog (x72s0e1d f0 (fun _ => none) (fun _ => none) (fun _ => none) f1).call := (by
    intro A fid args S dst k r h
    unfold x72s0e1d call72s0e1d at h
    simp only at h
    split at h
    ·exact callObj_ok ((fun v r x h hx => h0 v r h x hx)) h
    ·exact callObj_ok (n_50s0e1d_ok) h
    ·exact callObj_ok (n_74s5bd0_ok) h
    ·cases h)
theorem sn_72s0e1d (f0 : Reader × Unit → Option (Bool × Reader × Tag × Unit)) (f1 : Reader × Tag × Int × Int × ByteArray × (List ByteArray) × (List Tag) × Unit → Option ((Bool × Reader × Tag × Unit))) (h0 : ∀ v r, f0 v = some r → mn_49s0e1d v r) (h1 : ∀ v r, f1 v = some r → mn_72s0e1dg1 v r) (v : Reader × Unit) (r : Bool × Reader × Tag × Unit) (h : exF (x72s0e1d f0 (fun _ => none) (fun _ => none) (fun _ => none) f1) sig72s0e1d rfl (bodyOf Tryz.f72) v = some r) : mn_72s0e1d v r := fun x hx => fn_ok (X := x72s0e1d f0 (fun _ => none) (fun _ => none) (fun _ => none) f1) (sig := sig72s0e1d) rfl Tryz.func72 (c := bodyOf Tryz.f72) (by kernel_rfl) Tryz.ntmps72 (by kernel_rfl) (by kernel_rfl) rfl Ty.mixed (cn_72s0e1d f0 f1 h0 h1) rfl (fun C hP hN => (lok_all2 (X := x72s0e1d f0 (fun _ => none) (fun _ => none) (fun _ => none) f1) (c := (bodyOf Tryz.f72)) (kcast (by kernel_rfl : AllB (LoopsP C (x72s0e1d f0 (fun _ => none) (fun _ => none) (fun _ => none) f1)) [] = AllB (LoopsP C (x72s0e1d f0 (fun _ => none) (fun _ => none) (fun _ => none) f1)) (loopsIn (bodyOf Tryz.f72))) trivial) (kcast (by kernel_rfl : AllB (JumpsP C (x72s0e1d f0 (fun _ => none) (fun _ => none) (fun _ => none) f1)) [(scopeNo (bodyOf Tryz.f72) 0)] = AllB (JumpsP C (x72s0e1d f0 (fun _ => none) (fun _ => none) (fun _ => none) f1)) (jumpsIn (bodyOf Tryz.f72))) ⟨jump_at (X := x72s0e1d f0 (fun _ => none) (fun _ => none) (fun _ => none) f1) (x := (scopeNo (bodyOf Tryz.f72) 0)) (l := 0) (by kernel_rfl) (show JumpOk C (scopeNo (bodyOf Tryz.f72) 0) 0 (sh := sh72s0e1d) { cut := c72s0e1dg1, alts := [.ret], F := f1 } from ⟨(restOf (scopeNo (bodyOf Tryz.f72) 0) 0), by kernel_rfl, fun v out h => h1 v out h C hP hN⟩), trivial⟩))) h x hx
theorem cn_72s0e1dg1 (f0 : Reader × Unit → Option (Bool × Reader × Tag × Unit)) (f1 : Reader × Tag × Int × Int × ByteArray × (List ByteArray) × (List Tag) × Unit → Option ((Bool × Reader × Tag × Unit))) (h0 : ∀ v r, f0 v = some r → mn_49s0e1d v r) (h1 : ∀ v r, f1 v = some r → mn_72s0e1dg1 v r) : CallerOk prog (x72s0e1d f0 (fun _ => none) (fun _ => none) (fun _ => none) f1).call := (by
    intro A fid args S dst k r h
    unfold x72s0e1d call72s0e1d at h
    simp only at h
    split at h
    ·exact callObj_ok ((fun v r x h hx => h0 v r h x hx)) h
    ·exact callObj_ok (n_50s0e1d_ok) h
    ·exact callObj_ok (n_74s5bd0_ok) h
    ·cases h)
theorem sn_72s0e1dg1 (f0 : Reader × Unit → Option (Bool × Reader × Tag × Unit)) (f1 : Reader × Tag × Int × Int × ByteArray × (List ByteArray) × (List Tag) × Unit → Option ((Bool × Reader × Tag × Unit))) (h0 : ∀ v r, f0 v = some r → mn_49s0e1d v r) (h1 : ∀ v r, f1 v = some r → mn_72s0e1dg1 v r) (v : Reader × Tag × Int × Int × ByteArray × (List ByteArray) × (List Tag) × Unit) (r : (Bool × Reader × Tag × Unit)) (h : exJ (x72s0e1d f0 (fun _ => none) (fun _ => none) (fun _ => none) f1) (restOf (scopeNo (bodyOf Tryz.f72) 0) 0) 0 c72s0e1dg1 [.ret] f1 v = some r) : mn_72s0e1dg1 v r := fun C hP hN => jump_step (X := x72s0e1d f0 (fun _ => none) (fun _ => none) (fun _ => none) f1) (x := (scopeNo (bodyOf Tryz.f72) 0)) (b := (restOf (scopeNo (bodyOf Tryz.f72) 0) 0)) (l := 0) hP hN Ty.mixed (cn_72s0e1dg1 f0 f1 h0 h1) (by kernel_rfl) (lok_all2 (X := x72s0e1d f0 (fun _ => none) (fun _ => none) (fun _ => none) f1) (c := (restOf (scopeNo (bodyOf Tryz.f72) 0) 0)) (kcast (by kernel_rfl : AllB (LoopsP C (x72s0e1d f0 (fun _ => none) (fun _ => none) (fun _ => none) f1)) [] = AllB (LoopsP C (x72s0e1d f0 (fun _ => none) (fun _ => none) (fun _ => none) f1)) (loopsIn (restOf (scopeNo (bodyOf Tryz.f72) 0) 0))) trivial) (kcast (by kernel_rfl : AllB (JumpsP C (x72s0e1d f0 (fun _ => none) (fun _ => none) (fun _ => none) f1)) [] = AllB (JumpsP C (x72s0e1d f0 (fun _ => none) (fun _ => none) (fun _ => none) f1)) (jumpsIn (restOf (scopeNo (bodyOf Tryz.f72) 0) 0))) trivial)) (cut := c72s0e1dg1) (alts := [.ret]) (F := f1) (fun v out h => h1 v out h C hP hN) h
theorem n_49s0e1d_all : (∀ v r, n_49s0e1d v = some r → mn_49s0e1d v r) ∧ (∀ v r, n_73s0e1d v = some r → mn_73s0e1d v r) ∧ (∀ v r, n_73s0e1dg1 v = some r → mn_73s0e1dg1 v r) ∧ (∀ v r, n_72s0e1d v = some r → mn_72s0e1d v r) ∧ (∀ v r, n_72s0e1dg1 v = some r → mn_72s0e1dg1 v r) := by
 refine n_49s0e1d.mutual_partial_correctness
  (motive_1 := mn_49s0e1d)
  (motive_2 := mn_73s0e1d)
  (motive_3 := mn_73s0e1dg1)
  (motive_4 := mn_72s0e1d)
  (motive_5 := mn_72s0e1dg1)
  ?_ ?_ ?_ ?_ ?_
 ·exact (fun f0 f1 h0 h1 v r h => sn_49s0e1d f0 f1 h0 h1 v r (kcast (by kernel_rfl) h))
 ·exact (fun f0 f1 h0 h1 v r h => sn_73s0e1d f0 f1 h0 h1 v r (kcast (by kernel_rfl) h))
 ·exact (fun f0 f1 h0 h1 v r h => sn_73s0e1dg1 f0 f1 h0 h1 v r (kcast (by kernel_rfl) h))
 ·exact (fun f0 f1 h0 h1 v r h => sn_72s0e1d f0 f1 h0 h1 v r (kcast (by kernel_rfl) h))
 ·exact (fun f0 f1 h0 h1 v r h => sn_72s0e1dg1 f0 f1 h0 h1 v r (kcast (by kernel_rfl) h))
theorem n_49s0e1d_ok : SigOk prog 49 sig49s0e1d n_49s0e1d := fun v r x h hx => n_49s0e1d_all.1 v r h x hx
noncomputable def c28j7 : Cut SN := ⟨[(0, .dat .str), (2, .bp 2 0), (5, .bp 15 0), (6, .bp 6 0), (7, .dat .bool)], [(2, .st .tagT), (15, .st .readerT), (6, .st .tagT)]⟩
noncomputable def c28r7 : Cut SN := ⟨[(0, .dat .str), (2, .bp 2 0), (5, .bp 15 0), (6, .bp 6 0), (34, .dat .bool)], [(2, .st .tagT), (15, .st .readerT), (6, .st .tagT)]⟩
noncomputable def c28z : Cut SN := ⟨[(2, .bp 2 0), (3, .dat (.int .i64)), (4, .dat (.int .i64))], [(2, .st .tagT)]⟩
noncomputable def sh28 : Shape vw := { rcut := c28z }
noncomputable def sig28 : Sig vw := { params := [.dat .str], rcut := c28z, rvars := [.cell 2 25, .tmp 3, .tmp 4] }
noncomputable def n_28 (v : ByteArray × Unit) : Option (Int × Int × Tag × Unit) :=
 if decide ((↑v.1.size : Int) > (65536 : Int)) = true then
  some (((0 : Int), (3 : Int), Tag.mk (0 : Int) (0 : Int) (ByteArray.mk #[]) [] [], ()))
 else n_49s0e1d (Reader.mk v.1 (0 : Int), ()) >>= fun x1 =>
 (if x1.1 = true then
    n_50s0e1d (x1.2.1, ()) >>= fun x2 =>
    some ((v.1, x1.1, Tag.mk (0 : Int) (0 : Int) (ByteArray.mk #[]) [] [], x2.1, x1.2.2.1, ()))
   else some ((v.1, x1.1, Tag.mk (0 : Int) (0 : Int) (ByteArray.mk #[]) [] [], x1.2.1, x1.2.2.1, ()))) >>= fun x2 =>
 (if (!x2.2.1) = true then
    some ((x2.1, true, x2.2.2.1, x2.2.2.2.1, x2.2.2.2.2.1, ()))
   else some ((x2.1, decide (x2.2.2.2.1.at0 < (↑x2.1.size : Int)), x2.2.2.1, x2.2.2.2.1, x2.2.2.2.2.1, ()))) >>= fun x3 =>
 if x3.2.1 = true then
  some ((x3.2.2.2.1.at0, (2 : Int), Tag.mk (0 : Int) (0 : Int) (ByteArray.mk #[]) [] [], ()))
 else n_29 (x3.2.2.2.2.1, ()) >>= fun x4 =>
 if (x4.1 != (0 : Int)) = true then
  some (((0 : Int), x4.1, Tag.mk (0 : Int) (0 : Int) (ByteArray.mk #[]) [] [], ()))
 else some (((↑x3.1.size : Int), (0 : Int), x3.2.2.2.2.1, ()))
noncomputable def call28 : Caller vw := fun A fid args S k => match fid with | 29 => callPure prog sig29 n_29 A args S k | 49 => callObj prog sig49s0e1d n_49s0e1d A args S k | 50 => callObj prog sig50s0e1d n_50s0e1d A args S k | _ => none
noncomputable def x28 : Xc vw := { P := prog, n := 49, call := call28, sh := sh28, joins := fun k => match k with | 7 => some (c28j7, [.norm]) | _ => none, regs := fun k => match k with | 7 => some c28r7 | _ => none }
theorem call28_ok : CallerOk prog call28 := fun A fid args S dst k r h => by
 unfold call28 at h
 split at h
 ·exact callPure_ok (n_29_ok) rfl rfl h
 ·exact callObj_ok (n_49s0e1d_ok) h
 ·exact callObj_ok (n_50s0e1d_ok) h
 ·cases h
theorem n_28_ok : SigOk prog 28 sig28 n_28 := fun v r x h hx =>
 fn_ok (X := x28) (sig := sig28) rfl Tryz.func28 (c := bodyOf Tryz.f28) (by kernel_rfl) Tryz.ntmps28 (by kernel_rfl) (by kernel_rfl) rfl Ty.mixed call28_ok rfl (fun C hP hN => (lok_all (kcast (by kernel_rfl) trivial))) (kcast (by kernel_rfl) h) x hx
noncomputable def sh7 : Shape vw := { rcut := c76z }
noncomputable def sig7 : Sig vw := { params := [.dat (.st .tagT)], rcut := c76z, rvars := [.tmp 2] }
noncomputable def n_7 (v : Tag × Unit) : Option (Bool × Unit) :=
 n_27 (v.1, ()) >>= fun x1 =>
 (if decide (x1.1 > (2000 : Int)) = true then
    some ((true, ()))
   else if decide (x1.2.1 > (100 : Int)) = true then
    some ((true, ()))
   else some ((decide (x1.2.2.1 > (20000 : Int)), ()))) >>= fun x2 =>
 some ((x2.1, ()))
noncomputable def call7 : Caller vw := fun A fid args S k => match fid with | 27 => callPure prog sig27 n_27 A args S k | _ => none
noncomputable def x7 : Xc vw := { P := prog, n := 22, call := call7, sh := sh7, regs := fun k => match k with | 2 => some c76z | _ => none }
theorem call7_ok : CallerOk prog call7 := fun A fid args S dst k r h => by
 unfold call7 at h
 split at h
 ·exact callPure_ok (n_27_ok) rfl rfl h
 ·cases h
theorem n_7_ok : SigOk prog 7 sig7 n_7 := fun v r x h hx =>
 fn_ok (X := x7) (sig := sig7) rfl Tryz.func7 (c := bodyOf Tryz.f7) (by kernel_rfl) Tryz.ntmps7 (by kernel_rfl) (by kernel_rfl) rfl Ty.mixed call7_ok rfl (fun C hP hN => (lok_all (kcast (by kernel_rfl) trivial))) (kcast (by kernel_rfl) h) x hx
noncomputable def c9r4 : Cut SN := ⟨[(0, .dat .bool)], []⟩
noncomputable def sh9 : Shape vw := { rcut := c9r4 }
noncomputable def sig9 : Sig vw := { params := [], rcut := c9r4, rvars := [.tmp 0] }
noncomputable def n_9 (v : Unit) : Option (Bool × Unit) :=
 n_28 (ByteArray.mk #[123, 34, 97, 34, 58, 91, 49, 44, 50, 93, 125], ()) >>= fun x1 =>
 n_13 (x1.2.2.1, [ByteArray.mk #[97], ByteArray.mk #[49]], ()) >>= fun x2 =>
 n_28 (ByteArray.mk #[91, 49, 44, 93], ()) >>= fun x3 =>
 (if (x1.2.1 == (0 : Int)) = true then
    if (x1.1 == (11 : Int)) = true then
     if (x2.2.1 == (0 : Int)) = true then
      if x2.1 = true then
       if (x2.2.2.1.kind == (3 : Int)) = true then
        if (x2.2.2.1.n == (2 : Int)) = true then
         if (x3.2.1 == (2 : Int)) = true then
          some ((x3.1 == (3 : Int), ()))
         else some ((false, ()))
        else some ((false, ()))
       else some ((false, ()))
      else some ((false, ()))
     else some ((false, ()))
    else some ((false, ()))
   else some ((false, ()))) >>= fun x4 =>
 some ((x4.1, ()))
noncomputable def call9 : Caller vw := fun A fid args S k => match fid with | 13 => callPure prog sig13 n_13 A args S k | 28 => callPure prog sig28 n_28 A args S k | _ => none
noncomputable def x9 : Xc vw := { P := prog, n := 58, call := call9, sh := sh9, regs := fun k => match k with | 4 => some c9r4 | _ => none }
theorem call9_ok : CallerOk prog call9 := fun A fid args S dst k r h => by
 unfold call9 at h
 split at h
 ·exact callPure_ok (n_13_ok) rfl rfl h
 ·exact callPure_ok (n_28_ok) rfl rfl h
 ·cases h
theorem n_9_ok : SigOk prog 9 sig9 n_9 := fun v r x h hx =>
 fn_ok (X := x9) (sig := sig9) rfl Tryz.func9 (c := bodyOf Tryz.f9) (by kernel_rfl) Tryz.ntmps9 (by kernel_rfl) (by kernel_rfl) rfl Ty.mixed call9_ok rfl (fun C hP hN => (lok_all (kcast (by kernel_rfl) trivial))) (kcast (by kernel_rfl) h) x hx
noncomputable def c4r1 : Cut SN := ⟨[(2, .bp 2 0), (3, .bp 3 0), (16, .dat .bool)], [(2, .st .tagT), (3, .st .tagT)]⟩
noncomputable def c4r5 : Cut SN := ⟨[(3, .bp 3 0), (5, .bp 5 0), (6, .dat (.int .i64)), (38, .dat .bool)], [(3, .st .tagT), (5, .st .tagT)]⟩
noncomputable def sh4 : Shape vw := { rcut := c101z }
noncomputable def sig4 : Sig vw := { params := [.dat (.st .tagT), .dat (.st .tagT)], rcut := c101z, rvars := [.tmp 4] }
noncomputable def n_4 (v : Tag × Tag × Unit) : Option (Bool × Unit) :=
 (n_7 (v.1, ()) >>= fun x1 =>
   if x1.1 = true then
    some ((true, v.1, v.2.1, ()))
   else n_7 (v.2.1, ()) >>= fun x2 =>
   some ((x2.1, v.1, v.2.1, ()))) >>= fun x1 =>
 if x1.1 = true then
  n_9 () >>= fun x2 =>
  some ((x2.1, ()))
 else n_14 (x1.2.1, x1.2.2.1, ()) >>= fun x2 =>
 n_15 (x1.2.1, x1.2.2.1, ()) >>= fun x3 =>
 (n_12 (x2.2.1, x3.2.1, ()) >>= fun x4 =>
   if (!x4.1) = true then
    some ((x2.1, true, x1.2.2.1, x2.2.1, ()))
   else some ((x2.1, x2.1 != x3.1, x1.2.2.1, x2.2.1, ()))) >>= fun x4 =>
 if x4.2.1 = true then
  some ((false, ()))
 else n_14 (x4.2.2.2.1, x4.2.2.1, ()) >>= fun x5 =>
 (if (x4.1 != (0 : Int)) = true then
    n_9 () >>= fun x6 =>
    some ((x6.1, ()))
   else if (x5.1 == (0 : Int)) = true then
    n_12 (x5.2.1, x4.2.2.2.1, ()) >>= fun x6 =>
    if x6.1 = true then
     n_9 () >>= fun x7 =>
     some ((x7.1, ()))
    else some ((false, ()))
   else some ((false, ()))) >>= fun x6 =>
 some ((x6.1, ()))
noncomputable def call4 : Caller vw := fun A fid args S k => match fid with | 7 => callPure prog sig7 n_7 A args S k | 9 => callPure prog sig9 n_9 A args S k | 12 => callPure prog sig12 n_12 A args S k | 14 => callPure prog sig14 n_14 A args S k | 15 => callPure prog sig15 n_15 A args S k | _ => none
noncomputable def x4 : Xc vw := { P := prog, n := 59, call := call4, sh := sh4, regs := fun k => match k with | 1 => some c4r1 | 5 => some c4r5 | 8 => some c101z | _ => none }
theorem call4_ok : CallerOk prog call4 := fun A fid args S dst k r h => by
 unfold call4 at h
 split at h
 ·exact callPure_ok (n_7_ok) rfl rfl h
 ·exact callPure_ok (n_9_ok) rfl rfl h
 ·exact callPure_ok (n_12_ok) rfl rfl h
 ·exact callPure_ok (n_14_ok) rfl rfl h
 ·exact callPure_ok (n_15_ok) rfl rfl h
 ·cases h
theorem n_4_ok : SigOk prog 4 sig4 n_4 := fun v r x h hx =>
 fn_ok (X := x4) (sig := sig4) rfl Tryz.func4 (c := bodyOf Tryz.f4) (by kernel_rfl) Tryz.ntmps4 (by kernel_rfl) (by kernel_rfl) rfl Ty.mixed call4_ok rfl (fun C hP hN => (lok_all (kcast (by kernel_rfl) trivial))) (kcast (by kernel_rfl) h) x hx
end Go.Proofs.YtpndmanbfleadaaGreatDoor
end
section
namespace Go.Proofs.YtpndmanbfleadaaGreatDoor
open Go.Awp Go.Tx
set_option maxRecDepth 20000
theorem sW : (∀ {α β : Type} (x : Option α) (f : α → Option β), (x >>= f) = x.bind f) ∧ (∀ {α β : Type} (a : α) (f : α → Option β), (some a).bind f = f a) ∧ (∀ {α β : Type} (f : α → Option β), (none : Option α).bind f = none) ∧
 (∀ {α : Type} {h : Decidable True} (a b : α), @ite α True h a b = a) ∧ (∀ {α : Type} {h : Decidable False} (a b : α), @ite α False h a b = b) ∧ ((false = true) = False) ∧ ((true = false) = False) ∧ (∀ n : Nat, (n : Int).toNat = n) ∧ (∀ n : Nat, 0 ≤ (n : Int)) ∧
 (∀ {α : Type} [BEq α] [LawfulBEq α] {a b : α}, (a == b) = true ↔ a = b) ∧ (∀ {p : Prop} [Decidable p], decide p = true ↔ p) ∧ (∀ {n m : Nat}, (n : Int) < m ↔ n < m) :=
 ⟨fun _ _ => rfl, fun _ _ => rfl, fun _ => rfl, fun {α h} a b => @if_true α h a b, fun {α h} a b => @if_false α h a b, by simp, by simp, fun _ => rfl, Int.natCast_nonneg, beq_iff_eq, fun {p} _ => Iff.of_eq (decide_eq_true_eq (p := p)), Int.ofNat_lt⟩
theorem Tag.ind {P : Tag → Prop} (h : ∀ t : Tag, (∀ p ∈ t.parts, P p) → P t) (t : Tag) : P t := h t fun p hp => Tag.ind h p
termination_by SizeOf.sizeOf t
decreasing_by
 have := List.sizeOf_lt_of_mem hp
 cases t
 simp at *
 omega
theorem wrap64 {x : Int} (h1 : -9223372036854775808 ≤ x) (h2 : x ≤ 9223372036854775807) : IntKind.i64.wrap x = x := by
 unfold IntKind.wrap
 simp only [IntKind.bits, IntKind.signed, Bool.true_and]
 split <;> rename_i h <;> simp at h <;> omega
theorem wrap_succ {k n : Nat} (h : k < n) (hn : n ≤ 9223372036854775807) : IntKind.i64.wrap ((k : Int) + 1) = ((k + 1 : Nat) : Int) := by rw [wrap64 (by omega) (by omega)]; omega
theorem at_lt {α : Type} {xs : List α} {k : Nat} (h : k < xs.length) : ∃ p, xs[k]? = some p ∧ p ∈ xs ∧ xs.drop k = p :: xs.drop (k + 1) ∧ ((k : Int) < (xs.length : Int)) ∧ (0 : Int) ≤ (k : Int) :=
 ⟨xs[k], List.getElem?_eq_getElem h, List.getElem_mem h, List.drop_eq_getElem_cons h, by omega, by omega⟩
theorem at_end {α : Type} {xs : List α} {k : Nat} (h : ¬ k < xs.length) : xs.drop k = [] ∧ ¬ ((k : Int) < (xs.length : Int)) := ⟨List.drop_eq_nil_of_le (by omega), by omega⟩
inductive Tag.Wf : Tag → Prop
 | mk {t : Tag} : t.names.length ≤ 9223372036854775807 → t.parts.length ≤ 9223372036854775807 → (∀ p ∈ t.parts, Tag.Wf p) → Tag.Wf t
theorem Tag.Wf.names {t : Tag} (h : t.Wf) : t.names.length ≤ 9223372036854775807 := by cases h; assumption
theorem Tag.Wf.parts {t : Tag} (h : t.Wf) : t.parts.length ≤ 9223372036854775807 := by cases h; assumption
theorem Tag.Wf.part {t p : Tag} (h : t.Wf) (hp : p ∈ t.parts) : p.Wf := by cases h with | mk _ _ h => exact h p hp
theorem f43a (t : Tag) (ht : t.Wf) (a b : Int) : ∀ (m k : Nat) (c : Int), t.names.length - k = m → ∃ c', n_27l3 (a, b, c, (k : Int), t, ()) = some (a, b, c', t, ()) := by
 intro m
 induction m with
 | zero =>
  intro k c hk
  have hlt : ¬ k < t.names.length := by omega
  obtain ⟨hd, g1⟩ := at_end hlt
  rw [n_27l3]
  simp only [sW, hlt]
  exact ⟨_, rfl⟩
 | succ m ih =>
  intro k c hk
  have hlt : k < t.names.length := by omega
  obtain ⟨p, hp1, hm, hd, g1, g2⟩ := at_lt hlt
  rw [n_27l3]
  simp only [sW, g1, g2, hlt, hp1, wrap_succ hlt ht.names]
  exact ih (k + 1) _ (by omega)
theorem f43b (t : Tag) (ht : t.Wf) (hp : ∀ p ∈ t.parts, ∃ x, n_27 (p, ()) = some x) : ∀ (m k : Nat) (a b c : Int), t.parts.length - k = m → ∃ x, n_27l7 (a, b, c, (k : Int), t, ()) = some x := by
 intro m
 induction m with
 | zero =>
  intro k a b c hk
  have hlt : ¬ k < t.parts.length := by omega
  obtain ⟨hd, g1⟩ := at_end hlt
  rw [n_27l7]
  simp only [sW, hlt]
  exact ⟨_, rfl⟩
 | succ m ih =>
  intro k a b c hk
  have hlt : k < t.parts.length := by omega
  obtain ⟨p, hp1, hm, hd, g1, g2⟩ := at_lt hlt
  obtain ⟨x, hx⟩ := hp p hm
  rw [n_27l7]
  simp only [sW, g1, g2, hlt, hp1, hx, wrap_succ hlt ht.parts]
  exact ih (k + 1) _ _ _ (by omega)
theorem f43 : ∀ t : Tag, t.Wf → ∃ x, n_27 (t, ()) = some x := by
 refine Tag.ind fun t ih ht => ?_
 obtain ⟨c, hc⟩ := f43a t ht 1 0 _ 0 (t.text.size : Int) rfl
 obtain ⟨x, hx⟩ := f43b t ht (fun p hp => ih p hp (ht.part hp)) _ 0 1 0 c rfl
 simp only [Int.natCast_zero, Int.ofNat_eq_natCast, List.drop_zero] at hc hx
 rw [n_27]
 simp only [sW, hc, hx]
 exact ⟨_, rfl⟩
theorem f13 (t : Tag) (ht : t.Wf) : ∃ b, n_7 (t, ()) = some (b, ()) := by
 obtain ⟨x, hx⟩ := f43 t ht
 unfold n_7
 simp only [hx, sW]
 split
 ·exact ⟨_, rfl⟩
 ·split
  ·exact ⟨_, rfl⟩
  ·exact ⟨_, rfl⟩
end Go.Proofs.YtpndmanbfleadaaGreatDoor
end
section
namespace Go.Proofs.YtpndmanbfleadaaGreatDoor
open Go.Awp Go.Tx
set_option maxRecDepth 20000
abbrev big : Nat := 9223372036854775807
inductive Tag.Fit (B : Nat) : Tag → Prop
 | mk {t : Tag} : t.text.size ≤ B → t.names.length ≤ B → (∀ s ∈ t.names, s.size ≤ B) → t.parts.length ≤ B → (∀ p ∈ t.parts, Tag.Fit B p) → Tag.Fit B t
section
variable {B : Nat} {t : Tag} (h : t.Fit B)
include h
theorem Tag.Fit.text : t.text.size ≤ B := by cases h; assumption
theorem Tag.Fit.names : t.names.length ≤ B := by cases h; assumption
theorem Tag.Fit.name {s : ByteArray} (hs : s ∈ t.names) : s.size ≤ B := by cases h with | mk _ _ h _ _ => exact h s hs
theorem Tag.Fit.parts : t.parts.length ≤ B := by cases h; assumption
theorem Tag.Fit.part {p : Tag} (hp : p ∈ t.parts) : p.Fit B := by cases h with | mk _ _ _ _ h => exact h p hp
end
theorem Tag.Fit.mono {B B' : Nat} (hB : B ≤ B') : ∀ t : Tag, t.Fit B → t.Fit B' :=
 Tag.ind fun t ih h => .mk (Nat.le_trans h.text hB) (Nat.le_trans h.names hB) (fun s hs => Nat.le_trans (h.name hs) hB) (Nat.le_trans h.parts hB) fun p hp => ih p hp (h.part hp)
theorem Tag.Fit.wf : ∀ t : Tag, t.Fit big → t.Wf := Tag.ind fun t ih h => .mk h.names h.parts fun p hp => ih p hp (h.part hp)
theorem sum_ge {ns : List Nat} : ∀ {i n : Nat}, ns[i]? = some n → n ≤ ns.sum := by
 induction ns with
 | nil => intro i n h; simp at h
 | cons a r ih =>
  intro i n h
  cases i with
  | zero => simp at h; subst h; simp
  | succ i => have := ih (i := i) (by simpa using h); simp; omega
theorem sum_len {ns : List Nat} (h : ∀ n ∈ ns, 1 ≤ n) : ns.length ≤ ns.sum := by
 induction ns with
 | nil => simp
 | cons a r ih =>
  have h1 := h a List.mem_cons_self
  have h2 := ih fun n hn => h n (List.mem_cons_of_mem _ hn)
  simp; omega
theorem bk_pos {e : Ty vw.ι} {x : den vw.N e} {m : Nat} (h : Bk vw e x m) : 1 ≤ m := by
 cases h <;> omega
theorem bk_str {s : ByteArray} {m : Nat} (h : Bk vw .str s m) : s.size + 1 ≤ m := by
 cases h; assumption
theorem bk_sl {e : Ty SN} {xs : List (den NN e)} {m : Nat} (h : Bk vw (.sl e) xs m) : xs.length + 1 ≤ m ∧ ∀ x ∈ xs, ∃ n, n + 1 ≤ m ∧ Bk vw e x n := by
 cases h with
 | sl ns h1 h2 h3 =>
  have h1 : ns.length = xs.length := h1
  have hp : ∀ n ∈ ns, 1 ≤ n := fun n hn => by
   obtain ⟨i, hi⟩ := List.getElem?_of_mem hn
   obtain ⟨x, hx⟩ : ∃ x, xs[i]? = some x := ⟨_, List.getElem?_eq_getElem (by have := (List.getElem?_eq_some_iff.1 hi).1; omega)⟩
   exact bk_pos (h2 i x n hx hi)
  have := sum_len hp
  refine ⟨by omega, fun x hx => ?_⟩
  obtain ⟨i, hi⟩ := List.getElem?_of_mem hx
  obtain ⟨n, hn⟩ : ∃ n, ns[i]? = some n := ⟨_, List.getElem?_eq_getElem (by have := (List.getElem?_eq_some_iff.1 hi).1; omega)⟩
  exact ⟨n, by have := sum_ge hn; omega, h2 i x n hi hn⟩
theorem bk_st {i : SN} {x : NN i} {m : Nat} (h : Bk vw (.st i) x m) : ∀ l ∈ cellsN i x, ∃ n, n + 1 ≤ m ∧ Bk vw l.t l.x n := by
 cases h with
 | st ns h1 h2 h3 =>
  intro l hl
  obtain ⟨j, hj⟩ := List.getElem?_of_mem hl
  have h1 : ns.length = (cellsN i x).length := h1
  obtain ⟨n, hn⟩ : ∃ n, ns[j]? = some n := ⟨_, List.getElem?_eq_getElem (by have := (List.getElem?_eq_some_iff.1 hj).1; omega)⟩
  exact ⟨n, by have := sum_ge hn; omega, h2 j l n hj hn⟩
theorem fit_of_bk {B : Nat} : ∀ (t : Tag) (m : Nat), m ≤ B → Bk vw (.st .tagT) t m → t.Fit B := by
 refine Tag.ind fun t ih m hm h => ?_
 have hc := bk_st h
 obtain ⟨n1, l1, h1⟩ := hc ⟨.str, t.text⟩ (by simp [cellsN])
 obtain ⟨n2, l2, h2⟩ := hc ⟨.sl .str, t.names⟩ (by simp [cellsN])
 obtain ⟨n3, l3, h3⟩ := hc ⟨.sl (.st .tagT), t.parts⟩ (by simp [cellsN])
 have a1 : t.text.size + 1 ≤ n1 := bk_str h1
 obtain ⟨a2, b2⟩ := bk_sl (e := .str) (xs := t.names) h2
 obtain ⟨a3, b3⟩ := bk_sl (e := .st .tagT) (xs := t.parts) h3
 refine .mk (by omega) (by omega) (fun s hs => ?_) (by omega) fun p hp => ?_
 ·obtain ⟨n, l, h⟩ := b2 s hs
  have := bk_str h
  omega
 ·obtain ⟨n, l, h⟩ := b3 p hp
  exact ih p hp n (by omega) h
theorem f58a (t : Tag) (ht : t.Fit big) (y : Size) (a b : Int) : ∀ (m k : Nat) (c : Int), t.names.length - k = m →
  ∃ c', n_27l3 (1, 0, c, (k : Int), t, ()) = some (1, 0, c', t, ()) ∧ n_42l3 (t.names, (t.names.length : Int), (k : Int), t, y, ⟨a, b, c⟩, ()) = some (t, y, ⟨a, b, c'⟩, ()) := by
 intro m
 induction m with
 | zero =>
  intro k c hk
  have hlt : ¬ k < t.names.length := by omega
  rw [n_27l3, n_42l3]
  simp only [sW, hlt]
  exact ⟨_, rfl, rfl⟩
 | succ m ih =>
  intro k c hk
  have hlt : k < t.names.length := by omega
  obtain ⟨p, hp1, hm, hd, g1, g2⟩ := at_lt hlt
  rw [n_27l3, n_42l3]
  simp only [sW, g1, g2, hlt, hp1, wrap_succ hlt ht.names]
  exact ih (k + 1) _ (by omega)
theorem f58b (t : Tag) (ht : t.Fit big) (y : Size) (hp : ∀ p ∈ t.parts, ∃ a d s, n_27 (p, ()) = some (a, d, s, ()) ∧ n_42 (p, ()) = some (⟨d, a, s⟩, ())) : ∀ (m k : Nat) (a b c : Int), t.parts.length - k = m →
  ∃ a' b' c', n_27l7 (a, b, c, (k : Int), t, ()) = some (a', b', c', ()) ∧ n_42l8 (t.parts, (t.parts.length : Int), (k : Int), y, ⟨b, a, c⟩, ()) = some (y, ⟨b', a', c'⟩, ()) := by
 intro m
 induction m with
 | zero =>
  intro k a b c hk
  have hlt : ¬ k < t.parts.length := by omega
  rw [n_27l7, n_42l8]
  simp only [sW, hlt]
  exact ⟨_, _, _, rfl, rfl⟩
 | succ m ih =>
  intro k a b c hk
  have hlt : k < t.parts.length := by omega
  obtain ⟨p, hp1, hm, hd, g1, g2⟩ := at_lt hlt
  obtain ⟨a1, d1, s1, e1, e2⟩ := hp p hm
  rw [n_27l7, n_42l8]
  simp only [sW, g1, g2, hlt, hp1, e1, e2, wrap_succ hlt ht.parts]
  exact ih (k + 1) _ _ _ (by omega)
theorem f58 : ∀ t : Tag, t.Fit big → ∃ a d s, n_27 (t, ()) = some (a, d, s, ()) ∧ n_42 (t, ()) = some (⟨d, a, s⟩, ()) := by
 refine Tag.ind fun t ih ht => ?_
 obtain ⟨c, h1, h2⟩ := f58a t ht ⟨0, 0, 0⟩ 0 1 _ 0 (t.text.size : Int) rfl
 obtain ⟨a', b', c', h3, h4⟩ := f58b t ht ⟨0, 0, 0⟩ (fun p hp => ih p hp (ht.part hp)) _ 0 1 0 c rfl
 simp only [Int.natCast_zero, Int.ofNat_eq_natCast, List.drop_zero] at h1 h2 h3 h4
 rw [n_27, n_42]
 simp only [sW, h1, h2, h3, h4]
 exact ⟨_, _, _, rfl, rfl⟩
theorem f87 {s : ByteArray} (h : s.size ≤ big) : n_76 (s, ()) = some (Lib.validD s.data.toList, ()) := by
 unfold n_76
 rw [if_pos h]
theorem f86 {s : ByteArray} (h : s.size ≤ big) : n_75 (s, ()) = some (!Lib.validD s.data.toList, ()) := by
 unfold n_75
 simp only [f87 h, sW]
theorem f88l (t : Tag) (ht : t.Fit big) : ∀ (m k : Nat), t.names.length - k = m → ∃ o : Option Nat,
  n_103c75l2 (t.names, (t.names.length : Int), (k : Int), ()) = some (match o with | some i => .inl ((i : Int), ()) | none => .inr ()) ∧ n_54l6 ((k : Int), t, ()) = some (match o with | some _ => .inl (false, ()) | none => .inr (t, ())) := by
 intro m
 induction m with
 | zero =>
  intro k hk
  have hlt : ¬ k < t.names.length := by omega
  rw [n_103c75l2, n_54l6]
  simp only [sW, hlt]
  exact ⟨none, rfl, rfl⟩
 | succ m ih =>
  intro k hk
  have hlt : k < t.names.length := by omega
  obtain ⟨p, hp1, hm, hd, g1, g2⟩ := at_lt hlt
  rw [n_103c75l2, n_54l6]
  simp only [sW, g1, g2, hlt, hp1, f86 (ht.name hm), f87 (ht.name hm), wrap_succ hlt ht.names]
  cases Lib.validD p.data.toList with
  | true => simp only [Bool.not_true, sW]; exact ih (k + 1) (by omega)
  | false => simp only [Bool.not_false, sW]; exact ⟨some k, rfl, rfl⟩
theorem f88 (t : Tag) (ht : t.Fit big) : ∃ b, n_77c75 (t.names, ()) = some (b, ()) ∧ n_54l6 (0, t, ()) = some (if b = true then .inl (false, ()) else .inr (t, ())) := by
 obtain ⟨o, h1, h2⟩ := f88l t ht _ 0 rfl
 simp only [Int.natCast_zero, Int.ofNat_eq_natCast, List.drop_zero] at h1 h2
 unfold n_77c75 n_103c75
 cases o with
 | none => simp only [h1, h2, sW]; exact ⟨_, rfl, rfl⟩
 | some i => simp only [h1, h2, sW]; exact ⟨_, rfl, by simp⟩
inductive Tag.Right : Tag → Prop
 | mk {t : Tag} : (t.kind ≠ 6 → t.names = []) → (t.kind = 6 → t.names.length = t.parts.length) → (∀ p ∈ t.parts, Tag.Right p) → Tag.Right t
theorem Tag.Right.none {t : Tag} (h : t.Right) (hk : t.kind ≠ 6) : t.names = [] := by cases h with | mk h _ _ => exact h hk
theorem Tag.Right.len {t : Tag} (h : t.Right) (hk : t.kind = 6) : t.names.length = t.parts.length := by cases h with | mk _ h _ => exact h hk
theorem Tag.Right.part {t p : Tag} (h : t.Right) (hp : p ∈ t.parts) : p.Right := by cases h with | mk _ _ h => exact h p hp
theorem f61l (t : Tag) (ht : t.Fit big) (hp : ∀ p ∈ t.parts, ∃ b, n_51 (p, ()) = some (b, ()) ∧ n_54 (p, ()) = some (b, ()) ∧ (b = true → p.Right)) : ∀ (m k : Nat), t.parts.length - k = m → ∃ o : Option Nat,
  n_104c79l2 (t.parts, (t.parts.length : Int), (k : Int), ()) = some (match o with | some i => .inl ((i : Int), ()) | none => .inr ()) ∧ n_54l11 ((k : Int), t, ()) = some (match o with | some _ => .inl (false, ()) | none => .inr ()) ∧ (o = none → ∀ p ∈ t.parts.drop k, p.Right) := by
 intro m
 induction m with
 | zero =>
  intro k hk
  have hlt : ¬ k < t.parts.length := by omega
  rw [n_104c79l2, n_54l11]
  simp only [sW, hlt]
  refine ⟨.none, rfl, rfl, fun _ p hp => ?_⟩
  rw [(at_end hlt).1] at hp; cases hp
 | succ m ih =>
  intro k hk
  have hlt : k < t.parts.length := by omega
  obtain ⟨p, hp1, hm, hd, g1, g2⟩ := at_lt hlt
  obtain ⟨b, e1, e2, e3⟩ := hp p hm
  have e4 : n_79 (p, ()) = some (!b, ()) := by
   rw [n_79]
   simp only [e1, sW]
  rw [n_104c79l2, n_54l11]
  simp only [sW, g1, g2, hlt, hp1, e2, e4, wrap_succ hlt ht.parts]
  cases b with
  | true =>
   simp only [Bool.not_true, sW]
   obtain ⟨o, o1, o2, o3⟩ := ih (k + 1) (by omega)
   refine ⟨o, o1, o2, fun ho q hq => ?_⟩
   rw [hd] at hq
   rcases List.mem_cons.1 hq with rfl | hq
   ·exact e3 rfl
   ·exact o3 ho q hq
  | false => simp only [Bool.not_false, sW]; exact ⟨some k, rfl, rfl, fun h => by cases h⟩
theorem f61p (t : Tag) (ht : t.Fit big) (hp : ∀ p ∈ t.parts, ∃ b, n_51 (p, ()) = some (b, ()) ∧ n_54 (p, ()) = some (b, ()) ∧ (b = true → p.Right)) :
  ∃ b, n_78c79 (t.parts, ()) = some (b, ()) ∧ n_54l11 (0, t, ()) = some (if b = true then .inl (false, ()) else .inr ()) ∧ (b = false → ∀ p ∈ t.parts, p.Right) := by
 obtain ⟨o, h1, h2, h3⟩ := f61l t ht hp _ 0 rfl
 simp only [Int.natCast_zero, Int.ofNat_eq_natCast, List.drop_zero] at h1 h2 h3
 rw [n_78c79, n_104c79]
 cases o with
 | none => simp only [h1, h2, sW]; exact ⟨_, rfl, rfl, fun _ => h3 rfl⟩
 | some i => simp only [h1, h2, sW]; exact ⟨_, rfl, by simp, fun h => by simp at h⟩
end Go.Proofs.YtpndmanbfleadaaGreatDoor
end
section
namespace Go.Proofs.YtpndmanbfleadaaGreatDoor
open Go.Awp Go.Tx
set_option maxRecDepth 20000
theorem f61 : ∀ t : Tag, t.Fit big → ∃ b, n_51 (t, ()) = some (b, ()) ∧ n_54 (t, ()) = some (b, ()) ∧ (b = true → t.Right) := by
 refine Tag.ind fun t ih ht => ?_
 have e86 := f86 ht.text
 have e87 := f87 ht.text
 obtain ⟨bn, n1, n2⟩ := f88 t ht
 obtain ⟨bp, p1, p2, p3⟩ := f61p t ht fun p hp => ih p hp (ht.part hp)
 generalize Lib.validD t.text.data.toList = v at e86 e87
 rw [n_51, n_54]
 have bad : ∀ {x y : Option (Bool × Unit)}, x = some (false, ()) → y = some (false, ()) → ∃ b, x = some (b, ()) ∧ y = some (b, ()) ∧ (b = true → t.Right) := fun h1 h2 => ⟨false, h1, h2, fun h => by cases h⟩
 have good : ∀ {x y : Option (Bool × Unit)}, x = some (v && !bn && !bp, ()) → y = some (v && !bn && !bp, ()) → (t.kind ≠ 6 → t.names = []) → (t.kind = 6 → t.names.length = t.parts.length) → ∃ b, x = some (b, ()) ∧ y = some (b, ()) ∧ (b = true → t.Right) := fun h1 h2 h3 h4 =>
  ⟨_, h1, h2, fun h => .mk h3 h4 (p3 (by
   cases bp with
   | true => simp at h
   | false => rfl))⟩
 by_cases a1 : t.kind < 0
 ·exact bad (by simp [a1]) (by simp [a1])
 by_cases a2 : t.kind > 6
 ·exact bad (by simp [a1, a2]) (by simp [a1, a2])
 have hk : t.kind = 0 ∨ t.kind = 1 ∨ t.kind = 2 ∨ t.kind = 3 ∨ t.kind = 4 ∨ t.kind = 5 ∨ t.kind = 6 := by omega
 generalize (ByteArray.mk #[]).toList = X
 rcases hk with k | k | k | k | k | k | k
 ·by_cases c1 : t.n = 0
  case neg => exact bad (by simp [List.length_pos_iff, k, c1]) (by simp [List.length_pos_iff, k, c1])
  by_cases c2 : t.text.toList = X
  case neg => exact bad (by simp [List.length_pos_iff, k, c1, c2]) (by simp [List.length_pos_iff, k, c1, c2])
  by_cases c4 : t.parts = []
  case neg => exact bad (by simp [List.length_pos_iff, k, c1, c2, c4]) (by simp [List.length_pos_iff, k, c1, c2, c4])
  by_cases c3 : t.names = []
  case neg => exact bad (by simp [List.length_pos_iff, k, c1, c2, c4, c3]) (by simp [List.length_pos_iff, k, c1, c2, c4, c3])
  rw [c3] at n1
  rw [c4] at p1
  exact good (by cases v <;> cases bn <;> cases bp <;> simp [List.length_pos_iff, k, c1, c2, c4, c3, e86, e87, n1, n2, p1, p2]) (by cases v <;> cases bn <;> cases bp <;> simp [List.length_pos_iff, k, c1, c2, c4, c3, e86, e87, n1, n2, p1, p2]) (fun _ => c3) (fun h => by omega)
 ·by_cases c1 : t.n = 0
  case neg => exact bad (by simp [List.length_pos_iff, k, c1]) (by simp [List.length_pos_iff, k, c1])
  by_cases c2 : t.text.toList = X
  case neg => exact bad (by simp [List.length_pos_iff, k, c1, c2]) (by simp [List.length_pos_iff, k, c1, c2])
  by_cases c4 : t.parts = []
  case neg => exact bad (by simp [List.length_pos_iff, k, c1, c2, c4]) (by simp [List.length_pos_iff, k, c1, c2, c4])
  by_cases c3 : t.names = []
  case neg => exact bad (by simp [List.length_pos_iff, k, c1, c2, c4, c3]) (by simp [List.length_pos_iff, k, c1, c2, c4, c3])
  rw [c3] at n1
  rw [c4] at p1
  exact good (by cases v <;> cases bn <;> cases bp <;> simp [List.length_pos_iff, k, c1, c2, c4, c3, e86, e87, n1, n2, p1, p2]) (by cases v <;> cases bn <;> cases bp <;> simp [List.length_pos_iff, k, c1, c2, c4, c3, e86, e87, n1, n2, p1, p2]) (fun _ => c3) (fun h => by omega)
 ·by_cases c1 : t.n = 0
  case neg => exact bad (by simp [List.length_pos_iff, k, c1]) (by simp [List.length_pos_iff, k, c1])
  by_cases c2 : t.text.toList = X
  case neg => exact bad (by simp [List.length_pos_iff, k, c1, c2]) (by simp [List.length_pos_iff, k, c1, c2])
  by_cases c4 : t.parts = []
  case neg => exact bad (by simp [List.length_pos_iff, k, c1, c2, c4]) (by simp [List.length_pos_iff, k, c1, c2, c4])
  by_cases c3 : t.names = []
  case neg => exact bad (by simp [List.length_pos_iff, k, c1, c2, c4, c3]) (by simp [List.length_pos_iff, k, c1, c2, c4, c3])
  rw [c3] at n1
  rw [c4] at p1
  exact good (by cases v <;> cases bn <;> cases bp <;> simp [List.length_pos_iff, k, c1, c2, c4, c3, e86, e87, n1, n2, p1, p2]) (by cases v <;> cases bn <;> cases bp <;> simp [List.length_pos_iff, k, c1, c2, c4, c3, e86, e87, n1, n2, p1, p2]) (fun _ => c3) (fun h => by omega)
 ·by_cases c2 : t.text.toList = X
  case neg => exact bad (by simp [List.length_pos_iff, k, c2]) (by simp [List.length_pos_iff, k, c2])
  by_cases c4 : t.parts = []
  case neg => exact bad (by simp [List.length_pos_iff, k, c2, c4]) (by simp [List.length_pos_iff, k, c2, c4])
  by_cases c5 : t.n < -9007199254740992
  ·by_cases c3 : t.names = []
   ·exact bad (by simp [List.length_pos_iff, k, c2, c4, c5, c3]) (by simp [List.length_pos_iff, k, c2, c4, c5, c3])
   ·exact bad (by simp [List.length_pos_iff, k, c2, c4, c5, c3]) (by simp [List.length_pos_iff, k, c2, c4, c5, c3])
  by_cases c6 : t.n > 9007199254740992
  ·by_cases c3 : t.names = []
   ·exact bad (by simp [List.length_pos_iff, k, c2, c4, c5, c6, c3]) (by simp [List.length_pos_iff, k, c2, c4, c5, c6, c3])
   ·exact bad (by simp [List.length_pos_iff, k, c2, c4, c5, c6, c3]) (by simp [List.length_pos_iff, k, c2, c4, c5, c6, c3])
  by_cases c3 : t.names = []
  case neg => exact bad (by simp [List.length_pos_iff, k, c2, c4, c5, c6, c3]) (by simp [List.length_pos_iff, k, c2, c4, c5, c6, c3])
  rw [c3] at n1
  rw [c4] at p1
  exact good (by cases v <;> cases bn <;> cases bp <;> simp [List.length_pos_iff, k, c2, c4, c5, c6, c3, e86, e87, n1, n2, p1, p2]) (by cases v <;> cases bn <;> cases bp <;> simp [List.length_pos_iff, k, c2, c4, c5, c6, c3, e86, e87, n1, n2, p1, p2]) (fun _ => c3) (fun h => by omega)
 ·by_cases c1 : t.n = 0
  case neg => exact bad (by simp [List.length_pos_iff, k, c1]) (by simp [List.length_pos_iff, k, c1])
  by_cases c4 : t.parts = []
  case neg => exact bad (by simp [List.length_pos_iff, k, c1, c4]) (by simp [List.length_pos_iff, k, c1, c4])
  by_cases c3 : t.names = []
  case neg => exact bad (by simp [List.length_pos_iff, k, c1, c4, c3]) (by simp [List.length_pos_iff, k, c1, c4, c3])
  rw [c3] at n1
  rw [c4] at p1
  exact good (by cases v <;> cases bn <;> cases bp <;> simp [List.length_pos_iff, k, c1, c4, c3, e86, e87, n1, n2, p1, p2]) (by cases v <;> cases bn <;> cases bp <;> simp [List.length_pos_iff, k, c1, c4, c3, e86, e87, n1, n2, p1, p2]) (fun _ => c3) (fun h => by omega)
 ·by_cases c1 : t.n = 0
  case neg => exact bad (by simp [List.length_pos_iff, k, c1]) (by simp [List.length_pos_iff, k, c1])
  by_cases c2 : t.text.toList = X
  case neg => exact bad (by simp [List.length_pos_iff, k, c1, c2]) (by simp [List.length_pos_iff, k, c1, c2])
  by_cases c3 : t.names = []
  case neg => exact bad (by simp [List.length_pos_iff, k, c1, c2, c3]) (by simp [List.length_pos_iff, k, c1, c2, c3])
  rw [c3] at n1
  exact good (by cases v <;> cases bn <;> cases bp <;> simp [List.length_pos_iff, k, c1, c2, c3, e86, e87, n1, n2, p1, p2]) (by cases v <;> cases bn <;> cases bp <;> simp [List.length_pos_iff, k, c1, c2, c3, e86, e87, n1, n2, p1, p2]) (fun _ => c3) (fun h => by omega)
 ·by_cases c1 : t.n = 0
  case neg => exact bad (by simp [List.length_pos_iff, k, c1]) (by simp [List.length_pos_iff, k, c1])
  by_cases c2 : t.text.toList = X
  case neg => exact bad (by simp [List.length_pos_iff, k, c1, c2]) (by simp [List.length_pos_iff, k, c1, c2])
  by_cases c7 : (t.names.length : Int) = (t.parts.length : Int)
  case neg => exact bad (by simp [List.length_pos_iff, k, c1, c2, c7]) (by cases v <;> simp [List.length_pos_iff, k, c1, c2, c7, e87])
  exact good (by cases v <;> cases bn <;> cases bp <;> simp [List.length_pos_iff, k, c1, c2, c7, e86, e87, n1, n2, p1, p2]) (by cases v <;> cases bn <;> cases bp <;> simp [List.length_pos_iff, k, c1, c2, c7, e86, e87, n1, n2, p1, p2]) (fun h => (h k).elim) (fun _ => by omega)
theorem tl_eq {a b : ByteArray} : a.toList = b.toList ↔ a = b := by
 constructor
 ·intro h
  rw [ByteArray.toList_eq, ByteArray.toList_eq] at h
  obtain ⟨⟨a⟩⟩ := a
  obtain ⟨⟨b⟩⟩ := b
  simp only at h
  rw [h]
 ·rintro rfl; rfl
theorem seq_iff {a b : ByteArray} : Mp.seq a b = true ↔ a = b := by
 obtain ⟨a⟩ := a
 obtain ⟨b⟩ := b
 show (a == b) = true ↔ _
 simp
theorem get_put (s x : ByteArray) (y : Bool) : ∀ es : List (ByteArray × Bool), Mp.get Mp.seq s (Mp.put Mp.seq x y es) = if s = x then some y else Mp.get Mp.seq s es
 | [] => by
  simp only [Mp.put, Mp.get, seq_iff]
 | p :: r => by
  simp only [Mp.put, seq_iff]
  by_cases h : x = p.1
  ·rw [if_pos h]
   simp only [Mp.get, seq_iff]
   by_cases h2 : s = x
   ·rw [if_pos h2, if_pos h2]
   ·rw [if_neg h2, if_neg h2, if_neg (by rw [← h]; exact h2)]
  ·rw [if_neg h]
   simp only [Mp.get, seq_iff]
   by_cases h2 : s = p.1
   ·rw [if_pos h2, if_pos h2, if_neg (by rw [h2]; exact fun e => h e.symm)]
   ·rw [if_neg h2, if_neg h2]
    exact get_put s x y r
theorem get_ins (s x : ByteArray) (y : Bool) : ∀ es : List (ByteArray × Bool), es.any (fun p => Mp.seq x p.1) = false → Mp.get Mp.seq s (Mp.ins Mp.slt x y es) = if s = x then some y else Mp.get Mp.seq s es
 | [], _ => by simp only [Mp.ins, Mp.get, seq_iff]
 | p :: r, h => by
  rw [List.any_cons, Bool.or_eq_false_iff] at h
  have hx : ¬ x = p.1 := fun e => by have := seq_iff.2 e; rw [h.1] at this; cases this
  rw [Mp.ins]
  split
  ·simp only [Mp.get, seq_iff]
  ·simp only [Mp.get, seq_iff]
   rw [get_ins s x y r h.2]
   by_cases h2 : s = p.1
   ·rw [if_pos h2, if_pos h2, if_neg (by rw [h2]; exact fun e => hx e.symm)]
   ·rw [if_neg h2, if_neg h2]
theorem get_set (s x : ByteArray) (y : Bool) (es : List (ByteArray × Bool)) : Mp.get Mp.seq s (Mp.set Mp.seq Mp.slt x y es) = if s = x then some y else Mp.get Mp.seq s es := by
 unfold Mp.set
 split
 ·exact get_put s x y es
 ·rename_i h
  exact get_ins s x y es (by cases hq : es.any (fun p => Mp.seq x p.1) with | true => exact (h hq).elim | false => rfl)
theorem f64a (t : Tag) (ht : t.Fit big) (i : Nat) (s : ByteArray) (hi : i < t.names.length) (hs : t.names[i]? = some s) : ∀ (m k : Nat), i - k = m →
  (s ∈ (t.names.take i).drop k → n_55l5 ((i : Int), (k : Int), t, ()) = some (.inl (true, ()))) ∧ (¬ s ∈ (t.names.take i).drop k → n_55l5 ((i : Int), (k : Int), t, ()) = some (.inr ((i : Int), t, ()))) := by
 intro m
 induction m with
 | zero =>
  intro k hk
  have hlt : ¬ k < i := by omega
  have hd : (t.names.take i).drop k = [] := List.drop_eq_nil_of_le (by simp; omega)
  rw [n_55l5, hd]
  simp [hlt]
 | succ m ih =>
  intro k hk
  have hlt : k < i := by omega
  obtain ⟨q, hq1, _, hd, _, _⟩ := at_lt (xs := t.names.take i) (k := k) (by simp; omega)
  have hq2 : t.names[k]? = some q := by
   rw [List.getElem?_take] at hq1
   simpa [hlt] using hq1
  have h0 : (0 : Int) ≤ (i : Int) := by omega
  have h1 : (0 : Int) ≤ (k : Int) := by omega
  have h2 : ((k : Int) < (i : Int)) := by omega
  rw [n_55l5, hd]
  simp only [sW, h0, h1, h2, hs, hq2, wrap_succ hlt (Nat.le_trans (Nat.le_of_lt hi) ht.names), List.mem_cons]
  by_cases e : s = q
  ·subst e
   simp
  ·have e2 : ¬ (s.toList = q.toList) := fun h => e (tl_eq.1 h)
   simp only [e2, e, false_or, sW]
   exact ih (k + 1) (by omega)
theorem f62l (t : Tag) (ht : t.Fit big) : ∀ (m k : Nat) (es : List (ByteArray × Bool)), t.names.length - k = m → (∀ s, (Mp.get Mp.seq s es).getD false = true ↔ s ∈ t.names.take k) →
  ∃ o : Bool, n_52l3 (t.names, (t.names.length : Int), (k : Int), t, es, ()) = some (if o = true then .inl (true, ()) else .inr (t, ())) ∧ n_55l2 ((k : Int), t, ()) = some (if o = true then .inl (true, ()) else .inr (t, ())) := by
 intro m
 induction m with
 | zero =>
  intro k es hk hes
  have hlt : ¬ k < t.names.length := by omega
  rw [n_52l3, n_55l2]
  simp only [sW, hlt]
  exact ⟨false, by simp, by simp⟩
 | succ m ih =>
  intro k es hk hes
  have hlt : k < t.names.length := by omega
  obtain ⟨p, hp1, hm, hd, g1, g2⟩ := at_lt hlt
  have h64 := f64a t ht k p hlt hp1 _ 0 rfl
  simp only [Int.natCast_zero, Int.ofNat_eq_natCast, List.drop_zero] at h64
  have hes2 : ∀ s, (Mp.get Mp.seq s (Mp.set Mp.seq Mp.slt p true es)).getD false = true ↔ s ∈ t.names.take (k + 1) := by
   intro s
   rw [get_set, List.take_add_one, hp1]
   by_cases e : s = p
   ·simp [e]
   ·rw [if_neg e, hes s]
    simp [e]
  obtain ⟨o, o1, o2⟩ := ih (k + 1) _ (by omega) hes2
  rw [n_52l3, n_55l2]
  simp only [sW, g1, g2, hlt, hp1, wrap_succ hlt ht.names]
  by_cases e : p ∈ t.names.take k
  ·refine ⟨true, by rw [if_pos ((hes p).2 e)]; rfl, ?_⟩
   simp only [h64.1 e, sW]
  ·refine ⟨o, by rw [if_neg fun h => e ((hes p).1 h)]; exact o1, ?_⟩
   simp only [h64.2 e, sW, wrap_succ hlt ht.names]
   exact o2
theorem f62p (t : Tag) (ht : t.Fit big) (hp : ∀ p ∈ t.parts, ∃ b, n_52 (p, ()) = some (b, ()) ∧ n_55 (p, ()) = some (b, ())) : ∀ (m k : Nat), t.parts.length - k = m → ∃ o : Option Nat,
  n_104c52l2 (t.parts, (t.parts.length : Int), (k : Int), ()) = some (match o with | some i => .inl ((i : Int), ()) | none => .inr ()) ∧ n_55l10 ((k : Int), t, ()) = some (match o with | some _ => .inl (true, ()) | none => .inr ()) := by
 intro m
 induction m with
 | zero =>
  intro k hk
  have hlt : ¬ k < t.parts.length := by omega
  rw [n_104c52l2, n_55l10]
  simp only [sW, hlt]
  exact ⟨.none, rfl, rfl⟩
 | succ m ih =>
  intro k hk
  have hlt : k < t.parts.length := by omega
  obtain ⟨p, hp1, hm, hd, g1, g2⟩ := at_lt hlt
  obtain ⟨b, e1, e2⟩ := hp p hm
  rw [n_104c52l2, n_55l10]
  simp only [sW, g1, g2, hlt, hp1, e1, e2, wrap_succ hlt ht.parts]
  cases b with
  | true => simp only [sW]; exact ⟨some k, rfl, rfl⟩
  | false => simp only [sW]; exact ih (k + 1) (by omega)
theorem f62 : ∀ t : Tag, t.Fit big → ∃ b, n_52 (t, ()) = some (b, ()) ∧ n_55 (t, ()) = some (b, ()) := by
 refine Tag.ind fun t ih ht => ?_
 obtain ⟨o, o1, o2⟩ := f62l t ht _ 0 [] rfl (fun s => by simp [Mp.get])
 obtain ⟨u, u1, u2⟩ := f62p t ht (fun p hp => ih p hp (ht.part hp)) _ 0 rfl
 simp only [Int.natCast_zero, Int.ofNat_eq_natCast, List.drop_zero] at o1 o2 u1 u2
 rw [n_52, n_55]
 cases o with
 | true => simp only [o1, o2, sW]; exact ⟨_, rfl, rfl⟩
 | false =>
  simp only [o1, o2, sW]
  rw [n_78c52, n_104c52]
  cases u with
  | none => simp only [u1, u2, sW]; exact ⟨_, rfl, rfl⟩
  | some i => simp only [u1, u2, sW]; exact ⟨_, rfl, by simp⟩
theorem f29 (t : Tag) (ht : t.Fit big) : ∃ e, n_29 (t, ()) = some (e, ()) ∧ n_33 (t, ()) = some (e, ()) ∧ (e = 0 → t.Right) := by
 obtain ⟨a, d, s, c1, c2⟩ := f58 t ht
 obtain ⟨b, b1, b2, b3⟩ := f61 t ht
 obtain ⟨w, w1, w2⟩ := f62 t ht
 unfold n_29 n_33
 simp only [c1, c2, sW]
 by_cases h1 : d > 20
 ·refine ⟨3, by simp [h1], ?_, fun h => by omega⟩
  by_cases h2 : a > 500 <;> simp [h1, h2]
 ·by_cases h2 : a > 500
  ·exact ⟨3, by simp [h1, h2], by simp [h1, h2], fun h => by omega⟩
  ·by_cases h3 : s > 4096
   ·exact ⟨3, by simp [h1, h2, h3], by simp [h1, h2, h3], fun h => by omega⟩
   ·cases b with
    | false => exact ⟨1, by simp [h1, h2, h3, b1], by simp [h1, h2, h3, b2], fun h => by omega⟩
    | true =>
     cases w with
     | true => exact ⟨5, by simp [h1, h2, h3, b1, w1], by simp [h1, h2, h3, b2, w2], fun h => by omega⟩
     | false => exact ⟨0, by simp [h1, h2, h3, b1, w1], by simp [h1, h2, h3, b2, w2], fun _ => b3 rfl⟩
end Go.Proofs.YtpndmanbfleadaaGreatDoor
end
section
namespace Go.Proofs.YtpndmanbfleadaaGreatDoor
open Go.Awp Go.Tx
set_option maxRecDepth 20000
abbrev mt : ByteArray := ByteArray.mk #[]
mutual
def Tag.bulk : Tag → Nat
 | .mk _ _ t ns ps => 1 + t.size + (ns.map ByteArray.size).sum + bulkL ps
def bulkL : List Tag → Nat
 | [] => 0
 | p :: ps => p.bulk + bulkL ps
end
structure Loc (t : Tag) : Prop where
 k0 : 0 ≤ t.kind
 k6 : t.kind ≤ 6
 n0 : t.kind ≠ 3 → t.n = 0
 lo : -9007199254740992 ≤ t.n
 hi : t.n ≤ 9007199254740992
 tx : t.kind ≠ 4 → t.text = mt
 pt : t.kind < 5 → t.parts = []
 ln : t.kind = 6 → t.names.length = t.parts.length
 nm : t.kind ≠ 6 → t.names = []
 vt : Lib.validD t.text.data.toList = true
 vn : ∀ s ∈ t.names, Lib.validD s.data.toList = true
inductive Good : Tag → Prop
 | mk {t : Tag} : Loc t → (∀ p ∈ t.parts, Good p) → Good t
mutual
def Tag.cnt : Tag → Nat
 | .mk _ _ _ _ ps => 1 + cntL ps
def cntL : List Tag → Nat
 | [] => 0
 | p :: ps => p.cnt + cntL ps
end
mutual
def Tag.byts : Tag → Nat
 | .mk _ _ t ns ps => t.size + (ns.map ByteArray.size).sum + bytsL ps
def bytsL : List Tag → Nat
 | [] => 0
 | p :: ps => p.byts + bytsL ps
end
mutual
theorem bulk_eq : ∀ t : Tag, t.bulk = t.cnt + t.byts
 | .mk _ _ t ns ps => by rw [Tag.bulk, Tag.cnt, Tag.byts, bulkL_eq ps]; omega
theorem bulkL_eq : ∀ ps : List Tag, bulkL ps = cntL ps + bytsL ps
 | [] => rfl
 | p :: ps => by rw [bulkL, cntL, bytsL, bulk_eq p, bulkL_eq ps]; omega
end
theorem bulk_mk (t : Tag) : t.bulk = 1 + t.text.size + (t.names.map ByteArray.size).sum + bulkL t.parts := by cases t; rfl
theorem bulkL_mem : ∀ {ps : List Tag} {p : Tag}, p ∈ ps → p.bulk ≤ bulkL ps
 | q :: ps, p, h => by
  rw [bulkL]
  rcases List.mem_cons.1 h with rfl | h
  ·omega
  ·have := bulkL_mem h; omega
theorem sum_take {α : Type} {xs : List α} {ns : List Nat} (f : α → Nat) (hl : ns.length = xs.length) (h : ∀ (i : Nat) (x : α) (n : Nat), xs[i]? = some x → ns[i]? = some n → f x ≤ n) : (xs.map f).sum ≤ ns.sum := by
 induction xs generalizing ns with
 | nil => simp
 | cons x xs ih =>
  cases ns with
  | nil => simp at hl
  | cons n ns =>
   have h0 := h 0 x n rfl rfl
   have h1 := ih (ns := ns) (by simpa using hl) fun i y m hy hm => h (i + 1) y m (by simpa using hy) (by simpa using hm)
   simp only [List.map_cons, List.sum_cons]
   omega
theorem bulkL_map : ∀ ps : List Tag, bulkL ps = (ps.map Tag.bulk).sum
 | [] => rfl
 | p :: ps => by rw [bulkL, List.map_cons, List.sum_cons, bulkL_map ps]
theorem bulk_bk : ∀ (t : Tag) (m : Nat), Bk vw (.st .tagT) t m → t.bulk ≤ m := by
 refine Tag.ind fun t ih m h => ?_
 cases h with
 | st ns h1 h2 h3 =>
  have h1 : ns.length = (cellsN .tagT t).length := h1
  have hc : cellsN .tagT t = [⟨.int .i64, t.kind⟩, ⟨.int .i64, t.n⟩, ⟨.str, t.text⟩, ⟨.sl .str, t.names⟩, ⟨.sl (.st .tagT), t.parts⟩] := by simp [cellsN]
  rw [hc] at h1
  match ns, h1 with
  | [a, b, c, d, e], _ =>
   have g (j : Nat) (l : Leaf NN) (n : Nat) (hl : (cellsN .tagT t)[j]? = some l) (hn : [a, b, c, d, e][j]? = some n) : Bk vw l.t l.x n := h2 j l n hl hn
   rw [hc] at g
   have g2 : Bk vw .str t.text c := g 2 ⟨.str, t.text⟩ c rfl rfl
   have g3 : Bk vw (.sl .str) t.names d := g 3 ⟨.sl .str, t.names⟩ d rfl rfl
   have g4 : Bk vw (.sl (.st .tagT)) t.parts e := g 4 ⟨.sl (.st .tagT), t.parts⟩ e rfl rfl
   have k2 := bk_str g2
   have k3 : (t.names.map ByteArray.size).sum ≤ d := by
    cases g3 with
    | sl ns j1 j2 j3 =>
     have := sum_take (xs := t.names) ByteArray.size j1 fun i x n hx hn => by have := bk_str (j2 i x n hx hn); omega
     omega
   have k4 : bulkL t.parts ≤ e := by
    rw [bulkL_map]
    cases g4 with
    | sl ns j1 j2 j3 =>
     have := sum_take (xs := t.parts) Tag.bulk j1 fun i x n hx hn => ih x (List.mem_of_getElem? hx) n (j2 i x n hx hn)
     omega
   have := bulk_mk t
   simp only [List.sum_cons, List.sum_nil] at h3
   omega
end Go.Proofs.YtpndmanbfleadaaGreatDoor
end
section
namespace Go.Proofs.YtpndmanbfleadaaGreatDoor
open Go.Awp Go.Tx
set_option maxRecDepth 20000
inductive Tag.Uniq : Tag → Prop
 | mk {t : Tag} : t.names.Nodup → (∀ p ∈ t.parts, Tag.Uniq p) → Tag.Uniq t
theorem Tag.Uniq.nd {t : Tag} (h : t.Uniq) : t.names.Nodup := by cases h; assumption
theorem Tag.Uniq.part {t p : Tag} (h : t.Uniq) (hp : p ∈ t.parts) : p.Uniq := by cases h with | mk _ h => exact h p hp
theorem nodup_l (t : Tag) (ht : t.Fit big) : ∀ (m k : Nat) (es : List (ByteArray × Bool)), t.names.length - k = m → (∀ s, (Mp.get Mp.seq s es).getD false = true ↔ s ∈ t.names.take k) →
  ∃ o : Bool, n_52l3 (t.names, (t.names.length : Int), (k : Int), t, es, ()) = some (if o = true then .inl (true, ()) else .inr (t, ())) ∧ (o = false ↔ (t.names.drop k).Nodup ∧ ∀ s ∈ t.names.drop k, s ∉ t.names.take k) := by
 intro m
 induction m with
 | zero =>
  intro k es hk hes
  have hlt : ¬ k < t.names.length := by omega
  rw [n_52l3]
  simp only [sW, hlt]
  exact ⟨false, by simp, by simp [(at_end hlt).1]⟩
 | succ m ih =>
  intro k es hk hes
  have hlt : k < t.names.length := by omega
  obtain ⟨p, hp1, hm, hd, g1, g2⟩ := at_lt hlt
  have htk : t.names.take (k + 1) = t.names.take k ++ [p] := by rw [List.take_add_one, hp1]; rfl
  have hes2 : ∀ s, (Mp.get Mp.seq s (Mp.set Mp.seq Mp.slt p true es)).getD false = true ↔ s ∈ t.names.take (k + 1) := by
   intro s
   rw [get_set, htk]
   by_cases e : s = p
   ·simp [e]
   ·rw [if_neg e, hes s]
    simp [e]
  obtain ⟨o, o1, o2⟩ := ih (k + 1) _ (by omega) hes2
  rw [n_52l3]
  simp only [sW, g1, g2, hlt, hp1, wrap_succ hlt ht.names]
  by_cases e : p ∈ t.names.take k
  ·refine ⟨true, by rw [if_pos ((hes p).2 e)]; rfl, ?_⟩
   rw [hd]
   simp [e]
  ·refine ⟨o, by rw [if_neg fun h => e ((hes p).1 h)]; exact o1, o2.trans ?_⟩
   rw [hd, htk]
   simp only [List.nodup_cons, List.mem_append, List.mem_cons, List.not_mem_nil, or_false]
   constructor
   ·rintro ⟨a, b⟩
    refine ⟨⟨fun hq => b p hq (.inr rfl), a⟩, fun s hs => ?_⟩
    rcases hs with rfl | hs
    ·exact e
    ·exact fun q => b s hs (.inl q)
   ·rintro ⟨⟨a1, a2⟩, b⟩
    refine ⟨a2, fun s hs => ?_⟩
    rintro (q | rfl)
    ·exact b s (.inr hs) q
    ·exact a1 hs
theorem uniq_l (t : Tag) (ht : t.Fit big) (hp : ∀ p ∈ t.parts, ∃ b, n_52 (p, ()) = some (b, ()) ∧ (b = false ↔ p.Uniq)) : ∀ (m k : Nat), t.parts.length - k = m → ∃ o : Option Nat,
  n_104c52l2 (t.parts, (t.parts.length : Int), (k : Int), ()) = some (match o with | some i => .inl ((i : Int), ()) | none => .inr ()) ∧ (o = none ↔ ∀ p ∈ t.parts.drop k, p.Uniq) := by
 intro m
 induction m with
 | zero =>
  intro k hk
  have hlt : ¬ k < t.parts.length := by omega
  rw [n_104c52l2]
  simp only [sW, hlt]
  exact ⟨.none, rfl, by simp [(at_end hlt).1]⟩
 | succ m ih =>
  intro k hk
  have hlt : k < t.parts.length := by omega
  obtain ⟨p, hp1, hm, hd, g1, g2⟩ := at_lt hlt
  obtain ⟨b, e1, e2⟩ := hp p hm
  rw [n_104c52l2]
  simp only [sW, g1, g2, hlt, hp1, e1, wrap_succ hlt ht.parts]
  cases b with
  | true =>
   simp only [sW]
   refine ⟨some k, rfl, ?_⟩
   have : ¬ p.Uniq := fun h => by cases e2.2 h
   rw [hd]
   simp [this]
  | false =>
   simp only [sW]
   obtain ⟨o, o1, o2⟩ := ih (k + 1) (by omega)
   refine ⟨o, o1, o2.trans ?_⟩
   rw [hd]
   simp [e2.1 rfl]
theorem uniq_of : ∀ t : Tag, t.Fit big → ∃ b, n_52 (t, ()) = some (b, ()) ∧ (b = false ↔ t.Uniq) := by
 refine Tag.ind fun t ih ht => ?_
 obtain ⟨o, o1, o2⟩ := nodup_l t ht _ 0 [] rfl (fun s => by simp [Mp.get])
 obtain ⟨u, u1, u2⟩ := uniq_l t ht (fun p hp => ih p hp (ht.part hp)) _ 0 rfl
 simp only [Int.natCast_zero, Int.ofNat_eq_natCast, List.drop_zero, List.take_zero] at o1 o2 u1 u2
 have hu : t.Uniq ↔ o = false ∧ u = none := by
  rw [o2, u2]
  exact ⟨fun h => ⟨⟨h.nd, fun s _ => by simp⟩, fun p hp => h.part hp⟩, fun h => .mk h.1.1 h.2⟩
 rw [n_52]
 cases o with
 | true => simp only [o1, sW]; exact ⟨_, rfl, by simp [hu]⟩
 | false =>
  simp only [o1, sW]
  rw [n_78c52, n_104c52]
  cases u with
  | none => simp only [u1, sW]; exact ⟨_, rfl, by simp [hu]⟩
  | some i => simp only [u1, sW]; exact ⟨_, rfl, by simp [hu]⟩
theorem uniq_valid (t : Tag) (ht : t.Fit big) (h : n_29 (t, ()) = some (0, ())) : t.Uniq := by
 obtain ⟨b, b1, b2⟩ := uniq_of t ht
 obtain ⟨a, d, s, c1, c2⟩ := f58 t ht
 obtain ⟨g, g1, _, _⟩ := f61 t ht
 refine b2.1 ?_
 cases b with
 | false => rfl
 | true =>
  unfold n_29 at h
  simp only [c2, g1, b1, sW] at h
  exfalso
  revert h
  by_cases h1 : d > 20
  ·simp [h1]
  ·by_cases h2 : a > 500
   ·simp [h1, h2]
   ·by_cases h3 : s > 4096
    ·simp [h1, h2, h3]
    ·cases g <;> simp [h1, h2, h3, g1, b1]
end Go.Proofs.YtpndmanbfleadaaGreatDoor
end
section
namespace Go.Proofs.YtpndmanbfleadaaGreatDoor
open Go.Awp Go.Tx
set_option maxRecDepth 20000
abbrev small : Nat := 4294967296
abbrev Tag.nil : Tag := Tag.mk 0 0 (ByteArray.mk #[]) [] []
theorem eta (t : Tag) : Tag.mk t.kind t.n t.text t.names t.parts = t := by cases t; rfl
def ix (s : ByteArray) : List ByteArray → Option Nat
 | [] => none
 | a :: r => if a = s then some 0 else (ix s r).map (· + 1)
theorem ix_get {s : ByteArray} : ∀ {l : List ByteArray} {k : Nat}, ix s l = some k → l[k]? = some s
 | [], k, h => by cases h
 | a :: r, k, h => by
  unfold ix at h
  split at h
  ·rename_i e
   cases h; subst e; rfl
  ·cases hq : ix s r with
   | none => rw [hq] at h; cases h
   | some j =>
    rw [hq] at h; cases h
    show r[j]? = some s
    exact ix_get hq
theorem ix_none {s : ByteArray} : ∀ {l : List ByteArray}, ix s l = none → s ∉ l
 | [], _ => by simp
 | a :: r, h => by
  unfold ix at h
  split at h
  ·cases h
  ·rename_i e
   cases hq : ix s r with
   | some j => rw [hq] at h; cases h
   | none =>
    intro hm
    rcases List.mem_cons.1 hm with q | q
    ·exact e q.symm
    ·exact ix_none hq q
theorem ix_of {s : ByteArray} : ∀ {l : List ByteArray} {k : Nat}, l.Nodup → l[k]? = some s → ix s l = some k
 | [], k, _, h => by simp at h
 | a :: r, 0, _, h => by
  simp at h
  unfold ix
  rw [if_pos h]
 | a :: r, k + 1, hn, h => by
  rw [List.nodup_cons] at hn
  have h1 : r[k]? = some s := by simpa using h
  have : a ≠ s := fun e => hn.1 (e ▸ List.mem_of_getElem? h1)
  unfold ix
  rw [if_neg this, ix_of hn.2 h1]
  rfl
def stp (p : Tag) (u : Tag → Tag) (s : ByteArray) (t : Tag) : Tag := match ix s t.names with
 | some k => if p.kind = 0 then Tag.mk t.kind t.n t.text (t.names.eraseIdx k) (t.parts.eraseIdx k) else match t.parts[k]? with
  | some q => Tag.mk t.kind t.n t.text t.names (t.parts.set k (u q))
  | none => t
 | none => if p.kind = 0 then t else Tag.mk t.kind t.n t.text (t.names ++ [s]) (t.parts ++ [u Tag.nil])
mutual
def pat : Tag → Tag → Tag
 | .mk k n x ns ps, t => if k = 6 then patL ps ns (if t.kind = 6 then t else Tag.mk 6 0 mt [] []) else .mk k n x ns ps
def patL : List Tag → List ByteArray → Tag → Tag
 | p :: ps, s :: ns, t => patL ps ns (stp p (pat p) s t)
 | _, _, t => t
end
theorem pat_eq (b t : Tag) : pat b t = if b.kind = 6 then patL b.parts b.names (if t.kind = 6 then t else Tag.mk 6 0 mt [] []) else b := by
 cases b
 rw [pat]
structure RU (t : Tag) : Prop where
 r : t.Right
 u : t.Uniq
theorem RU.part {t p : Tag} (h : RU t) (hp : p ∈ t.parts) : RU p := ⟨h.r.part hp, h.u.part hp⟩
theorem RU.nil : RU Tag.nil := ⟨.mk (fun _ => rfl) (fun h => (by cases h)) fun p hp => (by cases hp), .mk .nil fun p hp => (by cases hp)⟩
theorem RU.six : RU (Tag.mk 6 0 mt [] []) := ⟨.mk (fun _ => rfl) (fun h => rfl) fun p hp => (by cases hp), .mk .nil fun p hp => (by cases hp)⟩
theorem stp_kind {p : Tag} {u : Tag → Tag} {s : ByteArray} {t : Tag} : (stp p u s t).kind = t.kind := by
 unfold stp
 split
 ·split
  ·rfl
  ·split <;> rfl
 ·split <;> rfl
theorem stp_ru {p : Tag} {u : Tag → Tag} {s : ByteArray} {t : Tag} (h6 : t.kind = 6) (ht : RU t) (hu : ∀ x, RU x → RU (u x)) : RU (stp p u s t) := by
 have hl := ht.r.len h6
 unfold stp
 split
 ·rename_i k hk
  have hkl := (List.getElem?_eq_some_iff.1 (ix_get hk)).1
  split
  ·refine ⟨.mk (fun h => absurd h6 h) (fun _ => ?_) fun p hp => ht.r.part ((List.eraseIdx_sublist _ _).subset hp), .mk ((List.eraseIdx_sublist _ _).nodup ht.u.nd) fun p hp => ht.u.part ((List.eraseIdx_sublist _ _).subset hp)⟩
   rw [List.length_eraseIdx, List.length_eraseIdx, hl, if_pos (by omega)]
  ·split
   ·rename_i q hq
    have hq2 := hu q (ht.part (List.mem_of_getElem? hq))
    refine ⟨.mk (fun h => absurd h6 h) (fun _ => by rw [List.length_set]; exact hl) fun p hp => ?_, .mk ht.u.nd fun p hp => ?_⟩
    ·rcases List.mem_or_eq_of_mem_set hp with h | h
     ·exact ht.r.part h
     ·rw [h]; exact hq2.r
    ·rcases List.mem_or_eq_of_mem_set hp with h | h
     ·exact ht.u.part h
     ·rw [h]; exact hq2.u
   ·exact ht
 ·rename_i hk
  split
  ·exact ht
  ·have hn := hu _ RU.nil
   refine ⟨.mk (fun h => absurd h6 h) (fun _ => by simp [hl]) fun p hp => ?_, .mk (List.nodup_append.2 ⟨ht.u.nd, by simp, fun a ha b hb => by
    rw [List.mem_singleton.1 hb]
    exact fun e => ix_none hk (e ▸ ha)⟩) fun p hp => ?_⟩
   ·rcases List.mem_append.1 hp with h | h
    ·exact ht.r.part h
    ·rw [List.mem_singleton.1 h]; exact hn.r
   ·rcases List.mem_append.1 hp with h | h
    ·exact ht.u.part h
    ·rw [List.mem_singleton.1 h]; exact hn.u
theorem patL_ru : ∀ (ps : List Tag) (ns : List ByteArray) (t : Tag), (∀ p ∈ ps, ∀ x, RU x → RU (pat p x)) → t.kind = 6 → RU t → RU (patL ps ns t) ∧ (patL ps ns t).kind = 6
 | p :: ps, s :: ns, t, hp, h6, ht => by
  rw [patL]
  exact patL_ru ps ns _ (fun q hq => hp q (List.mem_cons_of_mem _ hq)) (stp_kind.trans h6) (stp_ru h6 ht (hp p List.mem_cons_self))
 | [], _, t, _, h6, ht => by rw [patL]; exact ⟨ht, h6⟩; simp
 | _ :: _, [], t, _, h6, ht => by rw [patL]; exact ⟨ht, h6⟩; simp
theorem pat_ru : ∀ b : Tag, RU b → ∀ t, RU t → RU (pat b t) := by
 refine Tag.ind fun b ih hb t ht => ?_
 rw [pat_eq]
 split
 ·refine (patL_ru _ _ _ (fun p hp => ih p hp (hb.part hp)) ?_ ?_).1
  ·split
   ·assumption
   ·rfl
  ·split
   ·exact ht
   ·exact RU.six
 ·exact hb
def Eff1 (t : Tag) (s : ByteArray) (p : Tag) : Prop := (p.kind = 0 → s ∉ t.names) ∧ (p.kind ≠ 0 → ∃ (k : Nat) (q : Tag), t.names[k]? = some s ∧ t.parts[k]? = some q ∧ pat p q = q)
theorem eff_at {p : Tag} {s : ByteArray} {t : Tag} (h6 : t.kind = 6) (ht : RU t) (hp : ∀ x, RU x → pat p (pat p x) = pat p x) : Eff1 (stp p (pat p) s t) s p := by
 have hl := ht.r.len h6
 unfold stp
 split
 ·rename_i k hk
  have hkl := (List.getElem?_eq_some_iff.1 (ix_get hk)).1
  split
  ·rename_i h0
   refine ⟨fun _ hm => ?_, fun h => absurd h0 h⟩
   obtain ⟨j, hj⟩ := List.getElem?_of_mem hm
   rw [List.getElem?_eraseIdx] at hj
   split at hj
   ·rename_i hlt
    have := ix_of ht.u.nd hj
    rw [hk] at this; cases this; omega
   ·rename_i hlt
    have := ix_of ht.u.nd hj
    rw [hk] at this; cases this; omega
  ·rename_i h0
   have hkp : k < t.parts.length := by omega
   rw [List.getElem?_eq_getElem hkp]
   exact ⟨fun h => absurd h h0, fun _ => ⟨k, _, ix_get hk, by simp [hkp], hp _ (ht.part (List.getElem_mem hkp))⟩⟩
 ·rename_i hk
  split
  ·rename_i h0
   exact ⟨fun _ => ix_none hk, fun h => absurd h0 h⟩
  ·rename_i h0
   exact ⟨fun h => absurd h h0, fun _ => ⟨t.names.length, _, by simp, by rw [hl]; simp, hp _ RU.nil⟩⟩
theorem eff_keep {p p' : Tag} {u : Tag → Tag} {s s' : ByteArray} {t : Tag} (hs : s ≠ s') (h : Eff1 t s' p') : Eff1 (stp p u s t) s' p' := by
 unfold stp
 split
 ·rename_i k hk
  have hks := ix_get hk
  split
  ·refine ⟨fun h0 hm => h.1 h0 ((List.eraseIdx_sublist _ _).subset hm), fun h0 => ?_⟩
   obtain ⟨j, q, e1, e2, e3⟩ := h.2 h0
   have hjk : j ≠ k := fun e => by
    rw [e, hks] at e1; cases e1; exact hs rfl
   by_cases hlt : j < k
   ·exact ⟨j, q, by rw [List.getElem?_eraseIdx, if_pos hlt]; exact e1, by rw [List.getElem?_eraseIdx, if_pos hlt]; exact e2, e3⟩
   ·refine ⟨j - 1, q, ?_, ?_, e3⟩
    ·rw [List.getElem?_eraseIdx, if_neg (by omega), show j - 1 + 1 = j by omega]; exact e1
    ·rw [List.getElem?_eraseIdx, if_neg (by omega), show j - 1 + 1 = j by omega]; exact e2
  ·split
   ·refine ⟨h.1, fun h0 => ?_⟩
    obtain ⟨j, q, e1, e2, e3⟩ := h.2 h0
    have hjk : k ≠ j := fun e => by
     rw [← e, hks] at e1; cases e1; exact hs rfl
    exact ⟨j, q, e1, by rw [List.getElem?_set_ne hjk]; exact e2, e3⟩
   ·exact h
 ·split
  ·exact h
  ·refine ⟨fun h0 hm => ?_, fun h0 => ?_⟩
   ·rcases List.mem_append.1 hm with q | q
    ·exact h.1 h0 q
    ·exact hs (List.mem_singleton.1 q).symm
   ·obtain ⟨j, q, e1, e2, e3⟩ := h.2 h0
    refine ⟨j, q, ?_, ?_, e3⟩
    ·rw [List.getElem?_append_left (List.getElem?_eq_some_iff.1 e1).1]; exact e1
    ·rw [List.getElem?_append_left (List.getElem?_eq_some_iff.1 e2).1]; exact e2
theorem eff_fix {p : Tag} {s : ByteArray} {t : Tag} (ht : RU t) (h : Eff1 t s p) : stp p (pat p) s t = t := by
 unfold stp
 by_cases h0 : p.kind = 0
 ·have := h.1 h0
  cases hk : ix s t.names with
  | none => simp [h0]
  | some k => exact absurd (List.mem_of_getElem? (ix_get hk)) this
 ·obtain ⟨k, q, e1, e2, e3⟩ := h.2 h0
  rw [ix_of ht.u.nd e1]
  simp only [if_neg h0, e2, e3]
  have : t.parts.set k q = t.parts := by
   apply List.ext_getElem?
   intro j
   rw [List.getElem?_set]
   split
   ·rename_i hj; subst hj
    split
    ·exact e2.symm
    ·rename_i hlt
     exact absurd (List.getElem?_eq_some_iff.1 e2).1 hlt
   ·rfl
  rw [this, eta]
theorem patL_keep {s : ByteArray} {q : Tag} : ∀ (ps : List Tag) (ns : List ByteArray) (t : Tag), s ∉ ns → Eff1 t s q → Eff1 (patL ps ns t) s q
 | p :: ps, n :: ns, t, hs, h => by
  rw [patL]
  exact patL_keep ps ns _ (fun hm => hs (List.mem_cons_of_mem _ hm)) (eff_keep (fun e => hs (e ▸ List.mem_cons_self)) h)
 | [], _, t, _, h => by rw [patL]; exact h; simp
 | _ :: _, [], t, _, h => by rw [patL]; exact h; simp
theorem patL_eff : ∀ (ps : List Tag) (ns : List ByteArray) (t : Tag), (∀ p ∈ ps, (∀ x, RU x → RU (pat p x)) ∧ ∀ x, RU x → pat p (pat p x) = pat p x) → ns.Nodup → t.kind = 6 → RU t →
  ∀ (i : Nat) (p : Tag) (s : ByteArray), ps[i]? = some p → ns[i]? = some s → Eff1 (patL ps ns t) s p
 | p :: ps, n :: ns, t, hp, hn, h6, ht, i, p', s', h1, h2 => by
  rw [patL]
  rw [List.nodup_cons] at hn
  cases i with
  | zero =>
   simp at h1 h2
   subst h1; subst h2
   exact patL_keep ps ns _ hn.1 (eff_at h6 ht (hp p List.mem_cons_self).2)
  | succ i => exact patL_eff ps ns _ (fun q hq => hp q (List.mem_cons_of_mem _ hq)) hn.2 (stp_kind.trans h6) (stp_ru h6 ht (hp p List.mem_cons_self).1) i p' s' (by simpa using h1) (by simpa using h2)
 | [], _, t, _, _, _, _, i, p', s', h1, _ => by simp at h1
 | _ :: _, [], t, _, _, _, _, i, p', s', _, h2 => by simp at h2
theorem patL_fix : ∀ (ps : List Tag) (ns : List ByteArray) (t : Tag), RU t → (∀ (i : Nat) (p : Tag) (s : ByteArray), ps[i]? = some p → ns[i]? = some s → Eff1 t s p) → patL ps ns t = t
 | p :: ps, n :: ns, t, ht, h => by
  rw [patL, eff_fix ht (h 0 p n rfl rfl)]
  exact patL_fix ps ns t ht fun i p s h1 h2 => h (i + 1) p s (by simpa using h1) (by simpa using h2)
 | [], _, t, _, _ => by rw [patL]; simp
 | _ :: _, [], t, _, _ => by rw [patL]; simp
theorem pat_twice : ∀ b : Tag, RU b → ∀ t, RU t → pat b (pat b t) = pat b t := by
 refine Tag.ind fun b ih hb t ht => ?_
 rw [pat_eq b t]
 by_cases h6 : b.kind = 6
 ·rw [if_pos h6]
  have hT : ∀ t0 : Tag, t0.kind = 6 → RU t0 → pat b (patL b.parts b.names t0) = patL b.parts b.names t0 := by
   intro t0 h60 ht0
   have hr := patL_ru b.parts b.names t0 (fun p hp => pat_ru p (hb.part hp)) h60 ht0
   rw [pat_eq, if_pos h6, if_pos hr.2]
   exact patL_fix _ _ _ hr.1 fun i p s h1 h2 => patL_eff b.parts b.names t0 (fun p hp => ⟨pat_ru p (hb.part hp), ih p hp (hb.part hp)⟩) hb.u.nd h60 ht0 i p s h1 h2
  split
  ·rename_i h; exact hT t h ht
  ·exact hT _ rfl RU.six
 ·rw [if_neg h6, pat_eq, if_neg h6]
end Go.Proofs.YtpndmanbfleadaaGreatDoor
end
section
namespace Go.Proofs.YtpndmanbfleadaaGreatDoor
open Go.Awp Go.Tx
set_option maxRecDepth 20000
theorem nil_fit (B : Nat) : Tag.nil.Fit B := .mk (Nat.zero_le _) (Nat.zero_le _) (fun s hs => by cases hs) (Nat.zero_le _) fun p hp => by cases hp
theorem six_fit (B : Nat) : (Tag.mk 6 0 mt [] []).Fit B := .mk (Nat.zero_le _) (Nat.zero_le _) (fun s hs => by cases hs) (Nat.zero_le _) fun p hp => by cases hp
theorem small_big {t : Tag} (h : t.Fit small) : t.Fit big := Tag.Fit.mono (by decide) t h
theorem ixl (ns : List ByteArray) (hl : ns.length ≤ big) (s : ByteArray) : ∀ (m k : Nat), ns.length - k = m →
  n_58l2 (ns, s, (ns.length : Int), (k : Int), ()) = some (match ix s (ns.drop k) with | some i => .inl (((k + i : Nat) : Int), ()) | none => .inr ()) ∧
  ∀ t : Tag, t.names = ns → n_56l7 (s, (k : Int), t, ()) = some (match ix s (ns.drop k) with | some i => .inl (((k + i : Nat) : Int), ()) | none => .inr ()) := by
 intro m
 induction m with
 | zero =>
  intro k hk
  have hlt : ¬ k < ns.length := by omega
  refine ⟨?_, fun t ht => ?_⟩
  ·rw [n_58l2, (at_end hlt).1]
   simp only [sW, hlt, ix]
  ·subst ht
   rw [n_56l7, (at_end hlt).1]
   simp only [sW, hlt, ix]
 | succ m ih =>
  intro k hk
  have hlt : k < ns.length := by omega
  obtain ⟨p, hp1, hm, hd, g1, g2⟩ := at_lt hlt
  obtain ⟨i1, i2⟩ := ih (k + 1) (by omega)
  rw [hd]
  by_cases e : p = s
  ·subst e
   have hx : ix p (p :: ns.drop (k + 1)) = some 0 := by unfold ix; rw [if_pos rfl]
   rw [hx]
   refine ⟨?_, fun t ht => ?_⟩
   ·rw [n_58l2]
    simp only [sW, g1, g2, hlt, hp1, Nat.add_zero]
   ·subst ht
    rw [n_56l7]
    simp only [sW, g1, g2, hlt, hp1, Nat.add_zero]
  ·have e1 : ¬ (s.toList = p.toList) := fun h => e (tl_eq.1 h).symm
   have e2 : ¬ (p.toList = s.toList) := fun h => e (tl_eq.1 h)
   have hx : ix s (p :: ns.drop (k + 1)) = (ix s (ns.drop (k + 1))).map (· + 1) := by rw [ix, if_neg e]
   have hy : (match ix s (p :: ns.drop (k + 1)) with | some i => (.inl (((k + i : Nat) : Int), ()) : (Int × Unit) ⊕ Unit) | none => .inr ()) = match ix s (ns.drop (k + 1)) with | some i => .inl (((k + 1 + i : Nat) : Int), ()) | none => .inr () := by
    rw [hx]
    cases ix s (ns.drop (k + 1)) with
    | none => rfl
    | some j => simp only [Option.map_some]; congr 3; omega
   rw [hy]
   refine ⟨?_, fun t ht => ?_⟩
   ·rw [n_58l2]
    simp only [sW, g1, g2, hlt, hp1, e1, wrap_succ hlt hl]
    exact i1
   ·subst ht
    rw [n_56l7]
    simp only [sW, g1, g2, hlt, hp1, e2, wrap_succ hlt hl]
    exact i2 t rfl
theorem ix58 (ns : List ByteArray) (hl : ns.length ≤ big) (s : ByteArray) : n_58 (ns, s, ()) = some (match ix s ns with | some i => (i : Int) | none => -1, ()) := by
 have h := (ixl ns hl s _ 0 rfl).1
 simp only [Int.natCast_zero, Int.ofNat_eq_natCast, List.drop_zero, Nat.zero_add] at h
 unfold n_58
 simp only [h]
 cases ix s ns <;> rfl
theorem ix56 (t : Tag) (h6 : t.kind = 6) (hl : t.names.length ≤ big) (s : ByteArray) : n_56 (t, s, ()) = some (match ix s t.names with | some i => (i : Int) | none => -1, ()) := by
 have h := (ixl t.names hl s _ 0 rfl).2 t rfl
 simp only [Int.natCast_zero, Int.ofNat_eq_natCast, List.drop_zero, Nat.zero_add] at h
 unfold n_56
 simp only [h6, h]
 cases ix s t.names <;> rfl
theorem ty25 : Tryz.prog.types[(25 : Nat)].size = 5 := by kernel_rfl
theorem ty9 : Tryz.prog.types[(9 : Nat)].size = 1 := by kernel_rfl
theorem allS_some {α : Type} : ∀ l : List α, allS (l.map some) = some l
 | [] => rfl
 | x :: r => by simp [allS, allS_some r]
theorem allS_put {α : Type} (xs : List α) (k : Nat) (y : α) : allS (((xs.map some).set k none).set k (some y)) = some (xs.set k y) := by
 rw [List.set_set, ← List.map_set, allS_some]
theorem out_get {α : Type} (xs : List α) (k : Nat) (h : k < xs.length) : ((xs.map some).set k none)[k]? = some none := by
 rw [List.getElem?_set]
 simp [h]
theorem f40 (x : Tag) (h6 : x.kind = 6) (hp : x.parts.length ≤ small) (k : Nat) (hk : k < x.parts.length) (hn : k < x.names.length) : n_40sf890 (6, x.n, x.text, (k : Int), x.names, x.parts, ()) = some (6, x.n, x.text, x.names.eraseIdx k, x.parts.eraseIdx k, ()) := by
 have hsm : small = 4294967296 := rfl
 have hw : IntKind.i64.wrap ((k : Int) + 1) = (k : Int) + 1 := wrap64 (by omega) (by omega)
 unfold n_40sf890 n_61s434c n_62s58ed
 simp [h6, hw, hk, hn]
theorem f41 (t : Tag) (h6 : t.kind = 6) (s : ByteArray) (k : Nat) (hd : n_56 (t, s, ()) = some ((k : Int), ())) (hl : t.names.length = t.parts.length) (hk : k < t.parts.length) (hs : t.parts.length ≤ small) :
  n_41 (t, [s], ()) = some (true, Tag.mk t.kind t.n t.text (t.names.eraseIdx k) (t.parts.eraseIdx k), ()) := by
 have hsm : small = 4294967296 := rfl
 have hn1 : t.names.length ≤ 4294967296 := by omega
 have hp1 : t.parts.length ≤ 4294967296 := by omega
 have hw : IntKind.i64.wrap ((k : Int) + 1) = (k : Int) + 1 := wrap64 (by omega) (by omega)
 have hw2 : ((k : Int) + 1).toNat = k + 1 := by omega
 rw [n_41]
 have e1 : ¬ (k : Int) < 0 := by omega
 have e2 : 0 < t.parts.length := by omega
 have e3 : (k : Int) ≤ (t.parts.length : Int) := by omega
 have e4 : (0 : Int) ≤ (k : Int) + 1 := by omega
 have e5 : (k : Int) + 1 ≤ (t.parts.length : Int) := by omega
 have e6 : k ≤ k + 1 := by omega
 have e6' : (k : Int) ≤ max ((k : Int) + 1) 0 := by omega
 have e7 : k + 1 ≤ t.parts.length := by omega
 have e8 : 0 < t.names.length := by omega
 have e9 : (k : Int) ≤ (t.names.length : Int) := by omega
 have e10 : (k : Int) + 1 ≤ (t.names.length : Int) := by omega
 have e11 : k + 1 ≤ t.names.length := by omega
 simp [hd, hn1, hp1, ty25, ty9, hw, hw2, e1, e2, e3, e4, e5, e6, e6', e7, e8, e9, e10, e11, h6, hk, List.eraseIdx_eq_take_drop_succ]
 try omega
theorem f34 (t : Tag) (h6 : t.kind = 6) (s : ByteArray) (u : Tag) (hl : t.names.length = t.parts.length) (hs : t.parts.length < small) :
  n_34 (t, [s], u, ()) = some (true, match ix s t.names with | some k => Tag.mk t.kind t.n t.text t.names (t.parts.set k u) | none => Tag.mk t.kind t.n t.text (t.names ++ [s]) (t.parts ++ [u]), ()) := by
 have hsm : small = 4294967296 := rfl
 have hn1 : t.names.length ≤ 4294967296 := by omega
 have hp1 : t.parts.length ≤ 4294967296 := by omega
 have hn3 : t.names.length ≤ 4294967295 := by omega
 have hp3 : t.parts.length ≤ 4294967295 := by omega
 have hbig : big = 9223372036854775807 := rfl
 have hd := ix56 t h6 (by omega) s
 have hend : ∀ q : Tag, n_34 (q, [], u, ()) = some (true, u, ()) := fun q => by rw [n_34]; simp
 rw [n_34]
 simp only [eta, List.nil_append]
 cases hq : ix s t.names with
 | some k =>
  have hk := (List.getElem?_eq_some_iff.1 (ix_get hq)).1
  have hkp : k < t.parts.length := by omega
  rw [hq] at hd
  have e1 : (0 : Int) ≤ (k : Int) := by omega
  simp [hd, hn1, hp1, hkp, hend, eta]
 | none =>
  rw [hq] at hd
  simp [hd, hn1, hp1, h6, hn3, hp3]
end Go.Proofs.YtpndmanbfleadaaGreatDoor
end
section
namespace Go.Proofs.YtpndmanbfleadaaGreatDoor
open Go.Awp Go.Tx
set_option maxRecDepth 20000
theorem bulkL_len : ∀ ps : List Tag, ps.length ≤ bulkL ps
 | [] => Nat.zero_le _
 | p :: ps => by
  have := bulkL_len ps
  have h1 := bulk_mk p
  rw [bulkL, List.length_cons]; omega
theorem sum_mem {ns : List ByteArray} {s : ByteArray} (h : s ∈ ns) : s.size ≤ (ns.map ByteArray.size).sum := by
 induction ns with
 | nil => cases h
 | cons a r ih =>
  rw [List.map_cons, List.sum_cons]
  rcases List.mem_cons.1 h with rfl | h
  ·omega
  ·have := ih h; omega
theorem fit_bulk : ∀ t : Tag, t.Right → t.Fit t.bulk := by
 refine Tag.ind fun t ih hr => ?_
 have hb := bulk_mk t
 have hl := bulkL_len t.parts
 refine .mk (by omega) ?_ (fun s hs => by have := sum_mem hs; omega) (by omega) fun p hp => Tag.Fit.mono (by have := bulkL_mem hp; omega) p (ih p hp (hr.part hp))
 by_cases h6 : t.kind = 6
 ·rw [hr.len h6]; omega
 ·rw [hr.none h6]; simp
structure Pok (p : Tag) (c : Nat) (t : Tag) : Prop where
 js : n_37s5af7 (t.kind, t.n, t.text, p.kind, p.n, p.text, t.names, t.parts, p.names, p.parts, ()) = some ((pat p t).kind, (pat p t).n, (pat p t).text, (pat p t).names, (pat p t).parts, ())
 rf : n_38 (t, p, ()) = some (pat p t, ())
 fit : (pat p t).Fit (c + p.bulk)
 right : (pat p t).Right
theorem nil_right : Tag.nil.Right := .mk (fun _ => rfl) (fun h => (by cases h)) fun p hp => (by cases hp)
theorem stp_fit {p : Tag} {c : Nat} (hp : ∀ x : Tag, x.Right → x.Fit c → (pat p x).Fit (c + p.bulk) ∧ (pat p x).Right) {s : ByteArray} {t : Tag} (h6 : t.kind = 6) (hr : t.Right) (ht : t.Fit c) :
  (stp p (pat p) s t).Fit (c + s.size + p.bulk) ∧ (stp p (pat p) s t).Right := by
 have hl := hr.len h6
 have hpb := bulk_mk p
 have up : ∀ x : Tag, x.Fit c → x.Fit (c + s.size + p.bulk) := fun x h => Tag.Fit.mono (by omega) x h
 have up2 : ∀ x : Tag, x.Fit (c + p.bulk) → x.Fit (c + s.size + p.bulk) := fun x h => Tag.Fit.mono (by omega) x h
 have t1 := ht.text
 have t2 := ht.names
 have t3 := ht.parts
 unfold stp
 split
 ·rename_i k hk
  have hkl := (List.getElem?_eq_some_iff.1 (ix_get hk)).1
  split
  ·have l1 := (List.eraseIdx_sublist t.names k).length_le
   have l2 := (List.eraseIdx_sublist t.parts k).length_le
   refine ⟨.mk (by simp only; omega) (by simp only; omega) (fun a ha => ?_) (by simp only; omega) fun q hq => up q (ht.part ((List.eraseIdx_sublist _ _).subset hq)), .mk (fun h => absurd h6 h) (fun _ => ?_) fun q hq => hr.part ((List.eraseIdx_sublist _ _).subset hq)⟩
   ·have := ht.name ((List.eraseIdx_sublist t.names k).subset ha); omega
   ·show (t.names.eraseIdx k).length = (t.parts.eraseIdx k).length
    rw [List.length_eraseIdx, List.length_eraseIdx, hl]
  ·split
   ·rename_i q hq
    obtain ⟨q1, q2⟩ := hp q (hr.part (List.mem_of_getElem? hq)) (ht.part (List.mem_of_getElem? hq))
    refine ⟨.mk (by simp only; omega) (by simp only; omega) (fun a ha => ?_) (by simp only [List.length_set]; omega) fun x hx => ?_, .mk (fun h => absurd h6 h) (fun _ => by simp only [List.length_set]; exact hl) fun x hx => ?_⟩
    ·have := ht.name ha; omega
    ·rcases List.mem_or_eq_of_mem_set hx with h | h
     ·exact up x (ht.part h)
     ·rw [h]; exact up2 _ q1
    ·rcases List.mem_or_eq_of_mem_set hx with h | h
     ·exact hr.part h
     ·rw [h]; exact q2
   ·exact ⟨up t ht, hr⟩
 ·split
  ·exact ⟨up t ht, hr⟩
  ·obtain ⟨q1, q2⟩ := hp Tag.nil nil_right (nil_fit c)
   refine ⟨.mk (by simp only; omega) (by simp only [List.length_append, List.length_singleton]; omega) (fun a ha => ?_) (by simp only [List.length_append, List.length_singleton]; omega) fun x hx => ?_, .mk (fun h => absurd h6 h) (fun _ => by simp only [List.length_append, List.length_singleton, hl]) fun x hx => ?_⟩
   ·rcases List.mem_append.1 ha with h | h
    ·have := ht.name h; omega
    ·rw [List.mem_singleton.1 h]; omega
   ·rcases List.mem_append.1 hx with h | h
    ·exact up x (ht.part h)
    ·rw [List.mem_singleton.1 h]; exact up2 _ q1
   ·rcases List.mem_append.1 hx with h | h
    ·exact hr.part h
    ·rw [List.mem_singleton.1 h]; exact q2
abbrev outs (ps : List Tag) (i : Nat) : List (Option Tag) := List.replicate i none ++ (ps.drop i).map some
theorem outs_len (ps : List Tag) (i : Nat) (h : i ≤ ps.length) : (outs ps i).length = ps.length := by
 simp only [outs, List.length_append, List.length_replicate, List.length_map, List.length_drop]; omega
theorem outs_get (ps : List Tag) (i : Nat) {p : Tag} (h : ps[i]? = some p) : (outs ps i)[i]? = some (some p) := by
 have hd : ps.drop i = p :: ps.drop (i + 1) := by
  obtain ⟨h1, h2⟩ := List.getElem?_eq_some_iff.1 h
  rw [List.drop_eq_getElem_cons h1, h2]
 simp only [outs, hd, List.map_cons]
 rw [List.getElem?_append_right (by simp)]
 simp
theorem outs_set (ps : List Tag) (i : Nat) {p : Tag} (h : ps[i]? = some p) : (outs ps i).set i none = outs ps (i + 1) := by
 have hd : ps.drop i = p :: ps.drop (i + 1) := by
  obtain ⟨h1, h2⟩ := List.getElem?_eq_some_iff.1 h
  rw [List.drop_eq_getElem_cons h1, h2]
 simp only [outs, hd, List.map_cons]
 rw [List.set_append_right _ _ (by simp)]
 simp [List.replicate_succ']
theorem step_js (b : Tag) (z t : Tag) (i : Nat) (p : Tag) (s : ByteArray) (c : Nat) (hi : i < b.names.length) (hlb : b.names.length = b.parts.length) (hb : b.names.length ≤ small) (hs : b.names[i]? = some s) (hp : b.parts[i]? = some p)
  (h6 : t.kind = 6) (hr : t.Right) (ht : t.Fit c) (hc : c < small) (hpok : ∀ x : Tag, x.Right → x.Fit c → Pok p c x) :
  n_37s5af7l6 ((b.names.length : Int), (i : Int), t.kind, t.n, t.text, b.kind, b.n, b.text, z, b.names, t.names, t.parts, outs b.parts i, ()) =
  n_37s5af7l6 ((b.names.length : Int), ((i + 1 : Nat) : Int), (stp p (pat p) s t).kind, (stp p (pat p) s t).n, (stp p (pat p) s t).text, b.kind, b.n, b.text, z, b.names, (stp p (pat p) s t).names, (stp p (pat p) s t).parts, outs b.parts (i + 1), ()) := by
 have hsm : small = 4294967296 := rfl
 have hbig : big = 9223372036854775807 := rfl
 have hl := hr.len h6
 have t2 := ht.names
 have t3 := ht.parts
 have hn1 : t.names.length + 1 ≤ 4294967296 := by omega
 have hp1 : t.parts.length + 1 ≤ 4294967296 := by omega
 have hix := ix58 t.names (by omega) s
 have hol : (outs b.parts i).length = b.names.length := by rw [outs_len _ _ (by omega), hlb]
 have hog := outs_get b.parts i hp
 have hos := outs_set b.parts i hp
 have g1 : (i : Int) < (b.names.length : Int) := by omega
 have g2 : (0 : Int) ≤ (i : Int) := by omega
 rw [n_37s5af7l6]
 generalize outs b.parts i = oi at hol hog hos ⊢
 generalize outs b.parts (i + 1) = oj at hos ⊢
 unfold stp
 cases hq : ix s t.names with
 | none =>
  rw [hq] at hix
  by_cases h0 : p.kind = 0
  ·simp only [sW, g1, g2, hi, hs, hix, hol, hog, h0, hos, wrap_succ hi (show b.names.length ≤ 9223372036854775807 by omega), show ¬ ((-1 : Int) ≥ 0) by decide, decide_false, and_self]
  ·have hpk := (hpok Tag.nil nil_right (nil_fit c)).js
   simp only [sW, g1, g2, hi, hs, hix, hol, hog, h0, hos, wrap_succ hi (show b.names.length ≤ 9223372036854775807 by omega), show ¬ ((-1 : Int) ≥ 0) by decide, decide_false, and_self, List.length_singleton, hn1, hp1, hpk, eta]
 | some k =>
  have hk := (List.getElem?_eq_some_iff.1 (ix_get hq)).1
  have hkp : k < t.parts.length := by omega
  have k0 : (k : Int) ≥ 0 := by omega
  have k0' : (0 : Int) ≤ (k : Int) := by omega
  have k1 : (k : Int) < (t.parts.length : Int) := by omega
  rw [hq] at hix
  by_cases h0 : p.kind = 0
  ·have h40 := f40 t h6 (by omega) k hkp hk
   simp only [sW, g1, g2, hi, hs, hix, hol, hog, h0, hos, h6, h40, k0, wrap_succ hi (show b.names.length ≤ 9223372036854775807 by omega), decide_true, and_self]
  ·have hg : t.parts[k]? = some t.parts[k] := List.getElem?_eq_getElem hkp
   have hm : t.parts[k] ∈ t.parts := List.getElem_mem hkp
   have hpk := (hpok _ (hr.part hm) (ht.part hm)).js
   have ho := out_get t.parts k hkp
   have ho2 : ((t.parts.map some).set k none).length = t.parts.length := by simp
   simp only [sW, g1, g2, hi, hs, hix, hol, hog, h0, hos, k0, k0', k1, hg, hkp, hpk, ho, ho2, allS_put, eta, wrap_succ hi (show b.names.length ≤ 9223372036854775807 by omega), decide_true, decide_false, and_self]
end Go.Proofs.YtpndmanbfleadaaGreatDoor
end
section
namespace Go.Proofs.YtpndmanbfleadaaGreatDoor
open Go.Awp Go.Tx
set_option maxRecDepth 20000
theorem step_rf (b : Tag) (z t : Tag) (i : Nat) (p : Tag) (s : ByteArray) (c : Nat) (hi : i < b.names.length) (hb : b.names.length ≤ small) (hs : b.names[i]? = some s) (hp : b.parts[i]? = some p)
  (h6 : t.kind = 6) (hr : t.Right) (ht : t.Fit c) (hc : c < small) (hpok : ∀ x : Tag, x.Right → x.Fit c → Pok p c x) :
  n_38l6 ((i : Int), t, b, z, ()) = n_38l6 (((i + 1 : Nat) : Int), stp p (pat p) s t, b, z, ()) := by
 have hsm : small = 4294967296 := rfl
 have hbig : big = 9223372036854775807 := rfl
 have hl := hr.len h6
 have t2 := ht.names
 have t3 := ht.parts
 have hix := ix56 t h6 (by omega) s
 have g1 : (i : Int) < (b.names.length : Int) := by omega
 have g2 : (0 : Int) ≤ (i : Int) := by omega
 have g3 : (i : Int) ≤ ((i + 1 : Nat) : Int) := by omega
 have g4 : ((i + 1 : Nat) : Int) ≤ (b.names.length : Int) := by omega
 have hw := wrap_succ hi (show b.names.length ≤ 9223372036854775807 by omega)
 have hdr : List.drop i (List.take (i + 1) b.names) = [s] := by
  rw [List.take_add_one, hs, Option.toList_some, List.drop_left' (by simp; omega)]
 rw [n_38l6]
 cases hq : ix s t.names with
 | none =>
  rw [hq] at hix
  have hst : stp p (pat p) s t = if p.kind = 0 then t else Tag.mk t.kind t.n t.text (t.names ++ [s]) (t.parts ++ [pat p Tag.nil]) := by
   unfold stp; simp only [hq]
  rw [hst]
  by_cases h0 : p.kind = 0
  ·simp only [sW, g1, g2, hi, hs, hix, hp, h0, hw, show ¬ ((-1 : Int) ≥ 0) by decide, decide_false, and_self, if_true]
  ·have hpk := (hpok Tag.nil nil_right (nil_fit c)).rf
   have h34 := f34 t h6 s (pat p Tag.nil) hl (by omega)
   rw [hq] at h34
   simp only [sW, g1, g2, g3, g4, hi, hs, hix, hp, h0, hw, hdr, hpk, h34, show ¬ ((-1 : Int) ≥ 0) by decide, decide_false, and_self, if_false]
 | some k =>
  have hk := (List.getElem?_eq_some_iff.1 (ix_get hq)).1
  have hkp : k < t.parts.length := by omega
  have k0 : (k : Int) ≥ 0 := by omega
  have k0' : (0 : Int) ≤ (k : Int) := by omega
  rw [hq] at hix
  have hg : t.parts[k]? = some t.parts[k] := List.getElem?_eq_getElem hkp
  have hst : stp p (pat p) s t = if p.kind = 0 then Tag.mk t.kind t.n t.text (t.names.eraseIdx k) (t.parts.eraseIdx k) else Tag.mk t.kind t.n t.text t.names (t.parts.set k (pat p t.parts[k])) := by
   unfold stp; simp only [hq, hg]
  rw [hst]
  by_cases h0 : p.kind = 0
  ·have h41 := f41 t h6 s k hix hl hkp (by omega)
   simp only [sW, g1, g2, g3, g4, hi, hs, hix, hp, h0, hw, hdr, h41, k0, decide_true, and_self, if_true]
  ·have hm : t.parts[k] ∈ t.parts := List.getElem_mem hkp
   have hpk := (hpok _ (hr.part hm) (ht.part hm)).rf
   have h34 := f34 t h6 s (pat p t.parts[k]) hl (by omega)
   rw [hq] at h34
   simp only [sW, g1, g2, g3, g4, hi, hs, hix, hp, h0, hw, hdr, hg, hpk, h34, k0, k0', decide_true, and_self, if_false]
def left (b : Tag) (i : Nat) : Nat := ((b.names.drop i).map ByteArray.size).sum + bulkL (b.parts.drop i)
theorem loops (b z : Tag) (hlb : b.names.length = b.parts.length) (hb : b.names.length ≤ small) (hpok : ∀ p ∈ b.parts, ∀ (c : Nat) (x : Tag), x.Right → x.Fit c → c + p.bulk < small → Pok p c x) : ∀ (m i : Nat) (t : Tag) (c : Nat), b.names.length - i = m →
  t.kind = 6 → t.Right → t.Fit c → c + left b i < small →
  n_37s5af7l6 ((b.names.length : Int), (i : Int), t.kind, t.n, t.text, b.kind, b.n, b.text, z, b.names, t.names, t.parts, outs b.parts i, ()) =
   some ((patL (b.parts.drop i) (b.names.drop i) t).kind, (patL (b.parts.drop i) (b.names.drop i) t).n, (patL (b.parts.drop i) (b.names.drop i) t).text, z, (patL (b.parts.drop i) (b.names.drop i) t).names, (patL (b.parts.drop i) (b.names.drop i) t).parts, ()) ∧
  n_38l6 ((i : Int), t, b, z, ()) = some (patL (b.parts.drop i) (b.names.drop i) t, z, ()) ∧
  (patL (b.parts.drop i) (b.names.drop i) t).Fit (c + left b i) ∧ (patL (b.parts.drop i) (b.names.drop i) t).Right := by
 intro m
 induction m with
 | zero =>
  intro i t c hk h6 hr ht hc
  have hlt : ¬ i < b.names.length := by omega
  have hlt2 : ¬ i < b.parts.length := by omega
  have hpe : patL (b.parts.drop i) (b.names.drop i) t = t := by
   rw [(at_end hlt2).1, patL]; simp
  rw [hpe]
  refine ⟨?_, ?_, Tag.Fit.mono (Nat.le_add_right _ _) t ht, hr⟩
  ·rw [n_37s5af7l6]
   simp only [sW, hlt]
  ·rw [n_38l6]
   simp only [sW, hlt]
 | succ m ih =>
  intro i t c hk h6 hr ht hc
  have hlt : i < b.names.length := by omega
  have hlt2 : i < b.parts.length := by omega
  obtain ⟨s, hs, hsm, hds, _, _⟩ := at_lt hlt
  obtain ⟨p, hp, hpm, hdp, _, _⟩ := at_lt hlt2
  have hleft : left b i = s.size + p.bulk + left b (i + 1) := by
   unfold left
   rw [hds, hdp, List.map_cons, List.sum_cons, bulkL]; omega
  have hok : ∀ x : Tag, x.Right → x.Fit c → Pok p c x := fun x h1 h2 => hpok p hpm c x h1 h2 (by omega)
  have hcs : c < small := by omega
  obtain ⟨f1, f2⟩ := stp_fit (p := p) (fun x h1 h2 => ⟨(hok x h1 h2).fit, (hok x h1 h2).right⟩) (s := s) h6 hr ht
  obtain ⟨i1, i2, i3, i4⟩ := ih (i + 1) (stp p (pat p) s t) (c + s.size + p.bulk) (by omega) (stp_kind.trans h6) f2 f1 (by omega)
  have hpe : patL (b.parts.drop i) (b.names.drop i) t = patL (b.parts.drop (i + 1)) (b.names.drop (i + 1)) (stp p (pat p) s t) := by rw [hds, hdp, patL]
  rw [hpe]
  refine ⟨?_, ?_, ?_, i4⟩
  ·rw [step_js b z t i p s c hlt hlb hb hs hp h6 hr ht hcs hok]; exact i1
  ·rw [step_rf b z t i p s c hlt hb hs hp h6 hr ht hcs hok]; exact i2
  ·rw [hleft, show c + (s.size + p.bulk + left b (i + 1)) = c + s.size + p.bulk + left b (i + 1) by omega]; exact i3
theorem pok : ∀ b : Tag, b.Right → ∀ (c : Nat) (t : Tag), t.Right → t.Fit c → c + b.bulk < small → Pok b c t := by
 refine Tag.ind fun b ih hb c t hr ht hc => ?_
 have hbk := bulk_mk b
 by_cases h6 : b.kind = 6
 ·have hl := hb.len h6
  have hpl := bulkL_len b.parts
  have hlz : left b 0 ≤ b.bulk := by unfold left; rw [List.drop_zero, List.drop_zero]; omega
  have main : ∀ t0 : Tag, t0.kind = 6 → t0.Right → t0.Fit c → _ := fun t0 k1 k2 k3 => loops b Tag.nil hl (by omega) (fun p hp c x h1 h2 h3 => ih p hp (hb.part hp) c x h1 h2 h3) _ 0 t0 c rfl k1 k2 k3 (by omega)
  have ho : outs b.parts 0 = b.parts.map some := by simp [outs]
  have hps := pat_eq b t
  rw [if_pos h6] at hps
  by_cases k6 : t.kind = 6
  ·rw [if_pos k6] at hps
   obtain ⟨m1, m2, m3, m4⟩ := main t k6 hr ht
   rw [ho] at m1
   simp only [Int.natCast_zero, Int.ofNat_eq_natCast, List.drop_zero] at m1 m2 m3 m4
   rw [← hps] at m1 m2 m3 m4
   rw [h6] at m1
   refine ⟨?_, ?_, Tag.Fit.mono (by omega) _ m3, m4⟩
   ·rw [n_37s5af7]
    rw [k6] at m1 ⊢
    simp only [h6, sW, bne_self_eq_false, m1]
   ·rw [n_38]
    simp only [h6, k6, sW, bne_self_eq_false, m2]
  ·rw [if_neg k6] at hps
   obtain ⟨m1, m2, m3, m4⟩ := main (Tag.mk 6 0 mt [] []) rfl RU.six.r (six_fit c)
   rw [ho] at m1
   simp only [Int.natCast_zero, Int.ofNat_eq_natCast, List.drop_zero] at m1 m2 m3 m4
   rw [← hps] at m1 m2 m3 m4
   rw [h6] at m1
   have kb : (t.kind != 6) = true := by simpa using k6
   refine ⟨?_, ?_, Tag.Fit.mono (by omega) _ m3, m4⟩
   ·rw [n_37s5af7]
    simp only [h6, kb, sW, bne_self_eq_false, m1]
   ·rw [n_38]
    simp only [h6, kb, sW, bne_self_eq_false, m2]
 ·have hps := pat_eq b t
  rw [if_neg h6] at hps
  have kb : (b.kind != 6) = true := by simpa using h6
  refine ⟨?_, ?_, ?_, ?_⟩
  ·rw [hps, n_37s5af7]
   simp only [kb, sW]
  ·rw [hps, n_38]
   simp only [kb, sW]
  ·rw [hps]; exact Tag.Fit.mono (by omega) b (fit_bulk b hb)
  ·rw [hps]; exact hb
end Go.Proofs.YtpndmanbfleadaaGreatDoor
end
section
namespace Go.Proofs.YtpndmanbfleadaaGreatDoor
open Go.Awp Go.Tx
open IntKind (i32)
open IntKind (i64)
set_option maxRecDepth 100000
def Le {α : Type} (x y : Option α) : Prop := ∀ a, x = some a → y = some a
theorem Le.refl {α : Type} (x : Option α) : Le x x := fun _ h => h
theorem Le.none {α : Type} (x : Option α) : Le none x := fun _ h => by cases h
theorem Le.bind {α β : Type} {x y : Option α} {f g : α → Option β} (h : Le x y) (h2 : ∀ a, Le (f a) (g a)) : Le (x >>= f) (y >>= g) := fun b hb => by
 cases x with
 | none => cases hb
 | some a => rw [h a rfl]; exact h2 a b hb
theorem Le.ite {α : Type} {c : Prop} {d : Decidable c} {x y z w : Option α} (h : Le x y) (h2 : Le z w) : Le (@ite _ c d x z) (@ite _ c d y w) := by
 cases d with
 | isTrue h3 => exact h
 | isFalse h3 => exact h2
theorem Le.both {α : Type} {x y z w : Option α} (h : Le x y) (h2 : Le z w) : Le (both x z) (both y w) := fun a ha => by
 obtain ⟨h3, h4⟩ := both_some ha
 exact both_mk (h a h3) (h2 a h4)
noncomputable def m_100s52d8 (k : Nat) (v : ByteArray × Bool × (List Int) × Unit) : Option (Int × Bool × (List Int) × Unit) :=
 n_120s8e4d (v.2.1, v.2.2.1, ()) >>= fun x1 =>
 if x1.2.1.length + v.1.size ≤ (4294967296 : Nat) then
  some (((↑v.1.size : Int), x1.1, x1.2.1 ++ Bs.ints v.1, ()))
 else none
theorem m_100s52d8_le (k : Nat) (v : ByteArray × Bool × (List Int) × Unit) : Le (m_100s52d8 k v) (n_100s52d8 v) := by
 unfold m_100s52d8 n_100s52d8
 with_reducible repeat' first | exact Le.refl _ | exact Le.none _ | apply Le.bind | apply Le.ite | apply Le.both | with_unfolding_all assumption | intro x
noncomputable def m_75 (k : Nat) (v : ByteArray × Unit) : Option (Bool × Unit) :=
 n_76 (v.1, ()) >>= fun x1 =>
 some ((!x1.1, ()))
theorem m_75_le (k : Nat) (v : ByteArray × Unit) : Le (m_75 k v) (n_75 v) := by
 unfold m_75 n_75
 with_reducible repeat' first | exact Le.refl _ | exact Le.none _ | apply Le.bind | apply Le.ite | apply Le.both | with_unfolding_all assumption | intro x
noncomputable def m_103c75l2 : Nat → (List ByteArray) × Int × Int × Unit → Option (((Int × Unit) ⊕ (Unit)))
 | 0, _ => none
 | k + 1, v =>
  if decide (v.2.2.1 < v.2.1) = true then
   if (0 : Int) ≤ v.2.2.1 then
    v.1[v.2.2.1.toNat]? >>= fun x1 =>
    m_75 k (x1, ()) >>= fun x2 =>
    if x2.1 = true then
     some (Sum.inl (v.2.2.1, ()))
    else m_103c75l2 k (v.1, v.2.1, i64.wrap (v.2.2.1 + (1 : Int)), ())
   else none
  else some (Sum.inr ())
theorem m_103c75l2_le : ∀ k v, Le (m_103c75l2 k v) (n_103c75l2 v)
 | 0, _ => Le.none _
 | k + 1, v => by
  rw [m_103c75l2, n_103c75l2]
  with_reducible repeat' first | exact Le.refl _ | exact Le.none _ | exact m_75_le _ _ | exact m_103c75l2_le _ _ | apply Le.bind | apply Le.ite | apply Le.both | with_unfolding_all assumption | intro x
noncomputable def m_103c75 (k : Nat) (v : (List ByteArray) × Unit) : Option (Int × Unit) :=
 m_103c75l2 k (v.1, (↑v.1.length : Int), (0 : Int), ()) >>= fun x1 => match x1 with
  | .inl y1 => some y1
  | .inr y1 => some (((-1 : Int), ()))
theorem m_103c75_le (k : Nat) (v : (List ByteArray) × Unit) : Le (m_103c75 k v) (n_103c75 v) := by
 unfold m_103c75 n_103c75
 with_reducible repeat' first | exact Le.refl _ | exact Le.none _ | exact m_103c75l2_le _ _ | apply Le.bind | apply Le.ite | apply Le.both | (rintro (x | x) <;> dsimp only) | with_unfolding_all assumption | intro x
noncomputable def m_52l3 : Nat → (List ByteArray) × Int × Int × Tag × (List (ByteArray × Bool)) × Unit → Option (((Bool × Unit) ⊕ (Tag × Unit)))
 | 0, _ => none
 | k + 1, v =>
  if decide (v.2.2.1 < v.2.1) = true then
   if (0 : Int) ≤ v.2.2.1 then
    v.1[v.2.2.1.toNat]? >>= fun x1 =>
    if (Mp.get Mp.seq x1 v.2.2.2.2.1).getD false = true then
     some (Sum.inl (true, ()))
    else m_52l3 k (v.1, v.2.1, i64.wrap (v.2.2.1 + (1 : Int)), v.2.2.2.1, Mp.set Mp.seq Mp.slt x1 true v.2.2.2.2.1, ())
   else none
  else some (Sum.inr (v.2.2.2.1, ()))
theorem m_52l3_le : ∀ k v, Le (m_52l3 k v) (n_52l3 v)
 | 0, _ => Le.none _
 | k + 1, v => by
  rw [m_52l3, n_52l3]
  with_reducible repeat' first | exact Le.refl _ | exact Le.none _ | exact m_52l3_le _ _ | apply Le.bind | apply Le.ite | apply Le.both | with_unfolding_all assumption | intro x
mutual
noncomputable def m_104c52l2 : Nat → (List Tag) × Int × Int × Unit → Option (((Int × Unit) ⊕ (Unit)))
 | 0, _ => none
 | k + 1, v =>
  if decide (v.2.2.1 < v.2.1) = true then
   if (0 : Int) ≤ v.2.2.1 then
    v.1[v.2.2.1.toNat]? >>= fun x1 =>
    m_52 k (x1, ()) >>= fun x2 =>
    if x2.1 = true then
     some (Sum.inl (v.2.2.1, ()))
    else m_104c52l2 k (v.1, v.2.1, i64.wrap (v.2.2.1 + (1 : Int)), ())
   else none
  else some (Sum.inr ())
noncomputable def m_52 : Nat → Tag × Unit → Option (Bool × Unit)
 | 0, _ => none
 | k + 1, v =>
  m_52l3 k (v.1.names, (↑v.1.names.length : Int), (0 : Int), v.1, [], ()) >>= fun x1 => match x1 with
   | .inl y1 => some y1
   | .inr y1 => m_78c52 k (y1.1.parts, ()) >>= fun x2 =>
    some ((x2.1, ()))
noncomputable def m_78c52 : Nat → (List Tag) × Unit → Option (Bool × Unit)
 | 0, _ => none
 | k + 1, v =>
  m_104c52 k (v.1, ()) >>= fun x1 =>
  some ((decide (x1.1 ≥ (0 : Int)), ()))
noncomputable def m_104c52 : Nat → (List Tag) × Unit → Option (Int × Unit)
 | 0, _ => none
 | k + 1, v =>
  m_104c52l2 k (v.1, (↑v.1.length : Int), (0 : Int), ()) >>= fun x1 => match x1 with
   | .inl y1 => some y1
   | .inr y1 => some (((-1 : Int), ()))
end
theorem m_104c52l2_st (k : Nat) (h_104c52l2 : ∀ v, Le (m_104c52l2 k v) (n_104c52l2 v)) (h_52 : ∀ v, Le (m_52 k v) (n_52 v)) (v : (List Tag) × Int × Int × Unit) : Le (m_104c52l2 (k + 1) v) (n_104c52l2 v) := by
 rw [m_104c52l2, n_104c52l2]
 with_reducible repeat' first | exact Le.refl _ | exact Le.none _ | exact h_104c52l2 _ | exact h_52 _ | apply Le.bind | apply Le.ite | apply Le.both | with_unfolding_all assumption | intro x
theorem m_52_st (k : Nat) (h_78c52 : ∀ v, Le (m_78c52 k v) (n_78c52 v)) (v : Tag × Unit) : Le (m_52 (k + 1) v) (n_52 v) := by
 rw [m_52, n_52]
 with_reducible repeat' first | exact Le.refl _ | exact Le.none _ | exact m_52l3_le _ _ | exact h_78c52 _ | apply Le.bind | apply Le.ite | apply Le.both | (rintro (x | x) <;> dsimp only) | with_unfolding_all assumption | intro x
theorem m_78c52_st (k : Nat) (h_104c52 : ∀ v, Le (m_104c52 k v) (n_104c52 v)) (v : (List Tag) × Unit) : Le (m_78c52 (k + 1) v) (n_78c52 v) := by
 rw [m_78c52, n_78c52]
 with_reducible repeat' first | exact Le.refl _ | exact Le.none _ | exact h_104c52 _ | apply Le.bind | apply Le.ite | apply Le.both | with_unfolding_all assumption | intro x
theorem m_104c52_st (k : Nat) (h_104c52l2 : ∀ v, Le (m_104c52l2 k v) (n_104c52l2 v)) (v : (List Tag) × Unit) : Le (m_104c52 (k + 1) v) (n_104c52 v) := by
 rw [m_104c52, n_104c52]
 with_reducible repeat' first | exact Le.refl _ | exact Le.none _ | exact h_104c52l2 _ | apply Le.bind | apply Le.ite | apply Le.both | (rintro (x | x) <;> dsimp only) | with_unfolding_all assumption | intro x
theorem m_104c52l2_all : ∀ k, (∀ v, Le (m_104c52l2 k v) (n_104c52l2 v)) ∧ (∀ v, Le (m_52 k v) (n_52 v)) ∧ (∀ v, Le (m_78c52 k v) (n_78c52 v)) ∧ (∀ v, Le (m_104c52 k v) (n_104c52 v))
 | 0 => ⟨fun _ => Le.none _, fun _ => Le.none _, fun _ => Le.none _, fun _ => Le.none _⟩
 | k + 1 => by
  have h := m_104c52l2_all k
  exact ⟨m_104c52l2_st k (h.1) (h.2.1), m_52_st k (h.2.2.1), m_78c52_st k (h.2.2.2), m_104c52_st k (h.1)⟩
theorem m_52_le (k : Nat) (v : Tag × Unit) : Le (m_52 k v) (n_52 v) := have h := m_104c52l2_all k; h.2.1 v
noncomputable def m_77c75 (k : Nat) (v : (List ByteArray) × Unit) : Option (Bool × Unit) :=
 m_103c75 k (v.1, ()) >>= fun x1 =>
 some ((decide (x1.1 ≥ (0 : Int)), ()))
theorem m_77c75_le (k : Nat) (v : (List ByteArray) × Unit) : Le (m_77c75 k v) (n_77c75 v) := by
 unfold m_77c75 n_77c75
 with_reducible repeat' first | exact Le.refl _ | exact Le.none _ | exact m_103c75_le _ _ | apply Le.bind | apply Le.ite | apply Le.both | with_unfolding_all assumption | intro x
mutual
noncomputable def m_104c79l2 : Nat → (List Tag) × Int × Int × Unit → Option (((Int × Unit) ⊕ (Unit)))
 | 0, _ => none
 | k + 1, v =>
  if decide (v.2.2.1 < v.2.1) = true then
   if (0 : Int) ≤ v.2.2.1 then
    v.1[v.2.2.1.toNat]? >>= fun x1 =>
    m_79 k (x1, ()) >>= fun x2 =>
    if x2.1 = true then
     some (Sum.inl (v.2.2.1, ()))
    else m_104c79l2 k (v.1, v.2.1, i64.wrap (v.2.2.1 + (1 : Int)), ())
   else none
  else some (Sum.inr ())
noncomputable def m_79 : Nat → Tag × Unit → Option (Bool × Unit)
 | 0, _ => none
 | k + 1, v =>
  m_51 k (v.1, ()) >>= fun x1 =>
  some ((!x1.1, ()))
noncomputable def m_51 : Nat → Tag × Unit → Option (Bool × Unit)
 | 0, _ => none
 | k + 1, v =>
  (if decide (v.1.kind < (0 : Int)) = true then
     some ((true, v.1, ()))
    else if decide (v.1.kind > (6 : Int)) = true then
     some ((true, v.1, ()))
    else if (v.1.kind != (3 : Int)) = true then
     if (v.1.n != (0 : Int)) = true then
      some ((true, v.1, ()))
     else if decide (v.1.n < (-9007199254740992 : Int)) = true then
      some ((true, v.1, ()))
     else if decide (v.1.n > (9007199254740992 : Int)) = true then
      some ((true, v.1, ()))
     else if (v.1.kind != (4 : Int)) = true then
      if (!v.1.text.toList == (ByteArray.mk #[]).toList) = true then
       some ((true, v.1, ()))
      else if decide (v.1.kind < (5 : Int)) = true then
       some ((decide ((↑v.1.parts.length : Int) > (0 : Int)), v.1, ()))
      else some ((false, v.1, ()))
     else if decide (v.1.kind < (5 : Int)) = true then
      some ((decide ((↑v.1.parts.length : Int) > (0 : Int)), v.1, ()))
     else some ((false, v.1, ()))
    else if decide (v.1.n < (-9007199254740992 : Int)) = true then
     some ((true, v.1, ()))
    else if decide (v.1.n > (9007199254740992 : Int)) = true then
     some ((true, v.1, ()))
    else if (v.1.kind != (4 : Int)) = true then
     if (!v.1.text.toList == (ByteArray.mk #[]).toList) = true then
      some ((true, v.1, ()))
     else if decide (v.1.kind < (5 : Int)) = true then
      some ((decide ((↑v.1.parts.length : Int) > (0 : Int)), v.1, ()))
     else some ((false, v.1, ()))
    else if decide (v.1.kind < (5 : Int)) = true then
     some ((decide ((↑v.1.parts.length : Int) > (0 : Int)), v.1, ()))
    else some ((false, v.1, ()))) >>= fun x1 =>
  if x1.1 = true then
   some ((false, ()))
  else (if (x1.2.1.kind == (6 : Int)) = true then
    if ((↑x1.2.1.names.length : Int) != (↑x1.2.1.parts.length : Int)) = true then
     some ((true, x1.2.1, ()))
    else if (x1.2.1.kind != (6 : Int)) = true then
     some ((decide ((↑x1.2.1.names.length : Int) > (0 : Int)), x1.2.1, ()))
    else some ((false, x1.2.1, ()))
   else if (x1.2.1.kind != (6 : Int)) = true then
    some ((decide ((↑x1.2.1.names.length : Int) > (0 : Int)), x1.2.1, ()))
   else some ((false, x1.2.1, ()))) >>= fun x2 =>
  if x2.1 = true then
   some ((false, ()))
  else (m_75 k (x2.2.1.text, ()) >>= fun x3 =>
   if (!x3.1) = true then
    m_77c75 k (x2.2.1.names, ()) >>= fun x4 =>
    if (!x4.1) = true then
     m_78c79 k (x2.2.1.parts, ()) >>= fun x5 =>
     some ((!x5.1, ()))
    else some ((false, ()))
   else some ((false, ()))) >>= fun x3 =>
  some ((x3.1, ()))
noncomputable def m_78c79 : Nat → (List Tag) × Unit → Option (Bool × Unit)
 | 0, _ => none
 | k + 1, v =>
  m_104c79 k (v.1, ()) >>= fun x1 =>
  some ((decide (x1.1 ≥ (0 : Int)), ()))
noncomputable def m_104c79 : Nat → (List Tag) × Unit → Option (Int × Unit)
 | 0, _ => none
 | k + 1, v =>
  m_104c79l2 k (v.1, (↑v.1.length : Int), (0 : Int), ()) >>= fun x1 => match x1 with
   | .inl y1 => some y1
   | .inr y1 => some (((-1 : Int), ()))
end
theorem m_104c79l2_st (k : Nat) (h_104c79l2 : ∀ v, Le (m_104c79l2 k v) (n_104c79l2 v)) (h_79 : ∀ v, Le (m_79 k v) (n_79 v)) (v : (List Tag) × Int × Int × Unit) : Le (m_104c79l2 (k + 1) v) (n_104c79l2 v) := by
 rw [m_104c79l2, n_104c79l2]
 with_reducible repeat' first | exact Le.refl _ | exact Le.none _ | exact h_104c79l2 _ | exact h_79 _ | apply Le.bind | apply Le.ite | apply Le.both | with_unfolding_all assumption | intro x
theorem m_79_st (k : Nat) (h_51 : ∀ v, Le (m_51 k v) (n_51 v)) (v : Tag × Unit) : Le (m_79 (k + 1) v) (n_79 v) := by
 rw [m_79, n_79]
 with_reducible repeat' first | exact Le.refl _ | exact Le.none _ | exact h_51 _ | apply Le.bind | apply Le.ite | apply Le.both | with_unfolding_all assumption | intro x
theorem m_51_st (k : Nat) (h_78c79 : ∀ v, Le (m_78c79 k v) (n_78c79 v)) (v : Tag × Unit) : Le (m_51 (k + 1) v) (n_51 v) := by
 rw [m_51, n_51]
 with_reducible repeat' first | exact Le.refl _ | exact Le.none _ | exact m_77c75_le _ _ | exact m_75_le _ _ | exact h_78c79 _ | apply Le.bind | apply Le.ite | apply Le.both | with_unfolding_all assumption | intro x
theorem m_78c79_st (k : Nat) (h_104c79 : ∀ v, Le (m_104c79 k v) (n_104c79 v)) (v : (List Tag) × Unit) : Le (m_78c79 (k + 1) v) (n_78c79 v) := by
 rw [m_78c79, n_78c79]
 with_reducible repeat' first | exact Le.refl _ | exact Le.none _ | exact h_104c79 _ | apply Le.bind | apply Le.ite | apply Le.both | with_unfolding_all assumption | intro x
theorem m_104c79_st (k : Nat) (h_104c79l2 : ∀ v, Le (m_104c79l2 k v) (n_104c79l2 v)) (v : (List Tag) × Unit) : Le (m_104c79 (k + 1) v) (n_104c79 v) := by
 rw [m_104c79, n_104c79]
 with_reducible repeat' first | exact Le.refl _ | exact Le.none _ | exact h_104c79l2 _ | apply Le.bind | apply Le.ite | apply Le.both | (rintro (x | x) <;> dsimp only) | with_unfolding_all assumption | intro x
theorem m_104c79l2_all : ∀ k, (∀ v, Le (m_104c79l2 k v) (n_104c79l2 v)) ∧ (∀ v, Le (m_79 k v) (n_79 v)) ∧ (∀ v, Le (m_51 k v) (n_51 v)) ∧ (∀ v, Le (m_78c79 k v) (n_78c79 v)) ∧ (∀ v, Le (m_104c79 k v) (n_104c79 v))
 | 0 => ⟨fun _ => Le.none _, fun _ => Le.none _, fun _ => Le.none _, fun _ => Le.none _, fun _ => Le.none _⟩
 | k + 1 => by
  have h := m_104c79l2_all k
  exact ⟨m_104c79l2_st k (h.1) (h.2.1), m_79_st k (h.2.2.1), m_51_st k (h.2.2.2.1), m_78c79_st k (h.2.2.2.2), m_104c79_st k (h.1)⟩
theorem m_51_le (k : Nat) (v : Tag × Unit) : Le (m_51 k v) (n_51 v) := have h := m_104c79l2_all k; h.2.2.1 v
noncomputable def m_118 (k : Nat) (v : ByteArray × Int × Unit) : Option (Int × Unit) :=
 n_132 (v.1, v.2.1, ()) >>= fun x1 =>
 some ((x1.1, ()))
theorem m_118_le (k : Nat) (v : ByteArray × Int × Unit) : Le (m_118 k v) (n_118 v) := by
 unfold m_118 n_118
 with_reducible repeat' first | exact Le.refl _ | exact Le.none _ | apply Le.bind | apply Le.ite | apply Le.both | with_unfolding_all assumption | intro x
noncomputable def m_74s5bd0 (k : Nat) (v : ByteArray × Reader × Unit) : Option (Bool × Reader × Unit) :=
 (if (v.2.1.at0 == (↑v.2.1.s.size : Int)) = true then
    some ((true, v.2.1, ()))
   else if (0 : Int) ≤ v.2.1.at0 ∧ v.2.1.at0 ≤ i64.wrap (v.2.1.at0 + (1 : Int)) ∧ i64.wrap (v.2.1.at0 + (1 : Int)) ≤ (↑v.2.1.s.size : Int) then
    n_101 (v.1, v.2.1.s.extract v.2.1.at0.toNat (i64.wrap (v.2.1.at0 + (1 : Int))).toNat, ()) >>= fun x1 =>
    some ((!x1.1, v.2.1, ()))
   else none) >>= fun x1 =>
 if x1.1 = true then
  some ((false, x1.2.1, ()))
 else some ((true, Reader.mk x1.2.1.s (i64.wrap (x1.2.1.at0 + (1 : Int))), ()))
theorem m_74s5bd0_le (k : Nat) (v : ByteArray × Reader × Unit) : Le (m_74s5bd0 k v) (n_74s5bd0 v) := by
 unfold m_74s5bd0 n_74s5bd0
 with_reducible repeat' first | exact Le.refl _ | exact Le.none _ | apply Le.bind | apply Le.ite | apply Le.both | with_unfolding_all assumption | intro x
noncomputable def m_119sadb0l11 : Nat → Int × (List Int) × Int × Int × Reader × Unit → Option ((Int × Reader × Unit))
 | 0, _ => none
 | k + 1, v =>
  if decide (v.2.2.2.1 < v.2.2.1) = true then
   if (0 : Int) ≤ v.2.2.2.1 then
    v.2.1[v.2.2.2.1.toNat]? >>= fun x1 =>
    m_118 k (ByteArray.mk #[48, 49, 50, 51, 52, 53, 54, 55, 56, 57, 97, 98, 99, 100, 101, 102, 65, 66, 67, 68, 69, 70], x1, ()) >>= fun x2 =>
    m_119sadb0l11 k (i32.wrap (i32.wrap ((16 : Int) * v.1) + i32.wrap x2.1), v.2.1, v.2.2.1, i64.wrap (v.2.2.2.1 + (1 : Int)), v.2.2.2.2.1, ())
   else none
  else some ((v.1, v.2.2.2.2.1, ()))
theorem m_119sadb0l11_le : ∀ k v, Le (m_119sadb0l11 k v) (n_119sadb0l11 v)
 | 0, _ => Le.none _
 | k + 1, v => by
  rw [m_119sadb0l11, n_119sadb0l11]
  with_reducible repeat' first | exact Le.refl _ | exact Le.none _ | exact m_118_le _ _ | exact m_119sadb0l11_le _ _ | apply Le.bind | apply Le.ite | apply Le.both | with_unfolding_all assumption | intro x
noncomputable def m_119sadb0 (k : Nat) (v : ByteArray × ByteArray × Reader × Unit) : Option (Int × Bool × Reader × Unit) :=
 (m_74s5bd0 k (v.1, v.2.2.1, ()) >>= fun x1 =>
   if x1.1 = true then
    some (Sum.inl (v.2.2.1.at0, ByteArray.mk #[48, 49, 50, 51, 52, 53, 54, 55, 56, 57, 97, 98, 99, 100, 101, 102, 65, 66, 67, 68, 69, 70], x1.2.1, ()))
   else m_74s5bd0 k (ByteArray.mk #[100, 68], x1.2.1, ()) >>= fun x2 =>
   if x2.1 = true then
    some (Sum.inl (v.2.2.1.at0, v.2.1, x2.2.1, ()))
   else some (Sum.inr ((0 : Int), false, x2.2.1, ()))) >>= fun x1 => match x1 with
   | .inl y1 => (m_74s5bd0 k (y1.2.1, y1.2.2.1, ()) >>= fun x2 =>
     if (!x2.1) = true then
      some ((y1.1, true, x2.2.1, ()))
     else m_74s5bd0 k (ByteArray.mk #[48, 49, 50, 51, 52, 53, 54, 55, 56, 57, 97, 98, 99, 100, 101, 102, 65, 66, 67, 68, 69, 70], x2.2.1, ()) >>= fun x3 =>
     if (!x3.1) = true then
      some ((y1.1, true, x3.2.1, ()))
     else m_74s5bd0 k (ByteArray.mk #[48, 49, 50, 51, 52, 53, 54, 55, 56, 57, 97, 98, 99, 100, 101, 102, 65, 66, 67, 68, 69, 70], x3.2.1, ()) >>= fun x4 =>
     some ((y1.1, !x4.1, x4.2.1, ()))) >>= fun x2 =>
    if x2.2.1 = true then
     some (((0 : Int), false, x2.2.2.1, ()))
    else if (0 : Int) ≤ x2.1 ∧ x2.1 ≤ x2.2.2.1.at0 ∧ x2.2.2.1.at0 ≤ (↑x2.2.2.1.s.size : Int) then
     n_133 (x2.2.2.1.s.extract x2.1.toNat x2.2.2.1.at0.toNat, ()) >>= fun x3 =>
     m_119sadb0l11 k ((0 : Int), Bs.ints x3.1, (↑(Bs.ints x3.1).length : Int), (0 : Int), x2.2.2.1, ()) >>= fun x4 =>
     some ((x4.1, true, x4.2.1, ()))
    else none
   | .inr y1 => some y1
theorem m_119sadb0_le (k : Nat) (v : ByteArray × ByteArray × Reader × Unit) : Le (m_119sadb0 k v) (n_119sadb0 v) := by
 unfold m_119sadb0 n_119sadb0
 with_reducible repeat' first | exact Le.refl _ | exact Le.none _ | exact m_119sadb0l11_le _ _ | exact m_74s5bd0_le _ _ | apply Le.bind | apply Le.ite | apply Le.both | (rintro (x | x) <;> dsimp only) | with_unfolding_all assumption | intro x
noncomputable def m_121s43b2 (k : Nat) (v : Int × (List Int) × Unit) : Option ((List Int) × Unit) :=
 if decide (IntKind.u32.wrap v.1 ≤ (127 : Int)) = true then
  if v.2.1.length + [IntKind.u8.wrap v.1].length ≤ (4294967296 : Nat) then
   some ((v.2.1 ++ [IntKind.u8.wrap v.1], ()))
  else none
 else n_135s43b2 (v.1, v.2.1, ()) >>= fun x1 =>
 some ((x1.1, ()))
theorem m_121s43b2_le (k : Nat) (v : Int × (List Int) × Unit) : Le (m_121s43b2 k v) (n_121s43b2 v) := by
 unfold m_121s43b2 n_121s43b2
 with_reducible repeat' first | exact Le.refl _ | exact Le.none _ | apply Le.bind | apply Le.ite | apply Le.both | with_unfolding_all assumption | intro x
noncomputable def m_42l3 : Nat → (List ByteArray) × Int × Int × Tag × Size × Size × Unit → Option ((Tag × Size × Size × Unit))
 | 0, _ => none
 | k + 1, v =>
  if decide (v.2.2.1 < v.2.1) = true then
   if (0 : Int) ≤ v.2.2.1 then
    v.1[v.2.2.1.toNat]? >>= fun x1 =>
    m_42l3 k (v.1, v.2.1, i64.wrap (v.2.2.1 + (1 : Int)), v.2.2.2.1, v.2.2.2.2.1, Size.mk v.2.2.2.2.2.1.depth v.2.2.2.2.2.1.pieces (i64.wrap (v.2.2.2.2.2.1.bytes + (↑x1.size : Int))), ())
   else none
  else some ((v.2.2.2.1, v.2.2.2.2.1, v.2.2.2.2.2.1, ()))
theorem m_42l3_le : ∀ k v, Le (m_42l3 k v) (n_42l3 v)
 | 0, _ => Le.none _
 | k + 1, v => by
  rw [m_42l3, n_42l3]
  with_reducible repeat' first | exact Le.refl _ | exact Le.none _ | exact m_42l3_le _ _ | apply Le.bind | apply Le.ite | apply Le.both | with_unfolding_all assumption | intro x
mutual
noncomputable def m_42l8 : Nat → (List Tag) × Int × Int × Size × Size × Unit → Option ((Size × Size × Unit))
 | 0, _ => none
 | k + 1, v =>
  if decide (v.2.2.1 < v.2.1) = true then
   if (0 : Int) ≤ v.2.2.1 then
    v.1[v.2.2.1.toNat]? >>= fun x1 =>
    m_42 k (x1, ()) >>= fun x2 =>
    m_42l8 k (v.1, v.2.1, i64.wrap (v.2.2.1 + (1 : Int)), v.2.2.2.1, Size.mk (max v.2.2.2.2.1.depth x2.1.depth) (i64.wrap (v.2.2.2.2.1.pieces + x2.1.pieces)) (i64.wrap (v.2.2.2.2.1.bytes + x2.1.bytes)), ())
   else none
  else some ((v.2.2.2.1, v.2.2.2.2.1, ()))
noncomputable def m_42 : Nat → Tag × Unit → Option (Size × Unit)
 | 0, _ => none
 | k + 1, v =>
  m_42l3 k (v.1.names, (↑v.1.names.length : Int), (0 : Int), v.1, Size.mk (0 : Int) (0 : Int) (0 : Int), Size.mk (0 : Int) (1 : Int) (↑v.1.text.size : Int), ()) >>= fun x1 =>
  m_42l8 k (x1.1.parts, (↑x1.1.parts.length : Int), (0 : Int), x1.2.1, x1.2.2.1, ()) >>= fun x2 =>
  some ((Size.mk (i64.wrap (x2.2.1.depth + (1 : Int))) x2.2.1.pieces x2.2.1.bytes, ()))
end
theorem m_42l8_st (k : Nat) (h_42 : ∀ v, Le (m_42 k v) (n_42 v)) (h_42l8 : ∀ v, Le (m_42l8 k v) (n_42l8 v)) (v : (List Tag) × Int × Int × Size × Size × Unit) : Le (m_42l8 (k + 1) v) (n_42l8 v) := by
 rw [m_42l8, n_42l8]
 with_reducible repeat' first | exact Le.refl _ | exact Le.none _ | exact h_42 _ | exact h_42l8 _ | apply Le.bind | apply Le.ite | apply Le.both | with_unfolding_all assumption | intro x
theorem m_42_st (k : Nat) (h_42l8 : ∀ v, Le (m_42l8 k v) (n_42l8 v)) (v : Tag × Unit) : Le (m_42 (k + 1) v) (n_42 v) := by
 rw [m_42, n_42]
 with_reducible repeat' first | exact Le.refl _ | exact Le.none _ | exact m_42l3_le _ _ | exact h_42l8 _ | apply Le.bind | apply Le.ite | apply Le.both | with_unfolding_all assumption | intro x
theorem m_42l8_all : ∀ k, (∀ v, Le (m_42l8 k v) (n_42l8 v)) ∧ (∀ v, Le (m_42 k v) (n_42 v))
 | 0 => ⟨fun _ => Le.none _, fun _ => Le.none _⟩
 | k + 1 => by
  have h := m_42l8_all k
  exact ⟨m_42l8_st k (h.2) (h.1), m_42_st k (h.1)⟩
theorem m_42_le (k : Nat) (v : Tag × Unit) : Le (m_42 k v) (n_42 v) := have h := m_42l8_all k; h.2 v
noncomputable def m_29 (k : Nat) (v : Tag × Unit) : Option (Int × Unit) :=
 m_42 k (v.1, ()) >>= fun x1 =>
 (if decide (x1.1.depth > (20 : Int)) = true then
    some ((true, v.1, ()))
   else if decide (x1.1.pieces > (500 : Int)) = true then
    some ((true, v.1, ()))
   else some ((decide (x1.1.bytes > (4096 : Int)), v.1, ()))) >>= fun x2 =>
 if x2.1 = true then
  some (((3 : Int), ()))
 else m_51 k (x2.2.1, ()) >>= fun x3 =>
 if (!x3.1) = true then
  some (((1 : Int), ()))
 else m_52 k (x2.2.1, ()) >>= fun x4 =>
 if x4.1 = true then
  some (((5 : Int), ()))
 else some (((0 : Int), ()))
theorem m_29_le (k : Nat) (v : Tag × Unit) : Le (m_29 k v) (n_29 v) := by
 unfold m_29 n_29
 with_reducible repeat' first | exact Le.refl _ | exact Le.none _ | exact m_42_le _ _ | exact m_51_le _ _ | exact m_52_le _ _ | apply Le.bind | apply Le.ite | apply Le.both | with_unfolding_all assumption | intro x
mutual
noncomputable def m_31s06c9l4 : Nat → (List Tag) × Int × Int × Int × Int × ByteArray × (List Tag) × Tag × (List Tag) × (List ByteArray) × Unit → Option ((Int × Int × ByteArray × (List Tag) × Tag × (List Tag) × (List ByteArray) × Unit))
 | 0, _ => none
 | k + 1, v =>
  if decide (v.2.2.1 < v.2.1) = true then
   if (0 : Int) ≤ v.2.2.1 then
    v.1[v.2.2.1.toNat]? >>= fun x1 =>
    m_31s06c9 k (x1, ()) >>= fun x2 =>
    if v.2.2.2.2.2.2.2.2.1.length + [Tag.mk x2.1 x2.2.1 x2.2.2.1 x2.2.2.2.1 x2.2.2.2.2.1].length ≤ (4294967296 : Nat) then
     m_31s06c9l4 k (v.1, v.2.1, i64.wrap (v.2.2.1 + (1 : Int)), v.2.2.2.1, v.2.2.2.2.1, v.2.2.2.2.2.1, v.2.2.2.2.2.2.1, v.2.2.2.2.2.2.2.1, v.2.2.2.2.2.2.2.2.1 ++ [Tag.mk x2.1 x2.2.1 x2.2.2.1 x2.2.2.2.1 x2.2.2.2.2.1], v.2.2.2.2.2.2.2.2.2.1, ())
    else none
   else none
  else some ((v.2.2.2.1, v.2.2.2.2.1, v.2.2.2.2.2.1, v.2.2.2.2.2.2.1, v.2.2.2.2.2.2.2.1, v.2.2.2.2.2.2.2.2.1, v.2.2.2.2.2.2.2.2.2.1, ()))
noncomputable def m_31s06c9 : Nat → Tag × Unit → Option (Int × Int × ByteArray × (List ByteArray) × (List Tag) × Unit)
 | 0, _ => none
 | k + 1, v =>
  n_53s5172 (v.1.names, ()) >>= fun x1 =>
  m_31s06c9l4 k (v.1.parts, (↑v.1.parts.length : Int), (0 : Int), v.1.kind, v.1.n, v.1.text, v.1.parts, Tag.mk (0 : Int) (0 : Int) (ByteArray.mk #[]) [] [], [], x1.1, ()) >>= fun x2 =>
  some ((x2.1, x2.2.1, x2.2.2.1, x2.2.2.2.2.2.2.1, x2.2.2.2.2.2.1, ()))
end
theorem m_31s06c9l4_st (k : Nat) (h_31s06c9 : ∀ v, Le (m_31s06c9 k v) (n_31s06c9 v)) (h_31s06c9l4 : ∀ v, Le (m_31s06c9l4 k v) (n_31s06c9l4 v)) (v : (List Tag) × Int × Int × Int × Int × ByteArray × (List Tag) × Tag × (List Tag) × (List ByteArray) × Unit) : Le (m_31s06c9l4 (k + 1) v) (n_31s06c9l4 v) := by
 rw [m_31s06c9l4, n_31s06c9l4]
 with_reducible repeat' first | exact Le.refl _ | exact Le.none _ | exact h_31s06c9 _ | exact h_31s06c9l4 _ | apply Le.bind | apply Le.ite | apply Le.both | with_unfolding_all assumption | intro x
theorem m_31s06c9_st (k : Nat) (h_31s06c9l4 : ∀ v, Le (m_31s06c9l4 k v) (n_31s06c9l4 v)) (v : Tag × Unit) : Le (m_31s06c9 (k + 1) v) (n_31s06c9 v) := by
 rw [m_31s06c9, n_31s06c9]
 with_reducible repeat' first | exact Le.refl _ | exact Le.none _ | exact h_31s06c9l4 _ | apply Le.bind | apply Le.ite | apply Le.both | with_unfolding_all assumption | intro x
theorem m_31s06c9l4_all : ∀ k, (∀ v, Le (m_31s06c9l4 k v) (n_31s06c9l4 v)) ∧ (∀ v, Le (m_31s06c9 k v) (n_31s06c9 v))
 | 0 => ⟨fun _ => Le.none _, fun _ => Le.none _⟩
 | k + 1 => by
  have h := m_31s06c9l4_all k
  exact ⟨m_31s06c9l4_st k (h.2) (h.1), m_31s06c9_st k (h.1)⟩
theorem m_31s06c9_le (k : Nat) (v : Tag × Unit) : Le (m_31s06c9 k v) (n_31s06c9 v) := have h := m_31s06c9l4_all k; h.2 v
noncomputable def m_58l2 : Nat → (List ByteArray) × ByteArray × Int × Int × Unit → Option (((Int × Unit) ⊕ (Unit)))
 | 0, _ => none
 | k + 1, v =>
  if decide (v.2.2.2.1 < v.2.2.1) = true then
   if (0 : Int) ≤ v.2.2.2.1 then
    v.1[v.2.2.2.1.toNat]? >>= fun x1 =>
    if (v.2.1.toList == x1.toList) = true then
     some (Sum.inl (v.2.2.2.1, ()))
    else m_58l2 k (v.1, v.2.1, v.2.2.1, i64.wrap (v.2.2.2.1 + (1 : Int)), ())
   else none
  else some (Sum.inr ())
theorem m_58l2_le : ∀ k v, Le (m_58l2 k v) (n_58l2 v)
 | 0, _ => Le.none _
 | k + 1, v => by
  rw [m_58l2, n_58l2]
  with_reducible repeat' first | exact Le.refl _ | exact Le.none _ | exact m_58l2_le _ _ | apply Le.bind | apply Le.ite | apply Le.both | with_unfolding_all assumption | intro x
noncomputable def m_58 (k : Nat) (v : (List ByteArray) × ByteArray × Unit) : Option (Int × Unit) :=
 m_58l2 k (v.1, v.2.1, (↑v.1.length : Int), (0 : Int), ()) >>= fun x1 => match x1 with
  | .inl y1 => some y1
  | .inr y1 => some (((-1 : Int), ()))
theorem m_58_le (k : Nat) (v : (List ByteArray) × ByteArray × Unit) : Le (m_58 k v) (n_58 v) := by
 unfold m_58 n_58
 with_reducible repeat' first | exact Le.refl _ | exact Le.none _ | exact m_58l2_le _ _ | apply Le.bind | apply Le.ite | apply Le.both | (rintro (x | x) <;> dsimp only) | with_unfolding_all assumption | intro x
noncomputable def m_39 (k : Nat) (v : Tag × ByteArray × Unit) : Option (Int × Unit) :=
 if (v.1.kind == (6 : Int)) = true then
  m_58 k (v.1.names, v.2.1, ()) >>= fun x1 =>
  some ((x1.1, ()))
 else n_59 (v.2.1, ()) >>= fun x1 =>
 (if (v.1.kind != (5 : Int)) = true then
    some ((x1.1, true, ()))
   else if x1.2.1 = true then
    some ((x1.1, true, ()))
   else if decide (x1.1 < (0 : Int)) = true then
    some ((x1.1, true, ()))
   else if decide (x1.1 > (↑v.1.parts.length : Int)) = true then
    some ((x1.1, true, ()))
   else n_60 (x1.1, ()) >>= fun x2 =>
   some ((x1.1, !x2.1.toList == v.2.1.toList, ()))) >>= fun x2 =>
 if x2.2.1 = true then
  some (((-1 : Int), ()))
 else some ((x2.1, ()))
theorem m_39_le (k : Nat) (v : Tag × ByteArray × Unit) : Le (m_39 k v) (n_39 v) := by
 unfold m_39 n_39
 with_reducible repeat' first | exact Le.refl _ | exact Le.none _ | exact m_58_le _ _ | apply Le.bind | apply Le.ite | apply Le.both | with_unfolding_all assumption | intro x
noncomputable def m_36l2 : Nat → (List ByteArray) × Int × Int × Tag × Tag × Unit → Option (((Bool × Tag × Unit) ⊕ (Tag × Tag × Unit)))
 | 0, _ => none
 | k + 1, v =>
  if decide (v.2.2.1 < v.2.1) = true then
   if (0 : Int) ≤ v.2.2.1 then
    v.1[v.2.2.1.toNat]? >>= fun x1 =>
    m_39 k (v.2.2.2.1, x1, ()) >>= fun x2 =>
    (if decide (x2.1 < (0 : Int)) = true then
       some ((x2.1, v.1, v.2.1, v.2.2.1, true, v.2.2.2.1, v.2.2.2.2.1, ()))
      else some ((x2.1, v.1, v.2.1, v.2.2.1, decide (x2.1 ≥ (↑v.2.2.2.1.parts.length : Int)), v.2.2.2.1, v.2.2.2.2.1, ()))) >>= fun x3 =>
    if x3.2.2.2.2.1 = true then
     some (Sum.inl (false, Tag.mk (0 : Int) (0 : Int) (ByteArray.mk #[]) [] [], ()))
    else if (0 : Int) ≤ x3.1 then
     x3.2.2.2.2.2.1.parts[x3.1.toNat]? >>= fun x4 =>
     m_36l2 k (x3.2.1, x3.2.2.1, i64.wrap (x3.2.2.2.1 + (1 : Int)), x4, x3.2.2.2.2.2.2.1, ())
    else none
   else none
  else some (Sum.inr (v.2.2.2.1, v.2.2.2.2.1, ()))
theorem m_36l2_le : ∀ k v, Le (m_36l2 k v) (n_36l2 v)
 | 0, _ => Le.none _
 | k + 1, v => by
  rw [m_36l2, n_36l2]
  with_reducible repeat' first | exact Le.refl _ | exact Le.none _ | exact m_39_le _ _ | exact m_36l2_le _ _ | apply Le.bind | apply Le.ite | apply Le.both | with_unfolding_all assumption | intro x
noncomputable def m_36 (k : Nat) (v : Tag × (List ByteArray) × Unit) : Option (Bool × Tag × Unit) :=
 m_36l2 k (v.2.1, (↑v.2.1.length : Int), (0 : Int), v.1, Tag.mk (0 : Int) (0 : Int) (ByteArray.mk #[]) [] [], ()) >>= fun x1 => match x1 with
  | .inl y1 => some y1
  | .inr y1 => some ((true, y1.1, ()))
theorem m_36_le (k : Nat) (v : Tag × (List ByteArray) × Unit) : Le (m_36 k v) (n_36 v) := by
 unfold m_36 n_36
 with_reducible repeat' first | exact Le.refl _ | exact Le.none _ | exact m_36l2_le _ _ | apply Le.bind | apply Le.ite | apply Le.both | (rintro (x | x) <;> dsimp only) | with_unfolding_all assumption | intro x
noncomputable def m_13 (k : Nat) (v : Tag × (List ByteArray) × Unit) : Option (Bool × Int × Tag × Unit) :=
 m_29 k (v.1, ()) >>= fun x1 =>
 if (x1.1 != (0 : Int)) = true then
  some ((false, x1.1, Tag.mk (0 : Int) (0 : Int) (ByteArray.mk #[]) [] [], ()))
 else m_36 k (v.1, v.2.1, ()) >>= fun x2 =>
 m_31s06c9 k (x2.2.1, ()) >>= fun x3 =>
 some ((x2.1, (0 : Int), Tag.mk x3.1 x3.2.1 x3.2.2.1 x3.2.2.2.1 x3.2.2.2.2.1, ()))
theorem m_13_le (k : Nat) (v : Tag × (List ByteArray) × Unit) : Le (m_13 k v) (n_13 v) := by
 unfold m_13 n_13
 with_reducible repeat' first | exact Le.refl _ | exact Le.none _ | exact m_29_le _ _ | exact m_31s06c9_le _ _ | exact m_36_le _ _ | apply Le.bind | apply Le.ite | apply Le.both | with_unfolding_all assumption | intro x
noncomputable def m_50s0e1dl0 : Nat → Reader × Unit → Option ((Reader × Unit))
 | 0, _ => none
 | k + 1, v =>
  m_74s5bd0 k (ByteArray.mk #[32, 10, 9, 13], v.1, ()) >>= fun x1 =>
  if x1.1 = true then
   m_50s0e1dl0 k (x1.2.1, ())
  else some ((x1.2.1, ()))
theorem m_50s0e1dl0_le : ∀ k v, Le (m_50s0e1dl0 k v) (n_50s0e1dl0 v)
 | 0, _ => Le.none _
 | k + 1, v => by
  rw [m_50s0e1dl0, n_50s0e1dl0]
  with_reducible repeat' first | exact Le.refl _ | exact Le.none _ | exact m_74s5bd0_le _ _ | exact m_50s0e1dl0_le _ _ | apply Le.bind | apply Le.ite | apply Le.both | with_unfolding_all assumption | intro x
noncomputable def m_50s0e1d (k : Nat) (v : Reader × Unit) : Option (Reader × Unit) :=
 m_50s0e1dl0 k (v.1, ()) >>= fun x1 =>
 some ((x1.1, ()))
theorem m_50s0e1d_le (k : Nat) (v : Reader × Unit) : Le (m_50s0e1d k v) (n_50s0e1d v) := by
 unfold m_50s0e1d n_50s0e1d
 with_reducible repeat' first | exact Le.refl _ | exact Le.none _ | exact m_50s0e1dl0_le _ _ | apply Le.bind | apply Le.ite | apply Le.both | with_unfolding_all assumption | intro x
noncomputable def m_69s5bd0l2 : Nat → ByteArray × Int × Int × Reader × Unit → Option (((Bool × Reader × Unit) ⊕ (Reader × Unit)))
 | 0, _ => none
 | k + 1, v =>
  if decide (v.2.2.1 < v.2.1) = true then
   if (0 : Int) ≤ v.2.2.1 ∧ v.2.2.1 ≤ i64.wrap (v.2.2.1 + (1 : Int)) ∧ i64.wrap (v.2.2.1 + (1 : Int)) ≤ (↑v.1.size : Int) then
    m_74s5bd0 k (v.1.extract v.2.2.1.toNat (i64.wrap (v.2.2.1 + (1 : Int))).toNat, v.2.2.2.1, ()) >>= fun x1 =>
    if (!x1.1) = true then
     some (Sum.inl (false, x1.2.1, ()))
    else m_69s5bd0l2 k (v.1, v.2.1, i64.wrap (v.2.2.1 + (1 : Int)), x1.2.1, ())
   else none
  else some (Sum.inr (v.2.2.2.1, ()))
theorem m_69s5bd0l2_le : ∀ k v, Le (m_69s5bd0l2 k v) (n_69s5bd0l2 v)
 | 0, _ => Le.none _
 | k + 1, v => by
  rw [m_69s5bd0l2, n_69s5bd0l2]
  with_reducible repeat' first | exact Le.refl _ | exact Le.none _ | exact m_74s5bd0_le _ _ | exact m_69s5bd0l2_le _ _ | apply Le.bind | apply Le.ite | apply Le.both | with_unfolding_all assumption | intro x
noncomputable def m_69s5bd0 (k : Nat) (v : ByteArray × Reader × Unit) : Option (Bool × Reader × Unit) :=
 m_69s5bd0l2 k (v.1, (↑v.1.size : Int), (0 : Int), v.2.1, ()) >>= fun x1 => match x1 with
  | .inl y1 => some y1
  | .inr y1 => some ((true, y1.1, ()))
theorem m_69s5bd0_le (k : Nat) (v : ByteArray × Reader × Unit) : Le (m_69s5bd0 k v) (n_69s5bd0 v) := by
 unfold m_69s5bd0 n_69s5bd0
 with_reducible repeat' first | exact Le.refl _ | exact Le.none _ | exact m_69s5bd0l2_le _ _ | apply Le.bind | apply Le.ite | apply Le.both | (rintro (x | x) <;> dsimp only) | with_unfolding_all assumption | intro x
noncomputable def m_70s0e1dl6 : Nat → Bool × Int × Reader × Tag × Unit → Option ((Bool × Int × Reader × Tag × Unit))
 | 0, _ => none
 | k + 1, v =>
  (n_68s0e1d (v.2.2.1, ()) >>= fun x1 =>
    if decide (x1.1 ≥ (48 : Int)) = true then
     n_68s0e1d (x1.2.1, ()) >>= fun x2 =>
     some ((v.1, v.2.1, decide (x2.1 ≤ (57 : Int)), x2.2.1, v.2.2.2.1, ()))
    else some ((v.1, v.2.1, false, x1.2.1, v.2.2.2.1, ()))) >>= fun x1 =>
  if x1.2.2.1 = true then
   n_68s0e1d (x1.2.2.2.1, ()) >>= fun x2 =>
   m_70s0e1dl6 k (x1.1, min (i64.wrap (i64.wrap ((10 : Int) * x1.2.1) + i64.wrap (IntKind.u8.wrap (x2.1 - (48 : Int))))) (576460752303423488 : Int), Reader.mk x2.2.1.s (i64.wrap (x2.2.1.at0 + (1 : Int))), x1.2.2.2.2.1, ())
  else some ((x1.1, x1.2.1, x1.2.2.2.1, x1.2.2.2.2.1, ()))
theorem m_70s0e1dl6_le : ∀ k v, Le (m_70s0e1dl6 k v) (n_70s0e1dl6 v)
 | 0, _ => Le.none _
 | k + 1, v => by
  rw [m_70s0e1dl6, n_70s0e1dl6]
  with_reducible repeat' first | exact Le.refl _ | exact Le.none _ | exact m_70s0e1dl6_le _ _ | apply Le.bind | apply Le.ite | apply Le.both | with_unfolding_all assumption | intro x
noncomputable def m_70s0e1d (k : Nat) (v : Reader × Unit) : Option (Bool × Reader × Tag × Unit) :=
 m_74s5bd0 k (ByteArray.mk #[45], v.1, ()) >>= fun x1 =>
 (m_74s5bd0 k (ByteArray.mk #[48], x1.2.1, ()) >>= fun x2 =>
   if x2.1 = true then
    some (Sum.inl (x1.1, (0 : Int), x2.2.1, Tag.mk (0 : Int) (0 : Int) (ByteArray.mk #[]) [] [], ()))
   else (n_68s0e1d (x2.2.1, ()) >>= fun x3 =>
    if decide (x3.1 ≥ (49 : Int)) = true then
     n_68s0e1d (x3.2.1, ()) >>= fun x4 =>
     some ((x1.1, (0 : Int), decide (x4.1 ≤ (57 : Int)), x4.2.1, Tag.mk (0 : Int) (0 : Int) (ByteArray.mk #[]) [] [], ()))
    else some ((x1.1, (0 : Int), false, x3.2.1, Tag.mk (0 : Int) (0 : Int) (ByteArray.mk #[]) [] [], ()))) >>= fun x3 =>
   if x3.2.2.1 = true then
    m_70s0e1dl6 k (x3.1, x3.2.1, x3.2.2.2.1, x3.2.2.2.2.1, ()) >>= fun x4 =>
    some (Sum.inl (x4.1, x4.2.1, x4.2.2.1, x4.2.2.2.1, ()))
   else some (Sum.inr (false, x3.2.2.2.1, Tag.mk (0 : Int) (0 : Int) (ByteArray.mk #[]) [] [], ()))) >>= fun x2 => match x2 with
   | .inl y2 => (if y2.1 = true then
      some ((i64.wrap ((0 : Int) - y2.2.1), y2.2.2.1, y2.2.2.2.1, ()))
     else some ((y2.2.1, y2.2.2.1, y2.2.2.2.1, ()))) >>= fun x3 =>
    some ((true, x3.2.1, Tag.mk (3 : Int) x3.1 (ByteArray.mk #[]) [] [], ()))
   | .inr y2 => some y2
theorem m_70s0e1d_le (k : Nat) (v : Reader × Unit) : Le (m_70s0e1d k v) (n_70s0e1d v) := by
 unfold m_70s0e1d n_70s0e1d
 with_reducible repeat' first | exact Le.refl _ | exact Le.none _ | exact m_70s0e1dl6_le _ _ | exact m_74s5bd0_le _ _ | apply Le.bind | apply Le.ite | apply Le.both | (rintro (x | x) <;> dsimp only) | with_unfolding_all assumption | intro x
noncomputable def m_97s0e1d (k : Nat) (v : Reader × Unit) : Option (Int × Bool × Reader × Unit) :=
 n_68s0e1d (v.1, ()) >>= fun x1 =>
 m_118 k (ByteArray.mk #[34, 92, 47, 98, 102, 110, 114, 116], x1.1, ()) >>= fun x2 =>
 (if decide (x1.2.1.at0 < (↑x1.2.1.s.size : Int)) = true then
    some ((x2.1, decide (x2.1 ≥ (0 : Int)), x1.2.1, ()))
   else some ((x2.1, false, x1.2.1, ()))) >>= fun x3 =>
 if x3.2.1 = true then
  if (0 : Int) ≤ x3.1 then
   (ByteArray.mk #[34, 92, 47, 8, 12, 10, 13, 9])[x3.1.toNat]? >>= fun x4 =>
   some ((i32.wrap (↑x4.toNat : Int), true, Reader.mk x3.2.2.1.s (i64.wrap (x3.2.2.1.at0 + (1 : Int))), ()))
  else none
 else m_74s5bd0 k (ByteArray.mk #[117], x3.2.2.1, ()) >>= fun x4 =>
 if (!x4.1) = true then
  some (((0 : Int), false, x4.2.1, ()))
 else m_119sadb0 k (ByteArray.mk #[48, 49, 50, 51, 52, 53, 54, 55, 56, 57, 97, 98, 99, 101, 102, 65, 66, 67, 69, 70], ByteArray.mk #[48, 49, 50, 51, 52, 53, 54, 55, 56, 57, 97, 98, 65, 66], x4.2.1, ()) >>= fun x5 =>
 (if (!x5.2.1) = true then
    some ((x5.1, x5.2.1, true, x5.2.2.1, ()))
   else if decide (x5.1 < (55296 : Int)) = true then
    some ((x5.1, x5.2.1, true, x5.2.2.1, ()))
   else some ((x5.1, x5.2.1, decide (x5.1 ≥ (56320 : Int)), x5.2.2.1, ()))) >>= fun x6 =>
 if x6.2.2.1 = true then
  some ((x6.1, x6.2.1, x6.2.2.2.1, ()))
 else m_69s5bd0 k (ByteArray.mk #[92, 117], x6.2.2.2.1, ()) >>= fun x7 =>
 if (!x7.1) = true then
  some (((0 : Int), false, x7.2.1, ()))
 else m_119sadb0 k (ByteArray.mk #[], ByteArray.mk #[99, 100, 101, 102, 67, 68, 69, 70], x7.2.1, ()) >>= fun x8 =>
 some ((i32.wrap (i32.wrap (i32.wrap ((65536 : Int) + Bs.ishl i32 (i32.wrap (x6.1 - (55296 : Int))) (10 : Int)) + x8.1) - (56320 : Int)), x8.2.1, x8.2.2.1, ()))
theorem m_97s0e1d_le (k : Nat) (v : Reader × Unit) : Le (m_97s0e1d k v) (n_97s0e1d v) := by
 unfold m_97s0e1d n_97s0e1d
 with_reducible repeat' first | exact Le.refl _ | exact Le.none _ | exact m_118_le _ _ | exact m_69s5bd0_le _ _ | exact m_119sadb0_le _ _ | exact m_74s5bd0_le _ _ | apply Le.bind | apply Le.ite | apply Le.both | with_unfolding_all assumption | intro x
noncomputable def m_98se46d (k : Nat) (v : Int × Bool × (List Int) × Unit) : Option (Int × Bool × (List Int) × Unit) :=
 n_120s8e4d (v.2.1, v.2.2.1, ()) >>= fun x1 =>
 m_121s43b2 k (v.1, x1.2.1, ()) >>= fun x2 =>
 some ((i64.wrap ((↑x2.1.length : Int) - (↑x1.2.1.length : Int)), x1.1, x2.1, ()))
theorem m_98se46d_le (k : Nat) (v : Int × Bool × (List Int) × Unit) : Le (m_98se46d k v) (n_98se46d v) := by
 unfold m_98se46d n_98se46d
 with_reducible repeat' first | exact Le.refl _ | exact Le.none _ | exact m_121s43b2_le _ _ | apply Le.bind | apply Le.ite | apply Le.both | with_unfolding_all assumption | intro x
noncomputable def m_99s0e1dl22 : Nat → Int × Int × Int × Int × Reader × Unit → Option (((Bool × Reader × Unit) ⊕ (Reader × Unit)))
 | 0, _ => none
 | k + 1, v =>
  if decide (v.2.2.2.1 < v.2.2.1) = true then
   n_122s07d3 (v.1, v.2.1, v.2.2.2.2.1, ()) >>= fun x1 =>
   if (!x1.1) = true then
    some (Sum.inl (false, x1.2.1, ()))
   else m_99s0e1dl22 k ((128 : Int), (191 : Int), v.2.2.1, i64.wrap (v.2.2.2.1 + (1 : Int)), x1.2.1, ())
  else some (Sum.inr (v.2.2.2.2.1, ()))
theorem m_99s0e1dl22_le : ∀ k v, Le (m_99s0e1dl22 k v) (n_99s0e1dl22 v)
 | 0, _ => Le.none _
 | k + 1, v => by
  rw [m_99s0e1dl22, n_99s0e1dl22]
  with_reducible repeat' first | exact Le.refl _ | exact Le.none _ | exact m_99s0e1dl22_le _ _ | apply Le.bind | apply Le.ite | apply Le.both | with_unfolding_all assumption | intro x
noncomputable def m_99s0e1d (k : Nat) (v : Reader × Unit) : Option (Bool × Reader × Unit) :=
 if (0 : Int) ≤ v.1.at0 then
  v.1.s[v.1.at0.toNat]? >>= fun x1 =>
  (if decide ((↑x1.toNat : Int) < (128 : Int)) = true then
     some (Sum.inl ((↑x1.toNat : Int), (128 : Int), (191 : Int), (0 : Int), v.1, ()))
    else (if decide ((↑x1.toNat : Int) < (194 : Int)) = true then
      some (((↑x1.toNat : Int), (128 : Int), (191 : Int), true, v.1, ()))
     else some (((↑x1.toNat : Int), (128 : Int), (191 : Int), decide ((↑x1.toNat : Int) > (244 : Int)), v.1, ()))) >>= fun x2 =>
    if x2.2.2.2.1 = true then
     some (Sum.inr (false, x2.2.2.2.2.1, ()))
    else if decide (x2.1 < (224 : Int)) = true then
     some (Sum.inl (x2.1, x2.2.1, x2.2.2.1, (1 : Int), x2.2.2.2.2.1, ()))
    else if decide (x2.1 < (240 : Int)) = true then
     some (Sum.inl (x2.1, x2.2.1, x2.2.2.1, (2 : Int), x2.2.2.2.2.1, ()))
    else some (Sum.inl (x2.1, x2.2.1, x2.2.2.1, (3 : Int), x2.2.2.2.2.1, ()))) >>= fun x2 => match x2 with
    | .inl y2 => (if (y2.1 == (224 : Int)) = true then
       some (((160 : Int), y2.2.2.1, y2.2.2.2.1, y2.2.2.2.2.1, ()))
      else if (y2.1 == (237 : Int)) = true then
       some ((y2.2.1, (159 : Int), y2.2.2.2.1, y2.2.2.2.2.1, ()))
      else if (y2.1 == (240 : Int)) = true then
       some (((144 : Int), y2.2.2.1, y2.2.2.2.1, y2.2.2.2.2.1, ()))
      else if (y2.1 == (244 : Int)) = true then
       some ((y2.2.1, (143 : Int), y2.2.2.2.1, y2.2.2.2.2.1, ()))
      else some ((y2.2.1, y2.2.2.1, y2.2.2.2.1, y2.2.2.2.2.1, ()))) >>= fun x3 =>
     m_99s0e1dl22 k (x3.1, x3.2.1, x3.2.2.1, (0 : Int), Reader.mk x3.2.2.2.1.s (i64.wrap (x3.2.2.2.1.at0 + (1 : Int))), ()) >>= fun x4 => match x4 with
      | .inl y4 => some y4
      | .inr y4 => some ((true, y4.1, ()))
    | .inr y2 => some y2
 else none
theorem m_99s0e1d_le (k : Nat) (v : Reader × Unit) : Le (m_99s0e1d k v) (n_99s0e1d v) := by
 unfold m_99s0e1d n_99s0e1d
 with_reducible repeat' first | exact Le.refl _ | exact Le.none _ | exact m_99s0e1dl22_le _ _ | apply Le.bind | apply Le.ite | apply Le.both | (rintro (x | x) <;> dsimp only) | with_unfolding_all assumption | intro x
noncomputable def m_71s0e1dl3 : Nat → Reader × Bool × (List Int) × Unit → Option ((ByteArray × Bool × Reader × Unit))
 | 0, _ => none
 | k + 1, v =>
  n_68s0e1d (v.1, ()) >>= fun x1 =>
  if (x1.1 == (34 : Int)) = true then
   n_96s8e4d (v.2.1, v.2.2.1, ()) >>= fun x2 =>
   some ((x2.1, true, Reader.mk x1.2.1.s (i64.wrap (x1.2.1.at0 + (1 : Int))), ()))
  else if decide (x1.1 < (32 : Int)) = true then
   some ((ByteArray.mk #[], false, x1.2.1, ()))
  else if (x1.1 == (92 : Int)) = true then
   m_97s0e1d k (Reader.mk x1.2.1.s (i64.wrap (x1.2.1.at0 + (1 : Int))), ()) >>= fun x2 =>
   if (!x2.2.1) = true then
    some ((ByteArray.mk #[], false, x2.2.2.1, ()))
   else m_98se46d k (x2.1, v.2.1, v.2.2.1, ()) >>= fun x3 =>
   m_71s0e1dl3 k (x2.2.2.1, x3.2.1, x3.2.2.1, ())
  else m_99s0e1d k (x1.2.1, ()) >>= fun x2 =>
  if (!x2.1) = true then
   some ((ByteArray.mk #[], false, x2.2.1, ()))
  else if (0 : Int) ≤ x1.2.1.at0 ∧ x1.2.1.at0 ≤ x2.2.1.at0 ∧ x2.2.1.at0 ≤ (↑x2.2.1.s.size : Int) then
   m_100s52d8 k (x2.2.1.s.extract x1.2.1.at0.toNat x2.2.1.at0.toNat, v.2.1, v.2.2.1, ()) >>= fun x3 =>
   m_71s0e1dl3 k (x2.2.1, x3.2.1, x3.2.2.1, ())
  else none
theorem m_71s0e1dl3_le : ∀ k v, Le (m_71s0e1dl3 k v) (n_71s0e1dl3 v)
 | 0, _ => Le.none _
 | k + 1, v => by
  rw [m_71s0e1dl3, n_71s0e1dl3]
  with_reducible repeat' first | exact Le.refl _ | exact Le.none _ | exact m_98se46d_le _ _ | exact m_97s0e1d_le _ _ | exact m_100s52d8_le _ _ | exact m_99s0e1d_le _ _ | exact m_71s0e1dl3_le _ _ | apply Le.bind | apply Le.ite | apply Le.both | with_unfolding_all assumption | intro x
noncomputable def m_71s0e1d (k : Nat) (v : Reader × Unit) : Option (ByteArray × Bool × Reader × Unit) :=
 some (v.1, false, [], ()) >>= fun x1 =>
 m_71s0e1dl3 k (Reader.mk x1.1.s (i64.wrap (x1.1.at0 + (1 : Int))), x1.2.1, x1.2.2.1, ()) >>= fun x2 =>
 some x2
theorem m_71s0e1d_le (k : Nat) (v : Reader × Unit) : Le (m_71s0e1d k v) (n_71s0e1d v) := by
 unfold m_71s0e1d n_71s0e1d
 with_reducible repeat' first | exact Le.refl _ | exact Le.none _ | exact m_71s0e1dl3_le _ _ | apply Le.bind | apply Le.ite | apply Le.both | with_unfolding_all assumption | intro x
mutual
noncomputable def m_49s0e1d : Nat → Reader × Unit → Option (Bool × Reader × Tag × Unit)
 | 0, _ => none
 | k + 1, v =>
  m_50s0e1d k (v.1, ()) >>= fun x1 =>
  n_68s0e1d (x1.1, ()) >>= fun x2 =>
  if (x2.1 == (110 : Int)) = true then
   m_69s5bd0 k (ByteArray.mk #[110, 117, 108, 108], x2.2.1, ()) >>= fun x3 =>
   some ((x3.1, x3.2.1, Tag.mk (0 : Int) (0 : Int) (ByteArray.mk #[]) [] [], ()))
  else if (x2.1 == (102 : Int)) = true then
   m_69s5bd0 k (ByteArray.mk #[102, 97, 108, 115, 101], x2.2.1, ()) >>= fun x3 =>
   some ((x3.1, x3.2.1, Tag.mk (1 : Int) (0 : Int) (ByteArray.mk #[]) [] [], ()))
  else if (x2.1 == (116 : Int)) = true then
   m_69s5bd0 k (ByteArray.mk #[116, 114, 117, 101], x2.2.1, ()) >>= fun x3 =>
   some ((x3.1, x3.2.1, Tag.mk (2 : Int) (0 : Int) (ByteArray.mk #[]) [] [], ()))
  else (if (x2.1 == (45 : Int)) = true then
    some ((x2.1, true, x2.2.1, Tag.mk (0 : Int) (0 : Int) (ByteArray.mk #[]) [] [], ()))
   else if decide (x2.1 ≥ (48 : Int)) = true then
    some ((x2.1, decide (x2.1 ≤ (57 : Int)), x2.2.1, Tag.mk (0 : Int) (0 : Int) (ByteArray.mk #[]) [] [], ()))
   else some ((x2.1, false, x2.2.1, Tag.mk (0 : Int) (0 : Int) (ByteArray.mk #[]) [] [], ()))) >>= fun x3 =>
  if x3.2.1 = true then
   m_70s0e1d k (x3.2.2.1, ()) >>= fun x4 =>
   some ((x4.1, x4.2.1, x4.2.2.1, ()))
  else if (x3.1 == (34 : Int)) = true then
   m_71s0e1d k (x3.2.2.1, ()) >>= fun x4 =>
   some ((x4.2.1, x4.2.2.1, Tag.mk (4 : Int) (0 : Int) x4.1 [] [], ()))
  else if (x3.1 == (91 : Int)) = true then
   m_72s0e1d k (x3.2.2.1, ()) >>= fun x4 =>
   some ((x4.1, x4.2.1, x4.2.2.1, ()))
  else if (x3.1 == (123 : Int)) = true then
   m_73s0e1d k (x3.2.2.1, ()) >>= fun x4 =>
   some ((x4.1, x4.2.1, x4.2.2.1, ()))
  else some ((false, x3.2.2.1, Tag.mk (0 : Int) (0 : Int) (ByteArray.mk #[]) [] [], ()))
noncomputable def m_73s0e1d : Nat → Reader × Unit → Option (Bool × Reader × Tag × Unit)
 | 0, _ => none
 | k + 1, v =>
  some (v.1, Tag.mk (0 : Int) (0 : Int) (ByteArray.mk #[]) [] [], (6 : Int), (0 : Int), ByteArray.mk #[], [], [], ()) >>= fun x1 =>
  m_50s0e1d k (Reader.mk x1.1.s (i64.wrap (x1.1.at0 + (1 : Int))), ()) >>= fun x2 =>
  m_74s5bd0 k (ByteArray.mk #[125], x2.1, ()) >>= fun x3 =>
  if x3.1 = true then
   some ((true, x3.2.1, Tag.mk x1.2.2.1 x1.2.2.2.1 x1.2.2.2.2.1 x1.2.2.2.2.2.1 x1.2.2.2.2.2.2.1, ()))
  else m_50s0e1d k (x3.2.1, ()) >>= fun x4 =>
  n_68s0e1d (x4.1, ()) >>= fun x5 =>
  if (x5.1 != (34 : Int)) = true then
   some ((false, x5.2.1, Tag.mk (0 : Int) (0 : Int) (ByteArray.mk #[]) [] [], ()))
  else m_71s0e1d k (x5.2.1, ()) >>= fun x6 =>
  if (!x6.2.1) = true then
   some ((false, x6.2.2.1, Tag.mk (0 : Int) (0 : Int) (ByteArray.mk #[]) [] [], ()))
  else m_50s0e1d k (x6.2.2.1, ()) >>= fun x7 =>
  m_74s5bd0 k (ByteArray.mk #[58], x7.1, ()) >>= fun x8 =>
  if (!x8.1) = true then
   some ((false, x8.2.1, Tag.mk (0 : Int) (0 : Int) (ByteArray.mk #[]) [] [], ()))
  else m_49s0e1d k (x8.2.1, ()) >>= fun x9 =>
  if (!x9.1) = true then
   some ((false, x9.2.1, Tag.mk (0 : Int) (0 : Int) (ByteArray.mk #[]) [] [], ()))
  else if x1.2.2.2.2.2.1.length + [x6.1].length ≤ (4294967296 : Nat) then
   if x1.2.2.2.2.2.2.1.length + [x9.2.2.1].length ≤ (4294967296 : Nat) then
    m_50s0e1d k (x9.2.1, ()) >>= fun x10 =>
    m_74s5bd0 k (ByteArray.mk #[44], x10.1, ()) >>= fun x11 =>
    if x11.1 = true then
     m_73s0e1dg1 k (x11.2.1, x1.2.1, x1.2.2.1, x1.2.2.2.1, x1.2.2.2.2.1, x1.2.2.2.2.2.1 ++ [x6.1], x1.2.2.2.2.2.2.1 ++ [x9.2.2.1], ()) >>= fun x12 =>
     some x12
    else m_74s5bd0 k (ByteArray.mk #[125], x11.2.1, ()) >>= fun x12 =>
    some ((x12.1, x12.2.1, Tag.mk x1.2.2.1 x1.2.2.2.1 x1.2.2.2.2.1 (x1.2.2.2.2.2.1 ++ [x6.1]) (x1.2.2.2.2.2.2.1 ++ [x9.2.2.1]), ()))
   else none
  else none
noncomputable def m_73s0e1dg1 : Nat → Reader × Tag × Int × Int × ByteArray × (List ByteArray) × (List Tag) × Unit → Option ((Bool × Reader × Tag × Unit))
 | 0, _ => none
 | k + 1, v =>
  m_50s0e1d k (v.1, ()) >>= fun x1 =>
  n_68s0e1d (x1.1, ()) >>= fun x2 =>
  if (x2.1 != (34 : Int)) = true then
   some ((false, x2.2.1, Tag.mk (0 : Int) (0 : Int) (ByteArray.mk #[]) [] [], ()))
  else m_71s0e1d k (x2.2.1, ()) >>= fun x3 =>
  if (!x3.2.1) = true then
   some ((false, x3.2.2.1, Tag.mk (0 : Int) (0 : Int) (ByteArray.mk #[]) [] [], ()))
  else m_50s0e1d k (x3.2.2.1, ()) >>= fun x4 =>
  m_74s5bd0 k (ByteArray.mk #[58], x4.1, ()) >>= fun x5 =>
  if (!x5.1) = true then
   some ((false, x5.2.1, Tag.mk (0 : Int) (0 : Int) (ByteArray.mk #[]) [] [], ()))
  else m_49s0e1d k (x5.2.1, ()) >>= fun x6 =>
  if (!x6.1) = true then
   some ((false, x6.2.1, Tag.mk (0 : Int) (0 : Int) (ByteArray.mk #[]) [] [], ()))
  else if v.2.2.2.2.2.1.length + [x3.1].length ≤ (4294967296 : Nat) then
   if v.2.2.2.2.2.2.1.length + [x6.2.2.1].length ≤ (4294967296 : Nat) then
    m_50s0e1d k (x6.2.1, ()) >>= fun x7 =>
    m_74s5bd0 k (ByteArray.mk #[44], x7.1, ()) >>= fun x8 =>
    if x8.1 = true then
     m_73s0e1dg1 k (x8.2.1, v.2.1, v.2.2.1, v.2.2.2.1, v.2.2.2.2.1, v.2.2.2.2.2.1 ++ [x3.1], v.2.2.2.2.2.2.1 ++ [x6.2.2.1], ())
    else m_74s5bd0 k (ByteArray.mk #[125], x8.2.1, ()) >>= fun x9 =>
    some ((x9.1, x9.2.1, Tag.mk v.2.2.1 v.2.2.2.1 v.2.2.2.2.1 (v.2.2.2.2.2.1 ++ [x3.1]) (v.2.2.2.2.2.2.1 ++ [x6.2.2.1]), ()))
   else none
  else none
noncomputable def m_72s0e1d : Nat → Reader × Unit → Option (Bool × Reader × Tag × Unit)
 | 0, _ => none
 | k + 1, v =>
  some (v.1, Tag.mk (0 : Int) (0 : Int) (ByteArray.mk #[]) [] [], (5 : Int), (0 : Int), ByteArray.mk #[], [], [], ()) >>= fun x1 =>
  m_50s0e1d k (Reader.mk x1.1.s (i64.wrap (x1.1.at0 + (1 : Int))), ()) >>= fun x2 =>
  m_74s5bd0 k (ByteArray.mk #[93], x2.1, ()) >>= fun x3 =>
  if x3.1 = true then
   some ((true, x3.2.1, Tag.mk x1.2.2.1 x1.2.2.2.1 x1.2.2.2.2.1 x1.2.2.2.2.2.1 x1.2.2.2.2.2.2.1, ()))
  else m_49s0e1d k (x3.2.1, ()) >>= fun x4 =>
  if (!x4.1) = true then
   some ((false, x4.2.1, Tag.mk (0 : Int) (0 : Int) (ByteArray.mk #[]) [] [], ()))
  else if x1.2.2.2.2.2.2.1.length + [x4.2.2.1].length ≤ (4294967296 : Nat) then
   m_50s0e1d k (x4.2.1, ()) >>= fun x5 =>
   m_74s5bd0 k (ByteArray.mk #[44], x5.1, ()) >>= fun x6 =>
   if x6.1 = true then
    m_72s0e1dg1 k (x6.2.1, x1.2.1, x1.2.2.1, x1.2.2.2.1, x1.2.2.2.2.1, x1.2.2.2.2.2.1, x1.2.2.2.2.2.2.1 ++ [x4.2.2.1], ()) >>= fun x7 =>
    some x7
   else m_74s5bd0 k (ByteArray.mk #[93], x6.2.1, ()) >>= fun x7 =>
   some ((x7.1, x7.2.1, Tag.mk x1.2.2.1 x1.2.2.2.1 x1.2.2.2.2.1 x1.2.2.2.2.2.1 (x1.2.2.2.2.2.2.1 ++ [x4.2.2.1]), ()))
  else none
noncomputable def m_72s0e1dg1 : Nat → Reader × Tag × Int × Int × ByteArray × (List ByteArray) × (List Tag) × Unit → Option ((Bool × Reader × Tag × Unit))
 | 0, _ => none
 | k + 1, v =>
  m_49s0e1d k (v.1, ()) >>= fun x1 =>
  if (!x1.1) = true then
   some ((false, x1.2.1, Tag.mk (0 : Int) (0 : Int) (ByteArray.mk #[]) [] [], ()))
  else if v.2.2.2.2.2.2.1.length + [x1.2.2.1].length ≤ (4294967296 : Nat) then
   m_50s0e1d k (x1.2.1, ()) >>= fun x2 =>
   m_74s5bd0 k (ByteArray.mk #[44], x2.1, ()) >>= fun x3 =>
   if x3.1 = true then
    m_72s0e1dg1 k (x3.2.1, v.2.1, v.2.2.1, v.2.2.2.1, v.2.2.2.2.1, v.2.2.2.2.2.1, v.2.2.2.2.2.2.1 ++ [x1.2.2.1], ())
   else m_74s5bd0 k (ByteArray.mk #[93], x3.2.1, ()) >>= fun x4 =>
   some ((x4.1, x4.2.1, Tag.mk v.2.2.1 v.2.2.2.1 v.2.2.2.2.1 v.2.2.2.2.2.1 (v.2.2.2.2.2.2.1 ++ [x1.2.2.1]), ()))
  else none
end
theorem m_49s0e1d_st (k : Nat) (h_72s0e1d : ∀ v, Le (m_72s0e1d k v) (n_72s0e1d v)) (h_73s0e1d : ∀ v, Le (m_73s0e1d k v) (n_73s0e1d v)) (v : Reader × Unit) : Le (m_49s0e1d (k + 1) v) (n_49s0e1d v) := by
 rw [m_49s0e1d, n_49s0e1d]
 with_reducible repeat' first | exact Le.refl _ | exact Le.none _ | exact m_70s0e1d_le _ _ | exact m_69s5bd0_le _ _ | exact m_50s0e1d_le _ _ | exact m_71s0e1d_le _ _ | exact h_72s0e1d _ | exact h_73s0e1d _ | apply Le.bind | apply Le.ite | apply Le.both | with_unfolding_all assumption | intro x
theorem m_73s0e1d_st (k : Nat) (h_49s0e1d : ∀ v, Le (m_49s0e1d k v) (n_49s0e1d v)) (h_73s0e1dg1 : ∀ v, Le (m_73s0e1dg1 k v) (n_73s0e1dg1 v)) (v : Reader × Unit) : Le (m_73s0e1d (k + 1) v) (n_73s0e1d v) := by
 rw [m_73s0e1d, n_73s0e1d]
 with_reducible repeat' first | exact Le.refl _ | exact Le.none _ | exact m_50s0e1d_le _ _ | exact m_71s0e1d_le _ _ | exact m_74s5bd0_le _ _ | exact h_49s0e1d _ | exact h_73s0e1dg1 _ | apply Le.bind | apply Le.ite | apply Le.both | with_unfolding_all assumption | intro x
theorem m_73s0e1dg1_st (k : Nat) (h_49s0e1d : ∀ v, Le (m_49s0e1d k v) (n_49s0e1d v)) (h_73s0e1dg1 : ∀ v, Le (m_73s0e1dg1 k v) (n_73s0e1dg1 v)) (v : Reader × Tag × Int × Int × ByteArray × (List ByteArray) × (List Tag) × Unit) : Le (m_73s0e1dg1 (k + 1) v) (n_73s0e1dg1 v) := by
 rw [m_73s0e1dg1, n_73s0e1dg1]
 with_reducible repeat' first | exact Le.refl _ | exact Le.none _ | exact m_50s0e1d_le _ _ | exact m_71s0e1d_le _ _ | exact m_74s5bd0_le _ _ | exact h_49s0e1d _ | exact h_73s0e1dg1 _ | apply Le.bind | apply Le.ite | apply Le.both | with_unfolding_all assumption | intro x
theorem m_72s0e1d_st (k : Nat) (h_49s0e1d : ∀ v, Le (m_49s0e1d k v) (n_49s0e1d v)) (h_72s0e1dg1 : ∀ v, Le (m_72s0e1dg1 k v) (n_72s0e1dg1 v)) (v : Reader × Unit) : Le (m_72s0e1d (k + 1) v) (n_72s0e1d v) := by
 rw [m_72s0e1d, n_72s0e1d]
 with_reducible repeat' first | exact Le.refl _ | exact Le.none _ | exact m_74s5bd0_le _ _ | exact m_50s0e1d_le _ _ | exact h_49s0e1d _ | exact h_72s0e1dg1 _ | apply Le.bind | apply Le.ite | apply Le.both | with_unfolding_all assumption | intro x
theorem m_72s0e1dg1_st (k : Nat) (h_49s0e1d : ∀ v, Le (m_49s0e1d k v) (n_49s0e1d v)) (h_72s0e1dg1 : ∀ v, Le (m_72s0e1dg1 k v) (n_72s0e1dg1 v)) (v : Reader × Tag × Int × Int × ByteArray × (List ByteArray) × (List Tag) × Unit) : Le (m_72s0e1dg1 (k + 1) v) (n_72s0e1dg1 v) := by
 rw [m_72s0e1dg1, n_72s0e1dg1]
 with_reducible repeat' first | exact Le.refl _ | exact Le.none _ | exact m_74s5bd0_le _ _ | exact m_50s0e1d_le _ _ | exact h_49s0e1d _ | exact h_72s0e1dg1 _ | apply Le.bind | apply Le.ite | apply Le.both | with_unfolding_all assumption | intro x
theorem m_49s0e1d_all : ∀ k, (∀ v, Le (m_49s0e1d k v) (n_49s0e1d v)) ∧ (∀ v, Le (m_73s0e1d k v) (n_73s0e1d v)) ∧ (∀ v, Le (m_73s0e1dg1 k v) (n_73s0e1dg1 v)) ∧ (∀ v, Le (m_72s0e1d k v) (n_72s0e1d v)) ∧ (∀ v, Le (m_72s0e1dg1 k v) (n_72s0e1dg1 v))
 | 0 => ⟨fun _ => Le.none _, fun _ => Le.none _, fun _ => Le.none _, fun _ => Le.none _, fun _ => Le.none _⟩
 | k + 1 => by
  have h := m_49s0e1d_all k
  exact ⟨m_49s0e1d_st k (h.2.2.2.1) (h.2.1), m_73s0e1d_st k (h.1) (h.2.2.1), m_73s0e1dg1_st k (h.1) (h.2.2.1), m_72s0e1d_st k (h.1) (h.2.2.2.2), m_72s0e1dg1_st k (h.1) (h.2.2.2.2)⟩
theorem m_49s0e1d_le (k : Nat) (v : Reader × Unit) : Le (m_49s0e1d k v) (n_49s0e1d v) := have h := m_49s0e1d_all k; h.1 v
noncomputable def m_28 (k : Nat) (v : ByteArray × Unit) : Option (Int × Int × Tag × Unit) :=
 if decide ((↑v.1.size : Int) > (65536 : Int)) = true then
  some (((0 : Int), (3 : Int), Tag.mk (0 : Int) (0 : Int) (ByteArray.mk #[]) [] [], ()))
 else m_49s0e1d k (Reader.mk v.1 (0 : Int), ()) >>= fun x1 =>
 (if x1.1 = true then
    m_50s0e1d k (x1.2.1, ()) >>= fun x2 =>
    some ((v.1, x1.1, Tag.mk (0 : Int) (0 : Int) (ByteArray.mk #[]) [] [], x2.1, x1.2.2.1, ()))
   else some ((v.1, x1.1, Tag.mk (0 : Int) (0 : Int) (ByteArray.mk #[]) [] [], x1.2.1, x1.2.2.1, ()))) >>= fun x2 =>
 (if (!x2.2.1) = true then
    some ((x2.1, true, x2.2.2.1, x2.2.2.2.1, x2.2.2.2.2.1, ()))
   else some ((x2.1, decide (x2.2.2.2.1.at0 < (↑x2.1.size : Int)), x2.2.2.1, x2.2.2.2.1, x2.2.2.2.2.1, ()))) >>= fun x3 =>
 if x3.2.1 = true then
  some ((x3.2.2.2.1.at0, (2 : Int), Tag.mk (0 : Int) (0 : Int) (ByteArray.mk #[]) [] [], ()))
 else m_29 k (x3.2.2.2.2.1, ()) >>= fun x4 =>
 if (x4.1 != (0 : Int)) = true then
  some (((0 : Int), x4.1, Tag.mk (0 : Int) (0 : Int) (ByteArray.mk #[]) [] [], ()))
 else some (((↑x3.1.size : Int), (0 : Int), x3.2.2.2.2.1, ()))
theorem m_28_le (k : Nat) (v : ByteArray × Unit) : Le (m_28 k v) (n_28 v) := by
 unfold m_28 n_28
 with_reducible repeat' first | exact Le.refl _ | exact Le.none _ | exact m_29_le _ _ | exact m_49s0e1d_le _ _ | exact m_50s0e1d_le _ _ | apply Le.bind | apply Le.ite | apply Le.both | with_unfolding_all assumption | intro x
noncomputable def m_9 (k : Nat) (v : Unit) : Option (Bool × Unit) :=
 m_28 k (ByteArray.mk #[123, 34, 97, 34, 58, 91, 49, 44, 50, 93, 125], ()) >>= fun x1 =>
 m_13 k (x1.2.2.1, [ByteArray.mk #[97], ByteArray.mk #[49]], ()) >>= fun x2 =>
 m_28 k (ByteArray.mk #[91, 49, 44, 93], ()) >>= fun x3 =>
 (if (x1.2.1 == (0 : Int)) = true then
    if (x1.1 == (11 : Int)) = true then
     if (x2.2.1 == (0 : Int)) = true then
      if x2.1 = true then
       if (x2.2.2.1.kind == (3 : Int)) = true then
        if (x2.2.2.1.n == (2 : Int)) = true then
         if (x3.2.1 == (2 : Int)) = true then
          some ((x3.1 == (3 : Int), ()))
         else some ((false, ()))
        else some ((false, ()))
       else some ((false, ()))
      else some ((false, ()))
     else some ((false, ()))
    else some ((false, ()))
   else some ((false, ()))) >>= fun x4 =>
 some ((x4.1, ()))
theorem m_9_le (k : Nat) (v : Unit) : Le (m_9 k v) (n_9 v) := by
 unfold m_9 n_9
 with_reducible repeat' first | exact Le.refl _ | exact Le.none _ | exact m_13_le _ _ | exact m_28_le _ _ | apply Le.bind | apply Le.ite | apply Le.both | with_unfolding_all assumption | intro x
end Go.Proofs.YtpndmanbfleadaaGreatDoor
end
section
namespace Go.Proofs.YtpndmanbfleadaaGreatDoor
set_option maxRecDepth 100000
theorem known_true : n_9 () = some (true, ()) := m_9_le 60 () _ (by kernel_rfl)
end Go.Proofs.YtpndmanbfleadaaGreatDoor
end
section
namespace Go.Proofs.YtpndmanbfleadaaGreatDoor
open Go.Awp Go.Tx
set_option maxRecDepth 20000
theorem cpl (t : Tag) (ht : t.Fit small) (hp : ∀ p ∈ t.parts, n_31s06c9 (p, ()) = some (p.kind, p.n, p.text, p.names, p.parts, ())) (a b : Int) (c : ByteArray) (d : List Tag) (y : Tag) (e : List ByteArray) : ∀ (m k : Nat), t.parts.length - k = m →
  n_31s06c9l4 (t.parts, (t.parts.length : Int), (k : Int), a, b, c, d, y, t.parts.take k, e, ()) = some (a, b, c, d, y, t.parts, e, ()) := by
 intro m
 induction m with
 | zero =>
  intro k hk
  have hlt : ¬ k < t.parts.length := by omega
  rw [n_31s06c9l4, List.take_of_length_le (by omega)]
  simp only [sW, hlt]
 | succ m ih =>
  intro k hk
  have hlt : k < t.parts.length := by omega
  obtain ⟨p, hp1, hm, hd, g1, g2⟩ := at_lt hlt
  have h1 := ht.parts
  have e1 : (t.parts.take k).length + [p].length ≤ 4294967296 := by
   simp only [List.length_take, List.length_cons, List.length_nil]
   have : small = 4294967296 := rfl
   omega
  have e2 : t.parts.take k ++ [p] = t.parts.take (k + 1) := by rw [List.take_add_one, hp1]; rfl
  rw [n_31s06c9l4]
  simp only [sW, g1, g2, hlt, hp1, hp p hm, eta, e1, e2, wrap_succ hlt (small_big ht).parts]
  exact ih (k + 1) (by omega)
theorem cp : ∀ t : Tag, t.Fit small → n_31s06c9 (t, ()) = some (t.kind, t.n, t.text, t.names, t.parts, ()) := by
 refine Tag.ind fun t ih ht => ?_
 have h := cpl t ht (fun p hp => ih p hp (ht.part hp)) t.kind t.n t.text t.parts Tag.nil t.names _ 0 rfl
 simp only [Int.natCast_zero, Int.ofNat_eq_natCast, List.drop_zero, List.take_zero] at h
 rw [n_31s06c9]
 have e : n_53s5172 (t.names, ()) = some (t.names, ()) := by
  unfold n_53s5172
  rw [if_pos ht.names]
 simp only [e, sW]
 rw [h]
 rfl
theorem same26 (a : List ByteArray) (ha : a.length ≤ big) : n_26 (a, a, ()) = some (true, ()) := by
 have go : ∀ (m k : Nat), a.length - k = m → n_26l4 (a, a, (k : Int), ()) = some (.inr ()) := by
  intro m
  induction m with
  | zero =>
   intro k hk
   have hlt : ¬ k < a.length := by omega
   rw [n_26l4]
   simp only [sW, hlt]
  | succ m ih =>
   intro k hk
   have hlt : k < a.length := by omega
   obtain ⟨p, hp1, hm, hd, g1, g2⟩ := at_lt hlt
   rw [n_26l4]
   simp [hlt, hp1, wrap_succ hlt ha]
   exact_mod_cast ih (k + 1) (by omega)
 have := go _ 0 rfl
 simp only [Int.natCast_zero, Int.ofNat_eq_natCast, List.drop_zero] at this
 unfold n_26
 simp [this]
theorem same : ∀ a : Tag, a.Fit big → n_12 (a, a, ()) = some (true, ()) := by
 refine Tag.ind fun a ih ha => ?_
 have go : ∀ (m k : Nat), a.parts.length - k = m → n_12l4 ((k : Int), a, a, ()) = some (.inr ()) := by
  intro m
  induction m with
  | zero =>
   intro k hk
   have hlt : ¬ k < a.parts.length := by omega
   rw [n_12l4]
   simp only [sW, hlt]
  | succ m ih2 =>
   intro k hk
   have hlt : k < a.parts.length := by omega
   obtain ⟨p, hp1, hm, hd, g1, g2⟩ := at_lt hlt
   rw [n_12l4]
   simp only [sW, g1, g2, hlt, hp1, ih p hm (ha.part hm), wrap_succ hlt ha.parts, Bool.not_true]
   exact ih2 (k + 1) (by omega)
 have := go _ 0 rfl
 simp only [Int.natCast_zero, Int.ofNat_eq_natCast, List.drop_zero] at this
 rw [n_12]
 simp [same26 a.names ha.names, this]
theorem f14 {B : Nat} (t b : Tag) (ht : t.Fit B) (hb : b.Fit B) (hB : B + b.bulk < small) : ∃ (e1 e2 : Int), n_29 (t, ()) = some (e1, ()) ∧ n_29 (b, ()) = some (e2, ()) ∧ n_33 (t, ()) = some (e1, ()) ∧ n_33 (b, ()) = some (e2, ()) ∧
  ((e1 ≠ 0 ∧ n_14 (t, b, ()) = some (e1, Tag.nil, ())) ∨ (e1 = 0 ∧ e2 ≠ 0 ∧ n_14 (t, b, ()) = some (e2, Tag.nil, ())) ∨
    (e1 = 0 ∧ e2 = 0 ∧ Pok b B t ∧ ∃ e3 : Int, n_29 (pat b t, ()) = some (e3, ()) ∧ n_33 (pat b t, ()) = some (e3, ()) ∧ n_14 (t, b, ()) = some (if e3 = 0 then (0, pat b t, ()) else (e3, Tag.nil, ())))) := by
 have hsm : small = 4294967296 := rfl
 have hbig : big = 9223372036854775807 := rfl
 have htb : t.Fit big := Tag.Fit.mono (by omega) t ht
 have hbb : b.Fit big := Tag.Fit.mono (by omega) b hb
 have hts : t.Fit small := Tag.Fit.mono (by omega) t ht
 have hbs : b.Fit small := Tag.Fit.mono (by omega) b hb
 have w1 : IntKind.i64.wrap (0 + 1) = 1 := by decide
 have w2 : IntKind.i64.wrap (1 + 1) = 2 := by decide
 have d02 : (0 : Int) < 2 := by decide
 have d12 : (1 : Int) < 2 := by decide
 obtain ⟨e1, a1, a2, a3⟩ := f29 t htb
 obtain ⟨e2, b1, b2, b3⟩ := f29 b hbb
 have k0 : ([t, b] : List Tag)[Int.toNat (0 : Int)]? = some t := rfl
 have k1 : ([t, b] : List Tag)[Int.toNat (1 : Int)]? = some b := rfl
 have l1 : n_14l2 ([t, b], 2, 1, t, b, Tag.nil, ()) = if e2 = 0 then some (.inr (t, b, Tag.nil, ())) else some (.inl (e2, Tag.nil, ())) := by
  rw [n_14l2]
  by_cases h : e2 = 0
  ·subst h
   rw [if_pos rfl]
   simp only [d12, k1, b1, w2, sW, decide_true, bne_iff_ne, ne_eq, not_true_eq_false, show (0 : Int) ≤ 1 by decide]
   rw [n_14l2]
   simp
  ·simp [h, b1, show Int.toNat 1 = 1 from rfl]
 have l0 : n_14l2 ([t, b], 2, 0, t, b, Tag.nil, ()) = if e1 = 0 then (if e2 = 0 then some (.inr (t, b, Tag.nil, ())) else some (.inl (e2, Tag.nil, ()))) else some (.inl (e1, Tag.nil, ())) := by
  rw [n_14l2]
  by_cases h : e1 = 0
  ·rw [h] at a1
   simp only [d02, k0, a1, w1, l1, h, sW, decide_true, bne_iff_ne, ne_eq, not_true_eq_false, Int.le_refl]
  ·simp [h, a1]
 have hlen : (([t, b] : List Tag).length : Int) = 2 := rfl
 refine ⟨e1, e2, a1, b1, a2, b2, ?_⟩
 unfold n_14
 simp only [hlen, l0]
 by_cases h1 : e1 = 0
 ·by_cases h2 : e2 = 0
  ·refine .inr (.inr ⟨h1, h2, ?_⟩)
   have hp := pok b (b3 h2) B t (a3 h1) ht hB
   have hxb : (pat b t).Fit big := Tag.Fit.mono (by omega) _ hp.fit
   obtain ⟨e3, c1, c2, c3⟩ := f29 (pat b t) hxb
   refine ⟨hp, e3, c1, c2, ?_⟩
   by_cases h3 : e3 = 0
   ·simp [h1, h2, cp t hts, cp b hbs, hp.js, eta, n_32sc86c, c1, h3]
   ·simp [h1, h2, cp t hts, cp b hbs, hp.js, eta, n_32sc86c, c1, h3]
  ·exact .inr (.inl ⟨h1, h2, by simp [h1, h2]⟩)
 ·exact .inl ⟨h1, by simp [h1]⟩
theorem law4 {B : Nat} (t b : Tag) (ht : t.Fit B) (hb : b.Fit B) (hB : B + b.bulk + b.bulk < small) : n_4 (t, b, ()) = some (true, ()) := by
 have hsm : small = 4294967296 := rfl
 have hbig : big = 9223372036854775807 := rfl
 have htb : t.Fit big := Tag.Fit.mono (by omega) t ht
 have hbb : b.Fit big := Tag.Fit.mono (by omega) b hb
 have hnb : Tag.nil.Fit big := nil_fit big
 obtain ⟨x1, hx1⟩ := f13 t htb.wf
 obtain ⟨x2, hx2⟩ := f13 b hbb.wf
 have hnil : ∃ z, n_14 (Tag.nil, b, ()) = some z := by
  obtain ⟨e1, e2, _, _, _, _, h⟩ := f14 Tag.nil b (nil_fit B) hb (by omega)
  rcases h with ⟨_, h⟩ | ⟨_, _, h⟩ | ⟨_, _, _, _, _, _, h⟩
  ·exact ⟨_, h⟩
  ·exact ⟨_, h⟩
  ·exact ⟨_, h⟩
 obtain ⟨z, hz⟩ := hnil
 unfold n_4
 cases x1 with
 | true => simp [hx1, known_true]
 | false =>
  cases x2 with
  | true => simp [hx1, hx2, known_true]
  | false =>
   obtain ⟨e1, e2, a1, b1, a2, b2, h⟩ := f14 t b ht hb (by omega)
   rcases h with ⟨h1, h⟩ | ⟨h1, h2, h⟩ | ⟨h1, h2, hp, e3, c1, c2, h⟩
   ·have h15 : n_15 (t, b, ()) = some (e1, Tag.nil, ()) := by unfold n_15; simp [a2, h1]
    simp [hx1, hx2, h, h15, same Tag.nil hnb, hz, h1, known_true]
   ·have h15 : n_15 (t, b, ()) = some (e2, Tag.nil, ()) := by unfold n_15; simp [a2, b2, h1, h2]
    simp [hx1, hx2, h, h15, same Tag.nil hnb, hz, h2, known_true]
   ·by_cases h3 : e3 = 0
    ·subst h1; subst h2; subst h3
     have h15 : n_15 (t, b, ()) = some (0, pat b t, ()) := by unfold n_15; simp [a2, b2, hp.rf, n_35, c2]
     rw [if_pos rfl] at h
     have hpb : (pat b t).Fit big := Tag.Fit.mono (by omega) _ hp.fit
     have ht2 : RU t := ⟨(f29 t htb).elim fun e he => he.2.2 (by have := he.1; rw [a1] at this; simpa using this.symm), uniq_valid t htb a1⟩
     have hb2 : RU b := ⟨(f29 b hbb).elim fun e he => he.2.2 (by have := he.1; rw [b1] at this; simpa using this.symm), uniq_valid b hbb b1⟩
     have hidem := pat_twice b hb2 t ht2
     obtain ⟨f1, f2, g1, g2, _, _, hh⟩ := f14 (B := B + b.bulk) (pat b t) b hp.fit (Tag.Fit.mono (by omega) b hb) (by omega)
     have hf1 : f1 = 0 := by rw [c1] at g1; simpa using g1.symm
     have hf2 : f2 = 0 := by rw [b1] at g2; simpa using g2.symm
     subst hf1; subst hf2
     rcases hh with ⟨q, _⟩ | ⟨_, q, _⟩ | ⟨_, _, _, e4, d1, _, hh⟩
     ·exact absurd rfl q
     ·exact absurd rfl q
     ·rw [hidem] at d1 hh
      have he4 : e4 = 0 := by rw [c1] at d1; simpa using d1.symm
      rw [if_pos he4] at hh
      simp [hx1, hx2, h, h15, same (pat b t) hpb, hh, known_true]
    ·have h15 : n_15 (t, b, ()) = some (e3, Tag.nil, ()) := by unfold n_15; simp [a2, b2, h1, h2, hp.rf, n_35, c2, h3]
     rw [if_neg h3] at h
     simp [hx1, hx2, h, h15, same Tag.nil hnb, hz, h3, known_true]
theorem jsonPatches_true (t b : Tag) (h0 : Ok vw (.st .tagT) t) (h1 : Ok vw (.st .tagT) b) (m0 : Nat) (b0 : Bk vw (.st .tagT) t m0) (m1 : Nat) (b1 : Bk vw (.st .tagT) b m1) (hm : m0 + m1 ≤ 1048576) :
  n_4 (t, b, ()) = some (true, ()) :=
 law4 (B := 1048576) t b (fit_of_bk t m0 (by omega) b0) (fit_of_bk b m1 (by omega) b1) (by
  have h1 := bulk_bk b m1 b1
  have hsm : small = 4294967296 := rfl
  omega)
end Go.Proofs.YtpndmanbfleadaaGreatDoor
end
section
namespace Go.Proofs.YtpndmanbfleadaaGreatDoor.jsonPatches
open Go.ChangeShapes Go.WideShapes Go.ChangeAt Go.RowKit Go.Awp Go.Tx
open Go.Proofs.Tryz (prog)
theorem laidOut : laidOutB prog = true := by kernel_rfl
theorem own : ownKnob prog.godebug = none := by kernel_rfl
theorem contract (x0 : Tag) (x1 : Tag) (h0 : Ok vw (.st .tagT) x0) (h1 : Ok vw (.st .tagT) x1) (m0 : Nat) (b0 : Bk vw (.st .tagT) x0 m0) (m1 : Nat) (b1 : Bk vw (.st .tagT) x1 m1) (hm : m0 + m1 ≤ 1048576) : FnOk prog 4 [.d (encD szN encN (.st .tagT) x0), .d (encD szN encN (.st .tagT) x1)] [] (.d (.v (.bool true))) [] :=
 kcast (by kernel_rfl) (n_4_ok (x0, x1, ()) (true, ()) (.lf .bool true) (jsonPatches_true x0 x1 h0 h1 m0 b0 m1 b1 hm) rfl)
noncomputable def w0 (os : Os) : World := World.laidAll prog os Rows.jsonPatchesUptoRow.laid
theorem laid_met (os : Os) : laidMetH prog Rows.jsonPatchesUptoRow.laid ((w0 os).forCall (fun _ _ => 0) ⟨#[], #[.agg #[.int .i64 0, .int .i64 0, .string ByteArray.empty, .slice none 0 0, .slice none 0 0], .agg #[.int .i64 0, .int .i64 0, .string ByteArray.empty, .slice none 0 0, .slice none 0 0]], []⟩).memory := by
 rw [MakeChecks.laidMetH_plain _ _ _ (by kernel_rfl)]; exact laidMet_laidAll _ (by kernel_rfl) (by kernel_rfl)
set_option maxRecDepth 100000 in
theorem reads (os : Os) {H : Type} (enc : TypeId × Value → H) : DataW.whole enc prog ((w0 os).forCall (fun _ _ => 0) ⟨#[], #[.agg #[.int .i64 0, .int .i64 0, .string ByteArray.empty, .slice none 0 0, .slice none 0 0], .agg #[.int .i64 0, .int .i64 0, .string ByteArray.empty, .slice none 0 0, .slice none 0 0]], []⟩).memory Tryz.f4.params.toList Rows.jsonPatchesSpec.vars false #[.agg #[.int .i64 0, .int .i64 0, .string ByteArray.empty, .slice none 0 0, .slice none 0 0], .agg #[.int .i64 0, .int .i64 0, .string ByteArray.empty, .slice none 0 0, .slice none 0 0]].toList 8 = some ([.agg [.lit (.int .i64 0), .lit (.int .i64 0), .lit (.string []), .nil, .nil], .agg [.lit (.int .i64 0), .lit (.int .i64 0), .lit (.string []), .nil, .nil]], [], []) := by kernel_rfl
set_option maxRecDepth 100000 in
theorem lifted (os : Os) (started : os.Started) (H : Type) (enc : TypeId × Value → H) (F : Stop.Interp) :
  ReturnsInHanded {} Tryz.checked os 4 .any ((Rows.OpenSpec.upto Rows.jsonPatchesSpec).preRow enc prog Tryz.f4 Rows.jsonPatchesUptoRow.domain false Rows.jsonPatchesUptoRow.laid) (((Rows.OpenSpec.upto Rows.jsonPatchesSpec).at F).post enc prog Tryz.f4 false true false false) := by
 have hok : Input.okWideB prog ((w0 os).forCall (fun _ _ => 0) ⟨#[], #[.agg #[.int .i64 0, .int .i64 0, .string ByteArray.empty, .slice none 0 0, .slice none 0 0], .agg #[.int .i64 0, .int .i64 0, .string ByteArray.empty, .slice none 0 0, .slice none 0 0]], []⟩) 4 ⟨#[], #[.agg #[.int .i64 0, .int .i64 0, .string ByteArray.empty, .slice none 0 0, .slice none 0 0], .agg #[.int .i64 0, .int .i64 0, .string ByteArray.empty, .slice none 0 0, .slice none 0 0]], []⟩ = true := by kernel_rfl
 refine returnsInHanded_of_row (C := Tryz.checked) (s := (Rows.OpenSpec.upto Rows.jsonPatchesSpec)) own started (by kernel_rfl) Tryz.func4
  ⟨w0 os, fun _ _ => 0, ⟨#[], #[.agg #[.int .i64 0, .int .i64 0, .string ByteArray.empty, .slice none 0 0, .slice none 0 0], .agg #[.int .i64 0, .int .i64 0, .string ByteArray.empty, .slice none 0 0, .slice none 0 0]], []⟩, World.laidAll_os _ _ _, World.shaped_of_ZipB (by kernel_rfl) (by kernel_rfl), (Input.okWide_of_okWideB (base := 0) hok).1, (Input.okWide_of_okWideB hok).2,
   OpenSpec.preRow_of_cond 8 (reads os enc) (by kernel_rfl) (fun k hk => by cases hk; kernel_rfl) (by kernel_rfl) (laid_met os),
   by simp only [Assume.holds]; exact ⟨by simp, by simp, fun _ => Modest.zero, by simp, by simp⟩⟩ ?_
 intro W base args ds gs before hval0 hW _ hcond _ hL _ _
 have hval : ∀ (j : Nat) t v, Tryz.f4.params[j]? = some t → args[j]? = some v → Value.okWide prog W .any base t v := hval0
 have hW' := hW
 obtain ⟨p, q, hA0, hV, rfl, hfz, hnd⟩ := hW'
 have hA : DataW.TrodAll enc prog W 0 (fun _ => true) true Tryz.f4.params.toList args.toList ds p := hA0
 rw [Tryz.params4] at hA hval
 obtain ⟨v0, vs0, d0, ds0, p0, q0, ha0, rfl, rfl, h0, r0⟩ := trodAll_cons hA
 obtain ⟨v1, vs1, d1, ds1, p1, q1, ha1, rfl, rfl, h1, r1⟩ := trodAll_cons r0
 subst ha1
 obtain ⟨rfl, rfl, rfl⟩ := trodAll_nil r1
 obtain rfl : args = #[v0, v1] := by cases args; simp_all
 obtain ⟨rfl, rfl⟩ := trodVars_none hV
 have hk : Rows.uptoBulkAll ([d0, d1] ++ []) ≤ 1048576 := of_decide_eq_true (hcond _ rfl)
 have hlt0 : ∀ x ∈ p0, x.block < W.heap.size := fun x hx => by simpa using hW.lt x (by simp [hx])
 have hd0 := dbulk_le d0
 have hlt1 : ∀ x ∈ p1, x.block < W.heap.size := fun x hx => by simpa using hW.lt x (by simp [hx])
 have hd1 := dbulk_le d1
 obtain ⟨x0, ok0, hr0, hb0⟩ := open_valB facts (τ := (.st .tagT)) rfl (hval 0 25 v0 rfl rfl) h0
 obtain ⟨x1, ok1, hr1, hb1⟩ := open_valB facts (τ := (.st .tagT)) rfl (hval 1 25 v1 rfl rfl) h1
 have hm : dbulk d0 + dbulk d1 ≤ 1048576 := by
  simp only [List.append_nil, Rows.uptoBulkAll] at hk
  omega
 refine ((contract x0 x1 ok0 ok1 _ hb0 _ hb1 hm).closed (W := W) (vs := #[v0, v1]) (gmem_laid hL) ⟨rfl, fun i c x hc hx => ?_⟩).mono fun e W' ⟨he, hb⟩ => ?_
 ·match i with
  | 0 => simp at hc hx; subst hc; subst hx; exact .d hr0
  | 1 => simp at hc hx; subst hc; subst hx; exact .d hr1
  | i + 2 => simp at hc
 subst he
 exact ⟨_, rfl, _, _, _, [], _, [], hW, trodAll_cons_mk (shut_bool Tryz.underlying4 _) trodAll_mk0,
  (trodAll_cons_mk (Below.trod laidOut (by kernel_rfl) (of_decide_eq_true (by kernel_rfl)) h0 hb hlt0) (trodAll_cons_mk (Below.trod laidOut (by kernel_rfl) (of_decide_eq_true (by kernel_rfl)) h1 hb hlt1) trodAll_mk0)), rfl, hb.frame _, (fun h => by cases h)⟩
theorem row : Rows.JsonPatchesUptoSaid :=
 OpenClaim.holds_of_cond 4 Tryz.f4 rfl rfl rfl rfl rfl rfl rfl ⟨rfl, rfl, rfl, rfl, rfl⟩ rfl rfl rfl rfl rfl (by kernel_rfl) Tryz.func4 (by kernel_rfl)
  (of_decide_eq_true (by kernel_rfl)) (by unfold Func.isWrapper; first | (rw [if_pos (by decide +kernel)]; kernel_rfl) | (rw [if_neg (by decide +kernel)]; exact ⟨rfl, rfl⟩))
  (fun os started H enc _ F => by rw [OpenClaim.pre_eq_preRow]; exact lifted os started H enc F)
theorem proved : Rows.JsonPatchesUptoCardSaid :=
 Claim7.holds_tied_plain_at .later [] [.data, .data, .data, .data, .sentinel, .sentinel, .pinned, .pinned] true (true, "206fe8dbf8e52932ec9e8aabf78a392ee94f91dda865ff8bc96efe1930e8586b") true row (fun _ h => by cases h) (by kernel_rfl) (fun _ h => by cases h) jsonPatchesUpto_row_tie rfl ⟨rfl, rfl⟩ (by kernel_rfl) rfl
  (fun f fn hf hfn => by
    obtain rfl : f = 4 := Option.some.inj ((show prog.funcNamed "mandrel/mandrellaw20.JsonPatches" = some 4 by kernel_rfl).symm.trans hf) |>.symm
    obtain rfl : fn = Tryz.f4 := (Option.some.inj (Tryz.func4.symm.trans hfn)).symm
    exact ⟨by kernel_rfl, fun j t ht => by
     rw [Tryz.params4] at ht
     have hm : t ∈ ([25, 25] : List TypeId) := by simpa using Array.mem_of_getElem? ht
     have hall : (([25, 25] : List TypeId).all fun u => !prog.wantsStandIn u) = true := by kernel_rfl
     exact (show prog.wantsStandIn t = false by simpa using List.all_eq_true.1 hall t hm)⟩)
  (by kernel_rfl)
end Go.Proofs.YtpndmanbfleadaaGreatDoor.jsonPatches
end
