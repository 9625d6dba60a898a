/-
  Texts of this claim, joined by a program of mine: what the theorem uses.
-/
import Derived.Test.YtpndmanbfleadaaGreatDoorPkE
import Derived.Test.YtpndmanbfleadaaGreatDoorPkC
import Derived.Test.YtpndmanbfleadaaGreatDoorCards
import Derived.Test.YtpndmanbfleadaaGreatDoorTie
import Derived.WalkKit
import Derived.ProofKit
import Derived.OpenShut
import Derived.LaidMore
import Derived.Lay
import Derived.SevenTiedAt
import Derived.Stop.Joined
import Derived.Deep.DeepHandedRow
set_option linter.unusedVariables false
set_option linter.unusedSimpArgs false
section
namespace Go.Proofs.YtpndmanbfleadaaGreatDoor
open Go.Awp Go.Tx
open IntKind (i32)
open IntKind (i64)
open Go.Proofs.Tryz (prog)
set_option maxHeartbeats 4000000
set_option maxRecDepth 100000
noncomputable def c69s5bd0l2 : Cut SN := ⟨[(0, .bp 100000 0), (1, .dat .str), (7, .dat (.int .i64)), (8, .dat (.int .i64))], [(100000, .st .readerT)]⟩
noncomputable def sh69s5bd0 : Shape vw := { exits := fun id => match id with | 0 => c50s0e1dl0 | _ => ⟨[], []⟩, rcut := c74s5bd0z }
noncomputable def sig69s5bd0 : Sig vw := { params := [.bp 100000 0, .dat .str], objs := [(100000, .st .readerT)], rcut := c74s5bd0z, rvars := [.tmp 4], keep := [100000] }
noncomputable def n_69s5bd0l2 (v : ByteArray × Int × Int × Reader × Unit) : Option (((Bool × Reader × Unit) ⊕ (Reader × Unit))) :=
 if decide (v.2.2.1 < v.2.1) = true then
  if (0 : Int) ≤ v.2.2.1 ∧ v.2.2.1 ≤ i64.wrap (v.2.2.1 + (1 : Int)) ∧ i64.wrap (v.2.2.1 + (1 : Int)) ≤ (↑v.1.size : Int) then
   n_74s5bd0 (v.1.extract v.2.2.1.toNat (i64.wrap (v.2.2.1 + (1 : Int))).toNat, v.2.2.2.1, ()) >>= fun x1 =>
   if (!x1.1) = true then
    some (Sum.inl (false, x1.2.1, ()))
   else n_69s5bd0l2 (v.1, v.2.1, i64.wrap (v.2.2.1 + (1 : Int)), x1.2.1, ())
  else none
 else some (Sum.inr (v.2.2.2.1, ()))
 partial_fixpoint
noncomputable def n_69s5bd0 (v : ByteArray × Reader × Unit) : Option (Bool × Reader × Unit) :=
 n_69s5bd0l2 (v.1, (↑v.1.size : Int), (0 : Int), v.2.1, ()) >>= fun x1 => match x1 with
  | .inl y1 => some y1
  | .inr y1 => some ((true, y1.1, ()))
noncomputable def call69s5bd0 : Caller vw := fun A fid args S k => match fid with | 74 => callObj prog sig74s5bd0 n_74s5bd0 A args S k | _ => none
noncomputable def x69s5bd0 : Xc vw := { P := prog, n := 20, call := call69s5bd0, sh := sh69s5bd0, loops := fun k => match k with | 2 => some { cut := c69s5bd0l2, alts := [.ret, .exit 0], F := n_69s5bd0l2 } | _ => none }
theorem call69s5bd0_ok : CallerOk prog call69s5bd0 := fun A fid args S dst k r h => by
 unfold call69s5bd0 at h
 split at h
 ·exact callObj_ok (n_74s5bd0_ok) h
 ·cases h
theorem n_69s5bd0l2_ok (C : Ctx) (hP : C.P = prog) (hN : C.N = 20) : LoopOk C (loopNo (bodyOf Tryz.f69) 0) (sh := sh69s5bd0) { cut := c69s5bd0l2, alts := [.ret, .exit 0], F := n_69s5bd0l2 } :=
 n_69s5bd0l2.partial_correctness (motive := fun v out => AWpL C (loopNo (bodyOf Tryz.f69) 0) (encS vw (conc vw c69s5bd0l2 v)) (OutQ sh69s5bd0 [.ret, .exit 0] out)) fun F ih v out h =>
  loop_step (X := x69s5bd0) (b := (loopNo (bodyOf Tryz.f69) 0)) hP hN Ty.mixed call69s5bd0_ok (lok_all (X := x69s5bd0) (c := (loopNo (bodyOf Tryz.f69) 0)) (kcast (by kernel_rfl : True = AllB (LoopsP C (x69s5bd0)) (loopsIn (loopNo (bodyOf Tryz.f69) 0))) trivial)) ih (kcast (by kernel_rfl) h)
theorem n_69s5bd0_ok : SigOk prog 69 sig69s5bd0 n_69s5bd0 := fun v r x h hx =>
 fn_ok (X := x69s5bd0) (sig := sig69s5bd0) rfl Tryz.func69 (c := bodyOf Tryz.f69) (by kernel_rfl) Tryz.ntmps69 (by kernel_rfl) (by kernel_rfl) rfl Ty.mixed call69s5bd0_ok rfl (fun C hP hN => (lok_all (kcast (by kernel_rfl : AllB (LoopsP C (x69s5bd0)) [(loopNo (bodyOf Tryz.f69) 0)] = AllB (LoopsP C (x69s5bd0)) (loopsIn (bodyOf Tryz.f69))) ⟨loop_at (X := x69s5bd0) (b := (loopNo (bodyOf Tryz.f69) 0)) (by kernel_rfl) (n_69s5bd0l2_ok C hP hN), trivial⟩))) (kcast (by kernel_rfl) h) x hx
noncomputable def c70s0e1dl6 : Cut SN := ⟨[(0, .bp 100000 0), (2, .bp 2 0), (4, .dat .bool), (5, .dat (.int .i64))], [(100000, .st .readerT), (2, .st .tagT)]⟩
noncomputable def c70s0e1dj11 : Cut SN := ⟨[(0, .bp 100000 0), (2, .bp 2 0), (5, .dat (.int .i64))], [(100000, .st .readerT), (2, .st .tagT)]⟩
noncomputable def c70s0e1dr5 : Cut SN := ⟨[(0, .bp 100000 0), (2, .bp 2 0), (4, .dat .bool), (5, .dat (.int .i64)), (12, .dat .bool)], [(100000, .st .readerT), (2, .st .tagT)]⟩
noncomputable def c70s0e1dr6 : Cut SN := ⟨[(0, .bp 100000 0), (2, .bp 2 0), (4, .dat .bool), (5, .dat (.int .i64)), (28, .dat .bool)], [(100000, .st .readerT), (2, .st .tagT)]⟩
noncomputable def c70s0e1dz : Cut SN := ⟨[(0, .bp 100000 0), (2, .bp 2 0), (3, .dat .bool)], [(100000, .st .readerT), (2, .st .tagT)]⟩
noncomputable def sh70s0e1d : Shape vw := { exits := fun id => match id with | 1 => c70s0e1dl6 | _ => ⟨[], []⟩, rcut := c70s0e1dz }
noncomputable def sig70s0e1d : Sig vw := { params := [.bp 100000 0], objs := [(100000, .st .readerT)], rcut := c70s0e1dz, rvars := [.cell 2 25, .tmp 3], keep := [100000] }
noncomputable def n_70s0e1dl6 (v : Bool × Int × Reader × Tag × Unit) : Option ((Bool × Int × Reader × Tag × Unit)) :=
 (n_68s0e1d (v.2.2.1, ()) >>= fun x1 =>
   if decide (x1.1 ≥ (48 : Int)) = true then
    n_68s0e1d (x1.2.1, ()) >>= fun x2 =>
    some ((v.1, v.2.1, decide (x2.1 ≤ (57 : Int)), x2.2.1, v.2.2.2.1, ()))
   else some ((v.1, v.2.1, false, x1.2.1, v.2.2.2.1, ()))) >>= fun x1 =>
 if x1.2.2.1 = true then
  n_68s0e1d (x1.2.2.2.1, ()) >>= fun x2 =>
  n_70s0e1dl6 (x1.1, min (i64.wrap (i64.wrap ((10 : Int) * x1.2.1) + i64.wrap (IntKind.u8.wrap (x2.1 - (48 : Int))))) (576460752303423488 : Int), Reader.mk x2.2.1.s (i64.wrap (x2.2.1.at0 + (1 : Int))), x1.2.2.2.2.1, ())
 else some ((x1.1, x1.2.1, x1.2.2.2.1, x1.2.2.2.2.1, ()))
 partial_fixpoint
noncomputable def n_70s0e1d (v : Reader × Unit) : Option (Bool × Reader × Tag × Unit) :=
 n_74s5bd0 (ByteArray.mk #[45], v.1, ()) >>= fun x1 =>
 (n_74s5bd0 (ByteArray.mk #[48], x1.2.1, ()) >>= fun x2 =>
   if x2.1 = true then
    some (Sum.inl (x1.1, (0 : Int), x2.2.1, Tag.mk (0 : Int) (0 : Int) (ByteArray.mk #[]) [] [], ()))
   else (n_68s0e1d (x2.2.1, ()) >>= fun x3 =>
    if decide (x3.1 ≥ (49 : Int)) = true then
     n_68s0e1d (x3.2.1, ()) >>= fun x4 =>
     some ((x1.1, (0 : Int), decide (x4.1 ≤ (57 : Int)), x4.2.1, Tag.mk (0 : Int) (0 : Int) (ByteArray.mk #[]) [] [], ()))
    else some ((x1.1, (0 : Int), false, x3.2.1, Tag.mk (0 : Int) (0 : Int) (ByteArray.mk #[]) [] [], ()))) >>= fun x3 =>
   if x3.2.2.1 = true then
    n_70s0e1dl6 (x3.1, x3.2.1, x3.2.2.2.1, x3.2.2.2.2.1, ()) >>= fun x4 =>
    some (Sum.inl (x4.1, x4.2.1, x4.2.2.1, x4.2.2.2.1, ()))
   else some (Sum.inr (false, x3.2.2.2.1, Tag.mk (0 : Int) (0 : Int) (ByteArray.mk #[]) [] [], ()))) >>= fun x2 => match x2 with
   | .inl y2 => (if y2.1 = true then
      some ((i64.wrap ((0 : Int) - y2.2.1), y2.2.2.1, y2.2.2.2.1, ()))
     else some ((y2.2.1, y2.2.2.1, y2.2.2.2.1, ()))) >>= fun x3 =>
    some ((true, x3.2.1, Tag.mk (3 : Int) x3.1 (ByteArray.mk #[]) [] [], ()))
   | .inr y2 => some y2
noncomputable def call70s0e1d : Caller vw := fun A fid args S k => match fid with | 68 => callObj prog sig68s0e1d n_68s0e1d A args S k | 74 => callObj prog sig74s5bd0 n_74s5bd0 A args S k | _ => none
noncomputable def x70s0e1d : Xc vw := { P := prog, n := 49, call := call70s0e1d, sh := sh70s0e1d, joins := fun k => match k with | 9 => some (c70s0e1dl6, [.norm, .ret]) | 11 => some (c70s0e1dj11, [.norm]) | _ => none, regs := fun k => match k with | 5 => some c70s0e1dr5 | 6 => some c70s0e1dr6 | _ => none, loops := fun k => match k with | 6 => some { cut := c70s0e1dl6, alts := [.exit 1], F := n_70s0e1dl6 } | _ => none }
theorem call70s0e1d_ok : CallerOk prog call70s0e1d := fun A fid args S dst k r h => by
 unfold call70s0e1d at h
 split at h
 ·exact callObj_ok (n_68s0e1d_ok) h
 ·exact callObj_ok (n_74s5bd0_ok) h
 ·cases h
theorem n_70s0e1dl6_ok (C : Ctx) (hP : C.P = prog) (hN : C.N = 49) : LoopOk C (loopNo (bodyOf Tryz.f70) 0) (sh := sh70s0e1d) { cut := c70s0e1dl6, alts := [.exit 1], F := n_70s0e1dl6 } :=
 n_70s0e1dl6.partial_correctness (motive := fun v out => AWpL C (loopNo (bodyOf Tryz.f70) 0) (encS vw (conc vw c70s0e1dl6 v)) (OutQ sh70s0e1d [.exit 1] out)) fun F ih v out h =>
  loop_step (X := x70s0e1d) (b := (loopNo (bodyOf Tryz.f70) 0)) hP hN Ty.mixed call70s0e1d_ok (lok_all (X := x70s0e1d) (c := (loopNo (bodyOf Tryz.f70) 0)) (kcast (by kernel_rfl : True = AllB (LoopsP C (x70s0e1d)) (loopsIn (loopNo (bodyOf Tryz.f70) 0))) trivial)) ih (kcast (by kernel_rfl) h)
theorem n_70s0e1d_ok : SigOk prog 70 sig70s0e1d n_70s0e1d := fun v r x h hx =>
 fn_ok (X := x70s0e1d) (sig := sig70s0e1d) rfl Tryz.func70 (c := bodyOf Tryz.f70) (by kernel_rfl) Tryz.ntmps70 (by kernel_rfl) (by kernel_rfl) rfl Ty.mixed call70s0e1d_ok rfl (fun C hP hN => (lok_all (kcast (by kernel_rfl : AllB (LoopsP C (x70s0e1d)) [(loopNo (bodyOf Tryz.f70) 0)] = AllB (LoopsP C (x70s0e1d)) (loopsIn (bodyOf Tryz.f70))) ⟨loop_at (X := x70s0e1d) (b := (loopNo (bodyOf Tryz.f70) 0)) (by kernel_rfl) (n_70s0e1dl6_ok C hP hN), trivial⟩))) (kcast (by kernel_rfl) h) x hx
noncomputable def sh96s8e4d : Shape vw := { rcut := c60z }
noncomputable def sig96s8e4d : Sig vw := { params := [.bp 100000 0], objs := [(100000, .box (some 108) [.np 100000, .vh 100001]), (100001, .vec 5 (.int .u8))], rcut := c60z, rvars := [.tmp 2] }
noncomputable def n_96s8e4d (v : Bool × (List Int) × Unit) : Option (ByteArray × Unit) :=
 if (↑v.2.1.length : Int) = (↑v.2.1.length : Int) ∧ v.2.1.length ≤ (4294967296 : Nat) then
  some ((Bs.bytes v.2.1, ()))
 else none
noncomputable def call96s8e4d : Caller vw := fun _ _ _ _ _ => none
noncomputable def x96s8e4d : Xc vw := { P := prog, n := 14, call := call96s8e4d, sh := sh96s8e4d }
theorem call96s8e4d_ok : CallerOk prog call96s8e4d := call_none
theorem n_96s8e4d_ok : SigOk prog 96 sig96s8e4d n_96s8e4d := fun v r x h hx =>
 fn_ok (X := x96s8e4d) (sig := sig96s8e4d) rfl Tryz.func96 (c := bodyOf Tryz.f96) (by kernel_rfl) Tryz.ntmps96 (by kernel_rfl) (by kernel_rfl) rfl Ty.mixed call96s8e4d_ok rfl (fun C hP hN => (lok_all (kcast (by kernel_rfl) trivial))) (kcast (by kernel_rfl) h) x hx
noncomputable def c97s0e1dr2 : Cut SN := ⟨[(0, .bp 100000 0), (4, .dat (.int .i64)), (24, .dat .bool)], [(100000, .st .readerT)]⟩
noncomputable def c97s0e1dr8 : Cut SN := ⟨[(0, .bp 100000 0), (5, .dat (.int .i32)), (6, .dat .bool), (52, .dat .bool)], [(100000, .st .readerT)]⟩
noncomputable def c97s0e1dz : Cut SN := ⟨[(0, .bp 100000 0), (2, .dat (.int .i32)), (3, .dat .bool)], [(100000, .st .readerT)]⟩
noncomputable def sh97s0e1d : Shape vw := { rcut := c97s0e1dz }
noncomputable def sig97s0e1d : Sig vw := { params := [.bp 100000 0], objs := [(100000, .st .readerT)], rcut := c97s0e1dz, rvars := [.tmp 2, .tmp 3], keep := [100000] }
noncomputable def n_97s0e1d (v : Reader × Unit) : Option (Int × Bool × Reader × Unit) :=
 n_68s0e1d (v.1, ()) >>= fun x1 =>
 n_118 (ByteArray.mk #[34, 92, 47, 98, 102, 110, 114, 116], x1.1, ()) >>= fun x2 =>
 (if decide (x1.2.1.at0 < (↑x1.2.1.s.size : Int)) = true then
    some ((x2.1, decide (x2.1 ≥ (0 : Int)), x1.2.1, ()))
   else some ((x2.1, false, x1.2.1, ()))) >>= fun x3 =>
 if x3.2.1 = true then
  if (0 : Int) ≤ x3.1 then
   (ByteArray.mk #[34, 92, 47, 8, 12, 10, 13, 9])[x3.1.toNat]? >>= fun x4 =>
   some ((i32.wrap (↑x4.toNat : Int), true, Reader.mk x3.2.2.1.s (i64.wrap (x3.2.2.1.at0 + (1 : Int))), ()))
  else none
 else n_74s5bd0 (ByteArray.mk #[117], x3.2.2.1, ()) >>= fun x4 =>
 if (!x4.1) = true then
  some (((0 : Int), false, x4.2.1, ()))
 else n_119sadb0 (ByteArray.mk #[48, 49, 50, 51, 52, 53, 54, 55, 56, 57, 97, 98, 99, 101, 102, 65, 66, 67, 69, 70], ByteArray.mk #[48, 49, 50, 51, 52, 53, 54, 55, 56, 57, 97, 98, 65, 66], x4.2.1, ()) >>= fun x5 =>
 (if (!x5.2.1) = true then
    some ((x5.1, x5.2.1, true, x5.2.2.1, ()))
   else if decide (x5.1 < (55296 : Int)) = true then
    some ((x5.1, x5.2.1, true, x5.2.2.1, ()))
   else some ((x5.1, x5.2.1, decide (x5.1 ≥ (56320 : Int)), x5.2.2.1, ()))) >>= fun x6 =>
 if x6.2.2.1 = true then
  some ((x6.1, x6.2.1, x6.2.2.2.1, ()))
 else n_69s5bd0 (ByteArray.mk #[92, 117], x6.2.2.2.1, ()) >>= fun x7 =>
 if (!x7.1) = true then
  some (((0 : Int), false, x7.2.1, ()))
 else n_119sadb0 (ByteArray.mk #[], ByteArray.mk #[99, 100, 101, 102, 67, 68, 69, 70], x7.2.1, ()) >>= fun x8 =>
 some ((i32.wrap (i32.wrap (i32.wrap ((65536 : Int) + Bs.ishl i32 (i32.wrap (x6.1 - (55296 : Int))) (10 : Int)) + x8.1) - (56320 : Int)), x8.2.1, x8.2.2.1, ()))
noncomputable def call97s0e1d : Caller vw := fun A fid args S k => match fid with | 68 => callObj prog sig68s0e1d n_68s0e1d A args S k | 69 => callObj prog sig69s5bd0 n_69s5bd0 A args S k | 74 => callObj prog sig74s5bd0 n_74s5bd0 A args S k | 118 => callPure prog sig118 n_118 A args S k | 119 => callObj prog sig119sadb0 n_119sadb0 A args S k | _ => none
noncomputable def x97s0e1d : Xc vw := { P := prog, n := 71, call := call97s0e1d, sh := sh97s0e1d, regs := fun k => match k with | 2 => some c97s0e1dr2 | 8 => some c97s0e1dr8 | _ => none }
theorem call97s0e1d_ok : CallerOk prog call97s0e1d := fun A fid args S dst k r h => by
 unfold call97s0e1d at h
 split at h
 ·exact callObj_ok (n_68s0e1d_ok) h
 ·exact callObj_ok (n_69s5bd0_ok) h
 ·exact callObj_ok (n_74s5bd0_ok) h
 ·exact callPure_ok (n_118_ok) rfl rfl h
 ·exact callObj_ok (n_119sadb0_ok) h
 ·cases h
theorem n_97s0e1d_ok : SigOk prog 97 sig97s0e1d n_97s0e1d := fun v r x h hx =>
 fn_ok (X := x97s0e1d) (sig := sig97s0e1d) rfl Tryz.func97 (c := bodyOf Tryz.f97) (by kernel_rfl) Tryz.ntmps97 (by kernel_rfl) (by kernel_rfl) rfl Ty.mixed call97s0e1d_ok rfl (fun C hP hN => (lok_all (kcast (by kernel_rfl) trivial))) (kcast (by kernel_rfl) h) x hx
noncomputable def sh98se46d : Shape vw := { rcut := c100s52d8z }
noncomputable def sig98se46d : Sig vw := { params := [.bp 100000 0, .dat (.int .i32)], objs := [(100000, .box (some 108) [.np 100000, .vh 100001]), (100001, .vec 5 (.int .u8))], rcut := c100s52d8z, rvars := [.tmp 4, .tmp 5], keep := [100000, 3001] }
noncomputable def n_98se46d (v : Int × Bool × (List Int) × Unit) : Option (Int × Bool × (List Int) × Unit) :=
 n_120s8e4d (v.2.1, v.2.2.1, ()) >>= fun x1 =>
 n_121s43b2 (v.1, x1.2.1, ()) >>= fun x2 =>
 some ((i64.wrap ((↑x2.1.length : Int) - (↑x1.2.1.length : Int)), x1.1, x2.1, ()))
noncomputable def call98se46d : Caller vw := fun A fid args S k => match fid with | 120 => callObj prog sig120s8e4d n_120s8e4d A args S k | 121 => callObj prog sig121s43b2 n_121s43b2 A args S k | _ => none
noncomputable def x98se46d : Xc vw := { P := prog, n := 30, call := call98se46d, sh := sh98se46d }
theorem call98se46d_ok : CallerOk prog call98se46d := fun A fid args S dst k r h => by
 unfold call98se46d at h
 split at h
 ·exact callObj_ok (n_120s8e4d_ok) h
 ·exact callObj_ok (n_121s43b2_ok) h
 ·cases h
theorem n_98se46d_ok : SigOk prog 98 sig98se46d n_98se46d := fun v r x h hx =>
 fn_ok (X := x98se46d) (sig := sig98se46d) rfl Tryz.func98 (c := bodyOf Tryz.f98) (by kernel_rfl) Tryz.ntmps98 (by kernel_rfl) (by kernel_rfl) rfl Ty.mixed call98se46d_ok rfl (fun C hP hN => (lok_all (kcast (by kernel_rfl) trivial))) (kcast (by kernel_rfl) h) x hx
noncomputable def c99s0e1dl22 : Cut SN := ⟨[(0, .bp 100000 0), (4, .dat (.int .u8)), (5, .dat (.int .u8)), (48, .dat (.int .i64)), (49, .dat (.int .i64))], [(100000, .st .readerT)]⟩
noncomputable def c99s0e1dj11 : Cut SN := ⟨[(0, .bp 100000 0), (3, .dat (.int .u8)), (4, .dat (.int .u8)), (5, .dat (.int .u8)), (6, .dat (.int .i64))], [(100000, .st .readerT)]⟩
noncomputable def c99s0e1dj20 : Cut SN := ⟨[(0, .bp 100000 0), (4, .dat (.int .u8)), (5, .dat (.int .u8)), (6, .dat (.int .i64))], [(100000, .st .readerT)]⟩
noncomputable def c99s0e1dr5 : Cut SN := ⟨[(0, .bp 100000 0), (3, .dat (.int .u8)), (4, .dat (.int .u8)), (5, .dat (.int .u8)), (19, .dat .bool)], [(100000, .st .readerT)]⟩
noncomputable def c99s0e1dz : Cut SN := ⟨[(0, .bp 100000 0), (2, .dat .bool)], [(100000, .st .readerT)]⟩
noncomputable def sh99s0e1d : Shape vw := { exits := fun id => match id with | 2 => c50s0e1dl0 | _ => ⟨[], []⟩, rcut := c99s0e1dz }
noncomputable def sig99s0e1d : Sig vw := { params := [.bp 100000 0], objs := [(100000, .st .readerT)], rcut := c99s0e1dz, rvars := [.tmp 2], keep := [100000] }
noncomputable def n_99s0e1dl22 (v : Int × Int × Int × Int × Reader × Unit) : Option (((Bool × Reader × Unit) ⊕ (Reader × Unit))) :=
 if decide (v.2.2.2.1 < v.2.2.1) = true then
  n_122s07d3 (v.1, v.2.1, v.2.2.2.2.1, ()) >>= fun x1 =>
  if (!x1.1) = true then
   some (Sum.inl (false, x1.2.1, ()))
  else n_99s0e1dl22 ((128 : Int), (191 : Int), v.2.2.1, i64.wrap (v.2.2.2.1 + (1 : Int)), x1.2.1, ())
 else some (Sum.inr (v.2.2.2.2.1, ()))
 partial_fixpoint
noncomputable def n_99s0e1d (v : Reader × Unit) : Option (Bool × Reader × Unit) :=
 if (0 : Int) ≤ v.1.at0 then
  v.1.s[v.1.at0.toNat]? >>= fun x1 =>
  (if decide ((↑x1.toNat : Int) < (128 : Int)) = true then
     some (Sum.inl ((↑x1.toNat : Int), (128 : Int), (191 : Int), (0 : Int), v.1, ()))
    else (if decide ((↑x1.toNat : Int) < (194 : Int)) = true then
      some (((↑x1.toNat : Int), (128 : Int), (191 : Int), true, v.1, ()))
     else some (((↑x1.toNat : Int), (128 : Int), (191 : Int), decide ((↑x1.toNat : Int) > (244 : Int)), v.1, ()))) >>= fun x2 =>
    if x2.2.2.2.1 = true then
     some (Sum.inr (false, x2.2.2.2.2.1, ()))
    else if decide (x2.1 < (224 : Int)) = true then
     some (Sum.inl (x2.1, x2.2.1, x2.2.2.1, (1 : Int), x2.2.2.2.2.1, ()))
    else if decide (x2.1 < (240 : Int)) = true then
     some (Sum.inl (x2.1, x2.2.1, x2.2.2.1, (2 : Int), x2.2.2.2.2.1, ()))
    else some (Sum.inl (x2.1, x2.2.1, x2.2.2.1, (3 : Int), x2.2.2.2.2.1, ()))) >>= fun x2 => match x2 with
    | .inl y2 => (if (y2.1 == (224 : Int)) = true then
       some (((160 : Int), y2.2.2.1, y2.2.2.2.1, y2.2.2.2.2.1, ()))
      else if (y2.1 == (237 : Int)) = true then
       some ((y2.2.1, (159 : Int), y2.2.2.2.1, y2.2.2.2.2.1, ()))
      else if (y2.1 == (240 : Int)) = true then
       some (((144 : Int), y2.2.2.1, y2.2.2.2.1, y2.2.2.2.2.1, ()))
      else if (y2.1 == (244 : Int)) = true then
       some ((y2.2.1, (143 : Int), y2.2.2.2.1, y2.2.2.2.2.1, ()))
      else some ((y2.2.1, y2.2.2.1, y2.2.2.2.1, y2.2.2.2.2.1, ()))) >>= fun x3 =>
     n_99s0e1dl22 (x3.1, x3.2.1, x3.2.2.1, (0 : Int), Reader.mk x3.2.2.2.1.s (i64.wrap (x3.2.2.2.1.at0 + (1 : Int))), ()) >>= fun x4 => match x4 with
      | .inl y4 => some y4
      | .inr y4 => some ((true, y4.1, ()))
    | .inr y2 => some y2
 else none
noncomputable def call99s0e1d : Caller vw := fun A fid args S k => match fid with | 122 => callObj prog sig122s07d3 n_122s07d3 A args S k | _ => none
noncomputable def x99s0e1d : Xc vw := { P := prog, n := 57, call := call99s0e1d, sh := sh99s0e1d, joins := fun k => match k with | 11 => some (c99s0e1dj11, [.norm, .ret]) | 20 => some (c99s0e1dj20, [.norm]) | _ => none, regs := fun k => match k with | 5 => some c99s0e1dr5 | _ => none, loops := fun k => match k with | 22 => some { cut := c99s0e1dl22, alts := [.ret, .exit 2], F := n_99s0e1dl22 } | _ => none }
theorem call99s0e1d_ok : CallerOk prog call99s0e1d := fun A fid args S dst k r h => by
 unfold call99s0e1d at h
 split at h
 ·exact callObj_ok (n_122s07d3_ok) h
 ·cases h
theorem n_99s0e1dl22_ok (C : Ctx) (hP : C.P = prog) (hN : C.N = 57) : LoopOk C (loopNo (bodyOf Tryz.f99) 0) (sh := sh99s0e1d) { cut := c99s0e1dl22, alts := [.ret, .exit 2], F := n_99s0e1dl22 } :=
 n_99s0e1dl22.partial_correctness (motive := fun v out => AWpL C (loopNo (bodyOf Tryz.f99) 0) (encS vw (conc vw c99s0e1dl22 v)) (OutQ sh99s0e1d [.ret, .exit 2] out)) fun F ih v out h =>
  loop_step (X := x99s0e1d) (b := (loopNo (bodyOf Tryz.f99) 0)) hP hN Ty.mixed call99s0e1d_ok (lok_all (X := x99s0e1d) (c := (loopNo (bodyOf Tryz.f99) 0)) (kcast (by kernel_rfl : True = AllB (LoopsP C (x99s0e1d)) (loopsIn (loopNo (bodyOf Tryz.f99) 0))) trivial)) ih (kcast (by kernel_rfl) h)
theorem n_99s0e1d_ok : SigOk prog 99 sig99s0e1d n_99s0e1d := fun v r x h hx =>
 fn_ok (X := x99s0e1d) (sig := sig99s0e1d) rfl Tryz.func99 (c := bodyOf Tryz.f99) (by kernel_rfl) Tryz.ntmps99 (by kernel_rfl) (by kernel_rfl) rfl Ty.mixed call99s0e1d_ok rfl (fun C hP hN => (lok_all (kcast (by kernel_rfl : AllB (LoopsP C (x99s0e1d)) [(loopNo (bodyOf Tryz.f99) 0)] = AllB (LoopsP C (x99s0e1d)) (loopsIn (bodyOf Tryz.f99))) ⟨loop_at (X := x99s0e1d) (b := (loopNo (bodyOf Tryz.f99) 0)) (by kernel_rfl) (n_99s0e1dl22_ok C hP hN), trivial⟩))) (kcast (by kernel_rfl) h) x hx
noncomputable def c71s0e1dl3 : Cut SN := ⟨[(0, .bp 100000 0), (4, .bp 4 0)], [(100000, .st .readerT), (4, .box (some 108) [.np 4, .vh 3041]), (3041, .vec 5 (.int .u8))]⟩
noncomputable def c71s0e1dz : Cut SN := ⟨[(0, .bp 100000 0), (2, .dat .str), (3, .dat .bool)], [(100000, .st .readerT)]⟩
noncomputable def sh71s0e1d : Shape vw := { rcut := c71s0e1dz }
noncomputable def sig71s0e1d : Sig vw := { params := [.bp 100000 0], objs := [(100000, .st .readerT)], rcut := c71s0e1dz, rvars := [.tmp 2, .tmp 3], keep := [100000] }
noncomputable def n_71s0e1dl3 (v : Reader × Bool × (List Int) × Unit) : Option ((ByteArray × Bool × Reader × Unit)) :=
 n_68s0e1d (v.1, ()) >>= fun x1 =>
 if (x1.1 == (34 : Int)) = true then
  n_96s8e4d (v.2.1, v.2.2.1, ()) >>= fun x2 =>
  some ((x2.1, true, Reader.mk x1.2.1.s (i64.wrap (x1.2.1.at0 + (1 : Int))), ()))
 else if decide (x1.1 < (32 : Int)) = true then
  some ((ByteArray.mk #[], false, x1.2.1, ()))
 else if (x1.1 == (92 : Int)) = true then
  n_97s0e1d (Reader.mk x1.2.1.s (i64.wrap (x1.2.1.at0 + (1 : Int))), ()) >>= fun x2 =>
  if (!x2.2.1) = true then
   some ((ByteArray.mk #[], false, x2.2.2.1, ()))
  else n_98se46d (x2.1, v.2.1, v.2.2.1, ()) >>= fun x3 =>
  n_71s0e1dl3 (x2.2.2.1, x3.2.1, x3.2.2.1, ())
 else n_99s0e1d (x1.2.1, ()) >>= fun x2 =>
 if (!x2.1) = true then
  some ((ByteArray.mk #[], false, x2.2.1, ()))
 else if (0 : Int) ≤ x1.2.1.at0 ∧ x1.2.1.at0 ≤ x2.2.1.at0 ∧ x2.2.1.at0 ≤ (↑x2.2.1.s.size : Int) then
  n_100s52d8 (x2.2.1.s.extract x1.2.1.at0.toNat x2.2.1.at0.toNat, v.2.1, v.2.2.1, ()) >>= fun x3 =>
  n_71s0e1dl3 (x2.2.1, x3.2.1, x3.2.2.1, ())
 else none
 partial_fixpoint
noncomputable def n_71s0e1d (v : Reader × Unit) : Option (ByteArray × Bool × Reader × Unit) :=
 some (v.1, false, [], ()) >>= fun x1 =>
 n_71s0e1dl3 (Reader.mk x1.1.s (i64.wrap (x1.1.at0 + (1 : Int))), x1.2.1, x1.2.2.1, ()) >>= fun x2 =>
 some x2
noncomputable def call71s0e1d : Caller vw := fun A fid args S k => match fid with | 68 => callObj prog sig68s0e1d n_68s0e1d A args S k | 96 => callObj prog sig96s8e4d n_96s8e4d A args S k | 97 => callObj prog sig97s0e1d n_97s0e1d A args S k | 98 => callObj prog sig98se46d n_98se46d A args S k | 99 => callObj prog sig99s0e1d n_99s0e1d A args S k | 100 => callObj prog sig100s52d8 n_100s52d8 A args S k | _ => none
noncomputable def x71s0e1d : Xc vw := { P := prog, n := 69, call := call71s0e1d, sh := sh71s0e1d, regs := fun k => match k with | 1 => some c71s0e1dl3 | _ => none, loops := fun k => match k with | 3 => some { cut := c71s0e1dl3, alts := [.ret], F := n_71s0e1dl3 } | _ => none }
theorem call71s0e1d_ok : CallerOk prog call71s0e1d := fun A fid args S dst k r h => by
 unfold call71s0e1d at h
 split at h
 ·exact callObj_ok (n_68s0e1d_ok) h
 ·exact callObj_ok (n_96s8e4d_ok) h
 ·exact callObj_ok (n_97s0e1d_ok) h
 ·exact callObj_ok (n_98se46d_ok) h
 ·exact callObj_ok (n_99s0e1d_ok) h
 ·exact callObj_ok (n_100s52d8_ok) h
 ·cases h
theorem n_71s0e1dl3_ok (C : Ctx) (hP : C.P = prog) (hN : C.N = 69) : LoopOk C (loopNo (bodyOf Tryz.f71) 0) (sh := sh71s0e1d) { cut := c71s0e1dl3, alts := [.ret], F := n_71s0e1dl3 } :=
 n_71s0e1dl3.partial_correctness (motive := fun v out => AWpL C (loopNo (bodyOf Tryz.f71) 0) (encS vw (conc vw c71s0e1dl3 v)) (OutQ sh71s0e1d [.ret] out)) fun F ih v out h =>
  loop_step (X := x71s0e1d) (b := (loopNo (bodyOf Tryz.f71) 0)) hP hN Ty.mixed call71s0e1d_ok (lok_all (X := x71s0e1d) (c := (loopNo (bodyOf Tryz.f71) 0)) (kcast (by kernel_rfl : True = AllB (LoopsP C (x71s0e1d)) (loopsIn (loopNo (bodyOf Tryz.f71) 0))) trivial)) ih (kcast (by kernel_rfl) h)
theorem n_71s0e1d_ok : SigOk prog 71 sig71s0e1d n_71s0e1d := fun v r x h hx =>
 fn_ok (X := x71s0e1d) (sig := sig71s0e1d) rfl Tryz.func71 (c := bodyOf Tryz.f71) (by kernel_rfl) Tryz.ntmps71 (by kernel_rfl) (by kernel_rfl) rfl Ty.mixed call71s0e1d_ok rfl (fun C hP hN => (lok_all (kcast (by kernel_rfl : AllB (LoopsP C (x71s0e1d)) [(loopNo (bodyOf Tryz.f71) 0)] = AllB (LoopsP C (x71s0e1d)) (loopsIn (bodyOf Tryz.f71))) ⟨loop_at (X := x71s0e1d) (b := (loopNo (bodyOf Tryz.f71) 0)) (by kernel_rfl) (n_71s0e1dl3_ok C hP hN), trivial⟩))) (kcast (by kernel_rfl) h) x hx
noncomputable def c49s0e1dr9 : Cut SN := ⟨[(0, .bp 100000 0), (2, .bp 2 0), (4, .dat (.int .u8)), (29, .dat .bool)], [(100000, .st .readerT), (2, .st .tagT)]⟩
noncomputable def sh49s0e1d : Shape vw := { rcut := c70s0e1dz }
noncomputable def sig49s0e1d : Sig vw := { params := [.bp 100000 0], objs := [(100000, .st .readerT)], rcut := c70s0e1dz, rvars := [.cell 2 25, .tmp 3], keep := [100000] }
noncomputable def c72s0e1dg1 : Cut SN := ⟨[(0, .bp 100000 0), (2, .bp 2 0), (4, .bp 4 0)], [(100000, .st .readerT), (2, .st .tagT), (4, .box none [.dat (.int .i64), .dat (.int .i64), .dat .str, .vh 3043, .vh 3044]), (3043, .vec 9 .str), (3044, .vec 25 (.st .tagT))]⟩
noncomputable def sh72s0e1d : Shape vw := { exits := fun id => match id with | 1000000 => c72s0e1dg1 | _ => ⟨[], []⟩, rcut := c70s0e1dz }
noncomputable def sig72s0e1d : Sig vw := { params := [.bp 100000 0], objs := [(100000, .st .readerT)], rcut := c70s0e1dz, rvars := [.cell 2 25, .tmp 3], keep := [100000] }
noncomputable def sh73s0e1d : Shape vw := { exits := fun id => match id with | 1000000 => c72s0e1dg1 | _ => ⟨[], []⟩, rcut := c70s0e1dz }
noncomputable def sig73s0e1d : Sig vw := { params := [.bp 100000 0], objs := [(100000, .st .readerT)], rcut := c70s0e1dz, rvars := [.cell 2 25, .tmp 3], keep := [100000] }
mutual
noncomputable def n_49s0e1d (v : Reader × Unit) : Option (Bool × Reader × Tag × Unit) :=
 n_50s0e1d (v.1, ()) >>= fun x1 =>
 n_68s0e1d (x1.1, ()) >>= fun x2 =>
 if (x2.1 == (110 : Int)) = true then
  n_69s5bd0 (ByteArray.mk #[110, 117, 108, 108], x2.2.1, ()) >>= fun x3 =>
  some ((x3.1, x3.2.1, Tag.mk (0 : Int) (0 : Int) (ByteArray.mk #[]) [] [], ()))
 else if (x2.1 == (102 : Int)) = true then
  n_69s5bd0 (ByteArray.mk #[102, 97, 108, 115, 101], x2.2.1, ()) >>= fun x3 =>
  some ((x3.1, x3.2.1, Tag.mk (1 : Int) (0 : Int) (ByteArray.mk #[]) [] [], ()))
 else if (x2.1 == (116 : Int)) = true then
  n_69s5bd0 (ByteArray.mk #[116, 114, 117, 101], x2.2.1, ()) >>= fun x3 =>
  some ((x3.1, x3.2.1, Tag.mk (2 : Int) (0 : Int) (ByteArray.mk #[]) [] [], ()))
 else (if (x2.1 == (45 : Int)) = true then
   some ((x2.1, true, x2.2.1, Tag.mk (0 : Int) (0 : Int) (ByteArray.mk #[]) [] [], ()))
  else if decide (x2.1 ≥ (48 : Int)) = true then
   some ((x2.1, decide (x2.1 ≤ (57 : Int)), x2.2.1, Tag.mk (0 : Int) (0 : Int) (ByteArray.mk #[]) [] [], ()))
  else some ((x2.1, false, x2.2.1, Tag.mk (0 : Int) (0 : Int) (ByteArray.mk #[]) [] [], ()))) >>= fun x3 =>
 if x3.2.1 = true then
  n_70s0e1d (x3.2.2.1, ()) >>= fun x4 =>
  some ((x4.1, x4.2.1, x4.2.2.1, ()))
 else if (x3.1 == (34 : Int)) = true then
  n_71s0e1d (x3.2.2.1, ()) >>= fun x4 =>
  some ((x4.2.1, x4.2.2.1, Tag.mk (4 : Int) (0 : Int) x4.1 [] [], ()))
 else if (x3.1 == (91 : Int)) = true then
  n_72s0e1d (x3.2.2.1, ()) >>= fun x4 =>
  some ((x4.1, x4.2.1, x4.2.2.1, ()))
 else if (x3.1 == (123 : Int)) = true then
  n_73s0e1d (x3.2.2.1, ()) >>= fun x4 =>
  some ((x4.1, x4.2.1, x4.2.2.1, ()))
 else some ((false, x3.2.2.1, Tag.mk (0 : Int) (0 : Int) (ByteArray.mk #[]) [] [], ()))
 partial_fixpoint
noncomputable def n_73s0e1d (v : Reader × Unit) : Option (Bool × Reader × Tag × Unit) :=
 some (v.1, Tag.mk (0 : Int) (0 : Int) (ByteArray.mk #[]) [] [], (6 : Int), (0 : Int), ByteArray.mk #[], [], [], ()) >>= fun x1 =>
 n_50s0e1d (Reader.mk x1.1.s (i64.wrap (x1.1.at0 + (1 : Int))), ()) >>= fun x2 =>
 n_74s5bd0 (ByteArray.mk #[125], x2.1, ()) >>= fun x3 =>
 if x3.1 = true then
  some ((true, x3.2.1, Tag.mk x1.2.2.1 x1.2.2.2.1 x1.2.2.2.2.1 x1.2.2.2.2.2.1 x1.2.2.2.2.2.2.1, ()))
 else n_50s0e1d (x3.2.1, ()) >>= fun x4 =>
 n_68s0e1d (x4.1, ()) >>= fun x5 =>
 if (x5.1 != (34 : Int)) = true then
  some ((false, x5.2.1, Tag.mk (0 : Int) (0 : Int) (ByteArray.mk #[]) [] [], ()))
 else n_71s0e1d (x5.2.1, ()) >>= fun x6 =>
 if (!x6.2.1) = true then
  some ((false, x6.2.2.1, Tag.mk (0 : Int) (0 : Int) (ByteArray.mk #[]) [] [], ()))
 else n_50s0e1d (x6.2.2.1, ()) >>= fun x7 =>
 n_74s5bd0 (ByteArray.mk #[58], x7.1, ()) >>= fun x8 =>
 if (!x8.1) = true then
  some ((false, x8.2.1, Tag.mk (0 : Int) (0 : Int) (ByteArray.mk #[]) [] [], ()))
 else n_49s0e1d (x8.2.1, ()) >>= fun x9 =>
 if (!x9.1) = true then
  some ((false, x9.2.1, Tag.mk (0 : Int) (0 : Int) (ByteArray.mk #[]) [] [], ()))
 else if x1.2.2.2.2.2.1.length + [x6.1].length ≤ (4294967296 : Nat) then
  if x1.2.2.2.2.2.2.1.length + [x9.2.2.1].length ≤ (4294967296 : Nat) then
   n_50s0e1d (x9.2.1, ()) >>= fun x10 =>
   n_74s5bd0 (ByteArray.mk #[44], x10.1, ()) >>= fun x11 =>
   if x11.1 = true then
    n_73s0e1dg1 (x11.2.1, x1.2.1, x1.2.2.1, x1.2.2.2.1, x1.2.2.2.2.1, x1.2.2.2.2.2.1 ++ [x6.1], x1.2.2.2.2.2.2.1 ++ [x9.2.2.1], ()) >>= fun x12 =>
    some x12
   else n_74s5bd0 (ByteArray.mk #[125], x11.2.1, ()) >>= fun x12 =>
   some ((x12.1, x12.2.1, Tag.mk x1.2.2.1 x1.2.2.2.1 x1.2.2.2.2.1 (x1.2.2.2.2.2.1 ++ [x6.1]) (x1.2.2.2.2.2.2.1 ++ [x9.2.2.1]), ()))
  else none
 else none
 partial_fixpoint
noncomputable def n_73s0e1dg1 (v : Reader × Tag × Int × Int × ByteArray × (List ByteArray) × (List Tag) × Unit) : Option ((Bool × Reader × Tag × Unit)) :=
 n_50s0e1d (v.1, ()) >>= fun x1 =>
 n_68s0e1d (x1.1, ()) >>= fun x2 =>
 if (x2.1 != (34 : Int)) = true then
  some ((false, x2.2.1, Tag.mk (0 : Int) (0 : Int) (ByteArray.mk #[]) [] [], ()))
 else n_71s0e1d (x2.2.1, ()) >>= fun x3 =>
 if (!x3.2.1) = true then
  some ((false, x3.2.2.1, Tag.mk (0 : Int) (0 : Int) (ByteArray.mk #[]) [] [], ()))
 else n_50s0e1d (x3.2.2.1, ()) >>= fun x4 =>
 n_74s5bd0 (ByteArray.mk #[58], x4.1, ()) >>= fun x5 =>
 if (!x5.1) = true then
  some ((false, x5.2.1, Tag.mk (0 : Int) (0 : Int) (ByteArray.mk #[]) [] [], ()))
 else n_49s0e1d (x5.2.1, ()) >>= fun x6 =>
 if (!x6.1) = true then
  some ((false, x6.2.1, Tag.mk (0 : Int) (0 : Int) (ByteArray.mk #[]) [] [], ()))
 else if v.2.2.2.2.2.1.length + [x3.1].length ≤ (4294967296 : Nat) then
  if v.2.2.2.2.2.2.1.length + [x6.2.2.1].length ≤ (4294967296 : Nat) then
   n_50s0e1d (x6.2.1, ()) >>= fun x7 =>
   n_74s5bd0 (ByteArray.mk #[44], x7.1, ()) >>= fun x8 =>
   if x8.1 = true then
    n_73s0e1dg1 (x8.2.1, v.2.1, v.2.2.1, v.2.2.2.1, v.2.2.2.2.1, v.2.2.2.2.2.1 ++ [x3.1], v.2.2.2.2.2.2.1 ++ [x6.2.2.1], ())
   else n_74s5bd0 (ByteArray.mk #[125], x8.2.1, ()) >>= fun x9 =>
   some ((x9.1, x9.2.1, Tag.mk v.2.2.1 v.2.2.2.1 v.2.2.2.2.1 (v.2.2.2.2.2.1 ++ [x3.1]) (v.2.2.2.2.2.2.1 ++ [x6.2.2.1]), ()))
  else none
 else none
 partial_fixpoint
noncomputable def n_72s0e1d (v : Reader × Unit) : Option (Bool × Reader × Tag × Unit) :=
 some (v.1, Tag.mk (0 : Int) (0 : Int) (ByteArray.mk #[]) [] [], (5 : Int), (0 : Int), ByteArray.mk #[], [], [], ()) >>= fun x1 =>
 n_50s0e1d (Reader.mk x1.1.s (i64.wrap (x1.1.at0 + (1 : Int))), ()) >>= fun x2 =>
 n_74s5bd0 (ByteArray.mk #[93], x2.1, ()) >>= fun x3 =>
 if x3.1 = true then
  some ((true, x3.2.1, Tag.mk x1.2.2.1 x1.2.2.2.1 x1.2.2.2.2.1 x1.2.2.2.2.2.1 x1.2.2.2.2.2.2.1, ()))
 else n_49s0e1d (x3.2.1, ()) >>= fun x4 =>
 if (!x4.1) = true then
  some ((false, x4.2.1, Tag.mk (0 : Int) (0 : Int) (ByteArray.mk #[]) [] [], ()))
 else if x1.2.2.2.2.2.2.1.length + [x4.2.2.1].length ≤ (4294967296 : Nat) then
  n_50s0e1d (x4.2.1, ()) >>= fun x5 =>
  n_74s5bd0 (ByteArray.mk #[44], x5.1, ()) >>= fun x6 =>
  if x6.1 = true then
   n_72s0e1dg1 (x6.2.1, x1.2.1, x1.2.2.1, x1.2.2.2.1, x1.2.2.2.2.1, x1.2.2.2.2.2.1, x1.2.2.2.2.2.2.1 ++ [x4.2.2.1], ()) >>= fun x7 =>
   some x7
  else n_74s5bd0 (ByteArray.mk #[93], x6.2.1, ()) >>= fun x7 =>
  some ((x7.1, x7.2.1, Tag.mk x1.2.2.1 x1.2.2.2.1 x1.2.2.2.2.1 x1.2.2.2.2.2.1 (x1.2.2.2.2.2.2.1 ++ [x4.2.2.1]), ()))
 else none
 partial_fixpoint
noncomputable def n_72s0e1dg1 (v : Reader × Tag × Int × Int × ByteArray × (List ByteArray) × (List Tag) × Unit) : Option ((Bool × Reader × Tag × Unit)) :=
 n_49s0e1d (v.1, ()) >>= fun x1 =>
 if (!x1.1) = true then
  some ((false, x1.2.1, Tag.mk (0 : Int) (0 : Int) (ByteArray.mk #[]) [] [], ()))
 else if v.2.2.2.2.2.2.1.length + [x1.2.2.1].length ≤ (4294967296 : Nat) then
  n_50s0e1d (x1.2.1, ()) >>= fun x2 =>
  n_74s5bd0 (ByteArray.mk #[44], x2.1, ()) >>= fun x3 =>
  if x3.1 = true then
   n_72s0e1dg1 (x3.2.1, v.2.1, v.2.2.1, v.2.2.2.1, v.2.2.2.2.1, v.2.2.2.2.2.1, v.2.2.2.2.2.2.1 ++ [x1.2.2.1], ())
  else n_74s5bd0 (ByteArray.mk #[93], x3.2.1, ()) >>= fun x4 =>
  some ((x4.1, x4.2.1, Tag.mk v.2.2.1 v.2.2.2.1 v.2.2.2.2.1 v.2.2.2.2.2.1 (v.2.2.2.2.2.2.1 ++ [x1.2.2.1]), ()))
 else none
 partial_fixpoint
end
noncomputable def call49s0e1d (n_49s0e1d : Reader × Unit → Option (Bool × Reader × Tag × Unit)) (n_73s0e1d : Reader × Unit → Option (Bool × Reader × Tag × Unit)) (n_73s0e1dg1 : Reader × Tag × Int × Int × ByteArray × (List ByteArray) × (List Tag) × Unit → Option ((Bool × Reader × Tag × Unit))) (n_72s0e1d : Reader × Unit → Option (Bool × Reader × Tag × Unit)) (n_72s0e1dg1 : Reader × Tag × Int × Int × ByteArray × (List ByteArray) × (List Tag) × Unit → Option ((Bool × Reader × Tag × Unit))) : Caller vw := fun A fid args S k => match fid with | 50 => callObj prog sig50s0e1d n_50s0e1d A args S k | 68 => callObj prog sig68s0e1d n_68s0e1d A args S k | 69 => callObj prog sig69s5bd0 n_69s5bd0 A args S k | 70 => callObj prog sig70s0e1d n_70s0e1d A args S k | 71 => callObj prog sig71s0e1d n_71s0e1d A args S k | 72 => callObj prog sig72s0e1d n_72s0e1d A args S k | 73 => callObj prog sig73s0e1d n_73s0e1d A args S k | _ => none
noncomputable def x49s0e1d (n_49s0e1d : Reader × Unit → Option (Bool × Reader × Tag × Unit)) (n_73s0e1d : Reader × Unit → Option (Bool × Reader × Tag × Unit)) (n_73s0e1dg1 : Reader × Tag × Int × Int × ByteArray × (List ByteArray) × (List Tag) × Unit → Option ((Bool × Reader × Tag × Unit))) (n_72s0e1d : Reader × Unit → Option (Bool × Reader × Tag × Unit)) (n_72s0e1dg1 : Reader × Tag × Int × Int × ByteArray × (List ByteArray) × (List Tag) × Unit → Option ((Bool × Reader × Tag × Unit))) : Xc vw := { P := prog, n := 70, call := call49s0e1d n_49s0e1d n_73s0e1d n_73s0e1dg1 n_72s0e1d n_72s0e1dg1, sh := sh49s0e1d, regs := fun k => match k with | 9 => some c49s0e1dr9 | _ => none }
noncomputable def call72s0e1d (n_49s0e1d : Reader × Unit → Option (Bool × Reader × Tag × Unit)) (n_73s0e1d : Reader × Unit → Option (Bool × Reader × Tag × Unit)) (n_73s0e1dg1 : Reader × Tag × Int × Int × ByteArray × (List ByteArray) × (List Tag) × Unit → Option ((Bool × Reader × Tag × Unit))) (n_72s0e1d : Reader × Unit → Option (Bool × Reader × Tag × Unit)) (n_72s0e1dg1 : Reader × Tag × Int × Int × ByteArray × (List ByteArray) × (List Tag) × Unit → Option ((Bool × Reader × Tag × Unit))) : Caller vw := fun A fid args S k => match fid with | 49 => callObj prog sig49s0e1d n_49s0e1d A args S k | 50 => callObj prog sig50s0e1d n_50s0e1d A args S k | 74 => callObj prog sig74s5bd0 n_74s5bd0 A args S k | _ => none
noncomputable def x72s0e1d (n_49s0e1d : Reader × Unit → Option (Bool × Reader × Tag × Unit)) (n_73s0e1d : Reader × Unit → Option (Bool × Reader × Tag × Unit)) (n_73s0e1dg1 : Reader × Tag × Int × Int × ByteArray × (List ByteArray) × (List Tag) × Unit → Option ((Bool × Reader × Tag × Unit))) (n_72s0e1d : Reader × Unit → Option (Bool × Reader × Tag × Unit)) (n_72s0e1dg1 : Reader × Tag × Int × Int × ByteArray × (List ByteArray) × (List Tag) × Unit → Option ((Bool × Reader × Tag × Unit))) : Xc vw := { P := prog, n := 41, nm := fun d => match d with | 7 => 40007 | _ => d, call := call72s0e1d n_49s0e1d n_73s0e1d n_73s0e1dg1 n_72s0e1d n_72s0e1dg1, sh := sh72s0e1d, regs := fun k => match k with | 1 => some c72s0e1dg1 | _ => none, jumps := fun k => match k with | 1 => some (0, { cut := c72s0e1dg1, alts := [.ret], F := n_72s0e1dg1 }) | _ => none }
noncomputable def call73s0e1d (n_49s0e1d : Reader × Unit → Option (Bool × Reader × Tag × Unit)) (n_73s0e1d : Reader × Unit → Option (Bool × Reader × Tag × Unit)) (n_73s0e1dg1 : Reader × Tag × Int × Int × ByteArray × (List ByteArray) × (List Tag) × Unit → Option ((Bool × Reader × Tag × Unit))) (n_72s0e1d : Reader × Unit → Option (Bool × Reader × Tag × Unit)) (n_72s0e1dg1 : Reader × Tag × Int × Int × ByteArray × (List ByteArray) × (List Tag) × Unit → Option ((Bool × Reader × Tag × Unit))) : Caller vw := fun A fid args S k => match fid with | 49 => callObj prog sig49s0e1d n_49s0e1d A args S k | 50 => callObj prog sig50s0e1d n_50s0e1d A args S k | 68 => callObj prog sig68s0e1d n_68s0e1d A args S k | 71 => callObj prog sig71s0e1d n_71s0e1d A args S k | 74 => callObj prog sig74s5bd0 n_74s5bd0 A args S k | _ => none
noncomputable def x73s0e1d (n_49s0e1d : Reader × Unit → Option (Bool × Reader × Tag × Unit)) (n_73s0e1d : Reader × Unit → Option (Bool × Reader × Tag × Unit)) (n_73s0e1dg1 : Reader × Tag × Int × Int × ByteArray × (List ByteArray) × (List Tag) × Unit → Option ((Bool × Reader × Tag × Unit))) (n_72s0e1d : Reader × Unit → Option (Bool × Reader × Tag × Unit)) (n_72s0e1dg1 : Reader × Tag × Int × Int × ByteArray × (List ByteArray) × (List Tag) × Unit → Option ((Bool × Reader × Tag × Unit))) : Xc vw := { P := prog, n := 68, nm := fun d => match d with | 8 => 40008 | _ => d, call := call73s0e1d n_49s0e1d n_73s0e1d n_73s0e1dg1 n_72s0e1d n_72s0e1dg1, sh := sh73s0e1d, regs := fun k => match k with | 1 => some c72s0e1dg1 | _ => none, jumps := fun k => match k with | 1 => some (0, { cut := c72s0e1dg1, alts := [.ret], F := n_73s0e1dg1 }) | _ => none }
abbrev mn_49s0e1d (v : Reader × Unit) (r : Bool × Reader × Tag × Unit) : Prop := (fun v r => ∀ x, resV prog sig49s0e1d r = some x → FnOk prog 49 (encL vw (startS sig49s0e1d v).len (startOs sig49s0e1d v).1) (encOs (startS sig49s0e1d v).len (startS sig49s0e1d v).own) (encV vw (conc vw sig49s0e1d.rcut r).len x) (encOs (conc vw sig49s0e1d.rcut r).len (kept sig49s0e1d r))) v r
abbrev mn_73s0e1d (v : Reader × Unit) (r : Bool × Reader × Tag × Unit) : Prop := (fun v r => ∀ x, resV prog sig73s0e1d r = some x → FnOk prog 73 (encL vw (startS sig73s0e1d v).len (startOs sig73s0e1d v).1) (encOs (startS sig73s0e1d v).len (startS sig73s0e1d v).own) (encV vw (conc vw sig73s0e1d.rcut r).len x) (encOs (conc vw sig73s0e1d.rcut r).len (kept sig73s0e1d r))) v r
abbrev mn_73s0e1dg1 (v : Reader × Tag × Int × Int × ByteArray × (List ByteArray) × (List Tag) × Unit) (r : (Bool × Reader × Tag × Unit)) : Prop := (fun v out => ∀ C : Ctx, C.P = prog → C.N = 68 → AWpJ C (scopeNo (bodyOf Tryz.f73) 0) (restOf (scopeNo (bodyOf Tryz.f73) 0) 0) (encS vw (conc vw c72s0e1dg1 v)) (OutQ sh73s0e1d [.ret] out)) v r
abbrev mn_72s0e1d (v : Reader × Unit) (r : Bool × Reader × Tag × Unit) : Prop := (fun v r => ∀ x, resV prog sig72s0e1d r = some x → FnOk prog 72 (encL vw (startS sig72s0e1d v).len (startOs sig72s0e1d v).1) (encOs (startS sig72s0e1d v).len (startS sig72s0e1d v).own) (encV vw (conc vw sig72s0e1d.rcut r).len x) (encOs (conc vw sig72s0e1d.rcut r).len (kept sig72s0e1d r))) v r
abbrev mn_72s0e1dg1 (v : Reader × Tag × Int × Int × ByteArray × (List ByteArray) × (List Tag) × Unit) (r : (Bool × Reader × Tag × Unit)) : Prop := (fun v out => ∀ C : Ctx, C.P = prog → C.N = 41 → AWpJ C (scopeNo (bodyOf Tryz.f72) 0) (restOf (scopeNo (bodyOf Tryz.f72) 0) 0) (encS vw (conc vw c72s0e1dg1 v)) (OutQ sh72s0e1d [.ret] out)) v r
theorem cn_49s0e1d (f0 : Reader × Unit → Option (Bool × Reader × Tag × Unit)) (f1 : Reader × Unit → Option (Bool × Reader × Tag × Unit)) (h0 : ∀ v r, f0 v = some r → mn_73s0e1d v r) (h1 : ∀ v r, f1 v = some r → mn_72s0e1d v r) : CallerOk prog (x49s0e1d (fun _ => none) f0 (fun _ => none) f1 (fun _ => none)).call := (by
    intro A fid args S dst k r h
    unfold x49s0e1d call49s0e1d at h
    simp only at h
    split at h
    ·exact callObj_ok (n_50s0e1d_ok) h
    ·exact callObj_ok (n_68s0e1d_ok) h
    ·exact callObj_ok (n_69s5bd0_ok) h
    ·exact callObj_ok (n_70s0e1d_ok) h
    ·exact callObj_ok (n_71s0e1d_ok) h
    ·exact callObj_ok ((fun v r x h hx => h1 v r h x hx)) h
    ·exact callObj_ok ((fun v r x h hx => h0 v r h x hx)) h
    ·cases h)
theorem sn_49s0e1d (f0 : Reader × Unit → Option (Bool × Reader × Tag × Unit)) (f1 : Reader × Unit → Option (Bool × Reader × Tag × Unit)) (h0 : ∀ v r, f0 v = some r → mn_73s0e1d v r) (h1 : ∀ v r, f1 v = some r → mn_72s0e1d v r) (v : Reader × Unit) (r : Bool × Reader × Tag × Unit) (h : exF (x49s0e1d (fun _ => none) f0 (fun _ => none) f1 (fun _ => none)) sig49s0e1d rfl (bodyOf Tryz.f49) v = some r) : mn_49s0e1d v r := fun x hx => fn_ok (X := x49s0e1d (fun _ => none) f0 (fun _ => none) f1 (fun _ => none)) (sig := sig49s0e1d) rfl Tryz.func49 (c := bodyOf Tryz.f49) (by kernel_rfl) Tryz.ntmps49 (by kernel_rfl) (by kernel_rfl) rfl Ty.mixed (cn_49s0e1d f0 f1 h0 h1) rfl (fun C hP hN => (lok_all (X := x49s0e1d (fun _ => none) f0 (fun _ => none) f1 (fun _ => none)) (c := (bodyOf Tryz.f49)) (kcast (by kernel_rfl : True = AllB (LoopsP C (x49s0e1d (fun _ => none) f0 (fun _ => none) f1 (fun _ => none))) (loopsIn (bodyOf Tryz.f49))) trivial))) h x hx
theorem cn_73s0e1d (f0 : Reader × Unit → Option (Bool × Reader × Tag × Unit)) (f1 : Reader × Tag × Int × Int × ByteArray × (List ByteArray) × (List Tag) × Unit → Option ((Bool × Reader × Tag × Unit))) (h0 : ∀ v r, f0 v = some r → mn_49s0e1d v r) (h1 : ∀ v r, f1 v = some r → mn_73s0e1dg1 v r) : CallerOk prog (x73s0e1d f0 (fun _ => none) f1 (fun _ => none) (fun _ => none)).call := (by
    intro A fid args S dst k r h
    unfold x73s0e1d call73s0e1d at h
    simp only at h
    split at h
    ·exact callObj_ok ((fun v r x h hx => h0 v r h x hx)) h
    ·exact callObj_ok (n_50s0e1d_ok) h
    ·exact callObj_ok (n_68s0e1d_ok) h
    ·exact callObj_ok (n_71s0e1d_ok) h
    ·exact callObj_ok (n_74s5bd0_ok) h
    ·cases h)
theorem sn_73s0e1d (f0 : Reader × Unit → Option (Bool × Reader × Tag × Unit)) (f1 : Reader × Tag × Int × Int × ByteArray × (List ByteArray) × (List Tag) × Unit → Option ((Bool × Reader × Tag × Unit))) (h0 : ∀ v r, f0 v = some r → mn_49s0e1d v r) (h1 : ∀ v r, f1 v = some r → mn_73s0e1dg1 v r) (v : Reader × Unit) (r : Bool × Reader × Tag × Unit) (h : exF (x73s0e1d f0 (fun _ => none) f1 (fun _ => none) (fun _ => none)) sig73s0e1d rfl (bodyOf Tryz.f73) v = some r) : mn_73s0e1d v r := fun x hx => fn_ok (X := x73s0e1d f0 (fun _ => none) f1 (fun _ => none) (fun _ => none)) (sig := sig73s0e1d) rfl Tryz.func73 (c := bodyOf Tryz.f73) (by kernel_rfl) Tryz.ntmps73 (by kernel_rfl) (by kernel_rfl) rfl Ty.mixed (cn_73s0e1d f0 f1 h0 h1) rfl (fun C hP hN => (lok_all2 (X := x73s0e1d f0 (fun _ => none) f1 (fun _ => none) (fun _ => none)) (c := (bodyOf Tryz.f73)) (kcast (by kernel_rfl : AllB (LoopsP C (x73s0e1d f0 (fun _ => none) f1 (fun _ => none) (fun _ => none))) [] = AllB (LoopsP C (x73s0e1d f0 (fun _ => none) f1 (fun _ => none) (fun _ => none))) (loopsIn (bodyOf Tryz.f73))) trivial) (kcast (by kernel_rfl : AllB (JumpsP C (x73s0e1d f0 (fun _ => none) f1 (fun _ => none) (fun _ => none))) [(scopeNo (bodyOf Tryz.f73) 0)] = AllB (JumpsP C (x73s0e1d f0 (fun _ => none) f1 (fun _ => none) (fun _ => none))) (jumpsIn (bodyOf Tryz.f73))) ⟨jump_at (X := x73s0e1d f0 (fun _ => none) f1 (fun _ => none) (fun _ => none)) (x := (scopeNo (bodyOf Tryz.f73) 0)) (l := 0) (by kernel_rfl) (show JumpOk C (scopeNo (bodyOf Tryz.f73) 0) 0 (sh := sh73s0e1d) { cut := c72s0e1dg1, alts := [.ret], F := f1 } from ⟨(restOf (scopeNo (bodyOf Tryz.f73) 0) 0), by kernel_rfl, fun v out h => h1 v out h C hP hN⟩), trivial⟩))) h x hx
theorem cn_73s0e1dg1 (f0 : Reader × Unit → Option (Bool × Reader × Tag × Unit)) (f1 : Reader × Tag × Int × Int × ByteArray × (List ByteArray) × (List Tag) × Unit → Option ((Bool × Reader × Tag × Unit))) (h0 : ∀ v r, f0 v = some r → mn_49s0e1d v r) (h1 : ∀ v r, f1 v = some r → mn_73s0e1dg1 v r) : CallerOk prog (x73s0e1d f0 (fun _ => none) f1 (fun _ => none) (fun _ => none)).call := (by
    intro A fid args S dst k r h
    unfold x73s0e1d call73s0e1d at h
    simp only at h
    split at h
    ·exact callObj_ok ((fun v r x h hx => h0 v r h x hx)) h
    ·exact callObj_ok (n_50s0e1d_ok) h
    ·exact callObj_ok (n_68s0e1d_ok) h
    ·exact callObj_ok (n_71s0e1d_ok) h
    ·exact callObj_ok (n_74s5bd0_ok) h
    ·cases h)
theorem sn_73s0e1dg1 (f0 : Reader × Unit → Option (Bool × Reader × Tag × Unit)) (f1 : Reader × Tag × Int × Int × ByteArray × (List ByteArray) × (List Tag) × Unit → Option ((Bool × Reader × Tag × Unit))) (h0 : ∀ v r, f0 v = some r → mn_49s0e1d v r) (h1 : ∀ v r, f1 v = some r → mn_73s0e1dg1 v r) (v : Reader × Tag × Int × Int × ByteArray × (List ByteArray) × (List Tag) × Unit) (r : (Bool × Reader × Tag × Unit)) (h : exJ (x73s0e1d f0 (fun _ => none) f1 (fun _ => none) (fun _ => none)) (restOf (scopeNo (bodyOf Tryz.f73) 0) 0) 0 c72s0e1dg1 [.ret] f1 v = some r) : mn_73s0e1dg1 v r := fun C hP hN => jump_step (X := x73s0e1d f0 (fun _ => none) f1 (fun _ => none) (fun _ => none)) (x := (scopeNo (bodyOf Tryz.f73) 0)) (b := (restOf (scopeNo (bodyOf Tryz.f73) 0) 0)) (l := 0) hP hN Ty.mixed (cn_73s0e1dg1 f0 f1 h0 h1) (by kernel_rfl) (lok_all2 (X := x73s0e1d f0 (fun _ => none) f1 (fun _ => none) (fun _ => none)) (c := (restOf (scopeNo (bodyOf Tryz.f73) 0) 0)) (kcast (by kernel_rfl : AllB (LoopsP C (x73s0e1d f0 (fun _ => none) f1 (fun _ => none) (fun _ => none))) [] = AllB (LoopsP C (x73s0e1d f0 (fun _ => none) f1 (fun _ => none) (fun _ => none))) (loopsIn (restOf (scopeNo (bodyOf Tryz.f73) 0) 0))) trivial) (kcast (by kernel_rfl : AllB (JumpsP C (x73s0e1d f0 (fun _ => none) f1 (fun _ => none) (fun _ => none))) [] = AllB (JumpsP C (x73s0e1d f0 (fun _ => none) f1 (fun _ => none) (fun _ => none))) (jumpsIn (restOf (scopeNo (bodyOf Tryz.f73) 0) 0))) trivial)) (cut := c72s0e1dg1) (alts := [.ret]) (F := f1) (fun v out h => h1 v out h C hP hN) h
theorem cn_72s0e1d (f0 : Reader × Unit → Option (Bool × Reader × Tag × Unit)) (f1 : Reader × Tag × Int × Int × ByteArray × (List ByteArray) × (List Tag) × Unit → Option ((Bool × Reader × Tag × Unit))) (h0 : ∀ v r, f0 v = some r → mn_49s0e1d v r) (h1 : ∀ v r, f1 v = some r → mn_72s0e1dg1 v r) : CallerOk prog (x72s0e1d f0 (fun _ => none) (fun _ => none) (fun _ => none) f1).call := (by
    intro A fid args S dst k r h
    unfold x72s0e1d call72s0e1d at h
    simp only at h
    split at h
    ·exact callObj_ok ((fun v r x h hx => h0 v r h x hx)) h
    ·exact callObj_ok (n_50s0e1d_ok) h
    ·exact callObj_ok (n_74s5bd0_ok) h
    ·cases h)
theorem sn_72s0e1d (f0 : Reader × Unit → Option (Bool × Reader × Tag × Unit)) (f1 : Reader × Tag × Int × Int × ByteArray × (List ByteArray) × (List Tag) × Unit → Option ((Bool × Reader × Tag × Unit))) (h0 : ∀ v r, f0 v = some r → mn_49s0e1d v r) (h1 : ∀ v r, f1 v = some r → mn_72s0e1dg1 v r) (v : Reader × Unit) (r : Bool × Reader × Tag × Unit) (h : exF (x72s0e1d f0 (fun _ => none) (fun _ => none) (fun _ => none) f1) sig72s0e1d rfl (bodyOf Tryz.f72) v = some r) : mn_72s0e1d v r := fun x hx => fn_ok (X := x72s0e1d f0 (fun _ => none) (fun _ => none) (fun _ => none) f1) (sig := sig72s0e1d) rfl Tryz.func72 (c := bodyOf Tryz.f72) (by kernel_rfl) Tryz.ntmps72 (by kernel_rfl) (by kernel_rfl) rfl Ty.mixed (cn_72s0e1d f0 f1 h0 h1) rfl (fun C hP hN => (lok_all2 (X := x72s0e1d f0 (fun _ => none) (fun _ => none) (fun _ => none) f1) (c := (bodyOf Tryz.f72)) (kcast (by kernel_rfl : AllB (LoopsP C (x72s0e1d f0 (fun _ => none) (fun _ => none) (fun _ => none) f1)) [] = AllB (LoopsP C (x72s0e1d f0 (fun _ => none) (fun _ => none) (fun _ => none) f1)) (loopsIn (bodyOf Tryz.f72))) trivial) (kcast (by kernel_rfl : AllB (JumpsP C (x72s0e1d f0 (fun _ => none) (fun _ => none) (fun _ => none) f1)) [(scopeNo (bodyOf Tryz.f72) 0)] = AllB (JumpsP C (x72s0e1d f0 (fun _ => none) (fun _ => none) (fun _ => none) f1)) (jumpsIn (bodyOf Tryz.f72))) ⟨jump_at (X := x72s0e1d f0 (fun _ => none) (fun _ => none) (fun _ => none) f1) (x := (scopeNo (bodyOf Tryz.f72) 0)) (l := 0) (by kernel_rfl) (show JumpOk C (scopeNo (bodyOf Tryz.f72) 0) 0 (sh := sh72s0e1d) { cut := c72s0e1dg1, alts := [.ret], F := f1 } from ⟨(restOf (scopeNo (bodyOf Tryz.f72) 0) 0), by kernel_rfl, fun v out h => h1 v out h C hP hN⟩), trivial⟩))) h x hx
theorem cn_72s0e1dg1 (f0 : Reader × Unit → Option (Bool × Reader × Tag × Unit)) (f1 : Reader × Tag × Int × Int × ByteArray × (List ByteArray) × (List Tag) × Unit → Option ((Bool × Reader × Tag × Unit))) (h0 : ∀ v r, f0 v = some r → mn_49s0e1d v r) (h1 : ∀ v r, f1 v = some r → mn_72s0e1dg1 v r) : CallerOk prog (x72s0e1d f0 (fun _ => none) (fun _ => none) (fun _ => none) f1).call := (by
    intro A fid args S dst k r h
    unfold x72s0e1d call72s0e1d at h
    simp only at h
    split at h
    ·exact callObj_ok ((fun v r x h hx => h0 v r h x hx)) h
    ·exact callObj_ok (n_50s0e1d_ok) h
    ·exact callObj_ok (n_74s5bd0_ok) h
    ·cases h)
theorem sn_72s0e1dg1 (f0 : Reader × Unit → Option (Bool × Reader × Tag × Unit)) (f1 : Reader × Tag × Int × Int × ByteArray × (List ByteArray) × (List Tag) × Unit → Option ((Bool × Reader × Tag × Unit))) (h0 : ∀ v r, f0 v = some r → mn_49s0e1d v r) (h1 : ∀ v r, f1 v = some r → mn_72s0e1dg1 v r) (v : Reader × Tag × Int × Int × ByteArray × (List ByteArray) × (List Tag) × Unit) (r : (Bool × Reader × Tag × Unit)) (h : exJ (x72s0e1d f0 (fun _ => none) (fun _ => none) (fun _ => none) f1) (restOf (scopeNo (bodyOf Tryz.f72) 0) 0) 0 c72s0e1dg1 [.ret] f1 v = some r) : mn_72s0e1dg1 v r := fun C hP hN => jump_step (X := x72s0e1d f0 (fun _ => none) (fun _ => none) (fun _ => none) f1) (x := (scopeNo (bodyOf Tryz.f72) 0)) (b := (restOf (scopeNo (bodyOf Tryz.f72) 0) 0)) (l := 0) hP hN Ty.mixed (cn_72s0e1dg1 f0 f1 h0 h1) (by kernel_rfl) (lok_all2 (X := x72s0e1d f0 (fun _ => none) (fun _ => none) (fun _ => none) f1) (c := (restOf (scopeNo (bodyOf Tryz.f72) 0) 0)) (kcast (by kernel_rfl : AllB (LoopsP C (x72s0e1d f0 (fun _ => none) (fun _ => none) (fun _ => none) f1)) [] = AllB (LoopsP C (x72s0e1d f0 (fun _ => none) (fun _ => none) (fun _ => none) f1)) (loopsIn (restOf (scopeNo (bodyOf Tryz.f72) 0) 0))) trivial) (kcast (by kernel_rfl : AllB (JumpsP C (x72s0e1d f0 (fun _ => none) (fun _ => none) (fun _ => none) f1)) [] = AllB (JumpsP C (x72s0e1d f0 (fun _ => none) (fun _ => none) (fun _ => none) f1)) (jumpsIn (restOf (scopeNo (bodyOf Tryz.f72) 0) 0))) trivial)) (cut := c72s0e1dg1) (alts := [.ret]) (F := f1) (fun v out h => h1 v out h C hP hN) h
theorem n_49s0e1d_all : (∀ v r, n_49s0e1d v = some r → mn_49s0e1d v r) ∧ (∀ v r, n_73s0e1d v = some r → mn_73s0e1d v r) ∧ (∀ v r, n_73s0e1dg1 v = some r → mn_73s0e1dg1 v r) ∧ (∀ v r, n_72s0e1d v = some r → mn_72s0e1d v r) ∧ (∀ v r, n_72s0e1dg1 v = some r → mn_72s0e1dg1 v r) := by
 refine n_49s0e1d.mutual_partial_correctness
  (motive_1 := mn_49s0e1d)
  (motive_2 := mn_73s0e1d)
  (motive_3 := mn_73s0e1dg1)
  (motive_4 := mn_72s0e1d)
  (motive_5 := mn_72s0e1dg1)
  ?_ ?_ ?_ ?_ ?_
 ·exact (fun f0 f1 h0 h1 v r h => sn_49s0e1d f0 f1 h0 h1 v r (kcast (by kernel_rfl) h))
 ·exact (fun f0 f1 h0 h1 v r h => sn_73s0e1d f0 f1 h0 h1 v r (kcast (by kernel_rfl) h))
 ·exact (fun f0 f1 h0 h1 v r h => sn_73s0e1dg1 f0 f1 h0 h1 v r (kcast (by kernel_rfl) h))
 ·exact (fun f0 f1 h0 h1 v r h => sn_72s0e1d f0 f1 h0 h1 v r (kcast (by kernel_rfl) h))
 ·exact (fun f0 f1 h0 h1 v r h => sn_72s0e1dg1 f0 f1 h0 h1 v r (kcast (by kernel_rfl) h))
theorem n_49s0e1d_ok : SigOk prog 49 sig49s0e1d n_49s0e1d := fun v r x h hx => n_49s0e1d_all.1 v r h x hx
noncomputable def c28j7 : Cut SN := ⟨[(0, .dat .str), (2, .bp 2 0), (5, .bp 15 0), (6, .bp 6 0), (7, .dat .bool)], [(2, .st .tagT), (15, .st .readerT), (6, .st .tagT)]⟩
noncomputable def c28r7 : Cut SN := ⟨[(0, .dat .str), (2, .bp 2 0), (5, .bp 15 0), (6, .bp 6 0), (34, .dat .bool)], [(2, .st .tagT), (15, .st .readerT), (6, .st .tagT)]⟩
noncomputable def c28z : Cut SN := ⟨[(2, .bp 2 0), (3, .dat (.int .i64)), (4, .dat (.int .i64))], [(2, .st .tagT)]⟩
noncomputable def sh28 : Shape vw := { rcut := c28z }
noncomputable def sig28 : Sig vw := { params := [.dat .str], rcut := c28z, rvars := [.cell 2 25, .tmp 3, .tmp 4] }
noncomputable def n_28 (v : ByteArray × Unit) : Option (Int × Int × Tag × Unit) :=
 if decide ((↑v.1.size : Int) > (65536 : Int)) = true then
  some (((0 : Int), (3 : Int), Tag.mk (0 : Int) (0 : Int) (ByteArray.mk #[]) [] [], ()))
 else n_49s0e1d (Reader.mk v.1 (0 : Int), ()) >>= fun x1 =>
 (if x1.1 = true then
    n_50s0e1d (x1.2.1, ()) >>= fun x2 =>
    some ((v.1, x1.1, Tag.mk (0 : Int) (0 : Int) (ByteArray.mk #[]) [] [], x2.1, x1.2.2.1, ()))
   else some ((v.1, x1.1, Tag.mk (0 : Int) (0 : Int) (ByteArray.mk #[]) [] [], x1.2.1, x1.2.2.1, ()))) >>= fun x2 =>
 (if (!x2.2.1) = true then
    some ((x2.1, true, x2.2.2.1, x2.2.2.2.1, x2.2.2.2.2.1, ()))
   else some ((x2.1, decide (x2.2.2.2.1.at0 < (↑x2.1.size : Int)), x2.2.2.1, x2.2.2.2.1, x2.2.2.2.2.1, ()))) >>= fun x3 =>
 if x3.2.1 = true then
  some ((x3.2.2.2.1.at0, (2 : Int), Tag.mk (0 : Int) (0 : Int) (ByteArray.mk #[]) [] [], ()))
 else n_29 (x3.2.2.2.2.1, ()) >>= fun x4 =>
 if (x4.1 != (0 : Int)) = true then
  some (((0 : Int), x4.1, Tag.mk (0 : Int) (0 : Int) (ByteArray.mk #[]) [] [], ()))
 else some (((↑x3.1.size : Int), (0 : Int), x3.2.2.2.2.1, ()))
noncomputable def call28 : Caller vw := fun A fid args S k => match fid with | 29 => callPure prog sig29 n_29 A args S k | 49 => callObj prog sig49s0e1d n_49s0e1d A args S k | 50 => callObj prog sig50s0e1d n_50s0e1d A args S k | _ => none
noncomputable def x28 : Xc vw := { P := prog, n := 49, call := call28, sh := sh28, joins := fun k => match k with | 7 => some (c28j7, [.norm]) | _ => none, regs := fun k => match k with | 7 => some c28r7 | _ => none }
theorem call28_ok : CallerOk prog call28 := fun A fid args S dst k r h => by
 unfold call28 at h
 split at h
 ·exact callPure_ok (n_29_ok) rfl rfl h
 ·exact callObj_ok (n_49s0e1d_ok) h
 ·exact callObj_ok (n_50s0e1d_ok) h
 ·cases h
theorem n_28_ok : SigOk prog 28 sig28 n_28 := fun v r x h hx =>
 fn_ok (X := x28) (sig := sig28) rfl Tryz.func28 (c := bodyOf Tryz.f28) (by kernel_rfl) Tryz.ntmps28 (by kernel_rfl) (by kernel_rfl) rfl Ty.mixed call28_ok rfl (fun C hP hN => (lok_all (kcast (by kernel_rfl) trivial))) (kcast (by kernel_rfl) h) x hx
noncomputable def sh7 : Shape vw := { rcut := c76z }
noncomputable def sig7 : Sig vw := { params := [.dat (.st .tagT)], rcut := c76z, rvars := [.tmp 2] }
noncomputable def n_7 (v : Tag × Unit) : Option (Bool × Unit) :=
 n_27 (v.1, ()) >>= fun x1 =>
 (if decide (x1.1 > (2000 : Int)) = true then
    some ((true, ()))
   else if decide (x1.2.1 > (100 : Int)) = true then
    some ((true, ()))
   else some ((decide (x1.2.2.1 > (20000 : Int)), ()))) >>= fun x2 =>
 some ((x2.1, ()))
noncomputable def call7 : Caller vw := fun A fid args S k => match fid with | 27 => callPure prog sig27 n_27 A args S k | _ => none
noncomputable def x7 : Xc vw := { P := prog, n := 22, call := call7, sh := sh7, regs := fun k => match k with | 2 => some c76z | _ => none }
theorem call7_ok : CallerOk prog call7 := fun A fid args S dst k r h => by
 unfold call7 at h
 split at h
 ·exact callPure_ok (n_27_ok) rfl rfl h
 ·cases h
theorem n_7_ok : SigOk prog 7 sig7 n_7 := fun v r x h hx =>
 fn_ok (X := x7) (sig := sig7) rfl Tryz.func7 (c := bodyOf Tryz.f7) (by kernel_rfl) Tryz.ntmps7 (by kernel_rfl) (by kernel_rfl) rfl Ty.mixed call7_ok rfl (fun C hP hN => (lok_all (kcast (by kernel_rfl) trivial))) (kcast (by kernel_rfl) h) x hx
noncomputable def c8l2 : Cut SN := ⟨[(0, .dat (.sl .str)), (3, .dat (.int .i64))], []⟩
noncomputable def c8e0 : Cut SN := ⟨[(0, .dat (.sl .str))], []⟩
noncomputable def sh8 : Shape vw := { exits := fun id => match id with | 0 => c8e0 | _ => ⟨[], []⟩, rcut := c76z }
noncomputable def sig8 : Sig vw := { params := [.dat (.sl .str)], rcut := c76z, rvars := [.tmp 2] }
noncomputable def n_8l2 (v : (List ByteArray) × Int × Unit) : Option (((Bool × Unit) ⊕ ((List ByteArray) × Unit))) :=
 if decide (v.2.1 < (↑v.1.length : Int)) = true then
  if (0 : Int) ≤ v.2.1 then
   v.1[v.2.1.toNat]? >>= fun x1 =>
   if decide ((↑x1.size : Int) > (5000 : Int)) = true then
    some (Sum.inl (true, ()))
   else n_8l2 (v.1, i64.wrap (v.2.1 + (1 : Int)), ())
  else none
 else some (Sum.inr (v.1, ()))
 partial_fixpoint
noncomputable def n_8 (v : (List ByteArray) × Unit) : Option (Bool × Unit) :=
 n_8l2 (v.1, (0 : Int), ()) >>= fun x1 => match x1 with
  | .inl y1 => some y1
  | .inr y1 => some ((decide ((↑y1.1.length : Int) > (50 : Int)), ()))
noncomputable def call8 : Caller vw := fun _ _ _ _ _ => none
noncomputable def x8 : Xc vw := { P := prog, n := 19, call := call8, sh := sh8, loops := fun k => match k with | 2 => some { cut := c8l2, alts := [.ret, .exit 0], F := n_8l2 } | _ => none }
theorem call8_ok : CallerOk prog call8 := call_none
theorem n_8l2_ok (C : Ctx) (hP : C.P = prog) (hN : C.N = 19) : LoopOk C (loopNo (bodyOf Tryz.f8) 0) (sh := sh8) { cut := c8l2, alts := [.ret, .exit 0], F := n_8l2 } :=
 n_8l2.partial_correctness (motive := fun v out => AWpL C (loopNo (bodyOf Tryz.f8) 0) (encS vw (conc vw c8l2 v)) (OutQ sh8 [.ret, .exit 0] out)) fun F ih v out h =>
  loop_step (X := x8) (b := (loopNo (bodyOf Tryz.f8) 0)) hP hN Ty.mixed call8_ok (lok_all (X := x8) (c := (loopNo (bodyOf Tryz.f8) 0)) (kcast (by kernel_rfl : True = AllB (LoopsP C (x8)) (loopsIn (loopNo (bodyOf Tryz.f8) 0))) trivial)) ih (kcast (by kernel_rfl) h)
theorem n_8_ok : SigOk prog 8 sig8 n_8 := fun v r x h hx =>
 fn_ok (X := x8) (sig := sig8) rfl Tryz.func8 (c := bodyOf Tryz.f8) (by kernel_rfl) Tryz.ntmps8 (by kernel_rfl) (by kernel_rfl) rfl Ty.mixed call8_ok rfl (fun C hP hN => (lok_all (kcast (by kernel_rfl : AllB (LoopsP C (x8)) [(loopNo (bodyOf Tryz.f8) 0)] = AllB (LoopsP C (x8)) (loopsIn (bodyOf Tryz.f8))) ⟨loop_at (X := x8) (b := (loopNo (bodyOf Tryz.f8) 0)) (by kernel_rfl) (n_8l2_ok C hP hN), trivial⟩))) (kcast (by kernel_rfl) h) x hx
noncomputable def c9r4 : Cut SN := ⟨[(0, .dat .bool)], []⟩
noncomputable def sh9 : Shape vw := { rcut := c9r4 }
noncomputable def sig9 : Sig vw := { params := [], rcut := c9r4, rvars := [.tmp 0] }
noncomputable def n_9 (v : Unit) : Option (Bool × Unit) :=
 n_28 (ByteArray.mk #[123, 34, 97, 34, 58, 91, 49, 44, 50, 93, 125], ()) >>= fun x1 =>
 n_13 (x1.2.2.1, [ByteArray.mk #[97], ByteArray.mk #[49]], ()) >>= fun x2 =>
 n_28 (ByteArray.mk #[91, 49, 44, 93], ()) >>= fun x3 =>
 (if (x1.2.1 == (0 : Int)) = true then
    if (x1.1 == (11 : Int)) = true then
     if (x2.2.1 == (0 : Int)) = true then
      if x2.1 = true then
       if (x2.2.2.1.kind == (3 : Int)) = true then
        if (x2.2.2.1.n == (2 : Int)) = true then
         if (x3.2.1 == (2 : Int)) = true then
          some ((x3.1 == (3 : Int), ()))
         else some ((false, ()))
        else some ((false, ()))
       else some ((false, ()))
      else some ((false, ()))
     else some ((false, ()))
    else some ((false, ()))
   else some ((false, ()))) >>= fun x4 =>
 some ((x4.1, ()))
noncomputable def call9 : Caller vw := fun A fid args S k => match fid with | 13 => callPure prog sig13 n_13 A args S k | 28 => callPure prog sig28 n_28 A args S k | _ => none
noncomputable def x9 : Xc vw := { P := prog, n := 58, call := call9, sh := sh9, regs := fun k => match k with | 4 => some c9r4 | _ => none }
theorem call9_ok : CallerOk prog call9 := fun A fid args S dst k r h => by
 unfold call9 at h
 split at h
 ·exact callPure_ok (n_13_ok) rfl rfl h
 ·exact callPure_ok (n_28_ok) rfl rfl h
 ·cases h
theorem n_9_ok : SigOk prog 9 sig9 n_9 := fun v r x h hx =>
 fn_ok (X := x9) (sig := sig9) rfl Tryz.func9 (c := bodyOf Tryz.f9) (by kernel_rfl) Tryz.ntmps9 (by kernel_rfl) (by kernel_rfl) rfl Ty.mixed call9_ok rfl (fun C hP hN => (lok_all (kcast (by kernel_rfl) trivial))) (kcast (by kernel_rfl) h) x hx
noncomputable def c3r1 : Cut SN := ⟨[(1, .dat (.sl .str)), (3, .bp 3 0), (5, .bp 5 0), (23, .dat .bool)], [(3, .st .tagT), (5, .st .tagT)]⟩
noncomputable def c3r5 : Cut SN := ⟨[(1, .dat (.sl .str)), (5, .bp 5 0), (7, .bp 7 0), (8, .dat (.int .i64)), (47, .dat .bool)], [(5, .st .tagT), (7, .st .tagT)]⟩
noncomputable def c3r8 : Cut SN := ⟨[(6, .dat .bool)], []⟩
noncomputable def sh3 : Shape vw := { rcut := c3r8 }
noncomputable def sig3 : Sig vw := { params := [.dat (.st .tagT), .dat (.sl .str), .dat (.st .tagT)], rcut := c3r8, rvars := [.tmp 6] }
noncomputable def n_3 (v : Tag × (List ByteArray) × Tag × Unit) : Option (Bool × Unit) :=
 (n_7 (v.1, ()) >>= fun x1 =>
   if x1.1 = true then
    some ((v.2.1, true, v.1, v.2.2.1, ()))
   else n_7 (v.2.2.1, ()) >>= fun x2 =>
   if x2.1 = true then
    some ((v.2.1, true, v.1, v.2.2.1, ()))
   else n_8 (v.2.1, ()) >>= fun x3 =>
   some ((v.2.1, x3.1, v.1, v.2.2.1, ()))) >>= fun x1 =>
 if x1.2.1 = true then
  n_9 () >>= fun x2 =>
  some ((x2.1, ()))
 else n_10 (x1.2.2.1, x1.1, x1.2.2.2.1, ()) >>= fun x2 =>
 n_11 (x1.2.2.1, x1.1, x1.2.2.2.1, ()) >>= fun x3 =>
 (n_12 (x2.2.1, x3.2.1, ()) >>= fun x4 =>
   if (!x4.1) = true then
    some ((x1.1, x2.1, true, x1.2.2.2.1, x2.2.1, ()))
   else some ((x1.1, x2.1, x2.1 != x3.1, x1.2.2.2.1, x2.2.1, ()))) >>= fun x4 =>
 if x4.2.2.1 = true then
  some ((false, ()))
 else n_13 (x4.2.2.2.2.1, x4.1, ()) >>= fun x5 =>
 (if (x4.2.1 != (0 : Int)) = true then
    n_9 () >>= fun x6 =>
    some ((x6.1, ()))
   else if (x5.2.1 == (0 : Int)) = true then
    if x5.1 = true then
     n_12 (x5.2.2.1, x4.2.2.2.1, ()) >>= fun x6 =>
     if x6.1 = true then
      n_9 () >>= fun x7 =>
      some ((x7.1, ()))
     else some ((false, ()))
    else some ((false, ()))
   else some ((false, ()))) >>= fun x6 =>
 some ((x6.1, ()))
noncomputable def call3 : Caller vw := fun A fid args S k => match fid with | 7 => callPure prog sig7 n_7 A args S k | 8 => callPure prog sig8 n_8 A args S k | 9 => callPure prog sig9 n_9 A args S k | 10 => callPure prog sig10 n_10 A args S k | 11 => callPure prog sig11 n_11 A args S k | 12 => callPure prog sig12 n_12 A args S k | 13 => callPure prog sig13 n_13 A args S k | _ => none
noncomputable def x3 : Xc vw := { P := prog, n := 72, call := call3, sh := sh3, regs := fun k => match k with | 1 => some c3r1 | 5 => some c3r5 | 8 => some c3r8 | _ => none }
theorem call3_ok : CallerOk prog call3 := fun A fid args S dst k r h => by
 unfold call3 at h
 split at h
 ·exact callPure_ok (n_7_ok) rfl rfl h
 ·exact callPure_ok (n_8_ok) rfl rfl h
 ·exact callPure_ok (n_9_ok) rfl rfl h
 ·exact callPure_ok (n_10_ok) rfl rfl h
 ·exact callPure_ok (n_11_ok) rfl rfl h
 ·exact callPure_ok (n_12_ok) rfl rfl h
 ·exact callPure_ok (n_13_ok) rfl rfl h
 ·cases h
theorem n_3_ok : SigOk prog 3 sig3 n_3 := fun v r x h hx =>
 fn_ok (X := x3) (sig := sig3) rfl Tryz.func3 (c := bodyOf Tryz.f3) (by kernel_rfl) Tryz.ntmps3 (by kernel_rfl) (by kernel_rfl) rfl Ty.mixed call3_ok rfl (fun C hP hN => (lok_all (kcast (by kernel_rfl) trivial))) (kcast (by kernel_rfl) h) x hx
end Go.Proofs.YtpndmanbfleadaaGreatDoor
end
section
namespace Go.Proofs.YtpndmanbfleadaaGreatDoor
open Go.Awp Go.Tx
set_option maxRecDepth 20000
theorem sW : (∀ {α β : Type} (x : Option α) (f : α → Option β), (x >>= f) = x.bind f) ∧ (∀ {α β : Type} (a : α) (f : α → Option β), (some a).bind f = f a) ∧ (∀ {α β : Type} (f : α → Option β), (none : Option α).bind f = none) ∧
 (∀ {α : Type} {h : Decidable True} (a b : α), @ite α True h a b = a) ∧ (∀ {α : Type} {h : Decidable False} (a b : α), @ite α False h a b = b) ∧ ((false = true) = False) ∧ ((true = false) = False) ∧ (∀ n : Nat, (n : Int).toNat = n) ∧ (∀ n : Nat, 0 ≤ (n : Int)) ∧
 (∀ {α : Type} [BEq α] [LawfulBEq α] {a b : α}, (a == b) = true ↔ a = b) ∧ (∀ {p : Prop} [Decidable p], decide p = true ↔ p) ∧ (∀ {n m : Nat}, (n : Int) < m ↔ n < m) :=
 ⟨fun _ _ => rfl, fun _ _ => rfl, fun _ => rfl, fun {α h} a b => @if_true α h a b, fun {α h} a b => @if_false α h a b, by simp, by simp, fun _ => rfl, Int.natCast_nonneg, beq_iff_eq, fun {p} _ => Iff.of_eq (decide_eq_true_eq (p := p)), Int.ofNat_lt⟩
theorem Tag.ind {P : Tag → Prop} (h : ∀ t : Tag, (∀ p ∈ t.parts, P p) → P t) (t : Tag) : P t := h t fun p hp => Tag.ind h p
termination_by SizeOf.sizeOf t
decreasing_by
 have := List.sizeOf_lt_of_mem hp
 cases t
 simp at *
 omega
theorem wrap64 {x : Int} (h1 : -9223372036854775808 ≤ x) (h2 : x ≤ 9223372036854775807) : IntKind.i64.wrap x = x := by
 unfold IntKind.wrap
 simp only [IntKind.bits, IntKind.signed, Bool.true_and]
 split <;> rename_i h <;> simp at h <;> omega
theorem wrap_succ {k n : Nat} (h : k < n) (hn : n ≤ 9223372036854775807) : IntKind.i64.wrap ((k : Int) + 1) = ((k + 1 : Nat) : Int) := by rw [wrap64 (by omega) (by omega)]; omega
theorem at_lt {α : Type} {xs : List α} {k : Nat} (h : k < xs.length) : ∃ p, xs[k]? = some p ∧ p ∈ xs ∧ xs.drop k = p :: xs.drop (k + 1) ∧ ((k : Int) < (xs.length : Int)) ∧ (0 : Int) ≤ (k : Int) :=
 ⟨xs[k], List.getElem?_eq_getElem h, List.getElem_mem h, List.drop_eq_getElem_cons h, by omega, by omega⟩
theorem at_end {α : Type} {xs : List α} {k : Nat} (h : ¬ k < xs.length) : xs.drop k = [] ∧ ¬ ((k : Int) < (xs.length : Int)) := ⟨List.drop_eq_nil_of_le (by omega), by omega⟩
inductive Tag.Wf : Tag → Prop
 | mk {t : Tag} : t.names.length ≤ 9223372036854775807 → t.parts.length ≤ 9223372036854775807 → (∀ p ∈ t.parts, Tag.Wf p) → Tag.Wf t
theorem Tag.Wf.names {t : Tag} (h : t.Wf) : t.names.length ≤ 9223372036854775807 := by cases h; assumption
theorem Tag.Wf.parts {t : Tag} (h : t.Wf) : t.parts.length ≤ 9223372036854775807 := by cases h; assumption
theorem Tag.Wf.part {t p : Tag} (h : t.Wf) (hp : p ∈ t.parts) : p.Wf := by cases h with | mk _ _ h => exact h p hp
theorem ok_sl {e : Ty SN} {xs : List (den NN e)} (h : Ok vw (.sl e) xs) : xs.length ≤ 9223372036854775807 ∧ ∀ x ∈ xs, Ok vw e x := by
 cases h with
 | sl h1 h2 =>
  have hmx : (maxLen : Nat) = 9223372036854775807 := by decide
  rw [hmx] at h1
  exact ⟨h1, h2⟩
theorem f43a (t : Tag) (ht : t.Wf) (a b : Int) : ∀ (m k : Nat) (c : Int), t.names.length - k = m → ∃ c', n_27l3 (a, b, c, (k : Int), t, ()) = some (a, b, c', t, ()) := by
 intro m
 induction m with
 | zero =>
  intro k c hk
  have hlt : ¬ k < t.names.length := by omega
  obtain ⟨hd, g1⟩ := at_end hlt
  rw [n_27l3]
  simp only [sW, hlt]
  exact ⟨_, rfl⟩
 | succ m ih =>
  intro k c hk
  have hlt : k < t.names.length := by omega
  obtain ⟨p, hp1, hm, hd, g1, g2⟩ := at_lt hlt
  rw [n_27l3]
  simp only [sW, g1, g2, hlt, hp1, wrap_succ hlt ht.names]
  exact ih (k + 1) _ (by omega)
theorem f43b (t : Tag) (ht : t.Wf) (hp : ∀ p ∈ t.parts, ∃ x, n_27 (p, ()) = some x) : ∀ (m k : Nat) (a b c : Int), t.parts.length - k = m → ∃ x, n_27l7 (a, b, c, (k : Int), t, ()) = some x := by
 intro m
 induction m with
 | zero =>
  intro k a b c hk
  have hlt : ¬ k < t.parts.length := by omega
  obtain ⟨hd, g1⟩ := at_end hlt
  rw [n_27l7]
  simp only [sW, hlt]
  exact ⟨_, rfl⟩
 | succ m ih =>
  intro k a b c hk
  have hlt : k < t.parts.length := by omega
  obtain ⟨p, hp1, hm, hd, g1, g2⟩ := at_lt hlt
  obtain ⟨x, hx⟩ := hp p hm
  rw [n_27l7]
  simp only [sW, g1, g2, hlt, hp1, hx, wrap_succ hlt ht.parts]
  exact ih (k + 1) _ _ _ (by omega)
theorem f43 : ∀ t : Tag, t.Wf → ∃ x, n_27 (t, ()) = some x := by
 refine Tag.ind fun t ih ht => ?_
 obtain ⟨c, hc⟩ := f43a t ht 1 0 _ 0 (t.text.size : Int) rfl
 obtain ⟨x, hx⟩ := f43b t ht (fun p hp => ih p hp (ht.part hp)) _ 0 1 0 c rfl
 simp only [Int.natCast_zero, Int.ofNat_eq_natCast, List.drop_zero] at hc hx
 rw [n_27]
 simp only [sW, hc, hx]
 exact ⟨_, rfl⟩
theorem f13 (t : Tag) (ht : t.Wf) : ∃ b, n_7 (t, ()) = some (b, ()) := by
 obtain ⟨x, hx⟩ := f43 t ht
 unfold n_7
 simp only [hx, sW]
 split
 ·exact ⟨_, rfl⟩
 ·split
  ·exact ⟨_, rfl⟩
  ·exact ⟨_, rfl⟩
end Go.Proofs.YtpndmanbfleadaaGreatDoor
end
section
namespace Go.Proofs.YtpndmanbfleadaaGreatDoor
open Go.Awp Go.Tx
set_option maxRecDepth 20000
abbrev big : Nat := 9223372036854775807
inductive Tag.Fit (B : Nat) : Tag → Prop
 | mk {t : Tag} : t.text.size ≤ B → t.names.length ≤ B → (∀ s ∈ t.names, s.size ≤ B) → t.parts.length ≤ B → (∀ p ∈ t.parts, Tag.Fit B p) → Tag.Fit B t
section
variable {B : Nat} {t : Tag} (h : t.Fit B)
include h
theorem Tag.Fit.text : t.text.size ≤ B := by cases h; assumption
theorem Tag.Fit.names : t.names.length ≤ B := by cases h; assumption
theorem Tag.Fit.name {s : ByteArray} (hs : s ∈ t.names) : s.size ≤ B := by cases h with | mk _ _ h _ _ => exact h s hs
theorem Tag.Fit.parts : t.parts.length ≤ B := by cases h; assumption
theorem Tag.Fit.part {p : Tag} (hp : p ∈ t.parts) : p.Fit B := by cases h with | mk _ _ _ _ h => exact h p hp
end
theorem Tag.Fit.mono {B B' : Nat} (hB : B ≤ B') : ∀ t : Tag, t.Fit B → t.Fit B' :=
 Tag.ind fun t ih h => .mk (Nat.le_trans h.text hB) (Nat.le_trans h.names hB) (fun s hs => Nat.le_trans (h.name hs) hB) (Nat.le_trans h.parts hB) fun p hp => ih p hp (h.part hp)
theorem Tag.Fit.wf : ∀ t : Tag, t.Fit big → t.Wf := Tag.ind fun t ih h => .mk h.names h.parts fun p hp => ih p hp (h.part hp)
theorem sum_ge {ns : List Nat} : ∀ {i n : Nat}, ns[i]? = some n → n ≤ ns.sum := by
 induction ns with
 | nil => intro i n h; simp at h
 | cons a r ih =>
  intro i n h
  cases i with
  | zero => simp at h; subst h; simp
  | succ i => have := ih (i := i) (by simpa using h); simp; omega
theorem sum_len {ns : List Nat} (h : ∀ n ∈ ns, 1 ≤ n) : ns.length ≤ ns.sum := by
 induction ns with
 | nil => simp
 | cons a r ih =>
  have h1 := h a List.mem_cons_self
  have h2 := ih fun n hn => h n (List.mem_cons_of_mem _ hn)
  simp; omega
theorem bk_pos {e : Ty vw.ι} {x : den vw.N e} {m : Nat} (h : Bk vw e x m) : 1 ≤ m := by
 cases h <;> omega
theorem bk_str {s : ByteArray} {m : Nat} (h : Bk vw .str s m) : s.size + 1 ≤ m := by
 cases h; assumption
theorem bk_sl {e : Ty SN} {xs : List (den NN e)} {m : Nat} (h : Bk vw (.sl e) xs m) : xs.length + 1 ≤ m ∧ ∀ x ∈ xs, ∃ n, n + 1 ≤ m ∧ Bk vw e x n := by
 cases h with
 | sl ns h1 h2 h3 =>
  have h1 : ns.length = xs.length := h1
  have hp : ∀ n ∈ ns, 1 ≤ n := fun n hn => by
   obtain ⟨i, hi⟩ := List.getElem?_of_mem hn
   obtain ⟨x, hx⟩ : ∃ x, xs[i]? = some x := ⟨_, List.getElem?_eq_getElem (by have := (List.getElem?_eq_some_iff.1 hi).1; omega)⟩
   exact bk_pos (h2 i x n hx hi)
  have := sum_len hp
  refine ⟨by omega, fun x hx => ?_⟩
  obtain ⟨i, hi⟩ := List.getElem?_of_mem hx
  obtain ⟨n, hn⟩ : ∃ n, ns[i]? = some n := ⟨_, List.getElem?_eq_getElem (by have := (List.getElem?_eq_some_iff.1 hi).1; omega)⟩
  exact ⟨n, by have := sum_ge hn; omega, h2 i x n hi hn⟩
theorem bk_st {i : SN} {x : NN i} {m : Nat} (h : Bk vw (.st i) x m) : ∀ l ∈ cellsN i x, ∃ n, n + 1 ≤ m ∧ Bk vw l.t l.x n := by
 cases h with
 | st ns h1 h2 h3 =>
  intro l hl
  obtain ⟨j, hj⟩ := List.getElem?_of_mem hl
  have h1 : ns.length = (cellsN i x).length := h1
  obtain ⟨n, hn⟩ : ∃ n, ns[j]? = some n := ⟨_, List.getElem?_eq_getElem (by have := (List.getElem?_eq_some_iff.1 hj).1; omega)⟩
  exact ⟨n, by have := sum_ge hn; omega, h2 j l n hj hn⟩
theorem fit_of_bk {B : Nat} : ∀ (t : Tag) (m : Nat), m ≤ B → Bk vw (.st .tagT) t m → t.Fit B := by
 refine Tag.ind fun t ih m hm h => ?_
 have hc := bk_st h
 obtain ⟨n1, l1, h1⟩ := hc ⟨.str, t.text⟩ (by simp [cellsN])
 obtain ⟨n2, l2, h2⟩ := hc ⟨.sl .str, t.names⟩ (by simp [cellsN])
 obtain ⟨n3, l3, h3⟩ := hc ⟨.sl (.st .tagT), t.parts⟩ (by simp [cellsN])
 have a1 : t.text.size + 1 ≤ n1 := bk_str h1
 obtain ⟨a2, b2⟩ := bk_sl (e := .str) (xs := t.names) h2
 obtain ⟨a3, b3⟩ := bk_sl (e := .st .tagT) (xs := t.parts) h3
 refine .mk (by omega) (by omega) (fun s hs => ?_) (by omega) fun p hp => ?_
 ·obtain ⟨n, l, h⟩ := b2 s hs
  have := bk_str h
  omega
 ·obtain ⟨n, l, h⟩ := b3 p hp
  exact ih p hp n (by omega) h
theorem f58a (t : Tag) (ht : t.Fit big) (y : Size) (a b : Int) : ∀ (m k : Nat) (c : Int), t.names.length - k = m →
  ∃ c', n_27l3 (1, 0, c, (k : Int), t, ()) = some (1, 0, c', t, ()) ∧ n_42l3 (t.names, (t.names.length : Int), (k : Int), t, y, ⟨a, b, c⟩, ()) = some (t, y, ⟨a, b, c'⟩, ()) := by
 intro m
 induction m with
 | zero =>
  intro k c hk
  have hlt : ¬ k < t.names.length := by omega
  rw [n_27l3, n_42l3]
  simp only [sW, hlt]
  exact ⟨_, rfl, rfl⟩
 | succ m ih =>
  intro k c hk
  have hlt : k < t.names.length := by omega
  obtain ⟨p, hp1, hm, hd, g1, g2⟩ := at_lt hlt
  rw [n_27l3, n_42l3]
  simp only [sW, g1, g2, hlt, hp1, wrap_succ hlt ht.names]
  exact ih (k + 1) _ (by omega)
theorem f58b (t : Tag) (ht : t.Fit big) (y : Size) (hp : ∀ p ∈ t.parts, ∃ a d s, n_27 (p, ()) = some (a, d, s, ()) ∧ n_42 (p, ()) = some (⟨d, a, s⟩, ())) : ∀ (m k : Nat) (a b c : Int), t.parts.length - k = m →
  ∃ a' b' c', n_27l7 (a, b, c, (k : Int), t, ()) = some (a', b', c', ()) ∧ n_42l8 (t.parts, (t.parts.length : Int), (k : Int), y, ⟨b, a, c⟩, ()) = some (y, ⟨b', a', c'⟩, ()) := by
 intro m
 induction m with
 | zero =>
  intro k a b c hk
  have hlt : ¬ k < t.parts.length := by omega
  rw [n_27l7, n_42l8]
  simp only [sW, hlt]
  exact ⟨_, _, _, rfl, rfl⟩
 | succ m ih =>
  intro k a b c hk
  have hlt : k < t.parts.length := by omega
  obtain ⟨p, hp1, hm, hd, g1, g2⟩ := at_lt hlt
  obtain ⟨a1, d1, s1, e1, e2⟩ := hp p hm
  rw [n_27l7, n_42l8]
  simp only [sW, g1, g2, hlt, hp1, e1, e2, wrap_succ hlt ht.parts]
  exact ih (k + 1) _ _ _ (by omega)
theorem f58 : ∀ t : Tag, t.Fit big → ∃ a d s, n_27 (t, ()) = some (a, d, s, ()) ∧ n_42 (t, ()) = some (⟨d, a, s⟩, ()) := by
 refine Tag.ind fun t ih ht => ?_
 obtain ⟨c, h1, h2⟩ := f58a t ht ⟨0, 0, 0⟩ 0 1 _ 0 (t.text.size : Int) rfl
 obtain ⟨a', b', c', h3, h4⟩ := f58b t ht ⟨0, 0, 0⟩ (fun p hp => ih p hp (ht.part hp)) _ 0 1 0 c rfl
 simp only [Int.natCast_zero, Int.ofNat_eq_natCast, List.drop_zero] at h1 h2 h3 h4
 rw [n_27, n_42]
 simp only [sW, h1, h2, h3, h4]
 exact ⟨_, _, _, rfl, rfl⟩
theorem f87 {s : ByteArray} (h : s.size ≤ big) : n_76 (s, ()) = some (Lib.validD s.data.toList, ()) := by
 unfold n_76
 rw [if_pos h]
theorem f86 {s : ByteArray} (h : s.size ≤ big) : n_75 (s, ()) = some (!Lib.validD s.data.toList, ()) := by
 unfold n_75
 simp only [f87 h, sW]
theorem f88l (t : Tag) (ht : t.Fit big) : ∀ (m k : Nat), t.names.length - k = m → ∃ o : Option Nat,
  n_103c75l2 (t.names, (t.names.length : Int), (k : Int), ()) = some (match o with | some i => .inl ((i : Int), ()) | none => .inr ()) ∧ n_54l6 ((k : Int), t, ()) = some (match o with | some _ => .inl (false, ()) | none => .inr (t, ())) := by
 intro m
 induction m with
 | zero =>
  intro k hk
  have hlt : ¬ k < t.names.length := by omega
  rw [n_103c75l2, n_54l6]
  simp only [sW, hlt]
  exact ⟨none, rfl, rfl⟩
 | succ m ih =>
  intro k hk
  have hlt : k < t.names.length := by omega
  obtain ⟨p, hp1, hm, hd, g1, g2⟩ := at_lt hlt
  rw [n_103c75l2, n_54l6]
  simp only [sW, g1, g2, hlt, hp1, f86 (ht.name hm), f87 (ht.name hm), wrap_succ hlt ht.names]
  cases Lib.validD p.data.toList with
  | true => simp only [Bool.not_true, sW]; exact ih (k + 1) (by omega)
  | false => simp only [Bool.not_false, sW]; exact ⟨some k, rfl, rfl⟩
theorem f88 (t : Tag) (ht : t.Fit big) : ∃ b, n_77c75 (t.names, ()) = some (b, ()) ∧ n_54l6 (0, t, ()) = some (if b = true then .inl (false, ()) else .inr (t, ())) := by
 obtain ⟨o, h1, h2⟩ := f88l t ht _ 0 rfl
 simp only [Int.natCast_zero, Int.ofNat_eq_natCast, List.drop_zero] at h1 h2
 unfold n_77c75 n_103c75
 cases o with
 | none => simp only [h1, h2, sW]; exact ⟨_, rfl, rfl⟩
 | some i => simp only [h1, h2, sW]; exact ⟨_, rfl, by simp⟩
inductive Tag.Right : Tag → Prop
 | mk {t : Tag} : (t.kind ≠ 6 → t.names = []) → (t.kind = 6 → t.names.length = t.parts.length) → (∀ p ∈ t.parts, Tag.Right p) → Tag.Right t
theorem Tag.Right.none {t : Tag} (h : t.Right) (hk : t.kind ≠ 6) : t.names = [] := by cases h with | mk h _ _ => exact h hk
theorem Tag.Right.len {t : Tag} (h : t.Right) (hk : t.kind = 6) : t.names.length = t.parts.length := by cases h with | mk _ h _ => exact h hk
theorem Tag.Right.part {t p : Tag} (h : t.Right) (hp : p ∈ t.parts) : p.Right := by cases h with | mk _ _ h => exact h p hp
theorem f61l (t : Tag) (ht : t.Fit big) (hp : ∀ p ∈ t.parts, ∃ b, n_51 (p, ()) = some (b, ()) ∧ n_54 (p, ()) = some (b, ()) ∧ (b = true → p.Right)) : ∀ (m k : Nat), t.parts.length - k = m → ∃ o : Option Nat,
  n_104c79l2 (t.parts, (t.parts.length : Int), (k : Int), ()) = some (match o with | some i => .inl ((i : Int), ()) | none => .inr ()) ∧ n_54l11 ((k : Int), t, ()) = some (match o with | some _ => .inl (false, ()) | none => .inr ()) ∧ (o = none → ∀ p ∈ t.parts.drop k, p.Right) := by
 intro m
 induction m with
 | zero =>
  intro k hk
  have hlt : ¬ k < t.parts.length := by omega
  rw [n_104c79l2, n_54l11]
  simp only [sW, hlt]
  refine ⟨.none, rfl, rfl, fun _ p hp => ?_⟩
  rw [(at_end hlt).1] at hp; cases hp
 | succ m ih =>
  intro k hk
  have hlt : k < t.parts.length := by omega
  obtain ⟨p, hp1, hm, hd, g1, g2⟩ := at_lt hlt
  obtain ⟨b, e1, e2, e3⟩ := hp p hm
  have e4 : n_79 (p, ()) = some (!b, ()) := by
   rw [n_79]
   simp only [e1, sW]
  rw [n_104c79l2, n_54l11]
  simp only [sW, g1, g2, hlt, hp1, e2, e4, wrap_succ hlt ht.parts]
  cases b with
  | true =>
   simp only [Bool.not_true, sW]
   obtain ⟨o, o1, o2, o3⟩ := ih (k + 1) (by omega)
   refine ⟨o, o1, o2, fun ho q hq => ?_⟩
   rw [hd] at hq
   rcases List.mem_cons.1 hq with rfl | hq
   ·exact e3 rfl
   ·exact o3 ho q hq
  | false => simp only [Bool.not_false, sW]; exact ⟨some k, rfl, rfl, fun h => by cases h⟩
theorem f61p (t : Tag) (ht : t.Fit big) (hp : ∀ p ∈ t.parts, ∃ b, n_51 (p, ()) = some (b, ()) ∧ n_54 (p, ()) = some (b, ()) ∧ (b = true → p.Right)) :
  ∃ b, n_78c79 (t.parts, ()) = some (b, ()) ∧ n_54l11 (0, t, ()) = some (if b = true then .inl (false, ()) else .inr ()) ∧ (b = false → ∀ p ∈ t.parts, p.Right) := by
 obtain ⟨o, h1, h2, h3⟩ := f61l t ht hp _ 0 rfl
 simp only [Int.natCast_zero, Int.ofNat_eq_natCast, List.drop_zero] at h1 h2 h3
 rw [n_78c79, n_104c79]
 cases o with
 | none => simp only [h1, h2, sW]; exact ⟨_, rfl, rfl, fun _ => h3 rfl⟩
 | some i => simp only [h1, h2, sW]; exact ⟨_, rfl, by simp, fun h => by simp at h⟩
end Go.Proofs.YtpndmanbfleadaaGreatDoor
end
section
namespace Go.Proofs.YtpndmanbfleadaaGreatDoor
open Go.Awp Go.Tx
set_option maxRecDepth 20000
theorem f61 : ∀ t : Tag, t.Fit big → ∃ b, n_51 (t, ()) = some (b, ()) ∧ n_54 (t, ()) = some (b, ()) ∧ (b = true → t.Right) := by
 refine Tag.ind fun t ih ht => ?_
 have e86 := f86 ht.text
 have e87 := f87 ht.text
 obtain ⟨bn, n1, n2⟩ := f88 t ht
 obtain ⟨bp, p1, p2, p3⟩ := f61p t ht fun p hp => ih p hp (ht.part hp)
 generalize Lib.validD t.text.data.toList = v at e86 e87
 rw [n_51, n_54]
 have bad : ∀ {x y : Option (Bool × Unit)}, x = some (false, ()) → y = some (false, ()) → ∃ b, x = some (b, ()) ∧ y = some (b, ()) ∧ (b = true → t.Right) := fun h1 h2 => ⟨false, h1, h2, fun h => by cases h⟩
 have good : ∀ {x y : Option (Bool × Unit)}, x = some (v && !bn && !bp, ()) → y = some (v && !bn && !bp, ()) → (t.kind ≠ 6 → t.names = []) → (t.kind = 6 → t.names.length = t.parts.length) → ∃ b, x = some (b, ()) ∧ y = some (b, ()) ∧ (b = true → t.Right) := fun h1 h2 h3 h4 =>
  ⟨_, h1, h2, fun h => .mk h3 h4 (p3 (by
   cases bp with
   | true => simp at h
   | false => rfl))⟩
 by_cases a1 : t.kind < 0
 ·exact bad (by simp [a1]) (by simp [a1])
 by_cases a2 : t.kind > 6
 ·exact bad (by simp [a1, a2]) (by simp [a1, a2])
 have hk : t.kind = 0 ∨ t.kind = 1 ∨ t.kind = 2 ∨ t.kind = 3 ∨ t.kind = 4 ∨ t.kind = 5 ∨ t.kind = 6 := by omega
 generalize (ByteArray.mk #[]).toList = X
 rcases hk with k | k | k | k | k | k | k
 ·by_cases c1 : t.n = 0
  case neg => exact bad (by simp [List.length_pos_iff, k, c1]) (by simp [List.length_pos_iff, k, c1])
  by_cases c2 : t.text.toList = X
  case neg => exact bad (by simp [List.length_pos_iff, k, c1, c2]) (by simp [List.length_pos_iff, k, c1, c2])
  by_cases c4 : t.parts = []
  case neg => exact bad (by simp [List.length_pos_iff, k, c1, c2, c4]) (by simp [List.length_pos_iff, k, c1, c2, c4])
  by_cases c3 : t.names = []
  case neg => exact bad (by simp [List.length_pos_iff, k, c1, c2, c4, c3]) (by simp [List.length_pos_iff, k, c1, c2, c4, c3])
  rw [c3] at n1
  rw [c4] at p1
  exact good (by cases v <;> cases bn <;> cases bp <;> simp [List.length_pos_iff, k, c1, c2, c4, c3, e86, e87, n1, n2, p1, p2]) (by cases v <;> cases bn <;> cases bp <;> simp [List.length_pos_iff, k, c1, c2, c4, c3, e86, e87, n1, n2, p1, p2]) (fun _ => c3) (fun h => by omega)
 ·by_cases c1 : t.n = 0
  case neg => exact bad (by simp [List.length_pos_iff, k, c1]) (by simp [List.length_pos_iff, k, c1])
  by_cases c2 : t.text.toList = X
  case neg => exact bad (by simp [List.length_pos_iff, k, c1, c2]) (by simp [List.length_pos_iff, k, c1, c2])
  by_cases c4 : t.parts = []
  case neg => exact bad (by simp [List.length_pos_iff, k, c1, c2, c4]) (by simp [List.length_pos_iff, k, c1, c2, c4])
  by_cases c3 : t.names = []
  case neg => exact bad (by simp [List.length_pos_iff, k, c1, c2, c4, c3]) (by simp [List.length_pos_iff, k, c1, c2, c4, c3])
  rw [c3] at n1
  rw [c4] at p1
  exact good (by cases v <;> cases bn <;> cases bp <;> simp [List.length_pos_iff, k, c1, c2, c4, c3, e86, e87, n1, n2, p1, p2]) (by cases v <;> cases bn <;> cases bp <;> simp [List.length_pos_iff, k, c1, c2, c4, c3, e86, e87, n1, n2, p1, p2]) (fun _ => c3) (fun h => by omega)
 ·by_cases c1 : t.n = 0
  case neg => exact bad (by simp [List.length_pos_iff, k, c1]) (by simp [List.length_pos_iff, k, c1])
  by_cases c2 : t.text.toList = X
  case neg => exact bad (by simp [List.length_pos_iff, k, c1, c2]) (by simp [List.length_pos_iff, k, c1, c2])
  by_cases c4 : t.parts = []
  case neg => exact bad (by simp [List.length_pos_iff, k, c1, c2, c4]) (by simp [List.length_pos_iff, k, c1, c2, c4])
  by_cases c3 : t.names = []
  case neg => exact bad (by simp [List.length_pos_iff, k, c1, c2, c4, c3]) (by simp [List.length_pos_iff, k, c1, c2, c4, c3])
  rw [c3] at n1
  rw [c4] at p1
  exact good (by cases v <;> cases bn <;> cases bp <;> simp [List.length_pos_iff, k, c1, c2, c4, c3, e86, e87, n1, n2, p1, p2]) (by cases v <;> cases bn <;> cases bp <;> simp [List.length_pos_iff, k, c1, c2, c4, c3, e86, e87, n1, n2, p1, p2]) (fun _ => c3) (fun h => by omega)
 ·by_cases c2 : t.text.toList = X
  case neg => exact bad (by simp [List.length_pos_iff, k, c2]) (by simp [List.length_pos_iff, k, c2])
  by_cases c4 : t.parts = []
  case neg => exact bad (by simp [List.length_pos_iff, k, c2, c4]) (by simp [List.length_pos_iff, k, c2, c4])
  by_cases c5 : t.n < -9007199254740992
  ·by_cases c3 : t.names = []
   ·exact bad (by simp [List.length_pos_iff, k, c2, c4, c5, c3]) (by simp [List.length_pos_iff, k, c2, c4, c5, c3])
   ·exact bad (by simp [List.length_pos_iff, k, c2, c4, c5, c3]) (by simp [List.length_pos_iff, k, c2, c4, c5, c3])
  by_cases c6 : t.n > 9007199254740992
  ·by_cases c3 : t.names = []
   ·exact bad (by simp [List.length_pos_iff, k, c2, c4, c5, c6, c3]) (by simp [List.length_pos_iff, k, c2, c4, c5, c6, c3])
   ·exact bad (by simp [List.length_pos_iff, k, c2, c4, c5, c6, c3]) (by simp [List.length_pos_iff, k, c2, c4, c5, c6, c3])
  by_cases c3 : t.names = []
  case neg => exact bad (by simp [List.length_pos_iff, k, c2, c4, c5, c6, c3]) (by simp [List.length_pos_iff, k, c2, c4, c5, c6, c3])
  rw [c3] at n1
  rw [c4] at p1
  exact good (by cases v <;> cases bn <;> cases bp <;> simp [List.length_pos_iff, k, c2, c4, c5, c6, c3, e86, e87, n1, n2, p1, p2]) (by cases v <;> cases bn <;> cases bp <;> simp [List.length_pos_iff, k, c2, c4, c5, c6, c3, e86, e87, n1, n2, p1, p2]) (fun _ => c3) (fun h => by omega)
 ·by_cases c1 : t.n = 0
  case neg => exact bad (by simp [List.length_pos_iff, k, c1]) (by simp [List.length_pos_iff, k, c1])
  by_cases c4 : t.parts = []
  case neg => exact bad (by simp [List.length_pos_iff, k, c1, c4]) (by simp [List.length_pos_iff, k, c1, c4])
  by_cases c3 : t.names = []
  case neg => exact bad (by simp [List.length_pos_iff, k, c1, c4, c3]) (by simp [List.length_pos_iff, k, c1, c4, c3])
  rw [c3] at n1
  rw [c4] at p1
  exact good (by cases v <;> cases bn <;> cases bp <;> simp [List.length_pos_iff, k, c1, c4, c3, e86, e87, n1, n2, p1, p2]) (by cases v <;> cases bn <;> cases bp <;> simp [List.length_pos_iff, k, c1, c4, c3, e86, e87, n1, n2, p1, p2]) (fun _ => c3) (fun h => by omega)
 ·by_cases c1 : t.n = 0
  case neg => exact bad (by simp [List.length_pos_iff, k, c1]) (by simp [List.length_pos_iff, k, c1])
  by_cases c2 : t.text.toList = X
  case neg => exact bad (by simp [List.length_pos_iff, k, c1, c2]) (by simp [List.length_pos_iff, k, c1, c2])
  by_cases c3 : t.names = []
  case neg => exact bad (by simp [List.length_pos_iff, k, c1, c2, c3]) (by simp [List.length_pos_iff, k, c1, c2, c3])
  rw [c3] at n1
  exact good (by cases v <;> cases bn <;> cases bp <;> simp [List.length_pos_iff, k, c1, c2, c3, e86, e87, n1, n2, p1, p2]) (by cases v <;> cases bn <;> cases bp <;> simp [List.length_pos_iff, k, c1, c2, c3, e86, e87, n1, n2, p1, p2]) (fun _ => c3) (fun h => by omega)
 ·by_cases c1 : t.n = 0
  case neg => exact bad (by simp [List.length_pos_iff, k, c1]) (by simp [List.length_pos_iff, k, c1])
  by_cases c2 : t.text.toList = X
  case neg => exact bad (by simp [List.length_pos_iff, k, c1, c2]) (by simp [List.length_pos_iff, k, c1, c2])
  by_cases c7 : (t.names.length : Int) = (t.parts.length : Int)
  case neg => exact bad (by simp [List.length_pos_iff, k, c1, c2, c7]) (by cases v <;> simp [List.length_pos_iff, k, c1, c2, c7, e87])
  exact good (by cases v <;> cases bn <;> cases bp <;> simp [List.length_pos_iff, k, c1, c2, c7, e86, e87, n1, n2, p1, p2]) (by cases v <;> cases bn <;> cases bp <;> simp [List.length_pos_iff, k, c1, c2, c7, e86, e87, n1, n2, p1, p2]) (fun h => (h k).elim) (fun _ => by omega)
theorem tl_eq {a b : ByteArray} : a.toList = b.toList ↔ a = b := by
 constructor
 ·intro h
  rw [ByteArray.toList_eq, ByteArray.toList_eq] at h
  obtain ⟨⟨a⟩⟩ := a
  obtain ⟨⟨b⟩⟩ := b
  simp only at h
  rw [h]
 ·rintro rfl; rfl
theorem seq_iff {a b : ByteArray} : Mp.seq a b = true ↔ a = b := by
 obtain ⟨a⟩ := a
 obtain ⟨b⟩ := b
 show (a == b) = true ↔ _
 simp
theorem get_put (s x : ByteArray) (y : Bool) : ∀ es : List (ByteArray × Bool), Mp.get Mp.seq s (Mp.put Mp.seq x y es) = if s = x then some y else Mp.get Mp.seq s es
 | [] => by
  simp only [Mp.put, Mp.get, seq_iff]
 | p :: r => by
  simp only [Mp.put, seq_iff]
  by_cases h : x = p.1
  ·rw [if_pos h]
   simp only [Mp.get, seq_iff]
   by_cases h2 : s = x
   ·rw [if_pos h2, if_pos h2]
   ·rw [if_neg h2, if_neg h2, if_neg (by rw [← h]; exact h2)]
  ·rw [if_neg h]
   simp only [Mp.get, seq_iff]
   by_cases h2 : s = p.1
   ·rw [if_pos h2, if_pos h2, if_neg (by rw [h2]; exact fun e => h e.symm)]
   ·rw [if_neg h2, if_neg h2]
    exact get_put s x y r
theorem get_ins (s x : ByteArray) (y : Bool) : ∀ es : List (ByteArray × Bool), es.any (fun p => Mp.seq x p.1) = false → Mp.get Mp.seq s (Mp.ins Mp.slt x y es) = if s = x then some y else Mp.get Mp.seq s es
 | [], _ => by simp only [Mp.ins, Mp.get, seq_iff]
 | p :: r, h => by
  rw [List.any_cons, Bool.or_eq_false_iff] at h
  have hx : ¬ x = p.1 := fun e => by have := seq_iff.2 e; rw [h.1] at this; cases this
  rw [Mp.ins]
  split
  ·simp only [Mp.get, seq_iff]
  ·simp only [Mp.get, seq_iff]
   rw [get_ins s x y r h.2]
   by_cases h2 : s = p.1
   ·rw [if_pos h2, if_pos h2, if_neg (by rw [h2]; exact fun e => hx e.symm)]
   ·rw [if_neg h2, if_neg h2]
theorem get_set (s x : ByteArray) (y : Bool) (es : List (ByteArray × Bool)) : Mp.get Mp.seq s (Mp.set Mp.seq Mp.slt x y es) = if s = x then some y else Mp.get Mp.seq s es := by
 unfold Mp.set
 split
 ·exact get_put s x y es
 ·rename_i h
  exact get_ins s x y es (by cases hq : es.any (fun p => Mp.seq x p.1) with | true => exact (h hq).elim | false => rfl)
theorem f64a (t : Tag) (ht : t.Fit big) (i : Nat) (s : ByteArray) (hi : i < t.names.length) (hs : t.names[i]? = some s) : ∀ (m k : Nat), i - k = m →
  (s ∈ (t.names.take i).drop k → n_55l5 ((i : Int), (k : Int), t, ()) = some (.inl (true, ()))) ∧ (¬ s ∈ (t.names.take i).drop k → n_55l5 ((i : Int), (k : Int), t, ()) = some (.inr ((i : Int), t, ()))) := by
 intro m
 induction m with
 | zero =>
  intro k hk
  have hlt : ¬ k < i := by omega
  have hd : (t.names.take i).drop k = [] := List.drop_eq_nil_of_le (by simp; omega)
  rw [n_55l5, hd]
  simp [hlt]
 | succ m ih =>
  intro k hk
  have hlt : k < i := by omega
  obtain ⟨q, hq1, _, hd, _, _⟩ := at_lt (xs := t.names.take i) (k := k) (by simp; omega)
  have hq2 : t.names[k]? = some q := by
   rw [List.getElem?_take] at hq1
   simpa [hlt] using hq1
  have h0 : (0 : Int) ≤ (i : Int) := by omega
  have h1 : (0 : Int) ≤ (k : Int) := by omega
  have h2 : ((k : Int) < (i : Int)) := by omega
  rw [n_55l5, hd]
  simp only [sW, h0, h1, h2, hs, hq2, wrap_succ hlt (Nat.le_trans (Nat.le_of_lt hi) ht.names), List.mem_cons]
  by_cases e : s = q
  ·subst e
   simp
  ·have e2 : ¬ (s.toList = q.toList) := fun h => e (tl_eq.1 h)
   simp only [e2, e, false_or, sW]
   exact ih (k + 1) (by omega)
theorem f62l (t : Tag) (ht : t.Fit big) : ∀ (m k : Nat) (es : List (ByteArray × Bool)), t.names.length - k = m → (∀ s, (Mp.get Mp.seq s es).getD false = true ↔ s ∈ t.names.take k) →
  ∃ o : Bool, n_52l3 (t.names, (t.names.length : Int), (k : Int), t, es, ()) = some (if o = true then .inl (true, ()) else .inr (t, ())) ∧ n_55l2 ((k : Int), t, ()) = some (if o = true then .inl (true, ()) else .inr (t, ())) := by
 intro m
 induction m with
 | zero =>
  intro k es hk hes
  have hlt : ¬ k < t.names.length := by omega
  rw [n_52l3, n_55l2]
  simp only [sW, hlt]
  exact ⟨false, by simp, by simp⟩
 | succ m ih =>
  intro k es hk hes
  have hlt : k < t.names.length := by omega
  obtain ⟨p, hp1, hm, hd, g1, g2⟩ := at_lt hlt
  have h64 := f64a t ht k p hlt hp1 _ 0 rfl
  simp only [Int.natCast_zero, Int.ofNat_eq_natCast, List.drop_zero] at h64
  have hes2 : ∀ s, (Mp.get Mp.seq s (Mp.set Mp.seq Mp.slt p true es)).getD false = true ↔ s ∈ t.names.take (k + 1) := by
   intro s
   rw [get_set, List.take_add_one, hp1]
   by_cases e : s = p
   ·simp [e]
   ·rw [if_neg e, hes s]
    simp [e]
  obtain ⟨o, o1, o2⟩ := ih (k + 1) _ (by omega) hes2
  rw [n_52l3, n_55l2]
  simp only [sW, g1, g2, hlt, hp1, wrap_succ hlt ht.names]
  by_cases e : p ∈ t.names.take k
  ·refine ⟨true, by rw [if_pos ((hes p).2 e)]; rfl, ?_⟩
   simp only [h64.1 e, sW]
  ·refine ⟨o, by rw [if_neg fun h => e ((hes p).1 h)]; exact o1, ?_⟩
   simp only [h64.2 e, sW, wrap_succ hlt ht.names]
   exact o2
theorem f62p (t : Tag) (ht : t.Fit big) (hp : ∀ p ∈ t.parts, ∃ b, n_52 (p, ()) = some (b, ()) ∧ n_55 (p, ()) = some (b, ())) : ∀ (m k : Nat), t.parts.length - k = m → ∃ o : Option Nat,
  n_104c52l2 (t.parts, (t.parts.length : Int), (k : Int), ()) = some (match o with | some i => .inl ((i : Int), ()) | none => .inr ()) ∧ n_55l10 ((k : Int), t, ()) = some (match o with | some _ => .inl (true, ()) | none => .inr ()) := by
 intro m
 induction m with
 | zero =>
  intro k hk
  have hlt : ¬ k < t.parts.length := by omega
  rw [n_104c52l2, n_55l10]
  simp only [sW, hlt]
  exact ⟨.none, rfl, rfl⟩
 | succ m ih =>
  intro k hk
  have hlt : k < t.parts.length := by omega
  obtain ⟨p, hp1, hm, hd, g1, g2⟩ := at_lt hlt
  obtain ⟨b, e1, e2⟩ := hp p hm
  rw [n_104c52l2, n_55l10]
  simp only [sW, g1, g2, hlt, hp1, e1, e2, wrap_succ hlt ht.parts]
  cases b with
  | true => simp only [sW]; exact ⟨some k, rfl, rfl⟩
  | false => simp only [sW]; exact ih (k + 1) (by omega)
theorem f62 : ∀ t : Tag, t.Fit big → ∃ b, n_52 (t, ()) = some (b, ()) ∧ n_55 (t, ()) = some (b, ()) := by
 refine Tag.ind fun t ih ht => ?_
 obtain ⟨o, o1, o2⟩ := f62l t ht _ 0 [] rfl (fun s => by simp [Mp.get])
 obtain ⟨u, u1, u2⟩ := f62p t ht (fun p hp => ih p hp (ht.part hp)) _ 0 rfl
 simp only [Int.natCast_zero, Int.ofNat_eq_natCast, List.drop_zero] at o1 o2 u1 u2
 rw [n_52, n_55]
 cases o with
 | true => simp only [o1, o2, sW]; exact ⟨_, rfl, rfl⟩
 | false =>
  simp only [o1, o2, sW]
  rw [n_78c52, n_104c52]
  cases u with
  | none => simp only [u1, u2, sW]; exact ⟨_, rfl, rfl⟩
  | some i => simp only [u1, u2, sW]; exact ⟨_, rfl, by simp⟩
theorem f29 (t : Tag) (ht : t.Fit big) : ∃ e, n_29 (t, ()) = some (e, ()) ∧ n_33 (t, ()) = some (e, ()) ∧ (e = 0 → t.Right) := by
 obtain ⟨a, d, s, c1, c2⟩ := f58 t ht
 obtain ⟨b, b1, b2, b3⟩ := f61 t ht
 obtain ⟨w, w1, w2⟩ := f62 t ht
 unfold n_29 n_33
 simp only [c1, c2, sW]
 by_cases h1 : d > 20
 ·refine ⟨3, by simp [h1], ?_, fun h => by omega⟩
  by_cases h2 : a > 500 <;> simp [h1, h2]
 ·by_cases h2 : a > 500
  ·exact ⟨3, by simp [h1, h2], by simp [h1, h2], fun h => by omega⟩
  ·by_cases h3 : s > 4096
   ·exact ⟨3, by simp [h1, h2, h3], by simp [h1, h2, h3], fun h => by omega⟩
   ·cases b with
    | false => exact ⟨1, by simp [h1, h2, h3, b1], by simp [h1, h2, h3, b2], fun h => by omega⟩
    | true =>
     cases w with
     | true => exact ⟨5, by simp [h1, h2, h3, b1, w1], by simp [h1, h2, h3, b2, w2], fun h => by omega⟩
     | false => exact ⟨0, by simp [h1, h2, h3, b1, w1], by simp [h1, h2, h3, b2, w2], fun _ => b3 rfl⟩
end Go.Proofs.YtpndmanbfleadaaGreatDoor
end
section
namespace Go.Proofs.YtpndmanbfleadaaGreatDoor
open Go.Awp Go.Tx
open IntKind (i32)
open IntKind (i64)
set_option maxRecDepth 100000
def Le {α : Type} (x y : Option α) : Prop := ∀ a, x = some a → y = some a
theorem Le.refl {α : Type} (x : Option α) : Le x x := fun _ h => h
theorem Le.none {α : Type} (x : Option α) : Le none x := fun _ h => by cases h
theorem Le.bind {α β : Type} {x y : Option α} {f g : α → Option β} (h : Le x y) (h2 : ∀ a, Le (f a) (g a)) : Le (x >>= f) (y >>= g) := fun b hb => by
 cases x with
 | none => cases hb
 | some a => rw [h a rfl]; exact h2 a b hb
theorem Le.ite {α : Type} {c : Prop} {d : Decidable c} {x y z w : Option α} (h : Le x y) (h2 : Le z w) : Le (@ite _ c d x z) (@ite _ c d y w) := by
 cases d with
 | isTrue h3 => exact h
 | isFalse h3 => exact h2
theorem Le.both {α : Type} {x y z w : Option α} (h : Le x y) (h2 : Le z w) : Le (both x z) (both y w) := fun a ha => by
 obtain ⟨h3, h4⟩ := both_some ha
 exact both_mk (h a h3) (h2 a h4)
noncomputable def m_42l3 : Nat → (List ByteArray) × Int × Int × Tag × Size × Size × Unit → Option ((Tag × Size × Size × Unit))
 | 0, _ => none
 | k + 1, v =>
  if decide (v.2.2.1 < v.2.1) = true then
   if (0 : Int) ≤ v.2.2.1 then
    v.1[v.2.2.1.toNat]? >>= fun x1 =>
    m_42l3 k (v.1, v.2.1, i64.wrap (v.2.2.1 + (1 : Int)), v.2.2.2.1, v.2.2.2.2.1, Size.mk v.2.2.2.2.2.1.depth v.2.2.2.2.2.1.pieces (i64.wrap (v.2.2.2.2.2.1.bytes + (↑x1.size : Int))), ())
   else none
  else some ((v.2.2.2.1, v.2.2.2.2.1, v.2.2.2.2.2.1, ()))
theorem m_42l3_le : ∀ k v, Le (m_42l3 k v) (n_42l3 v)
 | 0, _ => Le.none _
 | k + 1, v => by
  rw [m_42l3, n_42l3]
  with_reducible repeat' first | exact Le.refl _ | exact Le.none _ | exact m_42l3_le _ _ | apply Le.bind | apply Le.ite | apply Le.both | with_unfolding_all assumption | intro x
mutual
noncomputable def m_42l8 : Nat → (List Tag) × Int × Int × Size × Size × Unit → Option ((Size × Size × Unit))
 | 0, _ => none
 | k + 1, v =>
  if decide (v.2.2.1 < v.2.1) = true then
   if (0 : Int) ≤ v.2.2.1 then
    v.1[v.2.2.1.toNat]? >>= fun x1 =>
    m_42 k (x1, ()) >>= fun x2 =>
    m_42l8 k (v.1, v.2.1, i64.wrap (v.2.2.1 + (1 : Int)), v.2.2.2.1, Size.mk (max v.2.2.2.2.1.depth x2.1.depth) (i64.wrap (v.2.2.2.2.1.pieces + x2.1.pieces)) (i64.wrap (v.2.2.2.2.1.bytes + x2.1.bytes)), ())
   else none
  else some ((v.2.2.2.1, v.2.2.2.2.1, ()))
noncomputable def m_42 : Nat → Tag × Unit → Option (Size × Unit)
 | 0, _ => none
 | k + 1, v =>
  m_42l3 k (v.1.names, (↑v.1.names.length : Int), (0 : Int), v.1, Size.mk (0 : Int) (0 : Int) (0 : Int), Size.mk (0 : Int) (1 : Int) (↑v.1.text.size : Int), ()) >>= fun x1 =>
  m_42l8 k (x1.1.parts, (↑x1.1.parts.length : Int), (0 : Int), x1.2.1, x1.2.2.1, ()) >>= fun x2 =>
  some ((Size.mk (i64.wrap (x2.2.1.depth + (1 : Int))) x2.2.1.pieces x2.2.1.bytes, ()))
end
theorem m_42l8_st (k : Nat) (h_42 : ∀ v, Le (m_42 k v) (n_42 v)) (h_42l8 : ∀ v, Le (m_42l8 k v) (n_42l8 v)) (v : (List Tag) × Int × Int × Size × Size × Unit) : Le (m_42l8 (k + 1) v) (n_42l8 v) := by
 rw [m_42l8, n_42l8]
 with_reducible repeat' first | exact Le.refl _ | exact Le.none _ | exact h_42 _ | exact h_42l8 _ | apply Le.bind | apply Le.ite | apply Le.both | with_unfolding_all assumption | intro x
theorem m_42_st (k : Nat) (h_42l8 : ∀ v, Le (m_42l8 k v) (n_42l8 v)) (v : Tag × Unit) : Le (m_42 (k + 1) v) (n_42 v) := by
 rw [m_42, n_42]
 with_reducible repeat' first | exact Le.refl _ | exact Le.none _ | exact m_42l3_le _ _ | exact h_42l8 _ | apply Le.bind | apply Le.ite | apply Le.both | with_unfolding_all assumption | intro x
theorem m_42l8_all : ∀ k, (∀ v, Le (m_42l8 k v) (n_42l8 v)) ∧ (∀ v, Le (m_42 k v) (n_42 v))
 | 0 => ⟨fun _ => Le.none _, fun _ => Le.none _⟩
 | k + 1 => by
  have h := m_42l8_all k
  exact ⟨m_42l8_st k (h.2) (h.1), m_42_st k (h.1)⟩
theorem m_42_le (k : Nat) (v : Tag × Unit) : Le (m_42 k v) (n_42 v) := have h := m_42l8_all k; h.2 v
noncomputable def m_75 (k : Nat) (v : ByteArray × Unit) : Option (Bool × Unit) :=
 n_76 (v.1, ()) >>= fun x1 =>
 some ((!x1.1, ()))
theorem m_75_le (k : Nat) (v : ByteArray × Unit) : Le (m_75 k v) (n_75 v) := by
 unfold m_75 n_75
 with_reducible repeat' first | exact Le.refl _ | exact Le.none _ | apply Le.bind | apply Le.ite | apply Le.both | with_unfolding_all assumption | intro x
noncomputable def m_103c75l2 : Nat → (List ByteArray) × Int × Int × Unit → Option (((Int × Unit) ⊕ (Unit)))
 | 0, _ => none
 | k + 1, v =>
  if decide (v.2.2.1 < v.2.1) = true then
   if (0 : Int) ≤ v.2.2.1 then
    v.1[v.2.2.1.toNat]? >>= fun x1 =>
    m_75 k (x1, ()) >>= fun x2 =>
    if x2.1 = true then
     some (Sum.inl (v.2.2.1, ()))
    else m_103c75l2 k (v.1, v.2.1, i64.wrap (v.2.2.1 + (1 : Int)), ())
   else none
  else some (Sum.inr ())
theorem m_103c75l2_le : ∀ k v, Le (m_103c75l2 k v) (n_103c75l2 v)
 | 0, _ => Le.none _
 | k + 1, v => by
  rw [m_103c75l2, n_103c75l2]
  with_reducible repeat' first | exact Le.refl _ | exact Le.none _ | exact m_75_le _ _ | exact m_103c75l2_le _ _ | apply Le.bind | apply Le.ite | apply Le.both | with_unfolding_all assumption | intro x
noncomputable def m_103c75 (k : Nat) (v : (List ByteArray) × Unit) : Option (Int × Unit) :=
 m_103c75l2 k (v.1, (↑v.1.length : Int), (0 : Int), ()) >>= fun x1 => match x1 with
  | .inl y1 => some y1
  | .inr y1 => some (((-1 : Int), ()))
theorem m_103c75_le (k : Nat) (v : (List ByteArray) × Unit) : Le (m_103c75 k v) (n_103c75 v) := by
 unfold m_103c75 n_103c75
 with_reducible repeat' first | exact Le.refl _ | exact Le.none _ | exact m_103c75l2_le _ _ | apply Le.bind | apply Le.ite | apply Le.both | (rintro (x | x) <;> dsimp only) | with_unfolding_all assumption | intro x
noncomputable def m_77c75 (k : Nat) (v : (List ByteArray) × Unit) : Option (Bool × Unit) :=
 m_103c75 k (v.1, ()) >>= fun x1 =>
 some ((decide (x1.1 ≥ (0 : Int)), ()))
theorem m_77c75_le (k : Nat) (v : (List ByteArray) × Unit) : Le (m_77c75 k v) (n_77c75 v) := by
 unfold m_77c75 n_77c75
 with_reducible repeat' first | exact Le.refl _ | exact Le.none _ | exact m_103c75_le _ _ | apply Le.bind | apply Le.ite | apply Le.both | with_unfolding_all assumption | intro x
mutual
noncomputable def m_104c79l2 : Nat → (List Tag) × Int × Int × Unit → Option (((Int × Unit) ⊕ (Unit)))
 | 0, _ => none
 | k + 1, v =>
  if decide (v.2.2.1 < v.2.1) = true then
   if (0 : Int) ≤ v.2.2.1 then
    v.1[v.2.2.1.toNat]? >>= fun x1 =>
    m_79 k (x1, ()) >>= fun x2 =>
    if x2.1 = true then
     some (Sum.inl (v.2.2.1, ()))
    else m_104c79l2 k (v.1, v.2.1, i64.wrap (v.2.2.1 + (1 : Int)), ())
   else none
  else some (Sum.inr ())
noncomputable def m_79 : Nat → Tag × Unit → Option (Bool × Unit)
 | 0, _ => none
 | k + 1, v =>
  m_51 k (v.1, ()) >>= fun x1 =>
  some ((!x1.1, ()))
noncomputable def m_51 : Nat → Tag × Unit → Option (Bool × Unit)
 | 0, _ => none
 | k + 1, v =>
  (if decide (v.1.kind < (0 : Int)) = true then
     some ((true, v.1, ()))
    else if decide (v.1.kind > (6 : Int)) = true then
     some ((true, v.1, ()))
    else if (v.1.kind != (3 : Int)) = true then
     if (v.1.n != (0 : Int)) = true then
      some ((true, v.1, ()))
     else if decide (v.1.n < (-9007199254740992 : Int)) = true then
      some ((true, v.1, ()))
     else if decide (v.1.n > (9007199254740992 : Int)) = true then
      some ((true, v.1, ()))
     else if (v.1.kind != (4 : Int)) = true then
      if (!v.1.text.toList == (ByteArray.mk #[]).toList) = true then
       some ((true, v.1, ()))
      else if decide (v.1.kind < (5 : Int)) = true then
       some ((decide ((↑v.1.parts.length : Int) > (0 : Int)), v.1, ()))
      else some ((false, v.1, ()))
     else if decide (v.1.kind < (5 : Int)) = true then
      some ((decide ((↑v.1.parts.length : Int) > (0 : Int)), v.1, ()))
     else some ((false, v.1, ()))
    else if decide (v.1.n < (-9007199254740992 : Int)) = true then
     some ((true, v.1, ()))
    else if decide (v.1.n > (9007199254740992 : Int)) = true then
     some ((true, v.1, ()))
    else if (v.1.kind != (4 : Int)) = true then
     if (!v.1.text.toList == (ByteArray.mk #[]).toList) = true then
      some ((true, v.1, ()))
     else if decide (v.1.kind < (5 : Int)) = true then
      some ((decide ((↑v.1.parts.length : Int) > (0 : Int)), v.1, ()))
     else some ((false, v.1, ()))
    else if decide (v.1.kind < (5 : Int)) = true then
     some ((decide ((↑v.1.parts.length : Int) > (0 : Int)), v.1, ()))
    else some ((false, v.1, ()))) >>= fun x1 =>
  if x1.1 = true then
   some ((false, ()))
  else (if (x1.2.1.kind == (6 : Int)) = true then
    if ((↑x1.2.1.names.length : Int) != (↑x1.2.1.parts.length : Int)) = true then
     some ((true, x1.2.1, ()))
    else if (x1.2.1.kind != (6 : Int)) = true then
     some ((decide ((↑x1.2.1.names.length : Int) > (0 : Int)), x1.2.1, ()))
    else some ((false, x1.2.1, ()))
   else if (x1.2.1.kind != (6 : Int)) = true then
    some ((decide ((↑x1.2.1.names.length : Int) > (0 : Int)), x1.2.1, ()))
   else some ((false, x1.2.1, ()))) >>= fun x2 =>
  if x2.1 = true then
   some ((false, ()))
  else (m_75 k (x2.2.1.text, ()) >>= fun x3 =>
   if (!x3.1) = true then
    m_77c75 k (x2.2.1.names, ()) >>= fun x4 =>
    if (!x4.1) = true then
     m_78c79 k (x2.2.1.parts, ()) >>= fun x5 =>
     some ((!x5.1, ()))
    else some ((false, ()))
   else some ((false, ()))) >>= fun x3 =>
  some ((x3.1, ()))
noncomputable def m_78c79 : Nat → (List Tag) × Unit → Option (Bool × Unit)
 | 0, _ => none
 | k + 1, v =>
  m_104c79 k (v.1, ()) >>= fun x1 =>
  some ((decide (x1.1 ≥ (0 : Int)), ()))
noncomputable def m_104c79 : Nat → (List Tag) × Unit → Option (Int × Unit)
 | 0, _ => none
 | k + 1, v =>
  m_104c79l2 k (v.1, (↑v.1.length : Int), (0 : Int), ()) >>= fun x1 => match x1 with
   | .inl y1 => some y1
   | .inr y1 => some (((-1 : Int), ()))
end
theorem m_104c79l2_st (k : Nat) (h_104c79l2 : ∀ v, Le (m_104c79l2 k v) (n_104c79l2 v)) (h_79 : ∀ v, Le (m_79 k v) (n_79 v)) (v : (List Tag) × Int × Int × Unit) : Le (m_104c79l2 (k + 1) v) (n_104c79l2 v) := by
 rw [m_104c79l2, n_104c79l2]
 with_reducible repeat' first | exact Le.refl _ | exact Le.none _ | exact h_104c79l2 _ | exact h_79 _ | apply Le.bind | apply Le.ite | apply Le.both | with_unfolding_all assumption | intro x
theorem m_79_st (k : Nat) (h_51 : ∀ v, Le (m_51 k v) (n_51 v)) (v : Tag × Unit) : Le (m_79 (k + 1) v) (n_79 v) := by
 rw [m_79, n_79]
 with_reducible repeat' first | exact Le.refl _ | exact Le.none _ | exact h_51 _ | apply Le.bind | apply Le.ite | apply Le.both | with_unfolding_all assumption | intro x
theorem m_51_st (k : Nat) (h_78c79 : ∀ v, Le (m_78c79 k v) (n_78c79 v)) (v : Tag × Unit) : Le (m_51 (k + 1) v) (n_51 v) := by
 rw [m_51, n_51]
 with_reducible repeat' first | exact Le.refl _ | exact Le.none _ | exact m_75_le _ _ | exact m_77c75_le _ _ | exact h_78c79 _ | apply Le.bind | apply Le.ite | apply Le.both | with_unfolding_all assumption | intro x
theorem m_78c79_st (k : Nat) (h_104c79 : ∀ v, Le (m_104c79 k v) (n_104c79 v)) (v : (List Tag) × Unit) : Le (m_78c79 (k + 1) v) (n_78c79 v) := by
 rw [m_78c79, n_78c79]
 with_reducible repeat' first | exact Le.refl _ | exact Le.none _ | exact h_104c79 _ | apply Le.bind | apply Le.ite | apply Le.both | with_unfolding_all assumption | intro x
theorem m_104c79_st (k : Nat) (h_104c79l2 : ∀ v, Le (m_104c79l2 k v) (n_104c79l2 v)) (v : (List Tag) × Unit) : Le (m_104c79 (k + 1) v) (n_104c79 v) := by
 rw [m_104c79, n_104c79]
 with_reducible repeat' first | exact Le.refl _ | exact Le.none _ | exact h_104c79l2 _ | apply Le.bind | apply Le.ite | apply Le.both | (rintro (x | x) <;> dsimp only) | with_unfolding_all assumption | intro x
theorem m_104c79l2_all : ∀ k, (∀ v, Le (m_104c79l2 k v) (n_104c79l2 v)) ∧ (∀ v, Le (m_79 k v) (n_79 v)) ∧ (∀ v, Le (m_51 k v) (n_51 v)) ∧ (∀ v, Le (m_78c79 k v) (n_78c79 v)) ∧ (∀ v, Le (m_104c79 k v) (n_104c79 v))
 | 0 => ⟨fun _ => Le.none _, fun _ => Le.none _, fun _ => Le.none _, fun _ => Le.none _, fun _ => Le.none _⟩
 | k + 1 => by
  have h := m_104c79l2_all k
  exact ⟨m_104c79l2_st k (h.1) (h.2.1), m_79_st k (h.2.2.1), m_51_st k (h.2.2.2.1), m_78c79_st k (h.2.2.2.2), m_104c79_st k (h.1)⟩
theorem m_51_le (k : Nat) (v : Tag × Unit) : Le (m_51 k v) (n_51 v) := have h := m_104c79l2_all k; h.2.2.1 v
noncomputable def m_52l3 : Nat → (List ByteArray) × Int × Int × Tag × (List (ByteArray × Bool)) × Unit → Option (((Bool × Unit) ⊕ (Tag × Unit)))
 | 0, _ => none
 | k + 1, v =>
  if decide (v.2.2.1 < v.2.1) = true then
   if (0 : Int) ≤ v.2.2.1 then
    v.1[v.2.2.1.toNat]? >>= fun x1 =>
    if (Mp.get Mp.seq x1 v.2.2.2.2.1).getD false = true then
     some (Sum.inl (true, ()))
    else m_52l3 k (v.1, v.2.1, i64.wrap (v.2.2.1 + (1 : Int)), v.2.2.2.1, Mp.set Mp.seq Mp.slt x1 true v.2.2.2.2.1, ())
   else none
  else some (Sum.inr (v.2.2.2.1, ()))
theorem m_52l3_le : ∀ k v, Le (m_52l3 k v) (n_52l3 v)
 | 0, _ => Le.none _
 | k + 1, v => by
  rw [m_52l3, n_52l3]
  with_reducible repeat' first | exact Le.refl _ | exact Le.none _ | exact m_52l3_le _ _ | apply Le.bind | apply Le.ite | apply Le.both | with_unfolding_all assumption | intro x
mutual
noncomputable def m_104c52l2 : Nat → (List Tag) × Int × Int × Unit → Option (((Int × Unit) ⊕ (Unit)))
 | 0, _ => none
 | k + 1, v =>
  if decide (v.2.2.1 < v.2.1) = true then
   if (0 : Int) ≤ v.2.2.1 then
    v.1[v.2.2.1.toNat]? >>= fun x1 =>
    m_52 k (x1, ()) >>= fun x2 =>
    if x2.1 = true then
     some (Sum.inl (v.2.2.1, ()))
    else m_104c52l2 k (v.1, v.2.1, i64.wrap (v.2.2.1 + (1 : Int)), ())
   else none
  else some (Sum.inr ())
noncomputable def m_52 : Nat → Tag × Unit → Option (Bool × Unit)
 | 0, _ => none
 | k + 1, v =>
  m_52l3 k (v.1.names, (↑v.1.names.length : Int), (0 : Int), v.1, [], ()) >>= fun x1 => match x1 with
   | .inl y1 => some y1
   | .inr y1 => m_78c52 k (y1.1.parts, ()) >>= fun x2 =>
    some ((x2.1, ()))
noncomputable def m_78c52 : Nat → (List Tag) × Unit → Option (Bool × Unit)
 | 0, _ => none
 | k + 1, v =>
  m_104c52 k (v.1, ()) >>= fun x1 =>
  some ((decide (x1.1 ≥ (0 : Int)), ()))
noncomputable def m_104c52 : Nat → (List Tag) × Unit → Option (Int × Unit)
 | 0, _ => none
 | k + 1, v =>
  m_104c52l2 k (v.1, (↑v.1.length : Int), (0 : Int), ()) >>= fun x1 => match x1 with
   | .inl y1 => some y1
   | .inr y1 => some (((-1 : Int), ()))
end
theorem m_104c52l2_st (k : Nat) (h_104c52l2 : ∀ v, Le (m_104c52l2 k v) (n_104c52l2 v)) (h_52 : ∀ v, Le (m_52 k v) (n_52 v)) (v : (List Tag) × Int × Int × Unit) : Le (m_104c52l2 (k + 1) v) (n_104c52l2 v) := by
 rw [m_104c52l2, n_104c52l2]
 with_reducible repeat' first | exact Le.refl _ | exact Le.none _ | exact h_104c52l2 _ | exact h_52 _ | apply Le.bind | apply Le.ite | apply Le.both | with_unfolding_all assumption | intro x
theorem m_52_st (k : Nat) (h_78c52 : ∀ v, Le (m_78c52 k v) (n_78c52 v)) (v : Tag × Unit) : Le (m_52 (k + 1) v) (n_52 v) := by
 rw [m_52, n_52]
 with_reducible repeat' first | exact Le.refl _ | exact Le.none _ | exact m_52l3_le _ _ | exact h_78c52 _ | apply Le.bind | apply Le.ite | apply Le.both | (rintro (x | x) <;> dsimp only) | with_unfolding_all assumption | intro x
theorem m_78c52_st (k : Nat) (h_104c52 : ∀ v, Le (m_104c52 k v) (n_104c52 v)) (v : (List Tag) × Unit) : Le (m_78c52 (k + 1) v) (n_78c52 v) := by
 rw [m_78c52, n_78c52]
 with_reducible repeat' first | exact Le.refl _ | exact Le.none _ | exact h_104c52 _ | apply Le.bind | apply Le.ite | apply Le.both | with_unfolding_all assumption | intro x
theorem m_104c52_st (k : Nat) (h_104c52l2 : ∀ v, Le (m_104c52l2 k v) (n_104c52l2 v)) (v : (List Tag) × Unit) : Le (m_104c52 (k + 1) v) (n_104c52 v) := by
 rw [m_104c52, n_104c52]
 with_reducible repeat' first | exact Le.refl _ | exact Le.none _ | exact h_104c52l2 _ | apply Le.bind | apply Le.ite | apply Le.both | (rintro (x | x) <;> dsimp only) | with_unfolding_all assumption | intro x
theorem m_104c52l2_all : ∀ k, (∀ v, Le (m_104c52l2 k v) (n_104c52l2 v)) ∧ (∀ v, Le (m_52 k v) (n_52 v)) ∧ (∀ v, Le (m_78c52 k v) (n_78c52 v)) ∧ (∀ v, Le (m_104c52 k v) (n_104c52 v))
 | 0 => ⟨fun _ => Le.none _, fun _ => Le.none _, fun _ => Le.none _, fun _ => Le.none _⟩
 | k + 1 => by
  have h := m_104c52l2_all k
  exact ⟨m_104c52l2_st k (h.1) (h.2.1), m_52_st k (h.2.2.1), m_78c52_st k (h.2.2.2), m_104c52_st k (h.1)⟩
theorem m_52_le (k : Nat) (v : Tag × Unit) : Le (m_52 k v) (n_52 v) := have h := m_104c52l2_all k; h.2.1 v
noncomputable def m_29 (k : Nat) (v : Tag × Unit) : Option (Int × Unit) :=
 m_42 k (v.1, ()) >>= fun x1 =>
 (if decide (x1.1.depth > (20 : Int)) = true then
    some ((true, v.1, ()))
   else if decide (x1.1.pieces > (500 : Int)) = true then
    some ((true, v.1, ()))
   else some ((decide (x1.1.bytes > (4096 : Int)), v.1, ()))) >>= fun x2 =>
 if x2.1 = true then
  some (((3 : Int), ()))
 else m_51 k (x2.2.1, ()) >>= fun x3 =>
 if (!x3.1) = true then
  some (((1 : Int), ()))
 else m_52 k (x2.2.1, ()) >>= fun x4 =>
 if x4.1 = true then
  some (((5 : Int), ()))
 else some (((0 : Int), ()))
theorem m_29_le (k : Nat) (v : Tag × Unit) : Le (m_29 k v) (n_29 v) := by
 unfold m_29 n_29
 with_reducible repeat' first | exact Le.refl _ | exact Le.none _ | exact m_42_le _ _ | exact m_51_le _ _ | exact m_52_le _ _ | apply Le.bind | apply Le.ite | apply Le.both | with_unfolding_all assumption | intro x
noncomputable def m_58l2 : Nat → (List ByteArray) × ByteArray × Int × Int × Unit → Option (((Int × Unit) ⊕ (Unit)))
 | 0, _ => none
 | k + 1, v =>
  if decide (v.2.2.2.1 < v.2.2.1) = true then
   if (0 : Int) ≤ v.2.2.2.1 then
    v.1[v.2.2.2.1.toNat]? >>= fun x1 =>
    if (v.2.1.toList == x1.toList) = true then
     some (Sum.inl (v.2.2.2.1, ()))
    else m_58l2 k (v.1, v.2.1, v.2.2.1, i64.wrap (v.2.2.2.1 + (1 : Int)), ())
   else none
  else some (Sum.inr ())
theorem m_58l2_le : ∀ k v, Le (m_58l2 k v) (n_58l2 v)
 | 0, _ => Le.none _
 | k + 1, v => by
  rw [m_58l2, n_58l2]
  with_reducible repeat' first | exact Le.refl _ | exact Le.none _ | exact m_58l2_le _ _ | apply Le.bind | apply Le.ite | apply Le.both | with_unfolding_all assumption | intro x
noncomputable def m_58 (k : Nat) (v : (List ByteArray) × ByteArray × Unit) : Option (Int × Unit) :=
 m_58l2 k (v.1, v.2.1, (↑v.1.length : Int), (0 : Int), ()) >>= fun x1 => match x1 with
  | .inl y1 => some y1
  | .inr y1 => some (((-1 : Int), ()))
theorem m_58_le (k : Nat) (v : (List ByteArray) × ByteArray × Unit) : Le (m_58 k v) (n_58 v) := by
 unfold m_58 n_58
 with_reducible repeat' first | exact Le.refl _ | exact Le.none _ | exact m_58l2_le _ _ | apply Le.bind | apply Le.ite | apply Le.both | (rintro (x | x) <;> dsimp only) | with_unfolding_all assumption | intro x
noncomputable def m_39 (k : Nat) (v : Tag × ByteArray × Unit) : Option (Int × Unit) :=
 if (v.1.kind == (6 : Int)) = true then
  m_58 k (v.1.names, v.2.1, ()) >>= fun x1 =>
  some ((x1.1, ()))
 else n_59 (v.2.1, ()) >>= fun x1 =>
 (if (v.1.kind != (5 : Int)) = true then
    some ((x1.1, true, ()))
   else if x1.2.1 = true then
    some ((x1.1, true, ()))
   else if decide (x1.1 < (0 : Int)) = true then
    some ((x1.1, true, ()))
   else if decide (x1.1 > (↑v.1.parts.length : Int)) = true then
    some ((x1.1, true, ()))
   else n_60 (x1.1, ()) >>= fun x2 =>
   some ((x1.1, !x2.1.toList == v.2.1.toList, ()))) >>= fun x2 =>
 if x2.2.1 = true then
  some (((-1 : Int), ()))
 else some ((x2.1, ()))
theorem m_39_le (k : Nat) (v : Tag × ByteArray × Unit) : Le (m_39 k v) (n_39 v) := by
 unfold m_39 n_39
 with_reducible repeat' first | exact Le.refl _ | exact Le.none _ | exact m_58_le _ _ | apply Le.bind | apply Le.ite | apply Le.both | with_unfolding_all assumption | intro x
mutual
noncomputable def m_31s06c9l4 : Nat → (List Tag) × Int × Int × Int × Int × ByteArray × (List Tag) × Tag × (List Tag) × (List ByteArray) × Unit → Option ((Int × Int × ByteArray × (List Tag) × Tag × (List Tag) × (List ByteArray) × Unit))
 | 0, _ => none
 | k + 1, v =>
  if decide (v.2.2.1 < v.2.1) = true then
   if (0 : Int) ≤ v.2.2.1 then
    v.1[v.2.2.1.toNat]? >>= fun x1 =>
    m_31s06c9 k (x1, ()) >>= fun x2 =>
    if v.2.2.2.2.2.2.2.2.1.length + [Tag.mk x2.1 x2.2.1 x2.2.2.1 x2.2.2.2.1 x2.2.2.2.2.1].length ≤ (4294967296 : Nat) then
     m_31s06c9l4 k (v.1, v.2.1, i64.wrap (v.2.2.1 + (1 : Int)), v.2.2.2.1, v.2.2.2.2.1, v.2.2.2.2.2.1, v.2.2.2.2.2.2.1, v.2.2.2.2.2.2.2.1, v.2.2.2.2.2.2.2.2.1 ++ [Tag.mk x2.1 x2.2.1 x2.2.2.1 x2.2.2.2.1 x2.2.2.2.2.1], v.2.2.2.2.2.2.2.2.2.1, ())
    else none
   else none
  else some ((v.2.2.2.1, v.2.2.2.2.1, v.2.2.2.2.2.1, v.2.2.2.2.2.2.1, v.2.2.2.2.2.2.2.1, v.2.2.2.2.2.2.2.2.1, v.2.2.2.2.2.2.2.2.2.1, ()))
noncomputable def m_31s06c9 : Nat → Tag × Unit → Option (Int × Int × ByteArray × (List ByteArray) × (List Tag) × Unit)
 | 0, _ => none
 | k + 1, v =>
  n_53s5172 (v.1.names, ()) >>= fun x1 =>
  m_31s06c9l4 k (v.1.parts, (↑v.1.parts.length : Int), (0 : Int), v.1.kind, v.1.n, v.1.text, v.1.parts, Tag.mk (0 : Int) (0 : Int) (ByteArray.mk #[]) [] [], [], x1.1, ()) >>= fun x2 =>
  some ((x2.1, x2.2.1, x2.2.2.1, x2.2.2.2.2.2.2.1, x2.2.2.2.2.2.1, ()))
end
theorem m_31s06c9l4_st (k : Nat) (h_31s06c9 : ∀ v, Le (m_31s06c9 k v) (n_31s06c9 v)) (h_31s06c9l4 : ∀ v, Le (m_31s06c9l4 k v) (n_31s06c9l4 v)) (v : (List Tag) × Int × Int × Int × Int × ByteArray × (List Tag) × Tag × (List Tag) × (List ByteArray) × Unit) : Le (m_31s06c9l4 (k + 1) v) (n_31s06c9l4 v) := by
 rw [m_31s06c9l4, n_31s06c9l4]
 with_reducible repeat' first | exact Le.refl _ | exact Le.none _ | exact h_31s06c9 _ | exact h_31s06c9l4 _ | apply Le.bind | apply Le.ite | apply Le.both | with_unfolding_all assumption | intro x
theorem m_31s06c9_st (k : Nat) (h_31s06c9l4 : ∀ v, Le (m_31s06c9l4 k v) (n_31s06c9l4 v)) (v : Tag × Unit) : Le (m_31s06c9 (k + 1) v) (n_31s06c9 v) := by
 rw [m_31s06c9, n_31s06c9]
 with_reducible repeat' first | exact Le.refl _ | exact Le.none _ | exact h_31s06c9l4 _ | apply Le.bind | apply Le.ite | apply Le.both | with_unfolding_all assumption | intro x
theorem m_31s06c9l4_all : ∀ k, (∀ v, Le (m_31s06c9l4 k v) (n_31s06c9l4 v)) ∧ (∀ v, Le (m_31s06c9 k v) (n_31s06c9 v))
 | 0 => ⟨fun _ => Le.none _, fun _ => Le.none _⟩
 | k + 1 => by
  have h := m_31s06c9l4_all k
  exact ⟨m_31s06c9l4_st k (h.2) (h.1), m_31s06c9_st k (h.1)⟩
theorem m_31s06c9_le (k : Nat) (v : Tag × Unit) : Le (m_31s06c9 k v) (n_31s06c9 v) := have h := m_31s06c9l4_all k; h.2 v
noncomputable def m_100s52d8 (k : Nat) (v : ByteArray × Bool × (List Int) × Unit) : Option (Int × Bool × (List Int) × Unit) :=
 n_120s8e4d (v.2.1, v.2.2.1, ()) >>= fun x1 =>
 if x1.2.1.length + v.1.size ≤ (4294967296 : Nat) then
  some (((↑v.1.size : Int), x1.1, x1.2.1 ++ Bs.ints v.1, ()))
 else none
theorem m_100s52d8_le (k : Nat) (v : ByteArray × Bool × (List Int) × Unit) : Le (m_100s52d8 k v) (n_100s52d8 v) := by
 unfold m_100s52d8 n_100s52d8
 with_reducible repeat' first | exact Le.refl _ | exact Le.none _ | apply Le.bind | apply Le.ite | apply Le.both | with_unfolding_all assumption | intro x
noncomputable def m_118 (k : Nat) (v : ByteArray × Int × Unit) : Option (Int × Unit) :=
 n_132 (v.1, v.2.1, ()) >>= fun x1 =>
 some ((x1.1, ()))
theorem m_118_le (k : Nat) (v : ByteArray × Int × Unit) : Le (m_118 k v) (n_118 v) := by
 unfold m_118 n_118
 with_reducible repeat' first | exact Le.refl _ | exact Le.none _ | apply Le.bind | apply Le.ite | apply Le.both | with_unfolding_all assumption | intro x
noncomputable def m_74s5bd0 (k : Nat) (v : ByteArray × Reader × Unit) : Option (Bool × Reader × Unit) :=
 (if (v.2.1.at0 == (↑v.2.1.s.size : Int)) = true then
    some ((true, v.2.1, ()))
   else if (0 : Int) ≤ v.2.1.at0 ∧ v.2.1.at0 ≤ i64.wrap (v.2.1.at0 + (1 : Int)) ∧ i64.wrap (v.2.1.at0 + (1 : Int)) ≤ (↑v.2.1.s.size : Int) then
    n_101 (v.1, v.2.1.s.extract v.2.1.at0.toNat (i64.wrap (v.2.1.at0 + (1 : Int))).toNat, ()) >>= fun x1 =>
    some ((!x1.1, v.2.1, ()))
   else none) >>= fun x1 =>
 if x1.1 = true then
  some ((false, x1.2.1, ()))
 else some ((true, Reader.mk x1.2.1.s (i64.wrap (x1.2.1.at0 + (1 : Int))), ()))
theorem m_74s5bd0_le (k : Nat) (v : ByteArray × Reader × Unit) : Le (m_74s5bd0 k v) (n_74s5bd0 v) := by
 unfold m_74s5bd0 n_74s5bd0
 with_reducible repeat' first | exact Le.refl _ | exact Le.none _ | apply Le.bind | apply Le.ite | apply Le.both | with_unfolding_all assumption | intro x
noncomputable def m_119sadb0l11 : Nat → Int × (List Int) × Int × Int × Reader × Unit → Option ((Int × Reader × Unit))
 | 0, _ => none
 | k + 1, v =>
  if decide (v.2.2.2.1 < v.2.2.1) = true then
   if (0 : Int) ≤ v.2.2.2.1 then
    v.2.1[v.2.2.2.1.toNat]? >>= fun x1 =>
    m_118 k (ByteArray.mk #[48, 49, 50, 51, 52, 53, 54, 55, 56, 57, 97, 98, 99, 100, 101, 102, 65, 66, 67, 68, 69, 70], x1, ()) >>= fun x2 =>
    m_119sadb0l11 k (i32.wrap (i32.wrap ((16 : Int) * v.1) + i32.wrap x2.1), v.2.1, v.2.2.1, i64.wrap (v.2.2.2.1 + (1 : Int)), v.2.2.2.2.1, ())
   else none
  else some ((v.1, v.2.2.2.2.1, ()))
theorem m_119sadb0l11_le : ∀ k v, Le (m_119sadb0l11 k v) (n_119sadb0l11 v)
 | 0, _ => Le.none _
 | k + 1, v => by
  rw [m_119sadb0l11, n_119sadb0l11]
  with_reducible repeat' first | exact Le.refl _ | exact Le.none _ | exact m_118_le _ _ | exact m_119sadb0l11_le _ _ | apply Le.bind | apply Le.ite | apply Le.both | with_unfolding_all assumption | intro x
noncomputable def m_119sadb0 (k : Nat) (v : ByteArray × ByteArray × Reader × Unit) : Option (Int × Bool × Reader × Unit) :=
 (m_74s5bd0 k (v.1, v.2.2.1, ()) >>= fun x1 =>
   if x1.1 = true then
    some (Sum.inl (v.2.2.1.at0, ByteArray.mk #[48, 49, 50, 51, 52, 53, 54, 55, 56, 57, 97, 98, 99, 100, 101, 102, 65, 66, 67, 68, 69, 70], x1.2.1, ()))
   else m_74s5bd0 k (ByteArray.mk #[100, 68], x1.2.1, ()) >>= fun x2 =>
   if x2.1 = true then
    some (Sum.inl (v.2.2.1.at0, v.2.1, x2.2.1, ()))
   else some (Sum.inr ((0 : Int), false, x2.2.1, ()))) >>= fun x1 => match x1 with
   | .inl y1 => (m_74s5bd0 k (y1.2.1, y1.2.2.1, ()) >>= fun x2 =>
     if (!x2.1) = true then
      some ((y1.1, true, x2.2.1, ()))
     else m_74s5bd0 k (ByteArray.mk #[48, 49, 50, 51, 52, 53, 54, 55, 56, 57, 97, 98, 99, 100, 101, 102, 65, 66, 67, 68, 69, 70], x2.2.1, ()) >>= fun x3 =>
     if (!x3.1) = true then
      some ((y1.1, true, x3.2.1, ()))
     else m_74s5bd0 k (ByteArray.mk #[48, 49, 50, 51, 52, 53, 54, 55, 56, 57, 97, 98, 99, 100, 101, 102, 65, 66, 67, 68, 69, 70], x3.2.1, ()) >>= fun x4 =>
     some ((y1.1, !x4.1, x4.2.1, ()))) >>= fun x2 =>
    if x2.2.1 = true then
     some (((0 : Int), false, x2.2.2.1, ()))
    else if (0 : Int) ≤ x2.1 ∧ x2.1 ≤ x2.2.2.1.at0 ∧ x2.2.2.1.at0 ≤ (↑x2.2.2.1.s.size : Int) then
     n_133 (x2.2.2.1.s.extract x2.1.toNat x2.2.2.1.at0.toNat, ()) >>= fun x3 =>
     m_119sadb0l11 k ((0 : Int), Bs.ints x3.1, (↑(Bs.ints x3.1).length : Int), (0 : Int), x2.2.2.1, ()) >>= fun x4 =>
     some ((x4.1, true, x4.2.1, ()))
    else none
   | .inr y1 => some y1
theorem m_119sadb0_le (k : Nat) (v : ByteArray × ByteArray × Reader × Unit) : Le (m_119sadb0 k v) (n_119sadb0 v) := by
 unfold m_119sadb0 n_119sadb0
 with_reducible repeat' first | exact Le.refl _ | exact Le.none _ | exact m_74s5bd0_le _ _ | exact m_119sadb0l11_le _ _ | apply Le.bind | apply Le.ite | apply Le.both | (rintro (x | x) <;> dsimp only) | with_unfolding_all assumption | intro x
noncomputable def m_121s43b2 (k : Nat) (v : Int × (List Int) × Unit) : Option ((List Int) × Unit) :=
 if decide (IntKind.u32.wrap v.1 ≤ (127 : Int)) = true then
  if v.2.1.length + [IntKind.u8.wrap v.1].length ≤ (4294967296 : Nat) then
   some ((v.2.1 ++ [IntKind.u8.wrap v.1], ()))
  else none
 else n_135s43b2 (v.1, v.2.1, ()) >>= fun x1 =>
 some ((x1.1, ()))
theorem m_121s43b2_le (k : Nat) (v : Int × (List Int) × Unit) : Le (m_121s43b2 k v) (n_121s43b2 v) := by
 unfold m_121s43b2 n_121s43b2
 with_reducible repeat' first | exact Le.refl _ | exact Le.none _ | apply Le.bind | apply Le.ite | apply Le.both | with_unfolding_all assumption | intro x
noncomputable def m_36l2 : Nat → (List ByteArray) × Int × Int × Tag × Tag × Unit → Option (((Bool × Tag × Unit) ⊕ (Tag × Tag × Unit)))
 | 0, _ => none
 | k + 1, v =>
  if decide (v.2.2.1 < v.2.1) = true then
   if (0 : Int) ≤ v.2.2.1 then
    v.1[v.2.2.1.toNat]? >>= fun x1 =>
    m_39 k (v.2.2.2.1, x1, ()) >>= fun x2 =>
    (if decide (x2.1 < (0 : Int)) = true then
       some ((x2.1, v.1, v.2.1, v.2.2.1, true, v.2.2.2.1, v.2.2.2.2.1, ()))
      else some ((x2.1, v.1, v.2.1, v.2.2.1, decide (x2.1 ≥ (↑v.2.2.2.1.parts.length : Int)), v.2.2.2.1, v.2.2.2.2.1, ()))) >>= fun x3 =>
    if x3.2.2.2.2.1 = true then
     some (Sum.inl (false, Tag.mk (0 : Int) (0 : Int) (ByteArray.mk #[]) [] [], ()))
    else if (0 : Int) ≤ x3.1 then
     x3.2.2.2.2.2.1.parts[x3.1.toNat]? >>= fun x4 =>
     m_36l2 k (x3.2.1, x3.2.2.1, i64.wrap (x3.2.2.2.1 + (1 : Int)), x4, x3.2.2.2.2.2.2.1, ())
    else none
   else none
  else some (Sum.inr (v.2.2.2.1, v.2.2.2.2.1, ()))
theorem m_36l2_le : ∀ k v, Le (m_36l2 k v) (n_36l2 v)
 | 0, _ => Le.none _
 | k + 1, v => by
  rw [m_36l2, n_36l2]
  with_reducible repeat' first | exact Le.refl _ | exact Le.none _ | exact m_39_le _ _ | exact m_36l2_le _ _ | apply Le.bind | apply Le.ite | apply Le.both | with_unfolding_all assumption | intro x
noncomputable def m_36 (k : Nat) (v : Tag × (List ByteArray) × Unit) : Option (Bool × Tag × Unit) :=
 m_36l2 k (v.2.1, (↑v.2.1.length : Int), (0 : Int), v.1, Tag.mk (0 : Int) (0 : Int) (ByteArray.mk #[]) [] [], ()) >>= fun x1 => match x1 with
  | .inl y1 => some y1
  | .inr y1 => some ((true, y1.1, ()))
theorem m_36_le (k : Nat) (v : Tag × (List ByteArray) × Unit) : Le (m_36 k v) (n_36 v) := by
 unfold m_36 n_36
 with_reducible repeat' first | exact Le.refl _ | exact Le.none _ | exact m_36l2_le _ _ | apply Le.bind | apply Le.ite | apply Le.both | (rintro (x | x) <;> dsimp only) | with_unfolding_all assumption | intro x
noncomputable def m_13 (k : Nat) (v : Tag × (List ByteArray) × Unit) : Option (Bool × Int × Tag × Unit) :=
 m_29 k (v.1, ()) >>= fun x1 =>
 if (x1.1 != (0 : Int)) = true then
  some ((false, x1.1, Tag.mk (0 : Int) (0 : Int) (ByteArray.mk #[]) [] [], ()))
 else m_36 k (v.1, v.2.1, ()) >>= fun x2 =>
 m_31s06c9 k (x2.2.1, ()) >>= fun x3 =>
 some ((x2.1, (0 : Int), Tag.mk x3.1 x3.2.1 x3.2.2.1 x3.2.2.2.1 x3.2.2.2.2.1, ()))
theorem m_13_le (k : Nat) (v : Tag × (List ByteArray) × Unit) : Le (m_13 k v) (n_13 v) := by
 unfold m_13 n_13
 with_reducible repeat' first | exact Le.refl _ | exact Le.none _ | exact m_36_le _ _ | exact m_31s06c9_le _ _ | exact m_29_le _ _ | apply Le.bind | apply Le.ite | apply Le.both | with_unfolding_all assumption | intro x
noncomputable def m_50s0e1dl0 : Nat → Reader × Unit → Option ((Reader × Unit))
 | 0, _ => none
 | k + 1, v =>
  m_74s5bd0 k (ByteArray.mk #[32, 10, 9, 13], v.1, ()) >>= fun x1 =>
  if x1.1 = true then
   m_50s0e1dl0 k (x1.2.1, ())
  else some ((x1.2.1, ()))
theorem m_50s0e1dl0_le : ∀ k v, Le (m_50s0e1dl0 k v) (n_50s0e1dl0 v)
 | 0, _ => Le.none _
 | k + 1, v => by
  rw [m_50s0e1dl0, n_50s0e1dl0]
  with_reducible repeat' first | exact Le.refl _ | exact Le.none _ | exact m_74s5bd0_le _ _ | exact m_50s0e1dl0_le _ _ | apply Le.bind | apply Le.ite | apply Le.both | with_unfolding_all assumption | intro x
noncomputable def m_50s0e1d (k : Nat) (v : Reader × Unit) : Option (Reader × Unit) :=
 m_50s0e1dl0 k (v.1, ()) >>= fun x1 =>
 some ((x1.1, ()))
theorem m_50s0e1d_le (k : Nat) (v : Reader × Unit) : Le (m_50s0e1d k v) (n_50s0e1d v) := by
 unfold m_50s0e1d n_50s0e1d
 with_reducible repeat' first | exact Le.refl _ | exact Le.none _ | exact m_50s0e1dl0_le _ _ | apply Le.bind | apply Le.ite | apply Le.both | with_unfolding_all assumption | intro x
noncomputable def m_69s5bd0l2 : Nat → ByteArray × Int × Int × Reader × Unit → Option (((Bool × Reader × Unit) ⊕ (Reader × Unit)))
 | 0, _ => none
 | k + 1, v =>
  if decide (v.2.2.1 < v.2.1) = true then
   if (0 : Int) ≤ v.2.2.1 ∧ v.2.2.1 ≤ i64.wrap (v.2.2.1 + (1 : Int)) ∧ i64.wrap (v.2.2.1 + (1 : Int)) ≤ (↑v.1.size : Int) then
    m_74s5bd0 k (v.1.extract v.2.2.1.toNat (i64.wrap (v.2.2.1 + (1 : Int))).toNat, v.2.2.2.1, ()) >>= fun x1 =>
    if (!x1.1) = true then
     some (Sum.inl (false, x1.2.1, ()))
    else m_69s5bd0l2 k (v.1, v.2.1, i64.wrap (v.2.2.1 + (1 : Int)), x1.2.1, ())
   else none
  else some (Sum.inr (v.2.2.2.1, ()))
theorem m_69s5bd0l2_le : ∀ k v, Le (m_69s5bd0l2 k v) (n_69s5bd0l2 v)
 | 0, _ => Le.none _
 | k + 1, v => by
  rw [m_69s5bd0l2, n_69s5bd0l2]
  with_reducible repeat' first | exact Le.refl _ | exact Le.none _ | exact m_74s5bd0_le _ _ | exact m_69s5bd0l2_le _ _ | apply Le.bind | apply Le.ite | apply Le.both | with_unfolding_all assumption | intro x
noncomputable def m_69s5bd0 (k : Nat) (v : ByteArray × Reader × Unit) : Option (Bool × Reader × Unit) :=
 m_69s5bd0l2 k (v.1, (↑v.1.size : Int), (0 : Int), v.2.1, ()) >>= fun x1 => match x1 with
  | .inl y1 => some y1
  | .inr y1 => some ((true, y1.1, ()))
theorem m_69s5bd0_le (k : Nat) (v : ByteArray × Reader × Unit) : Le (m_69s5bd0 k v) (n_69s5bd0 v) := by
 unfold m_69s5bd0 n_69s5bd0
 with_reducible repeat' first | exact Le.refl _ | exact Le.none _ | exact m_69s5bd0l2_le _ _ | apply Le.bind | apply Le.ite | apply Le.both | (rintro (x | x) <;> dsimp only) | with_unfolding_all assumption | intro x
noncomputable def m_70s0e1dl6 : Nat → Bool × Int × Reader × Tag × Unit → Option ((Bool × Int × Reader × Tag × Unit))
 | 0, _ => none
 | k + 1, v =>
  (n_68s0e1d (v.2.2.1, ()) >>= fun x1 =>
    if decide (x1.1 ≥ (48 : Int)) = true then
     n_68s0e1d (x1.2.1, ()) >>= fun x2 =>
     some ((v.1, v.2.1, decide (x2.1 ≤ (57 : Int)), x2.2.1, v.2.2.2.1, ()))
    else some ((v.1, v.2.1, false, x1.2.1, v.2.2.2.1, ()))) >>= fun x1 =>
  if x1.2.2.1 = true then
   n_68s0e1d (x1.2.2.2.1, ()) >>= fun x2 =>
   m_70s0e1dl6 k (x1.1, min (i64.wrap (i64.wrap ((10 : Int) * x1.2.1) + i64.wrap (IntKind.u8.wrap (x2.1 - (48 : Int))))) (576460752303423488 : Int), Reader.mk x2.2.1.s (i64.wrap (x2.2.1.at0 + (1 : Int))), x1.2.2.2.2.1, ())
  else some ((x1.1, x1.2.1, x1.2.2.2.1, x1.2.2.2.2.1, ()))
theorem m_70s0e1dl6_le : ∀ k v, Le (m_70s0e1dl6 k v) (n_70s0e1dl6 v)
 | 0, _ => Le.none _
 | k + 1, v => by
  rw [m_70s0e1dl6, n_70s0e1dl6]
  with_reducible repeat' first | exact Le.refl _ | exact Le.none _ | exact m_70s0e1dl6_le _ _ | apply Le.bind | apply Le.ite | apply Le.both | with_unfolding_all assumption | intro x
noncomputable def m_70s0e1d (k : Nat) (v : Reader × Unit) : Option (Bool × Reader × Tag × Unit) :=
 m_74s5bd0 k (ByteArray.mk #[45], v.1, ()) >>= fun x1 =>
 (m_74s5bd0 k (ByteArray.mk #[48], x1.2.1, ()) >>= fun x2 =>
   if x2.1 = true then
    some (Sum.inl (x1.1, (0 : Int), x2.2.1, Tag.mk (0 : Int) (0 : Int) (ByteArray.mk #[]) [] [], ()))
   else (n_68s0e1d (x2.2.1, ()) >>= fun x3 =>
    if decide (x3.1 ≥ (49 : Int)) = true then
     n_68s0e1d (x3.2.1, ()) >>= fun x4 =>
     some ((x1.1, (0 : Int), decide (x4.1 ≤ (57 : Int)), x4.2.1, Tag.mk (0 : Int) (0 : Int) (ByteArray.mk #[]) [] [], ()))
    else some ((x1.1, (0 : Int), false, x3.2.1, Tag.mk (0 : Int) (0 : Int) (ByteArray.mk #[]) [] [], ()))) >>= fun x3 =>
   if x3.2.2.1 = true then
    m_70s0e1dl6 k (x3.1, x3.2.1, x3.2.2.2.1, x3.2.2.2.2.1, ()) >>= fun x4 =>
    some (Sum.inl (x4.1, x4.2.1, x4.2.2.1, x4.2.2.2.1, ()))
   else some (Sum.inr (false, x3.2.2.2.1, Tag.mk (0 : Int) (0 : Int) (ByteArray.mk #[]) [] [], ()))) >>= fun x2 => match x2 with
   | .inl y2 => (if y2.1 = true then
      some ((i64.wrap ((0 : Int) - y2.2.1), y2.2.2.1, y2.2.2.2.1, ()))
     else some ((y2.2.1, y2.2.2.1, y2.2.2.2.1, ()))) >>= fun x3 =>
    some ((true, x3.2.1, Tag.mk (3 : Int) x3.1 (ByteArray.mk #[]) [] [], ()))
   | .inr y2 => some y2
theorem m_70s0e1d_le (k : Nat) (v : Reader × Unit) : Le (m_70s0e1d k v) (n_70s0e1d v) := by
 unfold m_70s0e1d n_70s0e1d
 with_reducible repeat' first | exact Le.refl _ | exact Le.none _ | exact m_70s0e1dl6_le _ _ | exact m_74s5bd0_le _ _ | apply Le.bind | apply Le.ite | apply Le.both | (rintro (x | x) <;> dsimp only) | with_unfolding_all assumption | intro x
noncomputable def m_97s0e1d (k : Nat) (v : Reader × Unit) : Option (Int × Bool × Reader × Unit) :=
 n_68s0e1d (v.1, ()) >>= fun x1 =>
 m_118 k (ByteArray.mk #[34, 92, 47, 98, 102, 110, 114, 116], x1.1, ()) >>= fun x2 =>
 (if decide (x1.2.1.at0 < (↑x1.2.1.s.size : Int)) = true then
    some ((x2.1, decide (x2.1 ≥ (0 : Int)), x1.2.1, ()))
   else some ((x2.1, false, x1.2.1, ()))) >>= fun x3 =>
 if x3.2.1 = true then
  if (0 : Int) ≤ x3.1 then
   (ByteArray.mk #[34, 92, 47, 8, 12, 10, 13, 9])[x3.1.toNat]? >>= fun x4 =>
   some ((i32.wrap (↑x4.toNat : Int), true, Reader.mk x3.2.2.1.s (i64.wrap (x3.2.2.1.at0 + (1 : Int))), ()))
  else none
 else m_74s5bd0 k (ByteArray.mk #[117], x3.2.2.1, ()) >>= fun x4 =>
 if (!x4.1) = true then
  some (((0 : Int), false, x4.2.1, ()))
 else m_119sadb0 k (ByteArray.mk #[48, 49, 50, 51, 52, 53, 54, 55, 56, 57, 97, 98, 99, 101, 102, 65, 66, 67, 69, 70], ByteArray.mk #[48, 49, 50, 51, 52, 53, 54, 55, 56, 57, 97, 98, 65, 66], x4.2.1, ()) >>= fun x5 =>
 (if (!x5.2.1) = true then
    some ((x5.1, x5.2.1, true, x5.2.2.1, ()))
   else if decide (x5.1 < (55296 : Int)) = true then
    some ((x5.1, x5.2.1, true, x5.2.2.1, ()))
   else some ((x5.1, x5.2.1, decide (x5.1 ≥ (56320 : Int)), x5.2.2.1, ()))) >>= fun x6 =>
 if x6.2.2.1 = true then
  some ((x6.1, x6.2.1, x6.2.2.2.1, ()))
 else m_69s5bd0 k (ByteArray.mk #[92, 117], x6.2.2.2.1, ()) >>= fun x7 =>
 if (!x7.1) = true then
  some (((0 : Int), false, x7.2.1, ()))
 else m_119sadb0 k (ByteArray.mk #[], ByteArray.mk #[99, 100, 101, 102, 67, 68, 69, 70], x7.2.1, ()) >>= fun x8 =>
 some ((i32.wrap (i32.wrap (i32.wrap ((65536 : Int) + Bs.ishl i32 (i32.wrap (x6.1 - (55296 : Int))) (10 : Int)) + x8.1) - (56320 : Int)), x8.2.1, x8.2.2.1, ()))
theorem m_97s0e1d_le (k : Nat) (v : Reader × Unit) : Le (m_97s0e1d k v) (n_97s0e1d v) := by
 unfold m_97s0e1d n_97s0e1d
 with_reducible repeat' first | exact Le.refl _ | exact Le.none _ | exact m_69s5bd0_le _ _ | exact m_118_le _ _ | exact m_119sadb0_le _ _ | exact m_74s5bd0_le _ _ | apply Le.bind | apply Le.ite | apply Le.both | with_unfolding_all assumption | intro x
noncomputable def m_98se46d (k : Nat) (v : Int × Bool × (List Int) × Unit) : Option (Int × Bool × (List Int) × Unit) :=
 n_120s8e4d (v.2.1, v.2.2.1, ()) >>= fun x1 =>
 m_121s43b2 k (v.1, x1.2.1, ()) >>= fun x2 =>
 some ((i64.wrap ((↑x2.1.length : Int) - (↑x1.2.1.length : Int)), x1.1, x2.1, ()))
theorem m_98se46d_le (k : Nat) (v : Int × Bool × (List Int) × Unit) : Le (m_98se46d k v) (n_98se46d v) := by
 unfold m_98se46d n_98se46d
 with_reducible repeat' first | exact Le.refl _ | exact Le.none _ | exact m_121s43b2_le _ _ | apply Le.bind | apply Le.ite | apply Le.both | with_unfolding_all assumption | intro x
noncomputable def m_99s0e1dl22 : Nat → Int × Int × Int × Int × Reader × Unit → Option (((Bool × Reader × Unit) ⊕ (Reader × Unit)))
 | 0, _ => none
 | k + 1, v =>
  if decide (v.2.2.2.1 < v.2.2.1) = true then
   n_122s07d3 (v.1, v.2.1, v.2.2.2.2.1, ()) >>= fun x1 =>
   if (!x1.1) = true then
    some (Sum.inl (false, x1.2.1, ()))
   else m_99s0e1dl22 k ((128 : Int), (191 : Int), v.2.2.1, i64.wrap (v.2.2.2.1 + (1 : Int)), x1.2.1, ())
  else some (Sum.inr (v.2.2.2.2.1, ()))
theorem m_99s0e1dl22_le : ∀ k v, Le (m_99s0e1dl22 k v) (n_99s0e1dl22 v)
 | 0, _ => Le.none _
 | k + 1, v => by
  rw [m_99s0e1dl22, n_99s0e1dl22]
  with_reducible repeat' first | exact Le.refl _ | exact Le.none _ | exact m_99s0e1dl22_le _ _ | apply Le.bind | apply Le.ite | apply Le.both | with_unfolding_all assumption | intro x
noncomputable def m_99s0e1d (k : Nat) (v : Reader × Unit) : Option (Bool × Reader × Unit) :=
 if (0 : Int) ≤ v.1.at0 then
  v.1.s[v.1.at0.toNat]? >>= fun x1 =>
  (if decide ((↑x1.toNat : Int) < (128 : Int)) = true then
     some (Sum.inl ((↑x1.toNat : Int), (128 : Int), (191 : Int), (0 : Int), v.1, ()))
    else (if decide ((↑x1.toNat : Int) < (194 : Int)) = true then
      some (((↑x1.toNat : Int), (128 : Int), (191 : Int), true, v.1, ()))
     else some (((↑x1.toNat : Int), (128 : Int), (191 : Int), decide ((↑x1.toNat : Int) > (244 : Int)), v.1, ()))) >>= fun x2 =>
    if x2.2.2.2.1 = true then
     some (Sum.inr (false, x2.2.2.2.2.1, ()))
    else if decide (x2.1 < (224 : Int)) = true then
     some (Sum.inl (x2.1, x2.2.1, x2.2.2.1, (1 : Int), x2.2.2.2.2.1, ()))
    else if decide (x2.1 < (240 : Int)) = true then
     some (Sum.inl (x2.1, x2.2.1, x2.2.2.1, (2 : Int), x2.2.2.2.2.1, ()))
    else some (Sum.inl (x2.1, x2.2.1, x2.2.2.1, (3 : Int), x2.2.2.2.2.1, ()))) >>= fun x2 => match x2 with
    | .inl y2 => (if (y2.1 == (224 : Int)) = true then
       some (((160 : Int), y2.2.2.1, y2.2.2.2.1, y2.2.2.2.2.1, ()))
      else if (y2.1 == (237 : Int)) = true then
       some ((y2.2.1, (159 : Int), y2.2.2.2.1, y2.2.2.2.2.1, ()))
      else if (y2.1 == (240 : Int)) = true then
       some (((144 : Int), y2.2.2.1, y2.2.2.2.1, y2.2.2.2.2.1, ()))
      else if (y2.1 == (244 : Int)) = true then
       some ((y2.2.1, (143 : Int), y2.2.2.2.1, y2.2.2.2.2.1, ()))
      else some ((y2.2.1, y2.2.2.1, y2.2.2.2.1, y2.2.2.2.2.1, ()))) >>= fun x3 =>
     m_99s0e1dl22 k (x3.1, x3.2.1, x3.2.2.1, (0 : Int), Reader.mk x3.2.2.2.1.s (i64.wrap (x3.2.2.2.1.at0 + (1 : Int))), ()) >>= fun x4 => match x4 with
      | .inl y4 => some y4
      | .inr y4 => some ((true, y4.1, ()))
    | .inr y2 => some y2
 else none
theorem m_99s0e1d_le (k : Nat) (v : Reader × Unit) : Le (m_99s0e1d k v) (n_99s0e1d v) := by
 unfold m_99s0e1d n_99s0e1d
 with_reducible repeat' first | exact Le.refl _ | exact Le.none _ | exact m_99s0e1dl22_le _ _ | apply Le.bind | apply Le.ite | apply Le.both | (rintro (x | x) <;> dsimp only) | with_unfolding_all assumption | intro x
noncomputable def m_71s0e1dl3 : Nat → Reader × Bool × (List Int) × Unit → Option ((ByteArray × Bool × Reader × Unit))
 | 0, _ => none
 | k + 1, v =>
  n_68s0e1d (v.1, ()) >>= fun x1 =>
  if (x1.1 == (34 : Int)) = true then
   n_96s8e4d (v.2.1, v.2.2.1, ()) >>= fun x2 =>
   some ((x2.1, true, Reader.mk x1.2.1.s (i64.wrap (x1.2.1.at0 + (1 : Int))), ()))
  else if decide (x1.1 < (32 : Int)) = true then
   some ((ByteArray.mk #[], false, x1.2.1, ()))
  else if (x1.1 == (92 : Int)) = true then
   m_97s0e1d k (Reader.mk x1.2.1.s (i64.wrap (x1.2.1.at0 + (1 : Int))), ()) >>= fun x2 =>
   if (!x2.2.1) = true then
    some ((ByteArray.mk #[], false, x2.2.2.1, ()))
   else m_98se46d k (x2.1, v.2.1, v.2.2.1, ()) >>= fun x3 =>
   m_71s0e1dl3 k (x2.2.2.1, x3.2.1, x3.2.2.1, ())
  else m_99s0e1d k (x1.2.1, ()) >>= fun x2 =>
  if (!x2.1) = true then
   some ((ByteArray.mk #[], false, x2.2.1, ()))
  else if (0 : Int) ≤ x1.2.1.at0 ∧ x1.2.1.at0 ≤ x2.2.1.at0 ∧ x2.2.1.at0 ≤ (↑x2.2.1.s.size : Int) then
   m_100s52d8 k (x2.2.1.s.extract x1.2.1.at0.toNat x2.2.1.at0.toNat, v.2.1, v.2.2.1, ()) >>= fun x3 =>
   m_71s0e1dl3 k (x2.2.1, x3.2.1, x3.2.2.1, ())
  else none
theorem m_71s0e1dl3_le : ∀ k v, Le (m_71s0e1dl3 k v) (n_71s0e1dl3 v)
 | 0, _ => Le.none _
 | k + 1, v => by
  rw [m_71s0e1dl3, n_71s0e1dl3]
  with_reducible repeat' first | exact Le.refl _ | exact Le.none _ | exact m_100s52d8_le _ _ | exact m_99s0e1d_le _ _ | exact m_97s0e1d_le _ _ | exact m_98se46d_le _ _ | exact m_71s0e1dl3_le _ _ | apply Le.bind | apply Le.ite | apply Le.both | with_unfolding_all assumption | intro x
noncomputable def m_71s0e1d (k : Nat) (v : Reader × Unit) : Option (ByteArray × Bool × Reader × Unit) :=
 some (v.1, false, [], ()) >>= fun x1 =>
 m_71s0e1dl3 k (Reader.mk x1.1.s (i64.wrap (x1.1.at0 + (1 : Int))), x1.2.1, x1.2.2.1, ()) >>= fun x2 =>
 some x2
theorem m_71s0e1d_le (k : Nat) (v : Reader × Unit) : Le (m_71s0e1d k v) (n_71s0e1d v) := by
 unfold m_71s0e1d n_71s0e1d
 with_reducible repeat' first | exact Le.refl _ | exact Le.none _ | exact m_71s0e1dl3_le _ _ | apply Le.bind | apply Le.ite | apply Le.both | with_unfolding_all assumption | intro x
mutual
noncomputable def m_49s0e1d : Nat → Reader × Unit → Option (Bool × Reader × Tag × Unit)
 | 0, _ => none
 | k + 1, v =>
  m_50s0e1d k (v.1, ()) >>= fun x1 =>
  n_68s0e1d (x1.1, ()) >>= fun x2 =>
  if (x2.1 == (110 : Int)) = true then
   m_69s5bd0 k (ByteArray.mk #[110, 117, 108, 108], x2.2.1, ()) >>= fun x3 =>
   some ((x3.1, x3.2.1, Tag.mk (0 : Int) (0 : Int) (ByteArray.mk #[]) [] [], ()))
  else if (x2.1 == (102 : Int)) = true then
   m_69s5bd0 k (ByteArray.mk #[102, 97, 108, 115, 101], x2.2.1, ()) >>= fun x3 =>
   some ((x3.1, x3.2.1, Tag.mk (1 : Int) (0 : Int) (ByteArray.mk #[]) [] [], ()))
  else if (x2.1 == (116 : Int)) = true then
   m_69s5bd0 k (ByteArray.mk #[116, 114, 117, 101], x2.2.1, ()) >>= fun x3 =>
   some ((x3.1, x3.2.1, Tag.mk (2 : Int) (0 : Int) (ByteArray.mk #[]) [] [], ()))
  else (if (x2.1 == (45 : Int)) = true then
    some ((x2.1, true, x2.2.1, Tag.mk (0 : Int) (0 : Int) (ByteArray.mk #[]) [] [], ()))
   else if decide (x2.1 ≥ (48 : Int)) = true then
    some ((x2.1, decide (x2.1 ≤ (57 : Int)), x2.2.1, Tag.mk (0 : Int) (0 : Int) (ByteArray.mk #[]) [] [], ()))
   else some ((x2.1, false, x2.2.1, Tag.mk (0 : Int) (0 : Int) (ByteArray.mk #[]) [] [], ()))) >>= fun x3 =>
  if x3.2.1 = true then
   m_70s0e1d k (x3.2.2.1, ()) >>= fun x4 =>
   some ((x4.1, x4.2.1, x4.2.2.1, ()))
  else if (x3.1 == (34 : Int)) = true then
   m_71s0e1d k (x3.2.2.1, ()) >>= fun x4 =>
   some ((x4.2.1, x4.2.2.1, Tag.mk (4 : Int) (0 : Int) x4.1 [] [], ()))
  else if (x3.1 == (91 : Int)) = true then
   m_72s0e1d k (x3.2.2.1, ()) >>= fun x4 =>
   some ((x4.1, x4.2.1, x4.2.2.1, ()))
  else if (x3.1 == (123 : Int)) = true then
   m_73s0e1d k (x3.2.2.1, ()) >>= fun x4 =>
   some ((x4.1, x4.2.1, x4.2.2.1, ()))
  else some ((false, x3.2.2.1, Tag.mk (0 : Int) (0 : Int) (ByteArray.mk #[]) [] [], ()))
noncomputable def m_73s0e1d : Nat → Reader × Unit → Option (Bool × Reader × Tag × Unit)
 | 0, _ => none
 | k + 1, v =>
  some (v.1, Tag.mk (0 : Int) (0 : Int) (ByteArray.mk #[]) [] [], (6 : Int), (0 : Int), ByteArray.mk #[], [], [], ()) >>= fun x1 =>
  m_50s0e1d k (Reader.mk x1.1.s (i64.wrap (x1.1.at0 + (1 : Int))), ()) >>= fun x2 =>
  m_74s5bd0 k (ByteArray.mk #[125], x2.1, ()) >>= fun x3 =>
  if x3.1 = true then
   some ((true, x3.2.1, Tag.mk x1.2.2.1 x1.2.2.2.1 x1.2.2.2.2.1 x1.2.2.2.2.2.1 x1.2.2.2.2.2.2.1, ()))
  else m_50s0e1d k (x3.2.1, ()) >>= fun x4 =>
  n_68s0e1d (x4.1, ()) >>= fun x5 =>
  if (x5.1 != (34 : Int)) = true then
   some ((false, x5.2.1, Tag.mk (0 : Int) (0 : Int) (ByteArray.mk #[]) [] [], ()))
  else m_71s0e1d k (x5.2.1, ()) >>= fun x6 =>
  if (!x6.2.1) = true then
   some ((false, x6.2.2.1, Tag.mk (0 : Int) (0 : Int) (ByteArray.mk #[]) [] [], ()))
  else m_50s0e1d k (x6.2.2.1, ()) >>= fun x7 =>
  m_74s5bd0 k (ByteArray.mk #[58], x7.1, ()) >>= fun x8 =>
  if (!x8.1) = true then
   some ((false, x8.2.1, Tag.mk (0 : Int) (0 : Int) (ByteArray.mk #[]) [] [], ()))
  else m_49s0e1d k (x8.2.1, ()) >>= fun x9 =>
  if (!x9.1) = true then
   some ((false, x9.2.1, Tag.mk (0 : Int) (0 : Int) (ByteArray.mk #[]) [] [], ()))
  else if x1.2.2.2.2.2.1.length + [x6.1].length ≤ (4294967296 : Nat) then
   if x1.2.2.2.2.2.2.1.length + [x9.2.2.1].length ≤ (4294967296 : Nat) then
    m_50s0e1d k (x9.2.1, ()) >>= fun x10 =>
    m_74s5bd0 k (ByteArray.mk #[44], x10.1, ()) >>= fun x11 =>
    if x11.1 = true then
     m_73s0e1dg1 k (x11.2.1, x1.2.1, x1.2.2.1, x1.2.2.2.1, x1.2.2.2.2.1, x1.2.2.2.2.2.1 ++ [x6.1], x1.2.2.2.2.2.2.1 ++ [x9.2.2.1], ()) >>= fun x12 =>
     some x12
    else m_74s5bd0 k (ByteArray.mk #[125], x11.2.1, ()) >>= fun x12 =>
    some ((x12.1, x12.2.1, Tag.mk x1.2.2.1 x1.2.2.2.1 x1.2.2.2.2.1 (x1.2.2.2.2.2.1 ++ [x6.1]) (x1.2.2.2.2.2.2.1 ++ [x9.2.2.1]), ()))
   else none
  else none
noncomputable def m_73s0e1dg1 : Nat → Reader × Tag × Int × Int × ByteArray × (List ByteArray) × (List Tag) × Unit → Option ((Bool × Reader × Tag × Unit))
 | 0, _ => none
 | k + 1, v =>
  m_50s0e1d k (v.1, ()) >>= fun x1 =>
  n_68s0e1d (x1.1, ()) >>= fun x2 =>
  if (x2.1 != (34 : Int)) = true then
   some ((false, x2.2.1, Tag.mk (0 : Int) (0 : Int) (ByteArray.mk #[]) [] [], ()))
  else m_71s0e1d k (x2.2.1, ()) >>= fun x3 =>
  if (!x3.2.1) = true then
   some ((false, x3.2.2.1, Tag.mk (0 : Int) (0 : Int) (ByteArray.mk #[]) [] [], ()))
  else m_50s0e1d k (x3.2.2.1, ()) >>= fun x4 =>
  m_74s5bd0 k (ByteArray.mk #[58], x4.1, ()) >>= fun x5 =>
  if (!x5.1) = true then
   some ((false, x5.2.1, Tag.mk (0 : Int) (0 : Int) (ByteArray.mk #[]) [] [], ()))
  else m_49s0e1d k (x5.2.1, ()) >>= fun x6 =>
  if (!x6.1) = true then
   some ((false, x6.2.1, Tag.mk (0 : Int) (0 : Int) (ByteArray.mk #[]) [] [], ()))
  else if v.2.2.2.2.2.1.length + [x3.1].length ≤ (4294967296 : Nat) then
   if v.2.2.2.2.2.2.1.length + [x6.2.2.1].length ≤ (4294967296 : Nat) then
    m_50s0e1d k (x6.2.1, ()) >>= fun x7 =>
    m_74s5bd0 k (ByteArray.mk #[44], x7.1, ()) >>= fun x8 =>
    if x8.1 = true then
     m_73s0e1dg1 k (x8.2.1, v.2.1, v.2.2.1, v.2.2.2.1, v.2.2.2.2.1, v.2.2.2.2.2.1 ++ [x3.1], v.2.2.2.2.2.2.1 ++ [x6.2.2.1], ())
    else m_74s5bd0 k (ByteArray.mk #[125], x8.2.1, ()) >>= fun x9 =>
    some ((x9.1, x9.2.1, Tag.mk v.2.2.1 v.2.2.2.1 v.2.2.2.2.1 (v.2.2.2.2.2.1 ++ [x3.1]) (v.2.2.2.2.2.2.1 ++ [x6.2.2.1]), ()))
   else none
  else none
noncomputable def m_72s0e1d : Nat → Reader × Unit → Option (Bool × Reader × Tag × Unit)
 | 0, _ => none
 | k + 1, v =>
  some (v.1, Tag.mk (0 : Int) (0 : Int) (ByteArray.mk #[]) [] [], (5 : Int), (0 : Int), ByteArray.mk #[], [], [], ()) >>= fun x1 =>
  m_50s0e1d k (Reader.mk x1.1.s (i64.wrap (x1.1.at0 + (1 : Int))), ()) >>= fun x2 =>
  m_74s5bd0 k (ByteArray.mk #[93], x2.1, ()) >>= fun x3 =>
  if x3.1 = true then
   some ((true, x3.2.1, Tag.mk x1.2.2.1 x1.2.2.2.1 x1.2.2.2.2.1 x1.2.2.2.2.2.1 x1.2.2.2.2.2.2.1, ()))
  else m_49s0e1d k (x3.2.1, ()) >>= fun x4 =>
  if (!x4.1) = true then
   some ((false, x4.2.1, Tag.mk (0 : Int) (0 : Int) (ByteArray.mk #[]) [] [], ()))
  else if x1.2.2.2.2.2.2.1.length + [x4.2.2.1].length ≤ (4294967296 : Nat) then
   m_50s0e1d k (x4.2.1, ()) >>= fun x5 =>
   m_74s5bd0 k (ByteArray.mk #[44], x5.1, ()) >>= fun x6 =>
   if x6.1 = true then
    m_72s0e1dg1 k (x6.2.1, x1.2.1, x1.2.2.1, x1.2.2.2.1, x1.2.2.2.2.1, x1.2.2.2.2.2.1, x1.2.2.2.2.2.2.1 ++ [x4.2.2.1], ()) >>= fun x7 =>
    some x7
   else m_74s5bd0 k (ByteArray.mk #[93], x6.2.1, ()) >>= fun x7 =>
   some ((x7.1, x7.2.1, Tag.mk x1.2.2.1 x1.2.2.2.1 x1.2.2.2.2.1 x1.2.2.2.2.2.1 (x1.2.2.2.2.2.2.1 ++ [x4.2.2.1]), ()))
  else none
noncomputable def m_72s0e1dg1 : Nat → Reader × Tag × Int × Int × ByteArray × (List ByteArray) × (List Tag) × Unit → Option ((Bool × Reader × Tag × Unit))
 | 0, _ => none
 | k + 1, v =>
  m_49s0e1d k (v.1, ()) >>= fun x1 =>
  if (!x1.1) = true then
   some ((false, x1.2.1, Tag.mk (0 : Int) (0 : Int) (ByteArray.mk #[]) [] [], ()))
  else if v.2.2.2.2.2.2.1.length + [x1.2.2.1].length ≤ (4294967296 : Nat) then
   m_50s0e1d k (x1.2.1, ()) >>= fun x2 =>
   m_74s5bd0 k (ByteArray.mk #[44], x2.1, ()) >>= fun x3 =>
   if x3.1 = true then
    m_72s0e1dg1 k (x3.2.1, v.2.1, v.2.2.1, v.2.2.2.1, v.2.2.2.2.1, v.2.2.2.2.2.1, v.2.2.2.2.2.2.1 ++ [x1.2.2.1], ())
   else m_74s5bd0 k (ByteArray.mk #[93], x3.2.1, ()) >>= fun x4 =>
   some ((x4.1, x4.2.1, Tag.mk v.2.2.1 v.2.2.2.1 v.2.2.2.2.1 v.2.2.2.2.2.1 (v.2.2.2.2.2.2.1 ++ [x1.2.2.1]), ()))
  else none
end
theorem m_49s0e1d_st (k : Nat) (h_72s0e1d : ∀ v, Le (m_72s0e1d k v) (n_72s0e1d v)) (h_73s0e1d : ∀ v, Le (m_73s0e1d k v) (n_73s0e1d v)) (v : Reader × Unit) : Le (m_49s0e1d (k + 1) v) (n_49s0e1d v) := by
 rw [m_49s0e1d, n_49s0e1d]
 with_reducible repeat' first | exact Le.refl _ | exact Le.none _ | exact m_69s5bd0_le _ _ | exact m_50s0e1d_le _ _ | exact m_71s0e1d_le _ _ | exact m_70s0e1d_le _ _ | exact h_72s0e1d _ | exact h_73s0e1d _ | apply Le.bind | apply Le.ite | apply Le.both | with_unfolding_all assumption | intro x
theorem m_73s0e1d_st (k : Nat) (h_49s0e1d : ∀ v, Le (m_49s0e1d k v) (n_49s0e1d v)) (h_73s0e1dg1 : ∀ v, Le (m_73s0e1dg1 k v) (n_73s0e1dg1 v)) (v : Reader × Unit) : Le (m_73s0e1d (k + 1) v) (n_73s0e1d v) := by
 rw [m_73s0e1d, n_73s0e1d]
 with_reducible repeat' first | exact Le.refl _ | exact Le.none _ | exact m_50s0e1d_le _ _ | exact m_71s0e1d_le _ _ | exact m_74s5bd0_le _ _ | exact h_49s0e1d _ | exact h_73s0e1dg1 _ | apply Le.bind | apply Le.ite | apply Le.both | with_unfolding_all assumption | intro x
theorem m_73s0e1dg1_st (k : Nat) (h_49s0e1d : ∀ v, Le (m_49s0e1d k v) (n_49s0e1d v)) (h_73s0e1dg1 : ∀ v, Le (m_73s0e1dg1 k v) (n_73s0e1dg1 v)) (v : Reader × Tag × Int × Int × ByteArray × (List ByteArray) × (List Tag) × Unit) : Le (m_73s0e1dg1 (k + 1) v) (n_73s0e1dg1 v) := by
 rw [m_73s0e1dg1, n_73s0e1dg1]
 with_reducible repeat' first | exact Le.refl _ | exact Le.none _ | exact m_50s0e1d_le _ _ | exact m_71s0e1d_le _ _ | exact m_74s5bd0_le _ _ | exact h_49s0e1d _ | exact h_73s0e1dg1 _ | apply Le.bind | apply Le.ite | apply Le.both | with_unfolding_all assumption | intro x
theorem m_72s0e1d_st (k : Nat) (h_49s0e1d : ∀ v, Le (m_49s0e1d k v) (n_49s0e1d v)) (h_72s0e1dg1 : ∀ v, Le (m_72s0e1dg1 k v) (n_72s0e1dg1 v)) (v : Reader × Unit) : Le (m_72s0e1d (k + 1) v) (n_72s0e1d v) := by
 rw [m_72s0e1d, n_72s0e1d]
 with_reducible repeat' first | exact Le.refl _ | exact Le.none _ | exact m_74s5bd0_le _ _ | exact m_50s0e1d_le _ _ | exact h_49s0e1d _ | exact h_72s0e1dg1 _ | apply Le.bind | apply Le.ite | apply Le.both | with_unfolding_all assumption | intro x
theorem m_72s0e1dg1_st (k : Nat) (h_49s0e1d : ∀ v, Le (m_49s0e1d k v) (n_49s0e1d v)) (h_72s0e1dg1 : ∀ v, Le (m_72s0e1dg1 k v) (n_72s0e1dg1 v)) (v : Reader × Tag × Int × Int × ByteArray × (List ByteArray) × (List Tag) × Unit) : Le (m_72s0e1dg1 (k + 1) v) (n_72s0e1dg1 v) := by
 rw [m_72s0e1dg1, n_72s0e1dg1]
 with_reducible repeat' first | exact Le.refl _ | exact Le.none _ | exact m_74s5bd0_le _ _ | exact m_50s0e1d_le _ _ | exact h_49s0e1d _ | exact h_72s0e1dg1 _ | apply Le.bind | apply Le.ite | apply Le.both | with_unfolding_all assumption | intro x
theorem m_49s0e1d_all : ∀ k, (∀ v, Le (m_49s0e1d k v) (n_49s0e1d v)) ∧ (∀ v, Le (m_73s0e1d k v) (n_73s0e1d v)) ∧ (∀ v, Le (m_73s0e1dg1 k v) (n_73s0e1dg1 v)) ∧ (∀ v, Le (m_72s0e1d k v) (n_72s0e1d v)) ∧ (∀ v, Le (m_72s0e1dg1 k v) (n_72s0e1dg1 v))
 | 0 => ⟨fun _ => Le.none _, fun _ => Le.none _, fun _ => Le.none _, fun _ => Le.none _, fun _ => Le.none _⟩
 | k + 1 => by
  have h := m_49s0e1d_all k
  exact ⟨m_49s0e1d_st k (h.2.2.2.1) (h.2.1), m_73s0e1d_st k (h.1) (h.2.2.1), m_73s0e1dg1_st k (h.1) (h.2.2.1), m_72s0e1d_st k (h.1) (h.2.2.2.2), m_72s0e1dg1_st k (h.1) (h.2.2.2.2)⟩
theorem m_49s0e1d_le (k : Nat) (v : Reader × Unit) : Le (m_49s0e1d k v) (n_49s0e1d v) := have h := m_49s0e1d_all k; h.1 v
noncomputable def m_28 (k : Nat) (v : ByteArray × Unit) : Option (Int × Int × Tag × Unit) :=
 if decide ((↑v.1.size : Int) > (65536 : Int)) = true then
  some (((0 : Int), (3 : Int), Tag.mk (0 : Int) (0 : Int) (ByteArray.mk #[]) [] [], ()))
 else m_49s0e1d k (Reader.mk v.1 (0 : Int), ()) >>= fun x1 =>
 (if x1.1 = true then
    m_50s0e1d k (x1.2.1, ()) >>= fun x2 =>
    some ((v.1, x1.1, Tag.mk (0 : Int) (0 : Int) (ByteArray.mk #[]) [] [], x2.1, x1.2.2.1, ()))
   else some ((v.1, x1.1, Tag.mk (0 : Int) (0 : Int) (ByteArray.mk #[]) [] [], x1.2.1, x1.2.2.1, ()))) >>= fun x2 =>
 (if (!x2.2.1) = true then
    some ((x2.1, true, x2.2.2.1, x2.2.2.2.1, x2.2.2.2.2.1, ()))
   else some ((x2.1, decide (x2.2.2.2.1.at0 < (↑x2.1.size : Int)), x2.2.2.1, x2.2.2.2.1, x2.2.2.2.2.1, ()))) >>= fun x3 =>
 if x3.2.1 = true then
  some ((x3.2.2.2.1.at0, (2 : Int), Tag.mk (0 : Int) (0 : Int) (ByteArray.mk #[]) [] [], ()))
 else m_29 k (x3.2.2.2.2.1, ()) >>= fun x4 =>
 if (x4.1 != (0 : Int)) = true then
  some (((0 : Int), x4.1, Tag.mk (0 : Int) (0 : Int) (ByteArray.mk #[]) [] [], ()))
 else some (((↑x3.1.size : Int), (0 : Int), x3.2.2.2.2.1, ()))
theorem m_28_le (k : Nat) (v : ByteArray × Unit) : Le (m_28 k v) (n_28 v) := by
 unfold m_28 n_28
 with_reducible repeat' first | exact Le.refl _ | exact Le.none _ | exact m_49s0e1d_le _ _ | exact m_50s0e1d_le _ _ | exact m_29_le _ _ | apply Le.bind | apply Le.ite | apply Le.both | with_unfolding_all assumption | intro x
noncomputable def m_9 (k : Nat) (v : Unit) : Option (Bool × Unit) :=
 m_28 k (ByteArray.mk #[123, 34, 97, 34, 58, 91, 49, 44, 50, 93, 125], ()) >>= fun x1 =>
 m_13 k (x1.2.2.1, [ByteArray.mk #[97], ByteArray.mk #[49]], ()) >>= fun x2 =>
 m_28 k (ByteArray.mk #[91, 49, 44, 93], ()) >>= fun x3 =>
 (if (x1.2.1 == (0 : Int)) = true then
    if (x1.1 == (11 : Int)) = true then
     if (x2.2.1 == (0 : Int)) = true then
      if x2.1 = true then
       if (x2.2.2.1.kind == (3 : Int)) = true then
        if (x2.2.2.1.n == (2 : Int)) = true then
         if (x3.2.1 == (2 : Int)) = true then
          some ((x3.1 == (3 : Int), ()))
         else some ((false, ()))
        else some ((false, ()))
       else some ((false, ()))
      else some ((false, ()))
     else some ((false, ()))
    else some ((false, ()))
   else some ((false, ()))) >>= fun x4 =>
 some ((x4.1, ()))
theorem m_9_le (k : Nat) (v : Unit) : Le (m_9 k v) (n_9 v) := by
 unfold m_9 n_9
 with_reducible repeat' first | exact Le.refl _ | exact Le.none _ | exact m_13_le _ _ | exact m_28_le _ _ | apply Le.bind | apply Le.ite | apply Le.both | with_unfolding_all assumption | intro x
end Go.Proofs.YtpndmanbfleadaaGreatDoor
end
section
namespace Go.Proofs.YtpndmanbfleadaaGreatDoor
set_option maxRecDepth 100000
theorem known_true : n_9 () = some (true, ()) := m_9_le 60 () _ (by kernel_rfl)
end Go.Proofs.YtpndmanbfleadaaGreatDoor
end
section
namespace Go.Proofs.YtpndmanbfleadaaGreatDoor
open Go.Awp Go.Tx
set_option maxRecDepth 20000
abbrev small : Nat := 4294967296
abbrev Tag.nil : Tag := Tag.mk 0 0 (ByteArray.mk #[]) [] []
theorem nil_fit (B : Nat) : Tag.nil.Fit B := .mk (Nat.zero_le _) (Nat.zero_le _) (fun s hs => by cases hs) (Nat.zero_le _) fun p hp => by cases hp
theorem small_big {t : Tag} (h : t.Fit small) : t.Fit big := Tag.Fit.mono (by decide) t h
theorem eta (t : Tag) : Tag.mk t.kind t.n t.text t.names t.parts = t := by cases t; rfl
theorem cpl (t : Tag) (ht : t.Fit small) (hp : ∀ p ∈ t.parts, n_31s06c9 (p, ()) = some (p.kind, p.n, p.text, p.names, p.parts, ())) (a b : Int) (c : ByteArray) (d : List Tag) (y : Tag) (e : List ByteArray) : ∀ (m k : Nat), t.parts.length - k = m →
  n_31s06c9l4 (t.parts, (t.parts.length : Int), (k : Int), a, b, c, d, y, t.parts.take k, e, ()) = some (a, b, c, d, y, t.parts, e, ()) := by
 intro m
 induction m with
 | zero =>
  intro k hk
  have hlt : ¬ k < t.parts.length := by omega
  rw [n_31s06c9l4, List.take_of_length_le (by omega)]
  simp only [sW, hlt]
 | succ m ih =>
  intro k hk
  have hlt : k < t.parts.length := by omega
  obtain ⟨p, hp1, hm, hd, g1, g2⟩ := at_lt hlt
  have h1 := ht.parts
  have e1 : (t.parts.take k).length + [p].length ≤ 4294967296 := by
   simp only [List.length_take, List.length_cons, List.length_nil]
   have : small = 4294967296 := rfl
   omega
  have e2 : t.parts.take k ++ [p] = t.parts.take (k + 1) := by rw [List.take_add_one, hp1]; rfl
  rw [n_31s06c9l4]
  simp only [sW, g1, g2, hlt, hp1, hp p hm, eta, e1, e2, wrap_succ hlt (small_big ht).parts]
  exact ih (k + 1) (by omega)
theorem cp : ∀ t : Tag, t.Fit small → n_31s06c9 (t, ()) = some (t.kind, t.n, t.text, t.names, t.parts, ()) := by
 refine Tag.ind fun t ih ht => ?_
 have h := cpl t ht (fun p hp => ih p hp (ht.part hp)) t.kind t.n t.text t.parts Tag.nil t.names _ 0 rfl
 simp only [Int.natCast_zero, Int.ofNat_eq_natCast, List.drop_zero, List.take_zero] at h
 rw [n_31s06c9]
 have e : n_53s5172 (t.names, ()) = some (t.names, ()) := by
  unfold n_53s5172
  rw [if_pos ht.names]
 simp only [e, sW]
 rw [h]
 rfl
theorem f77l (t : Tag) (ht : t.Fit big) (s : ByteArray) : ∀ (m k : Nat), t.names.length - k = m → ∃ o : Option Nat,
  n_58l2 (t.names, s, (t.names.length : Int), (k : Int), ()) = some (match o with | some i => .inl ((i : Int), ()) | none => .inr ()) ∧ n_56l7 (s, (k : Int), t, ()) = some (match o with | some i => .inl ((i : Int), ()) | none => .inr ()) ∧ (∀ i, o = some i → i < t.names.length) ∧ (o = none → s ∉ t.names.drop k) := by
 intro m
 induction m with
 | zero =>
  intro k hk
  have hlt : ¬ k < t.names.length := by omega
  rw [n_58l2, n_56l7]
  simp only [sW, hlt]
  exact ⟨.none, rfl, rfl, ⟨fun i h => (by cases h), fun _ => (by rw [(at_end hlt).1]; simp)⟩⟩
 | succ m ih =>
  intro k hk
  have hlt : k < t.names.length := by omega
  obtain ⟨p, hp1, hm, hd, g1, g2⟩ := at_lt hlt
  rw [n_58l2, n_56l7]
  simp only [sW, g1, g2, hlt, hp1, wrap_succ hlt ht.names]
  by_cases e : s = p
  ·subst e
   simp only [sW]
   exact ⟨some k, rfl, rfl, ⟨fun i h => (by cases h; exact hlt), fun h => (by cases h)⟩⟩
  ·have e1 : ¬ (s.toList = p.toList) := fun h => e (tl_eq.1 h)
   have e2 : ¬ (p.toList = s.toList) := fun h => e (tl_eq.1 h).symm
   simp only [e1, e2, sW]
   obtain ⟨o, o1, o2, o3, o4⟩ := ih (k + 1) (by omega)
   refine ⟨o, o1, o2, o3, fun h => ?_⟩
   rw [hd]
   simpa [e] using o4 h
theorem atoi_bnd {l : List UInt8} {n : Int} (h : Lib.atoiAll l = .ok n) : -9223372036854775808 ≤ n ∧ n ≤ 9223372036854775807 := by
 unfold Lib.atoiAll at h
 split at h
 ·cases h
 ·simp only [] at h
  split at h
  ·cases h
  ·cases h
  ·rename_i u hu
   split at h
   ·cases h
   ·split at h
    ·cases h
    ·cases h
     split <;> omega
theorem sat_cases (l : List UInt8) : Lib.atoiSat l = -9223372036854775808 ∨ Lib.atoiSat l = 9223372036854775807 := by
 unfold Lib.atoiSat
 split
 ·exact .inl rfl
 ·exact .inr rfl
theorem itoa_zero : Lib.itoa 0 = [48] := by
 unfold Lib.itoa
 rw [if_neg (by decide)]
 unfold Lib.decDigits
 rfl
theorem zero_ok : Lib.atoiAll [48] = .ok 0 := by kernel_rfl
theorem last_l (ns : List ByteArray) (s : ByteArray) (hs : s ∉ ns) (hl : ns.length + 1 ≤ big) : ∀ (m k : Nat), ns.length - k = m → k ≤ ns.length →
  n_58l2 (ns ++ [s], s, ((ns ++ [s]).length : Int), (k : Int), ()) = some (.inl ((ns.length : Int), ())) := by
 have hbig : big = 9223372036854775807 := rfl
 have hlen : (ns ++ [s]).length = ns.length + 1 := by simp
 intro m
 induction m with
 | zero =>
  intro k hk hle
  have hkl : k = ns.length := by omega
  subst hkl
  have hlt : ns.length < (ns ++ [s]).length := by omega
  obtain ⟨p, hp1, hm, hd, g1, g2⟩ := at_lt hlt
  have hp : p = s := by
   rw [List.getElem?_append_right (Nat.le_refl _)] at hp1
   simpa using hp1.symm
  subst hp
  rw [n_58l2]
  simp only [sW, g1, g2, hlt, hp1]
 | succ m ih =>
  intro k hk hle
  have hlt : k < (ns ++ [s]).length := by omega
  have hlt2 : k < ns.length := by omega
  obtain ⟨p, hp1, hm, hd, g1, g2⟩ := at_lt hlt
  obtain ⟨p2, hp2, hm2, _, _, _⟩ := at_lt hlt2
  have hpp : p = p2 := by
   rw [List.getElem?_append_left hlt2, hp2] at hp1
   exact (Option.some.inj hp1).symm
  subst hpp
  have e : ¬ s = p := fun e => hs (e ▸ hm2)
  have e1 : ¬ (s.toList = p.toList) := fun h => e (tl_eq.1 h)
  rw [n_58l2]
  simp only [sW, g1, g2, hlt, hp1, wrap_succ hlt (show (ns ++ [s]).length ≤ 9223372036854775807 by omega), e1]
  exact ih (k + 1) (by omega) (by omega)
theorem last (ns : List ByteArray) (s : ByteArray) (hs : s ∉ ns) (hl : ns.length + 1 ≤ big) : n_58 (ns ++ [s], s, ()) = some ((ns.length : Int), ()) := by
 have := last_l ns s hs hl _ 0 rfl (Nat.zero_le _)
 simp only [Int.natCast_zero, Int.ofNat_eq_natCast, List.drop_zero] at this
 unfold n_58
 simp only [this, sW]
theorem idx (s : ByteArray) (hs : s.size ≤ 5000) : ∃ (n : Int) (ok : Bool), n_57 (s, ()) = some (n, ok, ()) ∧ (ok = true → 0 ≤ n) ∧
  ∀ t : Tag, t.kind = 5 → t.parts.length < 9223372036854775807 → n_39 (t, s, ()) = some (if ok = true ∧ n ≤ (t.parts.length : Int) then n else -1, ()) := by
 have hsz : s.size ≤ 1000000000000 := by omega
 unfold n_57 n_39 n_59
 simp only [if_pos hsz]
 cases hq : Lib.atoiAll s.data.toList with
 | ok n =>
  obtain ⟨b1, b2⟩ := atoi_bnd hq
  have e79 : n_60 (n, ()) = some (⟨(Lib.itoa n).toArray⟩, ()) := by
   unfold n_60
   rw [if_pos ⟨b1, b2⟩]
  by_cases h0 : n < 0
  ·exact ⟨0, false, by simp [h0], by simp, fun t k5 _ => by simp [k5, h0]⟩
  ·by_cases e : Lib.itoa n = s.toList
   ·refine ⟨n, true, by simp [h0, e79, e], fun _ => by omega, fun t k5 _ => ?_⟩
    by_cases hl : n > (t.parts.length : Int)
    ·have : ¬ n ≤ (t.parts.length : Int) := by omega
     simp [k5, h0, hl, this]
    ·have : n ≤ (t.parts.length : Int) := by omega
     simp [k5, h0, hl, this, e79, e]
   ·refine ⟨0, false, by simp [h0, e79, e], by simp, fun t k5 _ => ?_⟩
    by_cases hl : n > (t.parts.length : Int)
    ·simp [k5, h0, hl]
    ·simp [k5, h0, hl, e79, e]
 | range =>
  rcases sat_cases s.data.toList with h | h
  ·exact ⟨0, false, by simp [h], by simp, fun t k5 _ => by simp [k5]⟩
  ·have e79 : n_60 (9223372036854775807, ()) = some (⟨(Lib.itoa 9223372036854775807).toArray⟩, ()) := by
    unfold n_60
    rw [if_pos ⟨by decide, by decide⟩]
   by_cases e : Lib.itoa 9223372036854775807 = s.toList
   ·refine ⟨9223372036854775807, true, by simp [h, e79, e], by simp, fun t k5 hl => ?_⟩
    have h3 : ¬ (9223372036854775807 : Int) ≤ (t.parts.length : Int) := by omega
    simp [k5, h3]
   ·exact ⟨0, false, by simp [h, e79, e], by simp, fun t k5 _ => by simp [k5]⟩
 | _ =>
  have e79 : n_60 (0, ()) = some (⟨(Lib.itoa 0).toArray⟩, ()) := by
   unfold n_60
   rw [if_pos ⟨by decide, by decide⟩]
  have e : ¬ Lib.itoa 0 = s.toList := by
   intro h
   rw [itoa_zero, ByteArray.toList_eq] at h
   rw [← h, zero_ok] at hq
   cases hq
  exact ⟨0, false, by simp [e79, e], by simp, fun t k5 _ => by simp [k5]⟩
theorem step (t : Tag) (ht : t.Fit big) (hl : t.parts.length < 9223372036854775807) (hr : t.Right) (s : ByteArray) (hs : s.size ≤ 5000) : ∃ c d : Int, n_39 (t, s, ()) = some (c, ()) ∧ n_56 (t, s, ()) = some (d, ()) ∧
  ((0 ≤ d ∧ c = d ∧ d < (t.parts.length : Int)) ∨ (d < 0 ∧ ((t.kind = 6 ∧ c < 0 ∧ s ∉ t.names) ∨ (t.kind = 5 ∧ ∃ n ok, n_57 (s, ()) = some (n, ok, ()) ∧ ((c < 0 ∧ (ok = false ∨ n ≠ (t.parts.length : Int))) ∨ (ok = true ∧ n = (t.parts.length : Int) ∧ c = n))) ∨ (t.kind ≠ 5 ∧ t.kind ≠ 6 ∧ c < 0)))) := by
 obtain ⟨o, o1, o2, o3, o4⟩ := f77l t ht s _ 0 rfl
 simp only [Int.natCast_zero, Int.ofNat_eq_natCast, List.drop_zero] at o1 o2 o4
 have hsz : s.size ≤ 1000000000000 := by omega
 by_cases k6 : t.kind = 6
 ·have hl := hr.len k6
  unfold n_39 n_56 n_58
  cases o with
  | none => exact ⟨-1, -1, by simp [k6, o1], by simp [k6, o2], .inr ⟨by omega, .inl ⟨k6, by omega, o4 rfl⟩⟩⟩
  | some i => exact ⟨i, i, by simp [k6, o1], by simp [k6, o2], .inl ⟨by omega, rfl, by have := o3 i rfl; omega⟩⟩
 by_cases k5 : t.kind = 5
 ·obtain ⟨n, ok, i1, i2, i3⟩ := idx s hs
  rw [i3 t k5 hl]
  unfold n_56
  simp only [k5, i1]
  cases ok with
  | false => exact ⟨-1, -1, by simp, by simp, .inr ⟨by omega, .inr (.inl ⟨trivial, n, false, rfl, .inl ⟨by omega, .inl rfl⟩⟩)⟩⟩
  | true =>
   have h0 := i2 rfl
   by_cases h1 : n < (t.parts.length : Int)
   ·exact ⟨n, n, by simp; omega, by simp [h1], .inl ⟨h0, rfl, h1⟩⟩
   ·by_cases h2 : n = (t.parts.length : Int)
    ·exact ⟨n, -1, by simp; omega, by simp [h1], .inr ⟨by omega, .inr (.inl ⟨trivial, n, true, rfl, .inr ⟨rfl, h2, rfl⟩⟩)⟩⟩
    ·exact ⟨-1, -1, by simp; omega, by simp [h1], .inr ⟨by omega, .inr (.inl ⟨trivial, n, true, rfl, .inl ⟨by omega, .inr h2⟩⟩)⟩⟩
 ·have hn := hr.none k6
  have e78 : ∃ x, n_59 (s, ()) = some x := by
   unfold n_59
   simp only [if_pos hsz]
   split <;> exact ⟨_, rfl⟩
  obtain ⟨x, hx⟩ := e78
  have o2' : n_56l7 (s, 0, t, ()) = some (.inr ()) := by
   cases o with
   | none => exact o2
   | some i => have := o3 i rfl; rw [hn] at this; simp at this
  unfold n_39 n_56
  exact ⟨-1, -1, by simp [k5, k6, hx], by simp [k5, k6, o2'], .inr ⟨by omega, .inr (.inr ⟨k5, k6, by omega⟩)⟩⟩
theorem step_congr {t t' : Tag} (s : ByteArray) (hk : t'.kind = t.kind) (hn : t'.names = t.names) (hl : t'.parts.length = t.parts.length) : n_39 (t', s, ()) = n_39 (t, s, ()) := by
 unfold n_39
 simp only [hk, hn, hl]
theorem f14l (path : List ByteArray) (hp : path.length ≤ big) : ∀ (m k : Nat), path.length - k = m → ∃ o : Bool,
  n_8l2 (path, (k : Int), ()) = some (if o = true then .inl (true, ()) else .inr (path, ())) ∧ (o = false → ∀ s ∈ path.drop k, s.size ≤ 5000) := by
 intro m
 induction m with
 | zero =>
  intro k hk
  have hlt : ¬ k < path.length := by omega
  rw [n_8l2]
  simp only [sW, hlt]
  exact ⟨false, by simp, fun _ s hs => by rw [(at_end hlt).1] at hs; cases hs⟩
 | succ m ih =>
  intro k hk
  have hlt : k < path.length := by omega
  obtain ⟨p, hp1, hm, hd, g1, g2⟩ := at_lt hlt
  rw [n_8l2]
  simp only [sW, g1, g2, hlt, hp1, wrap_succ hlt hp]
  by_cases e : (p.size : Int) > 5000
  ·exact ⟨true, by simp [e], fun h => by cases h⟩
  ·obtain ⟨o, o1, o2⟩ := ih (k + 1) (by omega)
   simp only [e, sW]
   refine ⟨o, o1, fun ho s hs => ?_⟩
   rw [hd] at hs
   rcases List.mem_cons.1 hs with rfl | hs
   ·omega
   ·exact o2 ho s hs
theorem f14 (path : List ByteArray) (hp : path.length ≤ big) : ∃ b, n_8 (path, ()) = some (b, ()) ∧ (b = false → ∀ s ∈ path, s.size ≤ 5000) := by
 obtain ⟨o, o1, o2⟩ := f14l path hp _ 0 rfl
 simp only [Int.natCast_zero, Int.ofNat_eq_natCast, List.drop_zero] at o1 o2
 unfold n_8
 cases o with
 | true => simp only [o1, sW]; exact ⟨_, rfl, fun h => by cases h⟩
 | false => simp only [o1, sW]; exact ⟨_, rfl, fun _ => o2 rfl⟩
end Go.Proofs.YtpndmanbfleadaaGreatDoor
end
section
namespace Go.Proofs.YtpndmanbfleadaaGreatDoor
open Go.Awp Go.Tx
set_option maxRecDepth 20000
def At : Tag → List ByteArray → Tag → Prop
 | x, [], u => x = u
 | x, s :: r, u => ∃ (k : Nat) (p : Tag), n_39 (x, s, ()) = some ((k : Int), ()) ∧ x.parts[k]? = some p ∧ At p r u
theorem allS_some {α : Type} : ∀ l : List α, allS (l.map some) = some l
 | [] => rfl
 | x :: r => by simp [allS, allS_some r]
theorem allS_put {α : Type} (xs : List α) (k : Nat) (y : α) : allS (((xs.map some).set k none).set k (some y)) = some (xs.set k y) := by
 rw [List.set_set, ← List.map_set, allS_some]
theorem out_get {α : Type} (xs : List α) (k : Nat) (h : k < xs.length) : ((xs.map some).set k none)[k]? = some none := by
 rw [List.getElem?_set]
 simp [h]
theorem put_with {B : Nat} (hB : B < small) (u : Tag) (hu : u.Fit B) : ∀ (path : List ByteArray) (t : Tag), t.Fit B → t.Right → (∀ s ∈ path, s.size ≤ 5000 ∧ s.size ≤ B) → ∃ (ok : Bool) (x y : Tag),
  n_30se487 (t.kind, t.n, t.text, path, u.kind, u.n, u.text, t.names, t.parts, u.names, u.parts, ()) = some (ok, x.kind, x.n, x.text, x.names, x.parts, ()) ∧ n_34 (t, path, u, ()) = some (ok, y, ()) ∧ (ok = true → x = y ∧ x.Fit (B + 1) ∧ At x path u)
 | [], t, ht, hr, hs => by
  rw [n_30se487, n_34]
  exact ⟨true, u, u, by simp, by simp, fun _ => ⟨rfl, Tag.Fit.mono (Nat.le_succ _) u hu, rfl⟩⟩
 | s :: r, t, ht, hr, hs => by
  have hsm : small = 4294967296 := rfl
  have hbig : big = 9223372036854775807 := rfl
  have hnl := ht.names
  have hpl := ht.parts
  have htb : t.Fit big := Tag.Fit.mono (by omega) t ht
  obtain ⟨c, d, hc, hd, h⟩ := step t htb (by omega) hr s (hs s List.mem_cons_self).1
  have hn1 : t.names.length ≤ 4294967296 := by omega
  have hp1 : t.parts.length ≤ 4294967296 := by omega
  have hz : ¬ (((s :: r).length : Int) = 0) := by simp only [List.length_cons]; omega
  have h1 : (1 : Int) ≤ ((s :: r).length : Int) := by simp only [List.length_cons]; omega
  have hdr : List.drop (Int.toNat (1 : Int)) (List.take ((s :: r).length : Int).toNat (s :: r)) = r := by
   have : ((s :: r).length : Int).toNat = (s :: r).length := Int.toNat_natCast _
   rw [this, List.take_length]; rfl
  have hdr2 : List.drop (Int.toNat (1 : Int)) (List.take (s :: r).length (s :: r)) = r := by rw [List.take_length]; rfl
  have h01 : (0 : Int) ≤ 1 := by decide
  have h0 : (s :: r)[Int.toNat (0 : Int)]? = some s := rfl
  rcases h with ⟨hd0, rfl, hdl⟩ | ⟨hd0, h⟩
  ·obtain ⟨k, rfl⟩ : ∃ k : Nat, c = k := ⟨c.toNat, (Int.toNat_of_nonneg hd0).symm⟩
   have hk : k < t.parts.length := by omega
   obtain ⟨q, hq, hqm, _⟩ := at_lt hk
   obtain ⟨ok, x, y, i1, i2, i3⟩ := put_with hB u hu r q (ht.part hqm) (hr.part hqm) fun s' h' => hs s' (List.mem_cons_of_mem _ h')
   have ho := out_get t.parts k hk
   have hol : ((t.parts.map some).set k none).length = t.parts.length := by simp
   refine ⟨ok, Tag.mk t.kind t.n t.text t.names (t.parts.set k x), Tag.mk t.kind t.n t.text t.names (t.parts.set k y), ?_, ?_, fun hok => ?_⟩
   ·rw [n_30se487]
    simp only [beq_iff_eq, hz, h0, h1, hdr, hdr2, h01, eta, hc, hq, i1, ho, hol, allS_put, sW, hd0, hdl, hk, ge_iff_le, decide_true, and_self, Int.le_refl, and_true, true_and]
   ·rw [n_34]
    simp only [beq_iff_eq, hz, h0, h1, hdr, hdr2, h01, eta, hd, hq, i2, sW, hd0, hdl, hk, ge_iff_le, decide_true, and_self, Int.le_refl, List.nil_append, Nat.zero_add, hn1, hp1, and_true, true_and]
   ·obtain ⟨rfl, j1, j2⟩ := i3 hok
    refine ⟨rfl, .mk (Nat.le_trans ht.text (Nat.le_succ _)) (Nat.le_trans hnl (Nat.le_succ _)) (fun s' h' => Nat.le_trans (ht.name h') (Nat.le_succ _)) (by simp; omega) fun p hp => ?_, k, x, ?_, by simp [hk], j2⟩
    ·rcases List.mem_or_eq_of_mem_set hp with h | rfl
     ·exact Tag.Fit.mono (Nat.le_succ _) p (ht.part h)
     ·exact j1
    ·exact (step_congr (t := t) (t' := Tag.mk t.kind t.n t.text t.names (t.parts.set k x)) s rfl rfl (by simp)).trans hc
  ·have hd1 : ¬ (0 ≤ d) := by omega
   cases r with
   | cons s2 r2 =>
    have hgt : ((s :: s2 :: r2).length : Int) > 1 := by simp only [List.length_cons]; omega
    have hz2 : ¬ ((r2.length : Int) + 1 + 1 = 0) := by omega
    have hg2 : (1 : Int) < (r2.length : Int) + 1 + 1 := by omega
    have hf : ¬ (0 ≤ c ∧ c < (t.parts.length : Int)) := by
     rcases h with ⟨_, h, _⟩ | ⟨_, n, ok, _, ⟨h, _⟩ | ⟨_, h, h2⟩⟩ | ⟨_, _, h⟩ <;> omega
    refine ⟨false, t, Tag.nil, ?_, ?_, fun h => by cases h⟩
    ·rw [n_30se487]
     by_cases hc0 : 0 ≤ c
     ·have hcl : ¬ c < (t.parts.length : Int) := fun h => hf ⟨hc0, h⟩
      simp [hz2, hg2, eta, hc, hc0, hcl]
     ·simp [hz2, hg2, eta, hc, hc0]
    ·rw [n_34]
     simp [hz2, hg2, eta, hd, hd1, hn1, hp1]
   | nil =>
    have hng : ¬ (([s] : List ByteArray).length : Int) > 1 := by simp
    have hn2 : t.names.length + 1 ≤ 4294967296 := by omega
    have hn3 : t.names.length ≤ 4294967295 := by omega
    have hp3 : t.parts.length ≤ 4294967295 := by omega
    have hp2 : t.parts.length + 1 ≤ 4294967296 := by omega
    rcases h with ⟨k6, hc0, hnin⟩ | ⟨k5, n, ok, hx, h⟩ | ⟨k5, k6, hc0⟩
    ·have hc1 : ¬ 0 ≤ c := by omega
     refine ⟨true, Tag.mk t.kind t.n t.text (t.names ++ [s]) (t.parts ++ [u]), Tag.mk t.kind t.n t.text (t.names ++ [s]) (t.parts ++ [u]), ?_, ?_, fun _ => ⟨rfl, .mk (Nat.le_trans ht.text (Nat.le_succ _)) (by simp; omega) (fun s' h' => ?_) (by simp; omega) fun p hp => ?_, t.names.length, u, ?_, ?_, rfl⟩⟩
     ·rw [n_30se487]
      simp only [eta, List.nil_append]
      simp [hc, hc1, hc0, k6, hn3, hp3]
      exact eta u
     ·rw [n_34]
      simp only [eta, List.nil_append]
      simp [hd, hd1, hn1, hp1, k6, hn3, hp3]
     ·rcases List.mem_append.1 h' with h' | h'
      ·exact Nat.le_trans (ht.name h') (Nat.le_succ _)
      ·rw [List.mem_singleton.1 h']
       exact Nat.le_trans (hs s List.mem_cons_self).2 (Nat.le_succ _)
     ·rcases List.mem_append.1 hp with h' | h'
      ·exact Tag.Fit.mono (Nat.le_succ _) p (ht.part h')
      ·rw [List.mem_singleton.1 h']
       exact Tag.Fit.mono (Nat.le_succ _) u hu
     ·unfold n_39
      simp [k6, last t.names s hnin (by omega)]
     ·rw [hr.len k6]
      simp
    ·rcases h with ⟨hc0, h⟩ | ⟨rfl, hn, rfl⟩
     ·have hc1 : ¬ 0 ≤ c := by omega
      refine ⟨false, t, Tag.nil, ?_, ?_, fun h => by cases h⟩
      ·rw [n_30se487]
       simp only [eta, List.nil_append]
       simp [hc, hc1, hc0, k5]
      ·rw [n_34]
       simp only [eta, List.nil_append]
       cases ok with
       | false => simp [hd, hd1, hn1, hp1, k5, hx]
       | true =>
        have hne : n ≠ (t.parts.length : Int) := by
         rcases h with h | h
         ·cases h
         ·exact h
        simp [hd, hd1, hn1, hp1, k5, hx, hne]
     ·subst hn
      have hc1 : (0 : Int) ≤ (t.parts.length : Int) := by omega
      have hc2 : ¬ (t.parts.length : Int) < 0 := by omega
      obtain ⟨n', ok', q1, q2, q3⟩ := idx s (hs s List.mem_cons_self).1
      have hqq : n' = (t.parts.length : Int) ∧ ok' = true := by
       rw [hx] at q1
       simp only [Option.some.injEq, Prod.mk.injEq, and_true] at q1
       exact ⟨q1.1.symm, q1.2.symm⟩
      obtain ⟨rfl, rfl⟩ := hqq
      refine ⟨true, Tag.mk t.kind t.n t.text t.names (t.parts ++ [u]), Tag.mk t.kind t.n t.text t.names (t.parts ++ [u]), ?_, ?_, fun _ => ⟨rfl, .mk (Nat.le_trans ht.text (Nat.le_succ _)) (Nat.le_trans hnl (Nat.le_succ _)) (fun s' h' => Nat.le_trans (ht.name h') (Nat.le_succ _)) (by simp; omega) fun p hp => ?_, t.parts.length, u, ?_, ?_, rfl⟩⟩
      ·rw [n_30se487]
       simp only [eta, List.nil_append]
       simp [hc, k5, hp3, hc2]
       exact eta u
      ·rw [n_34]
       simp only [eta, List.nil_append]
       simp [hd, hd1, hn1, hp1, k5, hx, hp3]
      ·rcases List.mem_append.1 hp with h' | h'
       ·exact Tag.Fit.mono (Nat.le_succ _) p (ht.part h')
       ·rw [List.mem_singleton.1 h']
        exact Tag.Fit.mono (Nat.le_succ _) u hu
      ·rw [q3 (Tag.mk t.kind t.n t.text t.names (t.parts ++ [u])) k5 (by simp; omega)]
       simp
       omega
      ·simp
    ·have hc1 : ¬ 0 ≤ c := by omega
     refine ⟨false, t, Tag.nil, ?_, ?_, fun h => by cases h⟩
     ·rw [n_30se487]
      simp only [eta, List.nil_append]
      simp [hc, hc1, hc0, k5, k6]
     ·rw [n_34]
      simp only [eta, List.nil_append]
      simp [hd, hd1, hn1, hp1, k5, k6]
theorem find_l (path : List ByteArray) (hp : path.length ≤ big) (u z : Tag) : ∀ (m k : Nat) (x : Tag), path.length - k = m → At x (path.drop k) u →
  n_36l2 (path, (path.length : Int), (k : Int), x, z, ()) = some (.inr (u, z, ())) := by
 intro m
 induction m with
 | zero =>
  intro k x hk hx
  have hlt : ¬ k < path.length := by omega
  rw [(at_end hlt).1] at hx
  have hx : x = u := hx
  subst hx
  rw [n_36l2]
  simp only [sW, hlt]
 | succ m ih =>
  intro k x hk hx
  have hlt : k < path.length := by omega
  obtain ⟨p, hp1, hm, hd, g1, g2⟩ := at_lt hlt
  rw [hd] at hx
  obtain ⟨i, q, h1, h2, h3⟩ := hx
  have hi : i < x.parts.length := (List.getElem?_eq_some_iff.1 h2).1
  have hi0 : ¬ (i : Int) < 0 := by omega
  have hi1 : ¬ (i : Int) ≥ (x.parts.length : Int) := by omega
  rw [n_36l2]
  simp only [sW, g1, g2, hlt, hp1, h1, hi0, hi1, h2, decide_false, wrap_succ hlt hp]
  exact ih (k + 1) q (by omega) h3
theorem same26 (a : List ByteArray) (ha : a.length ≤ big) : n_26 (a, a, ()) = some (true, ()) := by
 have go : ∀ (m k : Nat), a.length - k = m → n_26l4 (a, a, (k : Int), ()) = some (.inr ()) := by
  intro m
  induction m with
  | zero =>
   intro k hk
   have hlt : ¬ k < a.length := by omega
   rw [n_26l4]
   simp only [sW, hlt]
  | succ m ih =>
   intro k hk
   have hlt : k < a.length := by omega
   obtain ⟨p, hp1, hm, hd, g1, g2⟩ := at_lt hlt
   rw [n_26l4]
   simp [hlt, hp1, wrap_succ hlt ha]
   exact_mod_cast ih (k + 1) (by omega)
 have := go _ 0 rfl
 simp only [Int.natCast_zero, Int.ofNat_eq_natCast, List.drop_zero] at this
 unfold n_26
 simp [this]
theorem same : ∀ a : Tag, a.Fit big → n_12 (a, a, ()) = some (true, ()) := by
 refine Tag.ind fun a ih ha => ?_
 have go : ∀ (m k : Nat), a.parts.length - k = m → n_12l4 ((k : Int), a, a, ()) = some (.inr ()) := by
  intro m
  induction m with
  | zero =>
   intro k hk
   have hlt : ¬ k < a.parts.length := by omega
   rw [n_12l4]
   simp only [sW, hlt]
  | succ m ih2 =>
   intro k hk
   have hlt : k < a.parts.length := by omega
   obtain ⟨p, hp1, hm, hd, g1, g2⟩ := at_lt hlt
   rw [n_12l4]
   simp only [sW, g1, g2, hlt, hp1, ih p hm (ha.part hm), wrap_succ hlt ha.parts, Bool.not_true]
   exact ih2 (k + 1) (by omega)
 have := go _ 0 rfl
 simp only [Int.natCast_zero, Int.ofNat_eq_natCast, List.drop_zero] at this
 rw [n_12]
 simp [same26 a.names ha.names, this]
theorem set_eq {B : Nat} (hB : B < small) (t u : Tag) (path : List ByteArray) (ht : t.Fit B) (hu : u.Fit B) (hs : ∀ s ∈ path, s.size ≤ 5000 ∧ s.size ≤ B) :
  ∃ (e : Int) (x : Tag), n_10 (t, path, u, ()) = some (e, x, ()) ∧ n_11 (t, path, u, ()) = some (e, x, ()) ∧ x.Fit big ∧ (∃ g, n_29 (x, ()) = some (g, ()) ∧ (e = 0 → g = 0 ∧ At x path u)) ∧ (e ≠ 0 → x = Tag.nil) := by
 have hsm : small = 4294967296 := rfl
 have hbig : big = 9223372036854775807 := rfl
 have htb : t.Fit big := Tag.Fit.mono (by omega) t ht
 have hub : u.Fit big := Tag.Fit.mono (by omega) u hu
 have hts : t.Fit small := Tag.Fit.mono (by omega) t ht
 have hus : u.Fit small := Tag.Fit.mono (by omega) u hu
 have w1 : IntKind.i64.wrap (0 + 1) = 1 := by decide
 have w2 : IntKind.i64.wrap (1 + 1) = 2 := by decide
 have d02 : (0 : Int) < 2 := by decide
 have d12 : (1 : Int) < 2 := by decide
 have hnb : Tag.nil.Fit big := nil_fit big
 obtain ⟨g0, hg0, _, _⟩ := f29 Tag.nil hnb
 obtain ⟨e1, a1, a2, a3⟩ := f29 t htb
 obtain ⟨e2, b1, b2, b3⟩ := f29 u hub
 have k0 : ([t, u] : List Tag)[Int.toNat (0 : Int)]? = some t := rfl
 have k1 : ([t, u] : List Tag)[Int.toNat (1 : Int)]? = some u := rfl
 have l1 : n_10l2 (path, [t, u], 2, 1, t, u, Tag.nil, ()) = if e2 = 0 then some (.inr (path, t, u, Tag.nil, ())) else some (.inl (e2, Tag.nil, ())) := by
  rw [n_10l2]
  by_cases h : e2 = 0
  ·subst h
   rw [if_pos rfl]
   simp only [d12, k1, b1, w2, sW, decide_true, bne_iff_ne, ne_eq, not_true_eq_false, show (0 : Int) ≤ 1 by decide]
   rw [n_10l2]
   simp
  ·simp [h, b1, show Int.toNat 1 = 1 from rfl]
 have l0 : n_10l2 (path, [t, u], 2, 0, t, u, Tag.nil, ()) = if e1 = 0 then (if e2 = 0 then some (.inr (path, t, u, Tag.nil, ())) else some (.inl (e2, Tag.nil, ()))) else some (.inl (e1, Tag.nil, ())) := by
  rw [n_10l2]
  by_cases h : e1 = 0
  ·rw [h] at a1
   simp only [d02, k0, a1, w1, l1, h, sW, decide_true, bne_iff_ne, ne_eq, not_true_eq_false, Int.le_refl]
  ·simp [h, a1]
 have hlen : (([t, u] : List Tag).length : Int) = 2 := rfl
 unfold n_10 n_11
 simp only [hlen, l0, a2, b2]
 by_cases h1 : e1 = 0
 ·by_cases h2 : e2 = 0
  ·obtain ⟨ok, x, y, i1, i2, i3⟩ := put_with hB u hu path t ht (a3 h1) hs
   cases ok with
   | false =>
    exact ⟨4, Tag.nil, by simp [h1, h2, cp t hts, cp u hus, i1], by simp [h1, h2, i2], hnb, ⟨g0, hg0, fun h => by cases h⟩, fun _ => rfl⟩
   | true =>
    obtain ⟨rfl, j1, j2⟩ := i3 rfl
    have hxb : x.Fit big := Tag.Fit.mono (by omega) x j1
    obtain ⟨e3, c1, c2, c3⟩ := f29 x hxb
    by_cases h3 : e3 = 0
    ·exact ⟨0, x, by simp [h1, h2, cp t hts, cp u hus, i1, eta, n_32, c1, h3], by simp [h1, h2, i2, n_35, c2, h3], hxb, ⟨e3, c1, fun _ => ⟨h3, j2⟩⟩, fun h => (h rfl).elim⟩
    ·exact ⟨e3, Tag.nil, by simp [h1, h2, cp t hts, cp u hus, i1, eta, n_32, c1, h3], by simp [h1, h2, i2, n_35, c2, h3], hnb, ⟨g0, hg0, fun h => (h3 h).elim⟩, fun _ => rfl⟩
  ·exact ⟨e2, Tag.nil, by simp [h1, h2], by simp [h1, h2], hnb, ⟨g0, hg0, fun h => (h2 h).elim⟩, fun _ => rfl⟩
 ·exact ⟨e1, Tag.nil, by simp [h1], by simp [h1], hnb, ⟨g0, hg0, fun h => (h1 h).elim⟩, fun _ => rfl⟩
theorem nil13 (path : List ByteArray) (hs : ∀ s ∈ path, s.size ≤ 5000) : ∃ z, n_13 (Tag.nil, path, ()) = some z := by
 obtain ⟨g, hg, _, _⟩ := f29 Tag.nil (nil_fit big)
 have hc := cp Tag.nil (nil_fit small)
 unfold n_13
 by_cases h : g = 0
 ·cases path with
  | nil =>
   have hl : n_36l2 ([], 0, 0, Tag.nil, Tag.nil, ()) = some (.inr (Tag.nil, Tag.nil, ())) := by
    rw [n_36l2]
    simp
   simp [hg, h, n_36, hl, hc]
  | cons s r =>
   have h59 : ∃ x, n_59 (s, ()) = some x := by
    unfold n_59
    have := hs s List.mem_cons_self
    simp only [if_pos (show s.size ≤ 1000000000000 by omega)]
    split <;> exact ⟨_, rfl⟩
   obtain ⟨x, hx⟩ := h59
   have h39 : n_39 (Tag.nil, s, ()) = some (-1, ()) := by
    unfold n_39
    simp [hx]
   have hl : n_36l2 (s :: r, ((s :: r).length : Int), 0, Tag.nil, Tag.nil, ()) = some (.inl (false, Tag.nil, ())) := by
    have hlt : (0 : Int) < (r.length : Int) + 1 := by omega
    rw [n_36l2]
    simp [h39, hlt]
   simp only [hg, h, n_36, hl, hc, sW, bne_iff_ne, ne_eq, not_true_eq_false]
   exact ⟨_, rfl⟩
 ·simp [hg, h]
theorem law3 {B : Nat} (hB : B < small) (t u : Tag) (path : List ByteArray) (ht : t.Fit B) (hu : u.Fit B) (hp : path.length ≤ big) (hs : ∀ s ∈ path, s.size ≤ B) : n_3 (t, path, u, ()) = some (true, ()) := by
 have hsm : small = 4294967296 := rfl
 have hbig : big = 9223372036854775807 := rfl
 have htb : t.Fit big := Tag.Fit.mono (by omega) t ht
 have hub : u.Fit big := Tag.Fit.mono (by omega) u hu
 have hus : u.Fit small := Tag.Fit.mono (by omega) u hu
 obtain ⟨x1, hx1⟩ := f13 t htb.wf
 obtain ⟨x2, hx2⟩ := f13 u hub.wf
 obtain ⟨y, hy, hs5⟩ := f14 path hp
 unfold n_3
 cases x1 with
 | true => simp [hx1, known_true]
 | false =>
  cases x2 with
  | true => simp [hx1, hx2, known_true]
  | false =>
   cases y with
   | true => simp [hx1, hx2, hy, known_true]
   | false =>
    have hs5 := hs5 rfl
    obtain ⟨e, x, i1, i2, i3, ⟨g, g1, g2⟩, g3⟩ := set_eq hB t u path ht hu fun s h => ⟨hs5 s h, hs s h⟩
    have hxx := same x i3
    by_cases he : e = 0
    ·obtain ⟨rfl, hat⟩ := g2 he
     have hf := find_l path hp u Tag.nil _ 0 x rfl hat
     simp only [Int.natCast_zero, Int.ofNat_eq_natCast, List.drop_zero] at hf
     simp [hx1, hx2, hy, known_true, i1, i2, hxx, he, n_13, n_36, g1, hf, cp u hus, eta, same u hub]
    ·obtain rfl := g3 he
     obtain ⟨z, hz⟩ := nil13 path hs5
     simp [hx1, hx2, hy, known_true, i1, i2, hxx, he, hz]
theorem jsonSets_true (t : Tag) (path : List ByteArray) (u : Tag) (h0 : Ok vw (.st .tagT) t) (h1 : Ok vw (.sl .str) path) (h2 : Ok vw (.st .tagT) u) (m0 : Nat) (b0 : Bk vw (.st .tagT) t m0) (m1 : Nat) (b1 : Bk vw (.sl .str) path m1) (m2 : Nat) (b2 : Bk vw (.st .tagT) u m2) (hm : m0 + m1 + m2 ≤ 1048576) :
  n_3 (t, path, u, ()) = some (true, ()) :=
 law3 (B := 1048576) (by decide) t u path (fit_of_bk t m0 (by omega) b0) (fit_of_bk u m2 (by omega) b2) (ok_sl h1).1 fun s hs => by
  obtain ⟨n, hn, hb⟩ := (bk_sl b1).2 s hs
  have := bk_str hb
  omega
end Go.Proofs.YtpndmanbfleadaaGreatDoor
end
section
namespace Go.Proofs.YtpndmanbfleadaaGreatDoor.jsonSets
open Go.ChangeShapes Go.WideShapes Go.ChangeAt Go.RowKit Go.Awp Go.Tx
open Go.Proofs.Tryz (prog)
theorem laidOut : laidOutB prog = true := by kernel_rfl
theorem own : ownKnob prog.godebug = none := by kernel_rfl
theorem contract (x0 : Tag) (x1 : (List ByteArray)) (x2 : Tag) (h0 : Ok vw (.st .tagT) x0) (h1 : Ok vw (.sl .str) x1) (h2 : Ok vw (.st .tagT) x2) (m0 : Nat) (b0 : Bk vw (.st .tagT) x0 m0) (m1 : Nat) (b1 : Bk vw (.sl .str) x1 m1) (m2 : Nat) (b2 : Bk vw (.st .tagT) x2 m2) (hm : m0 + m1 + m2 ≤ 1048576) : FnOk prog 3 [.d (encD szN encN (.st .tagT) x0), .d (encD szN encN (.sl .str) x1), .d (encD szN encN (.st .tagT) x2)] [] (.d (.v (.bool true))) [] :=
 kcast (by kernel_rfl) (n_3_ok (x0, x1, x2, ()) (true, ()) (.lf .bool true) (jsonSets_true x0 x1 x2 h0 h1 h2 m0 b0 m1 b1 m2 b2 hm) rfl)
noncomputable def w0 (os : Os) : World := World.laidAll prog os Rows.jsonSetsUptoRow.laid
theorem laid_met (os : Os) : laidMetH prog Rows.jsonSetsUptoRow.laid ((w0 os).forCall (fun _ _ => 0) ⟨#[], #[.agg #[.int .i64 0, .int .i64 0, .string ByteArray.empty, .slice none 0 0, .slice none 0 0], .slice none 0 0, .agg #[.int .i64 0, .int .i64 0, .string ByteArray.empty, .slice none 0 0, .slice none 0 0]], []⟩).memory := by
 rw [MakeChecks.laidMetH_plain _ _ _ (by kernel_rfl)]; exact laidMet_laidAll _ (by kernel_rfl) (by kernel_rfl)
set_option maxRecDepth 100000 in
theorem reads (os : Os) {H : Type} (enc : TypeId × Value → H) : DataW.whole enc prog ((w0 os).forCall (fun _ _ => 0) ⟨#[], #[.agg #[.int .i64 0, .int .i64 0, .string ByteArray.empty, .slice none 0 0, .slice none 0 0], .slice none 0 0, .agg #[.int .i64 0, .int .i64 0, .string ByteArray.empty, .slice none 0 0, .slice none 0 0]], []⟩).memory Tryz.f3.params.toList Rows.jsonSetsSpec.vars false #[.agg #[.int .i64 0, .int .i64 0, .string ByteArray.empty, .slice none 0 0, .slice none 0 0], .slice none 0 0, .agg #[.int .i64 0, .int .i64 0, .string ByteArray.empty, .slice none 0 0, .slice none 0 0]].toList 8 = some ([.agg [.lit (.int .i64 0), .lit (.int .i64 0), .lit (.string []), .nil, .nil], .nil, .agg [.lit (.int .i64 0), .lit (.int .i64 0), .lit (.string []), .nil, .nil]], [], []) := by kernel_rfl
set_option maxRecDepth 100000 in
theorem lifted (os : Os) (started : os.Started) (H : Type) (enc : TypeId × Value → H) (F : Stop.Interp) :
  ReturnsInHanded {} Tryz.checked os 3 .any ((Rows.OpenSpec.upto Rows.jsonSetsSpec).preRow enc prog Tryz.f3 Rows.jsonSetsUptoRow.domain false Rows.jsonSetsUptoRow.laid) (((Rows.OpenSpec.upto Rows.jsonSetsSpec).at F).post enc prog Tryz.f3 false true false false) := by
 have hok : Input.okWideB prog ((w0 os).forCall (fun _ _ => 0) ⟨#[], #[.agg #[.int .i64 0, .int .i64 0, .string ByteArray.empty, .slice none 0 0, .slice none 0 0], .slice none 0 0, .agg #[.int .i64 0, .int .i64 0, .string ByteArray.empty, .slice none 0 0, .slice none 0 0]], []⟩) 3 ⟨#[], #[.agg #[.int .i64 0, .int .i64 0, .string ByteArray.empty, .slice none 0 0, .slice none 0 0], .slice none 0 0, .agg #[.int .i64 0, .int .i64 0, .string ByteArray.empty, .slice none 0 0, .slice none 0 0]], []⟩ = true := by kernel_rfl
 refine returnsInHanded_of_row (C := Tryz.checked) (s := (Rows.OpenSpec.upto Rows.jsonSetsSpec)) own started (by kernel_rfl) Tryz.func3
  ⟨w0 os, fun _ _ => 0, ⟨#[], #[.agg #[.int .i64 0, .int .i64 0, .string ByteArray.empty, .slice none 0 0, .slice none 0 0], .slice none 0 0, .agg #[.int .i64 0, .int .i64 0, .string ByteArray.empty, .slice none 0 0, .slice none 0 0]], []⟩, World.laidAll_os _ _ _, World.shaped_of_ZipB (by kernel_rfl) (by kernel_rfl), (Input.okWide_of_okWideB (base := 0) hok).1, (Input.okWide_of_okWideB hok).2,
   OpenSpec.preRow_of_cond 8 (reads os enc) (by kernel_rfl) (fun k hk => by cases hk; kernel_rfl) (by kernel_rfl) (laid_met os),
   by simp only [Assume.holds]; exact ⟨by simp, by simp, fun _ => Modest.zero, by simp, by simp⟩⟩ ?_
 intro W base args ds gs before hval0 hW _ hcond _ hL _ _
 have hval : ∀ (j : Nat) t v, Tryz.f3.params[j]? = some t → args[j]? = some v → Value.okWide prog W .any base t v := hval0
 have hW' := hW
 obtain ⟨p, q, hA0, hV, rfl, hfz, hnd⟩ := hW'
 have hA : DataW.TrodAll enc prog W 0 (fun _ => true) true Tryz.f3.params.toList args.toList ds p := hA0
 rw [Tryz.params3] at hA hval
 obtain ⟨v0, vs0, d0, ds0, p0, q0, ha0, rfl, rfl, h0, r0⟩ := trodAll_cons hA
 obtain ⟨v1, vs1, d1, ds1, p1, q1, ha1, rfl, rfl, h1, r1⟩ := trodAll_cons r0
 subst ha1
 obtain ⟨v2, vs2, d2, ds2, p2, q2, ha2, rfl, rfl, h2, r2⟩ := trodAll_cons r1
 subst ha2
 obtain ⟨rfl, rfl, rfl⟩ := trodAll_nil r2
 obtain rfl : args = #[v0, v1, v2] := by cases args; simp_all
 obtain ⟨rfl, rfl⟩ := trodVars_none hV
 have hk : Rows.uptoBulkAll ([d0, d1, d2] ++ []) ≤ 1048576 := of_decide_eq_true (hcond _ rfl)
 have hlt0 : ∀ x ∈ p0, x.block < W.heap.size := fun x hx => by simpa using hW.lt x (by simp [hx])
 have hd0 := dbulk_le d0
 have hlt1 : ∀ x ∈ p1, x.block < W.heap.size := fun x hx => by simpa using hW.lt x (by simp [hx])
 have hd1 := dbulk_le d1
 have hlt2 : ∀ x ∈ p2, x.block < W.heap.size := fun x hx => by simpa using hW.lt x (by simp [hx])
 have hd2 := dbulk_le d2
 obtain ⟨x0, ok0, hr0, hb0⟩ := open_valB facts (τ := (.st .tagT)) rfl (hval 0 25 v0 rfl rfl) h0
 obtain ⟨x1, ok1, hr1, hb1⟩ := open_valB facts (τ := (.sl .str)) rfl (hval 1 22 v1 rfl rfl) h1
 obtain ⟨x2, ok2, hr2, hb2⟩ := open_valB facts (τ := (.st .tagT)) rfl (hval 2 25 v2 rfl rfl) h2
 have hm : dbulk d0 + dbulk d1 + dbulk d2 ≤ 1048576 := by
  simp only [List.append_nil, Rows.uptoBulkAll] at hk
  omega
 refine ((contract x0 x1 x2 ok0 ok1 ok2 _ hb0 _ hb1 _ hb2 hm).closed (W := W) (vs := #[v0, v1, v2]) (gmem_laid hL) ⟨rfl, fun i c x hc hx => ?_⟩).mono fun e W' ⟨he, hb⟩ => ?_
 ·match i with
  | 0 => simp at hc hx; subst hc; subst hx; exact .d hr0
  | 1 => simp at hc hx; subst hc; subst hx; exact .d hr1
  | 2 => simp at hc hx; subst hc; subst hx; exact .d hr2
  | i + 3 => simp at hc
 subst he
 exact ⟨_, rfl, _, _, _, [], _, [], hW, trodAll_cons_mk (shut_bool Tryz.underlying4 _) trodAll_mk0,
  (trodAll_cons_mk (Below.trod laidOut (by kernel_rfl) (of_decide_eq_true (by kernel_rfl)) h0 hb hlt0) (trodAll_cons_mk (Below.trod laidOut (by kernel_rfl) (of_decide_eq_true (by kernel_rfl)) h1 hb hlt1) (trodAll_cons_mk (Below.trod laidOut (by kernel_rfl) (of_decide_eq_true (by kernel_rfl)) h2 hb hlt2) trodAll_mk0))), rfl, hb.frame _, (fun h => by cases h)⟩
theorem row : Rows.JsonSetsUptoSaid :=
 OpenClaim.holds_of_cond 3 Tryz.f3 rfl rfl rfl rfl rfl rfl rfl ⟨rfl, rfl, rfl, rfl, rfl⟩ rfl rfl rfl rfl rfl (by kernel_rfl) Tryz.func3 (by kernel_rfl)
  (of_decide_eq_true (by kernel_rfl)) (by unfold Func.isWrapper; first | (rw [if_pos (by decide +kernel)]; kernel_rfl) | (rw [if_neg (by decide +kernel)]; exact ⟨rfl, rfl⟩))
  (fun os started H enc _ F => by rw [OpenClaim.pre_eq_preRow]; exact lifted os started H enc F)
theorem proved : Rows.JsonSetsUptoCardSaid :=
 Claim7.holds_tied_plain_at .later [] [.data, .data, .data, .data, .sentinel, .sentinel, .pinned, .pinned] true (true, "206fe8dbf8e52932ec9e8aabf78a392ee94f91dda865ff8bc96efe1930e8586b") true row (fun _ h => by cases h) (by kernel_rfl) (fun _ h => by cases h) jsonSetsUpto_row_tie rfl ⟨rfl, rfl⟩ (by kernel_rfl) rfl
  (fun f fn hf hfn => by
    obtain rfl : f = 3 := Option.some.inj ((show prog.funcNamed "mandrel/mandrellaw20.JsonSets" = some 3 by kernel_rfl).symm.trans hf) |>.symm
    obtain rfl : fn = Tryz.f3 := (Option.some.inj (Tryz.func3.symm.trans hfn)).symm
    exact ⟨by kernel_rfl, fun j t ht => by
     rw [Tryz.params3] at ht
     have hm : t ∈ ([25, 22, 25] : List TypeId) := by simpa using Array.mem_of_getElem? ht
     have hall : (([25, 22, 25] : List TypeId).all fun u => !prog.wantsStandIn u) = true := by kernel_rfl
     exact (show prog.wantsStandIn t = false by simpa using List.all_eq_true.1 hall t hm)⟩)
  (by kernel_rfl)
end Go.Proofs.YtpndmanbfleadaaGreatDoor.jsonSets
end
