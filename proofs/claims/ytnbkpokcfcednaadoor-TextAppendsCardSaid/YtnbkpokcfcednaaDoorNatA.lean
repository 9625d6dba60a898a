/-
  Functions of the program as functions of Lean, and that they say what the program does. Made by a program of mine.
-/
import Derived.Test.YtnbkpokcfcednaaDoorView
import Derived.Test.YtnbkpokcfcednaaDoorTxU
import Derived.Test.YtnbkpokcfcednaaDoorLib
import Derived.Test.YtnbkpokcfcednaaDoorNatA1
namespace Go.Proofs.YtnbkpokcfcednaaDoor
open Go.Awp Go.Tx
set_option linter.unusedVariables false
set_option maxRecDepth 100000
noncomputable def c24z : Cut SN := { slots := [(2, .dat (.int .i64)), (3, .dat (.int .i64))], objs := [] }
noncomputable def sh24 : Shape vw := { exits := fun _ => { slots := [], objs := [] }, rcut := c24z }
noncomputable def sig24 : Sig vw := { params := [.dat .str], objs := [], rcut := c24z, rvars := [.tmp 2, .tmp 3], keep := [] }
noncomputable def n_24 (v : ByteArray × Unit) : Option (Int × Int × Unit) :=
  n_36 (v.fst, ()) >>= fun x1 =>
  if (x1.fst != (0 : Int)) = true then
    some (((0 : Int), x1.fst, ()))
  else n_51 (v.fst, ()) >>= fun x2 =>
  some ((x2.fst, (0 : Int), ()))
noncomputable def call24 : Caller vw := fun A fid args S k => match fid with | 36 => callPure Tryd.prog sig36 n_36 A args S k | 51 => callPure Tryd.prog sig51 n_51 A args S k | _ => none
noncomputable def x24 : Xc vw := { P := Tryd.prog, n := 12, nm := id, call := call24, pre := fun _ => false, sh := sh24, joins := fun _ => none, regs := fun _ => none, loops := fun _ => none }
theorem call24_ok : CallerOk Tryd.prog call24 := fun A fid args S dst k r h => by
  unfold call24 at h
  split at h
  · exact callPure_ok (n_36_ok) rfl rfl h
  · exact callPure_ok (n_51_ok) rfl rfl h
  · cases h
theorem n_24_ok : SigOk Tryd.prog 24 sig24 n_24 := fun v r x h hx =>
  fn_ok (X := x24) (sig := sig24) rfl Tryd.func24 (c := bodyOf Tryd.f24) (by kernel_rfl) Tryd.ntmps24 (by kernel_rfl) (by kernel_rfl) rfl Ty.mixed call24_ok rfl (fun C hP hN => (lok_all (X := x24) (c := (bodyOf Tryd.f24)) (kcast (by kernel_rfl : True = AllB (LoopsP C (x24)) (loopsIn (bodyOf Tryd.f24))) trivial))) (kcast (by kernel_rfl) h) x hx

noncomputable def c25z : Cut SN := { slots := [(2, .dat (.int .i64)), (3, .dat (.int .i64))], objs := [] }
noncomputable def sh25 : Shape vw := { exits := fun _ => { slots := [], objs := [] }, rcut := c25z }
noncomputable def sig25 : Sig vw := { params := [.dat .str], objs := [], rcut := c25z, rvars := [.tmp 2, .tmp 3], keep := [] }
noncomputable def n_25 (v : ByteArray × Unit) : Option (Int × Int × Unit) :=
  n_23 (v.fst, ()) >>= fun x1 =>
  some (((↑x1.fst.length : Int), x1.snd.fst, ()))
noncomputable def call25 : Caller vw := fun A fid args S k => match fid with | 23 => callPure Tryd.prog sig23 n_23 A args S k | _ => none
noncomputable def x25 : Xc vw := { P := Tryd.prog, n := 14, nm := id, call := call25, pre := fun _ => false, sh := sh25, joins := fun _ => none, regs := fun _ => none, loops := fun _ => none }
theorem call25_ok : CallerOk Tryd.prog call25 := fun A fid args S dst k r h => by
  unfold call25 at h
  split at h
  · exact callPure_ok (n_23_ok) rfl rfl h
  · cases h
theorem n_25_ok : SigOk Tryd.prog 25 sig25 n_25 := fun v r x h hx =>
  fn_ok (X := x25) (sig := sig25) rfl Tryd.func25 (c := bodyOf Tryd.f25) (by kernel_rfl) Tryd.ntmps25 (by kernel_rfl) (by kernel_rfl) rfl Ty.mixed call25_ok rfl (fun C hP hN => (lok_all (X := x25) (c := (bodyOf Tryd.f25)) (kcast (by kernel_rfl : True = AllB (LoopsP C (x25)) (loopsIn (bodyOf Tryd.f25))) trivial))) (kcast (by kernel_rfl) h) x hx

noncomputable def c26l4 : Cut SN := { slots := [(0, .dat (.sl (.int .i64))), (1, .dat (.sl (.int .i64))), (5, .dat (.int .i64))], objs := [] }
noncomputable def c26e0 : Cut SN := { slots := [], objs := [] }
noncomputable def c26z : Cut SN := { slots := [(4, .dat .bool)], objs := [] }
noncomputable def sh26 : Shape vw := { exits := fun id => match id with | 0 => c26e0 | _ => { slots := [], objs := [] }, rcut := c26z }
noncomputable def sig26 : Sig vw := { params := [.dat (.sl (.int .i64)), .dat (.sl (.int .i64))], objs := [], rcut := c26z, rvars := [.tmp 4], keep := [] }
noncomputable def n_26l4 (v : (List Int) × (List Int) × Int × Unit) : Option (((Bool × Unit) ⊕ (Unit))) :=
  if decide (v.snd.snd.fst < (↑v.fst.length : Int)) = true then
    if (0 : Int) ≤ v.snd.snd.fst then
      v.fst[v.snd.snd.fst.toNat]? >>= fun x1 =>
      if (0 : Int) ≤ v.snd.snd.fst then
        v.snd.fst[v.snd.snd.fst.toNat]? >>= fun x2 =>
        if (x1 != x2) = true then
          some (Sum.inl (false, ()))
        else n_26l4 (v.fst, v.snd.fst, IntKind.i64.wrap (v.snd.snd.fst + (1 : Int)), ())
      else none
    else none
  else some (Sum.inr ())
  partial_fixpoint
noncomputable def n_26 (v : (List Int) × (List Int) × Unit) : Option (Bool × Unit) :=
  if ((↑v.fst.length : Int) != (↑v.snd.fst.length : Int)) = true then
    some ((false, ()))
  else n_26l4 (v.fst, v.snd.fst, (0 : Int), ()) >>= fun x1 => match x1 with
    | .inl y1 => some y1
    | .inr y1 => some ((true, ()))
noncomputable def call26 : Caller vw := fun _ _ _ _ _ => none
noncomputable def x26 : Xc vw := { P := Tryd.prog, n := 26, nm := id, call := call26, pre := fun _ => false, sh := sh26, joins := fun _ => none, regs := fun _ => none, loops := fun k => match k with | 4 => some { cut := c26l4, alts := [.ret, .exit 0], F := n_26l4 } | _ => none }
theorem call26_ok : CallerOk Tryd.prog call26 := call_none
theorem n_26l4_ok (C : Ctx) (hP : C.P = Tryd.prog) (hN : C.N = 26) : LoopOk C (loopNo (bodyOf Tryd.f26) 0) (sh := sh26) { cut := c26l4, alts := [.ret, .exit 0], F := n_26l4 } :=
  n_26l4.partial_correctness (motive := fun v out => AWpL C (loopNo (bodyOf Tryd.f26) 0) (encS vw (conc vw c26l4 v)) (OutQ sh26 [.ret, .exit 0] out)) fun F ih v out h =>
    loop_step (X := x26) (b := (loopNo (bodyOf Tryd.f26) 0)) hP hN Ty.mixed call26_ok (lok_all (X := x26) (c := (loopNo (bodyOf Tryd.f26) 0)) (kcast (by kernel_rfl : True = AllB (LoopsP C (x26)) (loopsIn (loopNo (bodyOf Tryd.f26) 0))) trivial)) ih (kcast (by kernel_rfl) h)
theorem n_26_ok : SigOk Tryd.prog 26 sig26 n_26 := fun v r x h hx =>
  fn_ok (X := x26) (sig := sig26) rfl Tryd.func26 (c := bodyOf Tryd.f26) (by kernel_rfl) Tryd.ntmps26 (by kernel_rfl) (by kernel_rfl) rfl Ty.mixed call26_ok rfl (fun C hP hN => (lok_all (X := x26) (c := (bodyOf Tryd.f26)) (kcast (by kernel_rfl : AllB (LoopsP C (x26)) [(loopNo (bodyOf Tryd.f26) 0)] = AllB (LoopsP C (x26)) (loopsIn (bodyOf Tryd.f26))) ⟨loop_at (X := x26) (b := (loopNo (bodyOf Tryd.f26) 0)) (by kernel_rfl) (n_26l4_ok C hP hN), trivial⟩))) (kcast (by kernel_rfl) h) x hx

noncomputable def c53r7 : Cut SN := { slots := [(0, .dat (.int .i32)), (12, .dat .bool)], objs := [] }
noncomputable def c53z : Cut SN := { slots := [(2, .dat (.int .i64))], objs := [] }
noncomputable def sh53 : Shape vw := { exits := fun _ => { slots := [], objs := [] }, rcut := c53z }
noncomputable def sig53 : Sig vw := { params := [.dat (.int .i32)], objs := [], rcut := c53z, rvars := [.tmp 2], keep := [] }
noncomputable def n_53 (v : Int × Unit) : Option (Int × Unit) :=
  if decide (v.fst < (0 : Int)) = true then
    some (((-1 : Int), ()))
  else if decide (v.fst ≤ (127 : Int)) = true then
    some (((1 : Int), ()))
  else if decide (v.fst ≤ (2047 : Int)) = true then
    some (((2 : Int), ()))
  else (if decide ((55296 : Int) ≤ v.fst) = true then
      some ((v.fst, decide (v.fst ≤ (57343 : Int)), ()))
    else some ((v.fst, false, ()))) >>= fun x1 =>
  if x1.snd.fst = true then
    some (((-1 : Int), ()))
  else if decide (x1.fst ≤ (65535 : Int)) = true then
    some (((3 : Int), ()))
  else if decide (x1.fst ≤ (1114111 : Int)) = true then
    some (((4 : Int), ()))
  else some (((-1 : Int), ()))
noncomputable def call53 : Caller vw := fun _ _ _ _ _ => none
noncomputable def x53 : Xc vw := { P := Tryd.prog, n := 25, nm := id, call := call53, pre := fun _ => false, sh := sh53, joins := fun _ => none, regs := fun k => match k with | 7 => some c53r7 | _ => none, loops := fun _ => none }
theorem call53_ok : CallerOk Tryd.prog call53 := call_none
theorem n_53_ok : SigOk Tryd.prog 53 sig53 n_53 := fun v r x h hx =>
  fn_ok (X := x53) (sig := sig53) rfl Tryd.func53 (c := bodyOf Tryd.f53) (by kernel_rfl) Tryd.ntmps53 (by kernel_rfl) (by kernel_rfl) rfl Ty.mixed call53_ok rfl (fun C hP hN => (lok_all (X := x53) (c := (bodyOf Tryd.f53)) (kcast (by kernel_rfl : True = AllB (LoopsP C (x53)) (loopsIn (bodyOf Tryd.f53))) trivial))) (kcast (by kernel_rfl) h) x hx

noncomputable def c85s43b2j7 : Cut SN := { slots := [(0, .vh 100000), (1, .dat (.int .i32)), (5, .dat (.int .u32)), (25, .dat .bool)], objs := [(100000, .vec 5 (.int .u8))] }
noncomputable def c85s43b2r6 : Cut SN := { slots := [(0, .vh 100000), (1, .dat (.int .i32)), (5, .dat (.int .u32)), (25, .dat .bool)], objs := [(100000, .vec 5 (.int .u8))] }
noncomputable def c85s43b2r8 : Cut SN := { slots := [(0, .vh 100000), (1, .dat (.int .i32)), (50, .dat .bool)], objs := [(100000, .vec 5 (.int .u8))] }
noncomputable def c85s43b2z : Cut SN := { slots := [(4, .vh 2004)], objs := [(2004, .vec 5 (.int .u8))] }
noncomputable def sh85s43b2 : Shape vw := { exits := fun _ => { slots := [], objs := [] }, rcut := c85s43b2z }
noncomputable def sig85s43b2 : Sig vw := { params := [.vh 100000, .dat (.int .i32)], objs := [(100000, .vec 5 (.int .u8))], rcut := c85s43b2z, rvars := [.tmp 4], keep := [2004] }
noncomputable def n_85s43b2 (v : Int × (List Int) × Unit) : Option ((List Int) × Unit) :=
  if decide (IntKind.u32.wrap v.fst ≤ (2047 : Int)) = true then
    if v.snd.fst.length + [Bs.ior IntKind.u8 (192 : Int) (IntKind.u8.wrap (Bs.ishr IntKind.i32 v.fst (6 : Int))), Bs.ior IntKind.u8 (128 : Int) (Bs.iand IntKind.u8 (IntKind.u8.wrap v.fst) (63 : Int))].length ≤ (4294967296 : Nat) then
      some ((v.snd.fst ++ [Bs.ior IntKind.u8 (192 : Int) (IntKind.u8.wrap (Bs.ishr IntKind.i32 v.fst (6 : Int))), Bs.ior IntKind.u8 (128 : Int) (Bs.iand IntKind.u8 (IntKind.u8.wrap v.fst) (63 : Int))], ()))
    else none
  else (if decide (IntKind.u32.wrap v.fst < (55296 : Int)) = true then
      some ((v.fst, IntKind.u32.wrap v.fst, true, v.snd.fst, ()))
    else (if decide ((57343 : Int) < IntKind.u32.wrap v.fst) = true then
        some ((v.fst, IntKind.u32.wrap v.fst, decide (IntKind.u32.wrap v.fst ≤ (65535 : Int)), v.snd.fst, ()))
      else some ((v.fst, IntKind.u32.wrap v.fst, false, v.snd.fst, ()))) >>= fun x1 =>
    some ((x1.fst, x1.snd.fst, x1.snd.snd.fst, x1.snd.snd.snd.fst, ()))) >>= fun x1 =>
  if x1.snd.snd.fst = true then
    if x1.snd.snd.snd.fst.length + [Bs.ior IntKind.u8 (224 : Int) (IntKind.u8.wrap (Bs.ishr IntKind.i32 x1.fst (12 : Int))), Bs.ior IntKind.u8 (128 : Int) (Bs.iand IntKind.u8 (IntKind.u8.wrap (Bs.ishr IntKind.i32 x1.fst (6 : Int))) (63 : Int)), Bs.ior IntKind.u8 (128 : Int) (Bs.iand IntKind.u8 (IntKind.u8.wrap x1.fst) (63 : Int))].length ≤ (4294967296 : Nat) then
      some ((x1.snd.snd.snd.fst ++ [Bs.ior IntKind.u8 (224 : Int) (IntKind.u8.wrap (Bs.ishr IntKind.i32 x1.fst (12 : Int))), Bs.ior IntKind.u8 (128 : Int) (Bs.iand IntKind.u8 (IntKind.u8.wrap (Bs.ishr IntKind.i32 x1.fst (6 : Int))) (63 : Int)), Bs.ior IntKind.u8 (128 : Int) (Bs.iand IntKind.u8 (IntKind.u8.wrap x1.fst) (63 : Int))], ()))
    else none
  else (if decide (x1.snd.fst > (65535 : Int)) = true then
      some ((x1.fst, decide (x1.snd.fst ≤ (1114111 : Int)), x1.snd.snd.snd.fst, ()))
    else some ((x1.fst, false, x1.snd.snd.snd.fst, ()))) >>= fun x2 =>
  if x2.snd.fst = true then
    if x2.snd.snd.fst.length + [Bs.ior IntKind.u8 (240 : Int) (IntKind.u8.wrap (Bs.ishr IntKind.i32 x2.fst (18 : Int))), Bs.ior IntKind.u8 (128 : Int) (Bs.iand IntKind.u8 (IntKind.u8.wrap (Bs.ishr IntKind.i32 x2.fst (12 : Int))) (63 : Int)), Bs.ior IntKind.u8 (128 : Int) (Bs.iand IntKind.u8 (IntKind.u8.wrap (Bs.ishr IntKind.i32 x2.fst (6 : Int))) (63 : Int)), Bs.ior IntKind.u8 (128 : Int) (Bs.iand IntKind.u8 (IntKind.u8.wrap x2.fst) (63 : Int))].length ≤ (4294967296 : Nat) then
      some ((x2.snd.snd.fst ++ [Bs.ior IntKind.u8 (240 : Int) (IntKind.u8.wrap (Bs.ishr IntKind.i32 x2.fst (18 : Int))), Bs.ior IntKind.u8 (128 : Int) (Bs.iand IntKind.u8 (IntKind.u8.wrap (Bs.ishr IntKind.i32 x2.fst (12 : Int))) (63 : Int)), Bs.ior IntKind.u8 (128 : Int) (Bs.iand IntKind.u8 (IntKind.u8.wrap (Bs.ishr IntKind.i32 x2.fst (6 : Int))) (63 : Int)), Bs.ior IntKind.u8 (128 : Int) (Bs.iand IntKind.u8 (IntKind.u8.wrap x2.fst) (63 : Int))], ()))
    else none
  else if x2.snd.snd.fst.length + [(239 : Int), (191 : Int), (189 : Int)].length ≤ (4294967296 : Nat) then
    some ((x2.snd.snd.fst ++ [(239 : Int), (191 : Int), (189 : Int)], ()))
  else none
noncomputable def call85s43b2 : Caller vw := fun _ _ _ _ _ => none
noncomputable def x85s43b2 : Xc vw := { P := Tryd.prog, n := 78, nm := id, call := call85s43b2, pre := fun _ => false, sh := sh85s43b2, joins := fun k => match k with | 7 => some (c85s43b2j7, [.norm]) | _ => none, regs := fun k => match k with | 6 => some c85s43b2r6 | 8 => some c85s43b2r8 | _ => none, loops := fun _ => none }
theorem call85s43b2_ok : CallerOk Tryd.prog call85s43b2 := call_none
theorem n_85s43b2_ok : SigOk Tryd.prog 85 sig85s43b2 n_85s43b2 := fun v r x h hx =>
  fn_ok (X := x85s43b2) (sig := sig85s43b2) rfl Tryd.func85 (c := bodyOf Tryd.f85) (by kernel_rfl) Tryd.ntmps85 (by kernel_rfl) (by kernel_rfl) rfl Ty.mixed call85s43b2_ok rfl (fun C hP hN => (lok_all (X := x85s43b2) (c := (bodyOf Tryd.f85)) (kcast (by kernel_rfl : True = AllB (LoopsP C (x85s43b2)) (loopsIn (bodyOf Tryd.f85))) trivial))) (kcast (by kernel_rfl) h) x hx

noncomputable def c70s43b2z : Cut SN := { slots := [(4, .vh 2004)], objs := [(2004, .vec 5 (.int .u8))] }
noncomputable def sh70s43b2 : Shape vw := { exits := fun _ => { slots := [], objs := [] }, rcut := c70s43b2z }
noncomputable def sig70s43b2 : Sig vw := { params := [.vh 100000, .dat (.int .i32)], objs := [(100000, .vec 5 (.int .u8))], rcut := c70s43b2z, rvars := [.tmp 4], keep := [2004] }
noncomputable def n_70s43b2 (v : Int × (List Int) × Unit) : Option ((List Int) × Unit) :=
  if decide (IntKind.u32.wrap v.fst ≤ (127 : Int)) = true then
    if v.snd.fst.length + [IntKind.u8.wrap v.fst].length ≤ (4294967296 : Nat) then
      some ((v.snd.fst ++ [IntKind.u8.wrap v.fst], ()))
    else none
  else n_85s43b2 (v.fst, v.snd.fst, ()) >>= fun x1 =>
  some ((x1.fst, ()))
noncomputable def call70s43b2 : Caller vw := fun A fid args S k => match fid with | 85 => callObj Tryd.prog sig85s43b2 n_85s43b2 A args S k | _ => none
noncomputable def x70s43b2 : Xc vw := { P := Tryd.prog, n := 16, nm := id, call := call70s43b2, pre := fun _ => false, sh := sh70s43b2, joins := fun _ => none, regs := fun _ => none, loops := fun _ => none }
theorem call70s43b2_ok : CallerOk Tryd.prog call70s43b2 := fun A fid args S dst k r h => by
  unfold call70s43b2 at h
  split at h
  · exact callObj_ok (n_85s43b2_ok) h
  · cases h
theorem n_70s43b2_ok : SigOk Tryd.prog 70 sig70s43b2 n_70s43b2 := fun v r x h hx =>
  fn_ok (X := x70s43b2) (sig := sig70s43b2) rfl Tryd.func70 (c := bodyOf Tryd.f70) (by kernel_rfl) Tryd.ntmps70 (by kernel_rfl) (by kernel_rfl) rfl Ty.mixed call70s43b2_ok rfl (fun C hP hN => (lok_all (X := x70s43b2) (c := (bodyOf Tryd.f70)) (kcast (by kernel_rfl : True = AllB (LoopsP C (x70s43b2)) (loopsIn (bodyOf Tryd.f70))) trivial))) (kcast (by kernel_rfl) h) x hx

noncomputable def c54s4c9bz : Cut SN := { slots := [(0, .bp 100000 0), (4, .dat (.int .i64)), (5, .nif)], objs := [(100000, .box (some 61) [.np 100000, .vh 3001]), (3001, .vec 5 (.int .u8))] }
noncomputable def sh54s4c9b : Shape vw := { exits := fun _ => { slots := [], objs := [] }, rcut := c54s4c9bz }
noncomputable def sig54s4c9b : Sig vw := { params := [.bp 100000 0, .dat (.int .i32)], objs := [(100000, .box (some 61) [.np 100000, .vh 100001]), (100001, .vec 5 (.int .u8))], rcut := c54s4c9bz, rvars := [.tmp 4, .tmp 5], keep := [100000, 3001] }
noncomputable def n_54s4c9b (v : Int × Bool × (List Int) × Unit) : Option (Int × Bool × (List Int) × Unit) :=
  n_59s4b14 (v.snd.fst, v.snd.snd.fst, ()) >>= fun x1 =>
  n_70s43b2 (v.fst, x1.snd.fst, ()) >>= fun x2 =>
  some ((IntKind.i64.wrap ((↑x2.fst.length : Int) - (↑x1.snd.fst.length : Int)), x1.fst, x2.fst, ()))
noncomputable def call54s4c9b : Caller vw := fun A fid args S k => match fid with | 59 => callObj Tryd.prog sig59s4b14 n_59s4b14 A args S k | 70 => callObj Tryd.prog sig70s43b2 n_70s43b2 A args S k | _ => none
noncomputable def x54s4c9b : Xc vw := { P := Tryd.prog, n := 30, nm := id, call := call54s4c9b, pre := fun _ => false, sh := sh54s4c9b, joins := fun _ => none, regs := fun _ => none, loops := fun _ => none }
theorem call54s4c9b_ok : CallerOk Tryd.prog call54s4c9b := fun A fid args S dst k r h => by
  unfold call54s4c9b at h
  split at h
  · exact callObj_ok (n_59s4b14_ok) h
  · exact callObj_ok (n_70s43b2_ok) h
  · cases h
theorem n_54s4c9b_ok : SigOk Tryd.prog 54 sig54s4c9b n_54s4c9b := fun v r x h hx =>
  fn_ok (X := x54s4c9b) (sig := sig54s4c9b) rfl Tryd.func54 (c := bodyOf Tryd.f54) (by kernel_rfl) Tryd.ntmps54 (by kernel_rfl) (by kernel_rfl) rfl Ty.mixed call54s4c9b_ok rfl (fun C hP hN => (lok_all (X := x54s4c9b) (c := (bodyOf Tryd.f54)) (kcast (by kernel_rfl : True = AllB (LoopsP C (x54s4c9b)) (loopsIn (bodyOf Tryd.f54))) trivial))) (kcast (by kernel_rfl) h) x hx

noncomputable def c27l4 : Cut SN := { slots := [(4, .dat (.int .i64)), (5, .dat .bool), (6, .bp 6 0), (9, .dat (.sl (.int .i64))), (10, .dat (.int .i64)), (11, .dat (.int .i64))], objs := [(6, .box (some 61) [.np 6, .vh 3061]), (3061, .vec 5 (.int .u8))] }
noncomputable def c27j12 : Cut SN := { slots := [(4, .dat (.int .i64)), (5, .dat .bool), (6, .bp 6 0), (9, .dat (.sl (.int .i64))), (10, .dat (.int .i64)), (11, .dat (.int .i64))], objs := [(6, .box (some 61) [.np 6, .vh 3061]), (3061, .vec 5 (.int .u8))] }
noncomputable def c27r2 : Cut SN := { slots := [(0, .dat (.sl (.int .i64))), (4, .dat (.int .i64)), (5, .dat .bool), (6, .bp 6 0)], objs := [(6, .box (some 61) [.np 6, .vh 3061]), (3061, .vec 5 (.int .u8))] }
noncomputable def c27e0 : Cut SN := { slots := [(5, .dat .bool), (6, .bp 6 0)], objs := [(6, .box (some 61) [.np 6, .vh 3061]), (3061, .vec 5 (.int .u8))] }
noncomputable def c27z : Cut SN := { slots := [(2, .dat .str), (3, .dat (.int .i64))], objs := [] }
noncomputable def sh27 : Shape vw := { exits := fun id => match id with | 0 => c27e0 | _ => { slots := [], objs := [] }, rcut := c27z }
noncomputable def sig27 : Sig vw := { params := [.dat (.sl (.int .i64))], objs := [], rcut := c27z, rvars := [.tmp 2, .tmp 3], keep := [] }
noncomputable def n_27l4 (v : Int × Bool × (List Int) × Int × Int × Bool × (List Int) × Unit) : Option (((ByteArray × Int × Unit) ⊕ (Bool × Bool × (List Int) × Unit))) :=
  if decide (v.snd.snd.snd.snd.fst < v.snd.snd.snd.fst) = true then
    (if (0 : Int) ≤ v.snd.snd.snd.snd.fst then
        v.snd.snd.fst[v.snd.snd.snd.snd.fst.toNat]? >>= fun x1 =>
        n_52 (x1, ()) >>= fun x2 =>
        if (!x2.fst) = true then
          some (Sum.inl (v.fst, true, v.snd.snd.fst, v.snd.snd.snd.fst, v.snd.snd.snd.snd.fst, v.snd.snd.snd.snd.snd.fst, v.snd.snd.snd.snd.snd.snd.fst, ()))
        else n_53 (IntKind.i32.wrap x1, ()) >>= fun x3 =>
        if decide (IntKind.i64.wrap (v.fst + x3.fst) > (4096 : Int)) = true then
          some (Sum.inr (ByteArray.mk #[], (3 : Int), ()))
        else n_54s4c9b (IntKind.i32.wrap x1, v.snd.snd.snd.snd.snd.fst, v.snd.snd.snd.snd.snd.snd.fst, ()) >>= fun x4 =>
        some (Sum.inl (IntKind.i64.wrap (v.fst + x3.fst), v.snd.fst, v.snd.snd.fst, v.snd.snd.snd.fst, v.snd.snd.snd.snd.fst, x4.snd.fst, x4.snd.snd.fst, ()))
      else none) >>= fun x1 => match x1 with
      | .inl y1 => n_27l4 (y1.fst, y1.snd.fst, y1.snd.snd.fst, y1.snd.snd.snd.fst, IntKind.i64.wrap (y1.snd.snd.snd.snd.fst + (1 : Int)), y1.snd.snd.snd.snd.snd.fst, y1.snd.snd.snd.snd.snd.snd.fst, ())
      | .inr y1 => some (Sum.inl y1)
  else some (Sum.inr (v.snd.fst, v.snd.snd.snd.snd.snd.fst, v.snd.snd.snd.snd.snd.snd.fst, ()))
  partial_fixpoint
noncomputable def n_27 (v : (List Int) × Unit) : Option (ByteArray × Int × Unit) :=
  some (v.fst, (0 : Int), false, false, [], ()) >>= fun x1 =>
  n_27l4 (x1.snd.fst, x1.snd.snd.fst, x1.fst, (↑x1.fst.length : Int), (0 : Int), x1.snd.snd.snd.fst, x1.snd.snd.snd.snd.fst, ()) >>= fun x2 => match x2 with
    | .inl y2 => some y2
    | .inr y2 => if y2.fst = true then
        some ((ByteArray.mk #[], (1 : Int), ()))
      else n_35s4b14 (y2.snd.fst, y2.snd.snd.fst, ()) >>= fun x3 =>
      some ((x3.fst, (0 : Int), ()))
noncomputable def call27 : Caller vw := fun A fid args S k => match fid with | 35 => callObj Tryd.prog sig35s4b14 n_35s4b14 A args S k | 52 => callPure Tryd.prog sig52 n_52 A args S k | 53 => callPure Tryd.prog sig53 n_53 A args S k | 54 => callObj Tryd.prog sig54s4c9b n_54s4c9b A args S k | _ => none
noncomputable def x27 : Xc vw := { P := Tryd.prog, n := 31, nm := id, call := call27, pre := fun _ => false, sh := sh27, joins := fun k => match k with | 12 => some (c27j12, [.norm, .ret]) | _ => none, regs := fun k => match k with | 2 => some c27r2 | _ => none, loops := fun k => match k with | 4 => some { cut := c27l4, alts := [.ret, .exit 0], F := n_27l4 } | _ => none }
theorem call27_ok : CallerOk Tryd.prog call27 := fun A fid args S dst k r h => by
  unfold call27 at h
  split at h
  · exact callObj_ok (n_35s4b14_ok) h
  · exact callPure_ok (n_52_ok) rfl rfl h
  · exact callPure_ok (n_53_ok) rfl rfl h
  · exact callObj_ok (n_54s4c9b_ok) h
  · cases h
theorem n_27l4_ok (C : Ctx) (hP : C.P = Tryd.prog) (hN : C.N = 31) : LoopOk C (loopNo (bodyOf Tryd.f27) 0) (sh := sh27) { cut := c27l4, alts := [.ret, .exit 0], F := n_27l4 } :=
  n_27l4.partial_correctness (motive := fun v out => AWpL C (loopNo (bodyOf Tryd.f27) 0) (encS vw (conc vw c27l4 v)) (OutQ sh27 [.ret, .exit 0] out)) fun F ih v out h =>
    loop_step (X := x27) (b := (loopNo (bodyOf Tryd.f27) 0)) hP hN Ty.mixed call27_ok (lok_all (X := x27) (c := (loopNo (bodyOf Tryd.f27) 0)) (kcast (by kernel_rfl : True = AllB (LoopsP C (x27)) (loopsIn (loopNo (bodyOf Tryd.f27) 0))) trivial)) ih (kcast (by kernel_rfl) h)
theorem n_27_ok : SigOk Tryd.prog 27 sig27 n_27 := fun v r x h hx =>
  fn_ok (X := x27) (sig := sig27) rfl Tryd.func27 (c := bodyOf Tryd.f27) (by kernel_rfl) Tryd.ntmps27 (by kernel_rfl) (by kernel_rfl) rfl Ty.mixed call27_ok rfl (fun C hP hN => (lok_all (X := x27) (c := (bodyOf Tryd.f27)) (kcast (by kernel_rfl : AllB (LoopsP C (x27)) [(loopNo (bodyOf Tryd.f27) 0)] = AllB (LoopsP C (x27)) (loopsIn (bodyOf Tryd.f27))) ⟨loop_at (X := x27) (b := (loopNo (bodyOf Tryd.f27) 0)) (by kernel_rfl) (n_27l4_ok C hP hN), trivial⟩))) (kcast (by kernel_rfl) h) x hx

noncomputable def c28l5 : Cut SN := { slots := [(0, .dat (.sl (.int .i64))), (4, .dat .str), (5, .dat (.int .i64))], objs := [] }
noncomputable def c28e0 : Cut SN := { slots := [(4, .dat .str)], objs := [] }
noncomputable def c28z : Cut SN := { slots := [(2, .dat .str), (3, .dat (.int .i64))], objs := [] }
noncomputable def sh28 : Shape vw := { exits := fun id => match id with | 0 => c28e0 | _ => { slots := [], objs := [] }, rcut := c28z }
noncomputable def sig28 : Sig vw := { params := [.dat (.sl (.int .i64))], objs := [], rcut := c28z, rvars := [.tmp 2, .tmp 3], keep := [] }
noncomputable def n_28l5 (v : (List Int) × ByteArray × Int × Unit) : Option (((ByteArray × Int × Unit) ⊕ (ByteArray × Unit))) :=
  if decide (v.snd.snd.fst < (↑v.fst.length : Int)) = true then
    if (0 : Int) ≤ v.snd.snd.fst then
      v.fst[v.snd.snd.fst.toNat]? >>= fun x1 =>
      n_55 (x1, ()) >>= fun x2 =>
      if (!x2.fst) = true then
        some (Sum.inl (ByteArray.mk #[], (1 : Int), ()))
      else n_28l5 (v.fst, v.snd.fst, IntKind.i64.wrap (v.snd.snd.fst + (1 : Int)), ())
    else none
  else some (Sum.inr (v.snd.fst, ()))
  partial_fixpoint
noncomputable def n_28 (v : (List Int) × Unit) : Option (ByteArray × Int × Unit) :=
  n_47 (v.fst, ()) >>= fun x1 =>
  if decide ((↑x1.fst.size : Int) > (4096 : Int)) = true then
    some ((ByteArray.mk #[], (3 : Int), ()))
  else n_28l5 (v.fst, x1.fst, (0 : Int), ()) >>= fun x2 => match x2 with
    | .inl y2 => some y2
    | .inr y2 => some ((y2.fst, (0 : Int), ()))
noncomputable def call28 : Caller vw := fun A fid args S k => match fid with | 47 => callPure Tryd.prog sig47 n_47 A args S k | 55 => callPure Tryd.prog sig55 n_55 A args S k | _ => none
noncomputable def x28 : Xc vw := { P := Tryd.prog, n := 24, nm := id, call := call28, pre := fun _ => false, sh := sh28, joins := fun _ => none, regs := fun _ => none, loops := fun k => match k with | 5 => some { cut := c28l5, alts := [.ret, .exit 0], F := n_28l5 } | _ => none }
theorem call28_ok : CallerOk Tryd.prog call28 := fun A fid args S dst k r h => by
  unfold call28 at h
  split at h
  · exact callPure_ok (n_47_ok) rfl rfl h
  · exact callPure_ok (n_55_ok) rfl rfl h
  · cases h
theorem n_28l5_ok (C : Ctx) (hP : C.P = Tryd.prog) (hN : C.N = 24) : LoopOk C (loopNo (bodyOf Tryd.f28) 0) (sh := sh28) { cut := c28l5, alts := [.ret, .exit 0], F := n_28l5 } :=
  n_28l5.partial_correctness (motive := fun v out => AWpL C (loopNo (bodyOf Tryd.f28) 0) (encS vw (conc vw c28l5 v)) (OutQ sh28 [.ret, .exit 0] out)) fun F ih v out h =>
    loop_step (X := x28) (b := (loopNo (bodyOf Tryd.f28) 0)) hP hN Ty.mixed call28_ok (lok_all (X := x28) (c := (loopNo (bodyOf Tryd.f28) 0)) (kcast (by kernel_rfl : True = AllB (LoopsP C (x28)) (loopsIn (loopNo (bodyOf Tryd.f28) 0))) trivial)) ih (kcast (by kernel_rfl) h)
theorem n_28_ok : SigOk Tryd.prog 28 sig28 n_28 := fun v r x h hx =>
  fn_ok (X := x28) (sig := sig28) rfl Tryd.func28 (c := bodyOf Tryd.f28) (by kernel_rfl) Tryd.ntmps28 (by kernel_rfl) (by kernel_rfl) rfl Ty.mixed call28_ok rfl (fun C hP hN => (lok_all (X := x28) (c := (bodyOf Tryd.f28)) (kcast (by kernel_rfl : AllB (LoopsP C (x28)) [(loopNo (bodyOf Tryd.f28) 0)] = AllB (LoopsP C (x28)) (loopsIn (bodyOf Tryd.f28))) ⟨loop_at (X := x28) (b := (loopNo (bodyOf Tryd.f28) 0)) (by kernel_rfl) (n_28l5_ok C hP hN), trivial⟩))) (kcast (by kernel_rfl) h) x hx

noncomputable def c8l3 : Cut SN := { slots := [(0, .dat (.sl (.st .tagT))), (3, .dat (.int .i64)), (4, .dat (.int .i64))], objs := [] }
noncomputable def c8e0 : Cut SN := { slots := [(3, .dat (.int .i64))], objs := [] }
noncomputable def c8z : Cut SN := { slots := [(2, .dat (.int .i64))], objs := [] }
noncomputable def sh8 : Shape vw := { exits := fun id => match id with | 0 => c8e0 | _ => { slots := [], objs := [] }, rcut := c8z }
noncomputable def sig8 : Sig vw := { params := [.dat (.sl (.st .tagT))], objs := [], rcut := c8z, rvars := [.tmp 2], keep := [] }
noncomputable def n_8l3 (v : (List Tag) × Int × Int × Unit) : Option ((Int × Unit)) :=
  if decide (v.snd.snd.fst < (↑v.fst.length : Int)) = true then
    if (0 : Int) ≤ v.snd.snd.fst then
      v.fst[v.snd.snd.fst.toNat]? >>= fun x1 =>
      n_8l3 (v.fst, IntKind.i64.wrap (v.snd.fst + (↑x1.text.size : Int)), IntKind.i64.wrap (v.snd.snd.fst + (1 : Int)), ())
    else none
  else some ((v.snd.fst, ()))
  partial_fixpoint
noncomputable def n_8 (v : (List Tag) × Unit) : Option (Int × Unit) :=
  n_8l3 (v.fst, (↑v.fst.length : Int), (0 : Int), ()) >>= fun x1 =>
  some ((x1.fst, ()))
noncomputable def call8 : Caller vw := fun _ _ _ _ _ => none
noncomputable def x8 : Xc vw := { P := Tryd.prog, n := 22, nm := id, call := call8, pre := fun _ => false, sh := sh8, joins := fun _ => none, regs := fun _ => none, loops := fun k => match k with | 3 => some { cut := c8l3, alts := [.exit 0], F := n_8l3 } | _ => none }
theorem call8_ok : CallerOk Tryd.prog call8 := call_none
theorem n_8l3_ok (C : Ctx) (hP : C.P = Tryd.prog) (hN : C.N = 22) : LoopOk C (loopNo (bodyOf Tryd.f8) 0) (sh := sh8) { cut := c8l3, alts := [.exit 0], F := n_8l3 } :=
  n_8l3.partial_correctness (motive := fun v out => AWpL C (loopNo (bodyOf Tryd.f8) 0) (encS vw (conc vw c8l3 v)) (OutQ sh8 [.exit 0] out)) fun F ih v out h =>
    loop_step (X := x8) (b := (loopNo (bodyOf Tryd.f8) 0)) hP hN Ty.mixed call8_ok (lok_all (X := x8) (c := (loopNo (bodyOf Tryd.f8) 0)) (kcast (by kernel_rfl : True = AllB (LoopsP C (x8)) (loopsIn (loopNo (bodyOf Tryd.f8) 0))) trivial)) ih (kcast (by kernel_rfl) h)
theorem n_8_ok : SigOk Tryd.prog 8 sig8 n_8 := fun v r x h hx =>
  fn_ok (X := x8) (sig := sig8) rfl Tryd.func8 (c := bodyOf Tryd.f8) (by kernel_rfl) Tryd.ntmps8 (by kernel_rfl) (by kernel_rfl) rfl Ty.mixed call8_ok rfl (fun C hP hN => (lok_all (X := x8) (c := (bodyOf Tryd.f8)) (kcast (by kernel_rfl : AllB (LoopsP C (x8)) [(loopNo (bodyOf Tryd.f8) 0)] = AllB (LoopsP C (x8)) (loopsIn (bodyOf Tryd.f8))) ⟨loop_at (X := x8) (b := (loopNo (bodyOf Tryd.f8) 0)) (by kernel_rfl) (n_8l3_ok C hP hN), trivial⟩))) (kcast (by kernel_rfl) h) x hx

noncomputable def c9r3 : Cut SN := { slots := [(0, .dat .bool)], objs := [] }
noncomputable def c9z : Cut SN := { slots := [(0, .dat .bool)], objs := [] }
noncomputable def sh9 : Shape vw := { exits := fun _ => { slots := [], objs := [] }, rcut := c9z }
noncomputable def sig9 : Sig vw := { params := [], objs := [], rcut := c9z, rvars := [.tmp 0], keep := [] }
noncomputable def n_9 (v : Unit) : Option (Bool × Unit) :=
  n_10 (ByteArray.mk #[(123 : UInt8), (100 : UInt8), (58 : UInt8), (52 : UInt8), (125 : UInt8), (124 : UInt8), (123 : UInt8), (115 : UInt8), (58 : UInt8), (60 : UInt8), (51 : UInt8), (125 : UInt8), (124 : UInt8)], [Tag.mk (3 : Int) (12 : Int) (ByteArray.mk #[]) [] [], Tag.mk (4 : Int) (0 : Int) (ByteArray.mk #[(97 : UInt8)]) [] []], ()) >>= fun x1 =>
  n_20 (ByteArray.mk #[(192 : UInt8), (128 : UInt8)], ()) >>= fun x2 =>
  (if (x1.fst.toList == (ByteArray.mk #[(32 : UInt8), (32 : UInt8), (49 : UInt8), (50 : UInt8), (124 : UInt8), (97 : UInt8), (32 : UInt8), (32 : UInt8), (124 : UInt8)]).toList) = true then
      if (x1.snd.fst == (0 : Int)) = true then
        if (x2.fst == (0 : Int)) = true then
          some ((!x2.snd.fst, ()))
        else some ((false, ()))
      else some ((false, ()))
    else some ((false, ()))) >>= fun x3 =>
  some ((x3.fst, ()))
noncomputable def call9 : Caller vw := fun A fid args S k => match fid with | 10 => callPure Tryd.prog sig10 n_10 A args S k | 20 => callPure Tryd.prog sig20 n_20 A args S k | _ => none
noncomputable def x9 : Xc vw := { P := Tryd.prog, n := 30, nm := id, call := call9, pre := fun _ => false, sh := sh9, joins := fun _ => none, regs := fun k => match k with | 3 => some c9r3 | _ => none, loops := fun _ => none }
theorem call9_ok : CallerOk Tryd.prog call9 := fun A fid args S dst k r h => by
  unfold call9 at h
  split at h
  · exact callPure_ok (n_10_ok) rfl rfl h
  · exact callPure_ok (n_20_ok) rfl rfl h
  · cases h
theorem n_9_ok : SigOk Tryd.prog 9 sig9 n_9 := fun v r x h hx =>
  fn_ok (X := x9) (sig := sig9) rfl Tryd.func9 (c := bodyOf Tryd.f9) (by kernel_rfl) Tryd.ntmps9 (by kernel_rfl) (by kernel_rfl) rfl Ty.mixed call9_ok rfl (fun C hP hN => (lok_all (X := x9) (c := (bodyOf Tryd.f9)) (kcast (by kernel_rfl : True = AllB (LoopsP C (x9)) (loopsIn (bodyOf Tryd.f9))) trivial))) (kcast (by kernel_rfl) h) x hx

noncomputable def c3r2 : Cut SN := { slots := [(5, .dat .str), (6, .dat (.sl (.st .tagT))), (7, .dat .str), (8, .dat (.sl (.st .tagT))), (40, .dat .bool)], objs := [] }
noncomputable def c3r6 : Cut SN := { slots := [(5, .dat .str), (6, .dat (.sl (.st .tagT))), (7, .dat .str), (8, .dat (.sl (.st .tagT))), (9, .dat .str), (11, .dat .str), (59, .dat .bool)], objs := [] }
noncomputable def c3r10 : Cut SN := { slots := [(4, .dat .bool)], objs := [] }
noncomputable def c3r11 : Cut SN := { slots := [(4, .dat .bool)], objs := [] }
noncomputable def c3z : Cut SN := { slots := [(4, .dat .bool)], objs := [] }
noncomputable def sh3 : Shape vw := { exits := fun _ => { slots := [], objs := [] }, rcut := c3z }
noncomputable def sig3 : Sig vw := { params := [.dat (.st .formattedT), .dat (.st .formattedT)], objs := [], rcut := c3z, rvars := [.tmp 4], keep := [] }
noncomputable def n_3 (v : Formatted × Formatted × Unit) : Option (Bool × Unit) :=
  (if decide ((↑v.fst.format.size : Int) > (2000 : Int)) = true then
      some ((v.fst.format, v.fst.args, v.snd.fst.format, v.snd.fst.args, true, ()))
    else if decide ((↑v.snd.fst.format.size : Int) > (2000 : Int)) = true then
      some ((v.fst.format, v.fst.args, v.snd.fst.format, v.snd.fst.args, true, ()))
    else n_8 (v.fst.args, ()) >>= fun x1 =>
    if decide (x1.fst > (10000 : Int)) = true then
      some ((v.fst.format, v.fst.args, v.snd.fst.format, v.snd.fst.args, true, ()))
    else n_8 (v.snd.fst.args, ()) >>= fun x2 =>
    some ((v.fst.format, v.fst.args, v.snd.fst.format, v.snd.fst.args, decide (x2.fst > (10000 : Int)), ()))) >>= fun x1 =>
  if x1.snd.snd.snd.snd.fst = true then
    n_9 () >>= fun x2 =>
    some ((x2.fst, ()))
  else n_10 (x1.fst, x1.snd.fst, ()) >>= fun x2 =>
  n_10 (x1.snd.snd.fst, x1.snd.snd.snd.fst, ()) >>= fun x3 =>
  (if (x2.snd.fst != (0 : Int)) = true then
      some ((x1.fst, x1.snd.fst, x1.snd.snd.fst, x1.snd.snd.snd.fst, x2.fst, x3.fst, true, ()))
    else some ((x1.fst, x1.snd.fst, x1.snd.snd.fst, x1.snd.snd.snd.fst, x2.fst, x3.fst, x3.snd.fst != (0 : Int), ()))) >>= fun x4 =>
  if x4.snd.snd.snd.snd.snd.snd.fst = true then
    n_9 () >>= fun x5 =>
    some ((x5.fst, ()))
  else if x4.fst.size + x4.snd.snd.fst.size ≤ (4294967296 : Nat) then
    if 0 + x4.snd.fst.length ≤ (4294967296 : Nat) then
      if ([] ++ x4.snd.fst).length + x4.snd.snd.snd.fst.length ≤ (4294967296 : Nat) then
        n_10 (x4.fst ++ x4.snd.snd.fst, [] ++ x4.snd.fst ++ x4.snd.snd.snd.fst, ()) >>= fun x5 =>
        if (x5.snd.fst == (3 : Int)) = true then
          (if decide (IntKind.i64.wrap ((↑x4.snd.snd.snd.snd.fst.size : Int) + (↑x4.snd.snd.snd.snd.snd.fst.size : Int)) > (16384 : Int)) = true then
              n_9 () >>= fun x6 =>
              some ((x6.fst, ()))
            else some ((false, ()))) >>= fun x6 =>
          some ((x6.fst, ()))
        else (if (x5.snd.fst == (0 : Int)) = true then
            if x4.snd.snd.snd.snd.fst.size + x4.snd.snd.snd.snd.snd.fst.size ≤ (4294967296 : Nat) then
              if (x5.fst.toList == (x4.snd.snd.snd.snd.fst ++ x4.snd.snd.snd.snd.snd.fst).toList) = true then
                n_9 () >>= fun x6 =>
                some ((x6.fst, ()))
              else some ((false, ()))
            else none
          else some ((false, ()))) >>= fun x6 =>
        some ((x6.fst, ()))
      else none
    else none
  else none
noncomputable def call3 : Caller vw := fun A fid args S k => match fid with | 8 => callPure Tryd.prog sig8 n_8 A args S k | 9 => callPure Tryd.prog sig9 n_9 A args S k | 10 => callPure Tryd.prog sig10 n_10 A args S k | _ => none
noncomputable def x3 : Xc vw := { P := Tryd.prog, n := 96, nm := fun d => match d with | 65 => 40065 | _ => d, call := call3, pre := fun _ => false, sh := sh3, joins := fun _ => none, regs := fun k => match k with | 2 => some c3r2 | 6 => some c3r6 | 10 => some c3r10 | 11 => some c3r11 | _ => none, loops := fun _ => none }
theorem call3_ok : CallerOk Tryd.prog call3 := fun A fid args S dst k r h => by
  unfold call3 at h
  split at h
  · exact callPure_ok (n_8_ok) rfl rfl h
  · exact callPure_ok (n_9_ok) rfl rfl h
  · exact callPure_ok (n_10_ok) rfl rfl h
  · cases h
theorem n_3_ok : SigOk Tryd.prog 3 sig3 n_3 := fun v r x h hx =>
  fn_ok (X := x3) (sig := sig3) rfl Tryd.func3 (c := bodyOf Tryd.f3) (by kernel_rfl) Tryd.ntmps3 (by kernel_rfl) (by kernel_rfl) rfl Ty.mixed call3_ok rfl (fun C hP hN => (lok_all (X := x3) (c := (bodyOf Tryd.f3)) (kcast (by kernel_rfl : True = AllB (LoopsP C (x3)) (loopsIn (bodyOf Tryd.f3))) trivial))) (kcast (by kernel_rfl) h) x hx

noncomputable def c4r5 : Cut SN := { slots := [(6, .dat .bool)], objs := [] }
noncomputable def c4z : Cut SN := { slots := [(6, .dat .bool)], objs := [] }
noncomputable def sh4 : Shape vw := { exits := fun _ => { slots := [], objs := [] }, rcut := c4z }
noncomputable def sig4 : Sig vw := { params := [.dat .str, .dat (.int .i64), .dat (.int .u8)], objs := [], rcut := c4z, rvars := [.tmp 6], keep := [] }
noncomputable def n_4 (v : ByteArray × Int × Int × Unit) : Option (Bool × Unit) :=
  if decide ((↑v.fst.size : Int) > (20000 : Int)) = true then
    n_9 () >>= fun x1 =>
    some ((x1.fst, ()))
  else n_11 (v.fst, v.snd.fst, v.snd.snd.fst, ()) >>= fun x1 =>
  n_12 (v.fst, v.snd.fst, v.snd.snd.fst, ()) >>= fun x2 =>
  (if (x1.fst.toList == x2.fst.toList) = true then
      if (x1.snd.fst == x2.snd.fst) = true then
        n_9 () >>= fun x3 =>
        some ((x3.fst, ()))
      else some ((false, ()))
    else some ((false, ()))) >>= fun x3 =>
  some ((x3.fst, ()))
noncomputable def call4 : Caller vw := fun A fid args S k => match fid with | 9 => callPure Tryd.prog sig9 n_9 A args S k | 11 => callPure Tryd.prog sig11 n_11 A args S k | 12 => callPure Tryd.prog sig12 n_12 A args S k | _ => none
noncomputable def x4 : Xc vw := { P := Tryd.prog, n := 40, nm := id, call := call4, pre := fun _ => false, sh := sh4, joins := fun _ => none, regs := fun k => match k with | 5 => some c4r5 | _ => none, loops := fun _ => none }
theorem call4_ok : CallerOk Tryd.prog call4 := fun A fid args S dst k r h => by
  unfold call4 at h
  split at h
  · exact callPure_ok (n_9_ok) rfl rfl h
  · exact callPure_ok (n_11_ok) rfl rfl h
  · exact callPure_ok (n_12_ok) rfl rfl h
  · cases h
theorem n_4_ok : SigOk Tryd.prog 4 sig4 n_4 := fun v r x h hx =>
  fn_ok (X := x4) (sig := sig4) rfl Tryd.func4 (c := bodyOf Tryd.f4) (by kernel_rfl) Tryd.ntmps4 (by kernel_rfl) (by kernel_rfl) rfl Ty.mixed call4_ok rfl (fun C hP hN => (lok_all (X := x4) (c := (bodyOf Tryd.f4)) (kcast (by kernel_rfl : True = AllB (LoopsP C (x4)) (loopsIn (bodyOf Tryd.f4))) trivial))) (kcast (by kernel_rfl) h) x hx

noncomputable def c5r1 : Cut SN := { slots := [(0, .dat .str), (1, .dat (.sl (.st .tagT))), (20, .dat .bool)], objs := [] }
noncomputable def c5r7 : Cut SN := { slots := [(4, .dat .bool)], objs := [] }
noncomputable def c5z : Cut SN := { slots := [(4, .dat .bool)], objs := [] }
noncomputable def sh5 : Shape vw := { exits := fun _ => { slots := [], objs := [] }, rcut := c5z }
noncomputable def sig5 : Sig vw := { params := [.dat .str, .dat (.sl (.st .tagT))], objs := [], rcut := c5z, rvars := [.tmp 4], keep := [] }
noncomputable def n_5 (v : ByteArray × (List Tag) × Unit) : Option (Bool × Unit) :=
  (if decide ((↑v.fst.size : Int) > (20000 : Int)) = true then
      some ((v.fst, v.snd.fst, true, ()))
    else n_8 (v.snd.fst, ()) >>= fun x1 =>
    some ((v.fst, v.snd.fst, decide (x1.fst > (200000 : Int)), ()))) >>= fun x1 =>
  if x1.snd.snd.fst = true then
    n_9 () >>= fun x2 =>
    some ((x2.fst, ()))
  else n_10 (x1.fst, x1.snd.fst, ()) >>= fun x2 =>
  n_13 (x1.fst, x1.snd.fst, ()) >>= fun x3 =>
  n_14 (x1.fst, ()) >>= fun x4 =>
  n_15 (x1.fst, ()) >>= fun x5 =>
  (if (x2.fst.toList == x3.fst.toList) = true then
      if (x2.snd.fst == x3.snd.fst) = true then
        if ((Bs.bytes x4.fst).toList == (Bs.bytes x5.fst).toList) = true then
          if (x4.snd.fst == x5.snd.fst) = true then
            n_9 () >>= fun x6 =>
            some ((x6.fst, ()))
          else some ((false, ()))
        else some ((false, ()))
      else some ((false, ()))
    else some ((false, ()))) >>= fun x6 =>
  some ((x6.fst, ()))
noncomputable def call5 : Caller vw := fun A fid args S k => match fid with | 8 => callPure Tryd.prog sig8 n_8 A args S k | 9 => callPure Tryd.prog sig9 n_9 A args S k | 10 => callPure Tryd.prog sig10 n_10 A args S k | 13 => callPure Tryd.prog sig13 n_13 A args S k | 14 => callPure Tryd.prog sig14 n_14 A args S k | 15 => callPure Tryd.prog sig15 n_15 A args S k | _ => none
noncomputable def x5 : Xc vw := { P := Tryd.prog, n := 67, nm := id, call := call5, pre := fun _ => false, sh := sh5, joins := fun _ => none, regs := fun k => match k with | 1 => some c5r1 | 7 => some c5r7 | _ => none, loops := fun _ => none }
theorem call5_ok : CallerOk Tryd.prog call5 := fun A fid args S dst k r h => by
  unfold call5 at h
  split at h
  · exact callPure_ok (n_8_ok) rfl rfl h
  · exact callPure_ok (n_9_ok) rfl rfl h
  · exact callPure_ok (n_10_ok) rfl rfl h
  · exact callPure_ok (n_13_ok) rfl rfl h
  · exact callPure_ok (n_14_ok) rfl rfl h
  · exact callPure_ok (n_15_ok) rfl rfl h
  · cases h
theorem n_5_ok : SigOk Tryd.prog 5 sig5 n_5 := fun v r x h hx =>
  fn_ok (X := x5) (sig := sig5) rfl Tryd.func5 (c := bodyOf Tryd.f5) (by kernel_rfl) Tryd.ntmps5 (by kernel_rfl) (by kernel_rfl) rfl Ty.mixed call5_ok rfl (fun C hP hN => (lok_all (X := x5) (c := (bodyOf Tryd.f5)) (kcast (by kernel_rfl : True = AllB (LoopsP C (x5)) (loopsIn (bodyOf Tryd.f5))) trivial))) (kcast (by kernel_rfl) h) x hx

noncomputable def c6r7 : Cut SN := { slots := [(0, .dat .str), (11, .dat .str), (12, .dat (.int .i64)), (62, .dat .bool)], objs := [] }
noncomputable def c6r10 : Cut SN := { slots := [(6, .dat .bool)], objs := [] }
noncomputable def c6z : Cut SN := { slots := [(6, .dat .bool)], objs := [] }
noncomputable def sh6 : Shape vw := { exits := fun _ => { slots := [], objs := [] }, rcut := c6z }
noncomputable def sig6 : Sig vw := { params := [.dat .str, .dat (.int .i64), .dat (.int .i64)], objs := [], rcut := c6z, rvars := [.tmp 6], keep := [] }
noncomputable def n_6 (v : ByteArray × Int × Int × Unit) : Option (Bool × Unit) :=
  if decide ((↑v.fst.size : Int) > (20000 : Int)) = true then
    n_9 () >>= fun x1 =>
    some ((x1.fst, ()))
  else n_16 (v.fst, v.snd.fst, v.snd.snd.fst, ()) >>= fun x1 =>
  n_17 (v.fst, v.snd.fst, v.snd.snd.fst, ()) >>= fun x2 =>
  n_18 (v.fst, ()) >>= fun x3 =>
  n_19 (v.fst, ()) >>= fun x4 =>
  (if (!x1.fst.toList == x2.fst.toList) = true then
      some ((v.fst, x3.fst, x3.snd.fst, true, ()))
    else if (x1.snd.fst != x2.snd.fst) = true then
      some ((v.fst, x3.fst, x3.snd.fst, true, ()))
    else if (!x3.fst.toList == x4.fst.toList) = true then
      some ((v.fst, x3.fst, x3.snd.fst, true, ()))
    else some ((v.fst, x3.fst, x3.snd.fst, x3.snd.fst != x4.snd.fst, ()))) >>= fun x5 =>
  if x5.snd.snd.snd.fst = true then
    some ((false, ()))
  else n_18 (x5.snd.fst, ()) >>= fun x6 =>
  (if (x5.snd.snd.fst != (0 : Int)) = true then
      n_9 () >>= fun x7 =>
      some ((x7.fst, ()))
    else if (x6.snd.fst == (0 : Int)) = true then
      if (x6.fst.toList == x5.fst.toList) = true then
        n_9 () >>= fun x7 =>
        some ((x7.fst, ()))
      else some ((false, ()))
    else some ((false, ()))) >>= fun x7 =>
  some ((x7.fst, ()))
noncomputable def call6 : Caller vw := fun A fid args S k => match fid with | 9 => callPure Tryd.prog sig9 n_9 A args S k | 16 => callPure Tryd.prog sig16 n_16 A args S k | 17 => callPure Tryd.prog sig17 n_17 A args S k | 18 => callPure Tryd.prog sig18 n_18 A args S k | 19 => callPure Tryd.prog sig19 n_19 A args S k | _ => none
noncomputable def x6 : Xc vw := { P := Tryd.prog, n := 82, nm := id, call := call6, pre := fun _ => false, sh := sh6, joins := fun _ => none, regs := fun k => match k with | 7 => some c6r7 | 10 => some c6r10 | _ => none, loops := fun _ => none }
theorem call6_ok : CallerOk Tryd.prog call6 := fun A fid args S dst k r h => by
  unfold call6 at h
  split at h
  · exact callPure_ok (n_9_ok) rfl rfl h
  · exact callPure_ok (n_16_ok) rfl rfl h
  · exact callPure_ok (n_17_ok) rfl rfl h
  · exact callPure_ok (n_18_ok) rfl rfl h
  · exact callPure_ok (n_19_ok) rfl rfl h
  · cases h
theorem n_6_ok : SigOk Tryd.prog 6 sig6 n_6 := fun v r x h hx =>
  fn_ok (X := x6) (sig := sig6) rfl Tryd.func6 (c := bodyOf Tryd.f6) (by kernel_rfl) Tryd.ntmps6 (by kernel_rfl) (by kernel_rfl) rfl Ty.mixed call6_ok rfl (fun C hP hN => (lok_all (X := x6) (c := (bodyOf Tryd.f6)) (kcast (by kernel_rfl : True = AllB (LoopsP C (x6)) (loopsIn (bodyOf Tryd.f6))) trivial))) (kcast (by kernel_rfl) h) x hx

noncomputable def c7r1 : Cut SN := { slots := [(0, .dat .str), (1, .dat (.sl (.int .i64))), (32, .dat .bool)], objs := [] }
noncomputable def c7r9 : Cut SN := { slots := [(0, .dat .str), (1, .dat (.sl (.int .i64))), (9, .dat (.sl (.int .i64))), (10, .dat (.int .i64)), (92, .dat .bool)], objs := [] }
noncomputable def c7r13 : Cut SN := { slots := [(0, .dat .str), (1, .dat (.sl (.int .i64))), (9, .dat (.sl (.int .i64))), (10, .dat (.int .i64)), (17, .dat .str), (18, .dat (.int .i64)), (110, .dat .bool)], objs := [] }
noncomputable def c7r17 : Cut SN := { slots := [(4, .dat .bool)], objs := [] }
noncomputable def c7z : Cut SN := { slots := [(4, .dat .bool)], objs := [] }
noncomputable def sh7 : Shape vw := { exits := fun _ => { slots := [], objs := [] }, rcut := c7z }
noncomputable def sig7 : Sig vw := { params := [.dat .str, .dat (.sl (.int .i64))], objs := [], rcut := c7z, rvars := [.tmp 4], keep := [] }
noncomputable def n_7 (v : ByteArray × (List Int) × Unit) : Option (Bool × Unit) :=
  (if decide ((↑v.fst.size : Int) > (20000 : Int)) = true then
      some ((v.fst, v.snd.fst, true, ()))
    else some ((v.fst, v.snd.fst, decide ((↑v.snd.fst.length : Int) > (20000 : Int)), ()))) >>= fun x1 =>
  if x1.snd.snd.fst = true then
    n_9 () >>= fun x2 =>
    some ((x2.fst, ()))
  else n_20 (x1.fst, ()) >>= fun x2 =>
  n_21 (x1.fst, ()) >>= fun x3 =>
  n_22 (x1.fst, ()) >>= fun x4 =>
  n_23 (x1.fst, ()) >>= fun x5 =>
  n_24 (x1.fst, ()) >>= fun x6 =>
  n_25 (x1.fst, ()) >>= fun x7 =>
  (if (x2.fst != x3.fst) = true then
      some ((x1.fst, x1.snd.fst, x4.fst, x4.snd.fst, true, ()))
    else if (!x2.snd.fst == x3.snd.fst) = true then
      some ((x1.fst, x1.snd.fst, x4.fst, x4.snd.fst, true, ()))
    else n_26 (x4.fst, x5.fst, ()) >>= fun x8 =>
    if (!x8.fst) = true then
      some ((x1.fst, x1.snd.fst, x4.fst, x4.snd.fst, true, ()))
    else if (x4.snd.fst != x5.snd.fst) = true then
      some ((x1.fst, x1.snd.fst, x4.fst, x4.snd.fst, true, ()))
    else if (x6.fst != x7.fst) = true then
      some ((x1.fst, x1.snd.fst, x4.fst, x4.snd.fst, true, ()))
    else some ((x1.fst, x1.snd.fst, x4.fst, x4.snd.fst, x6.snd.fst != x7.snd.fst, ()))) >>= fun x8 =>
  if x8.snd.snd.snd.snd.fst = true then
    some ((false, ()))
  else n_27 (x8.snd.fst, ()) >>= fun x9 =>
  n_28 (x8.snd.fst, ()) >>= fun x10 =>
  (if (!x9.fst.toList == x10.fst.toList) = true then
      some ((x8.fst, x8.snd.fst, x8.snd.snd.fst, x8.snd.snd.snd.fst, x9.fst, x9.snd.fst, true, ()))
    else some ((x8.fst, x8.snd.fst, x8.snd.snd.fst, x8.snd.snd.snd.fst, x9.fst, x9.snd.fst, x9.snd.fst != x10.snd.fst, ()))) >>= fun x11 =>
  if x11.snd.snd.snd.snd.snd.snd.fst = true then
    some ((false, ()))
  else n_27 (x11.snd.snd.fst, ()) >>= fun x12 =>
  n_22 (x11.snd.snd.snd.snd.fst, ()) >>= fun x13 =>
  (if (x11.snd.snd.snd.fst != (0 : Int)) = true then
      if (x11.snd.snd.snd.snd.snd.fst != (0 : Int)) = true then
        n_9 () >>= fun x14 =>
        some ((x14.fst, ()))
      else if (x13.snd.fst == (0 : Int)) = true then
        n_26 (x13.fst, x11.snd.fst, ()) >>= fun x14 =>
        if x14.fst = true then
          n_9 () >>= fun x15 =>
          some ((x15.fst, ()))
        else some ((false, ()))
      else some ((false, ()))
    else if (x12.snd.fst == (0 : Int)) = true then
      if (x12.fst.toList == x11.fst.toList) = true then
        if (x11.snd.snd.snd.snd.snd.fst != (0 : Int)) = true then
          n_9 () >>= fun x14 =>
          some ((x14.fst, ()))
        else if (x13.snd.fst == (0 : Int)) = true then
          n_26 (x13.fst, x11.snd.fst, ()) >>= fun x14 =>
          if x14.fst = true then
            n_9 () >>= fun x15 =>
            some ((x15.fst, ()))
          else some ((false, ()))
        else some ((false, ()))
      else some ((false, ()))
    else some ((false, ()))) >>= fun x14 =>
  some ((x14.fst, ()))
noncomputable def call7 : Caller vw := fun A fid args S k => match fid with | 9 => callPure Tryd.prog sig9 n_9 A args S k | 20 => callPure Tryd.prog sig20 n_20 A args S k | 21 => callPure Tryd.prog sig21 n_21 A args S k | 22 => callPure Tryd.prog sig22 n_22 A args S k | 23 => callPure Tryd.prog sig23 n_23 A args S k | 24 => callPure Tryd.prog sig24 n_24 A args S k | 25 => callPure Tryd.prog sig25 n_25 A args S k | 26 => callPure Tryd.prog sig26 n_26 A args S k | 27 => callPure Tryd.prog sig27 n_27 A args S k | 28 => callPure Tryd.prog sig28 n_28 A args S k | _ => none
noncomputable def x7 : Xc vw := { P := Tryd.prog, n := 148, nm := id, call := call7, pre := fun _ => false, sh := sh7, joins := fun _ => none, regs := fun k => match k with | 1 => some c7r1 | 9 => some c7r9 | 13 => some c7r13 | 17 => some c7r17 | _ => none, loops := fun _ => none }
theorem call7_ok : CallerOk Tryd.prog call7 := fun A fid args S dst k r h => by
  unfold call7 at h
  split at h
  · exact callPure_ok (n_9_ok) rfl rfl h
  · exact callPure_ok (n_20_ok) rfl rfl h
  · exact callPure_ok (n_21_ok) rfl rfl h
  · exact callPure_ok (n_22_ok) rfl rfl h
  · exact callPure_ok (n_23_ok) rfl rfl h
  · exact callPure_ok (n_24_ok) rfl rfl h
  · exact callPure_ok (n_25_ok) rfl rfl h
  · exact callPure_ok (n_26_ok) rfl rfl h
  · exact callPure_ok (n_27_ok) rfl rfl h
  · exact callPure_ok (n_28_ok) rfl rfl h
  · cases h
theorem n_7_ok : SigOk Tryd.prog 7 sig7 n_7 := fun v r x h hx =>
  fn_ok (X := x7) (sig := sig7) rfl Tryd.func7 (c := bodyOf Tryd.f7) (by kernel_rfl) Tryd.ntmps7 (by kernel_rfl) (by kernel_rfl) rfl Ty.mixed call7_ok rfl (fun C hP hN => (lok_all (X := x7) (c := (bodyOf Tryd.f7)) (kcast (by kernel_rfl : True = AllB (LoopsP C (x7)) (loopsIn (bodyOf Tryd.f7))) trivial))) (kcast (by kernel_rfl) h) x hx

end Go.Proofs.YtnbkpokcfcednaaDoor
