/-
  Functions of the program as functions of Lean, and that they say what the program does. Made by a program of mine.
-/
import Derived.Test.YtnbkpokcfcednaaDoorView
import Derived.Test.YtnbkpokcfcednaaDoorTxU
import Derived.Test.YtnbkpokcfcednaaDoorLib
namespace Go.Proofs.YtnbkpokcfcednaaDoor
open Go.Awp Go.Tx
set_option linter.unusedVariables false
set_option maxRecDepth 100000

noncomputable def c62z : Cut SN := { slots := [(4, .dat (.int .i64))], objs := [] }
noncomputable def sh62 : Shape vw := { exits := fun _ => { slots := [], objs := [] }, rcut := c62z }
noncomputable def sig62 : Sig vw := { params := [.dat .str, .dat (.int .u8)], objs := [], rcut := c62z, rvars := [.tmp 4], keep := [] }
noncomputable def n_62 (v : ByteArray × Int × Unit) : Option (Int × Unit) :=
  some (Lib.indexByte v.1.data.toList v.2.1.toNat.toUInt8, ())
theorem n_62_ok : SigOk Tryd.prog 62 sig62 n_62 := fun v r x h hx => by
  obtain ⟨s, c, u⟩ := v
  cases h; cases hx
  exact kcast (by kernel_rfl) (FnOk.pure (P := Tryd.prog) (f := 62) (args := [.d (.v (.string s)), .d (.v (.int .u8 c))]) (r := .d (.v (.int .i64 (Lib.indexByte s.data.toList c.toNat.toUInt8)))) (by kernel_rfl) fun E M w vs _ _ hv => by
    obtain ⟨v1, v2, rfl, h1, h2⟩ := hreps_two hv
    rw [h1.dv, h2.dv]
    exact (Tryd.stringslite_IndexByte s c w).mono fun e w' ⟨he, hw⟩ => ⟨_, he, .d (.v _), hw ▸ Go.RowKit.Below.refl _ _⟩)

noncomputable def c37z : Cut SN := { slots := [(4, .dat (.int .i64))], objs := [] }
noncomputable def sh37 : Shape vw := { exits := fun _ => { slots := [], objs := [] }, rcut := c37z }
noncomputable def sig37 : Sig vw := { params := [.dat .str, .dat (.int .u8)], objs := [], rcut := c37z, rvars := [.tmp 4], keep := [] }
noncomputable def n_37 (v : ByteArray × Int × Unit) : Option (Int × Unit) :=
  n_62 (v.fst, v.snd.fst, ()) >>= fun x1 =>
  some ((x1.fst, ()))
noncomputable def call37 : Caller vw := fun A fid args S k => match fid with | 62 => callPure Tryd.prog sig62 n_62 A args S k | _ => none
noncomputable def x37 : Xc vw := { P := Tryd.prog, n := 8, nm := id, call := call37, pre := fun _ => false, sh := sh37, joins := fun _ => none, regs := fun _ => none, loops := fun _ => none }
theorem call37_ok : CallerOk Tryd.prog call37 := fun A fid args S dst k r h => by
  unfold call37 at h
  split at h
  · exact callPure_ok (n_62_ok) rfl rfl h
  · cases h
theorem n_37_ok : SigOk Tryd.prog 37 sig37 n_37 := fun v r x h hx =>
  fn_ok (X := x37) (sig := sig37) rfl Tryd.func37 (c := bodyOf Tryd.f37) (by kernel_rfl) Tryd.ntmps37 (by kernel_rfl) (by kernel_rfl) rfl Ty.mixed call37_ok rfl (fun C hP hN => (lok_all (X := x37) (c := (bodyOf Tryd.f37)) (kcast (by kernel_rfl : True = AllB (LoopsP C (x37)) (loopsIn (bodyOf Tryd.f37))) trivial))) (kcast (by kernel_rfl) h) x hx

noncomputable def c69r1 : Cut SN := { slots := [(0, .dat (.int .i32)), (3, .dat .bool)], objs := [] }
noncomputable def c69r3 : Cut SN := { slots := [(10, .dat .bool)], objs := [] }
noncomputable def c69z : Cut SN := { slots := [(2, .dat .bool)], objs := [] }
noncomputable def sh69 : Shape vw := { exits := fun _ => { slots := [], objs := [] }, rcut := c69z }
noncomputable def sig69 : Sig vw := { params := [.dat (.int .i32)], objs := [], rcut := c69z, rvars := [.tmp 2], keep := [] }
noncomputable def n_69 (v : Int × Unit) : Option (Bool × Unit) :=
  (if decide ((0 : Int) ≤ v.fst) = true then
      some ((v.fst, decide (v.fst < (55296 : Int)), ()))
    else some ((v.fst, false, ()))) >>= fun x1 =>
  if x1.snd.fst = true then
    some ((true, ()))
  else (if decide ((57343 : Int) < x1.fst) = true then
      some ((decide (x1.fst ≤ (1114111 : Int)), ()))
    else some ((false, ()))) >>= fun x2 =>
  if x2.fst = true then
    some ((true, ()))
  else some ((false, ()))
noncomputable def call69 : Caller vw := fun _ _ _ _ _ => none
noncomputable def x69 : Xc vw := { P := Tryd.prog, n := 17, nm := id, call := call69, pre := fun _ => false, sh := sh69, joins := fun _ => none, regs := fun k => match k with | 1 => some c69r1 | 3 => some c69r3 | _ => none, loops := fun _ => none }
theorem call69_ok : CallerOk Tryd.prog call69 := call_none
theorem n_69_ok : SigOk Tryd.prog 69 sig69 n_69 := fun v r x h hx =>
  fn_ok (X := x69) (sig := sig69) rfl Tryd.func69 (c := bodyOf Tryd.f69) (by kernel_rfl) Tryd.ntmps69 (by kernel_rfl) (by kernel_rfl) rfl Ty.mixed call69_ok rfl (fun C hP hN => (lok_all (X := x69) (c := (bodyOf Tryd.f69)) (kcast (by kernel_rfl : True = AllB (LoopsP C (x69)) (loopsIn (bodyOf Tryd.f69))) trivial))) (kcast (by kernel_rfl) h) x hx

noncomputable def c71l5 : Cut SN := { slots := [(0, .dat .str), (7, .dat .str), (8, .dat (.int .i64)), (9, .dat (.int .i64))], objs := [] }
noncomputable def c71l12 : Cut SN := { slots := [(0, .dat .str), (7, .dat .str), (8, .dat (.int .i64)), (9, .dat (.int .i64)), (12, .dat (.int .i64))], objs := [] }
noncomputable def c71l38 : Cut SN := { slots := [(175, .bp 175 0)], objs := [(175, .iter)] }
noncomputable def c71j11 : Cut SN := { slots := [(0, .dat .str), (7, .dat .str), (8, .dat (.int .i64)), (9, .dat (.int .i64))], objs := [] }
noncomputable def c71r34 : Cut SN := { slots := [(0, .dat .str), (1, .dat (.int .i32)), (160, .dat .bool)], objs := [] }
noncomputable def c71e1 : Cut SN := { slots := [], objs := [] }
noncomputable def c71e3 : Cut SN := { slots := [(8, .dat (.int .i64)), (9, .dat (.int .i64))], objs := [] }
noncomputable def c71e9 : Cut SN := { slots := [], objs := [] }
noncomputable def c71z : Cut SN := { slots := [(4, .dat (.int .i64))], objs := [] }
noncomputable def sh71 : Shape vw := { exits := fun id => match id with | 1 => c71e1 | 3 => c71e3 | 9 => c71e9 | _ => { slots := [], objs := [] }, rcut := c71z }
noncomputable def sig71 : Sig vw := { params := [.dat .str, .dat (.int .i32)], objs := [], rcut := c71z, rvars := [.tmp 4], keep := [] }
noncomputable def n_71l38 (v : ByteArray × Int × Unit) : Option (((Int × Unit) ⊕ (Unit))) :=
  if (0 : Int) ≤ v.snd.fst then
    if v.snd.fst < (↑v.fst.size : Int) then
      if (Bs.dec v.fst v.snd.fst == (65533 : Int)) = true then
        some (Sum.inl (v.snd.fst, ()))
      else n_71l38 (v.fst, v.snd.fst + Bs.wid v.fst v.snd.fst, ())
    else some (Sum.inr ())
  else none
  partial_fixpoint
noncomputable def n_71l12 (v : ByteArray × ByteArray × Int × Int × Int × Unit) : Option ((Int × Int × Unit)) :=
  if decide (v.snd.snd.snd.snd.fst < (↑v.snd.fst.size : Int)) = true then
    if (0 : Int) ≤ IntKind.i64.wrap (v.snd.snd.snd.fst - v.snd.snd.snd.snd.fst) then
      v.fst[(IntKind.i64.wrap (v.snd.snd.snd.fst - v.snd.snd.snd.snd.fst)).toNat]? >>= fun x1 =>
      if (0 : Int) ≤ IntKind.i64.wrap (v.snd.snd.fst - v.snd.snd.snd.snd.fst) then
        v.snd.fst[(IntKind.i64.wrap (v.snd.snd.fst - v.snd.snd.snd.snd.fst)).toNat]? >>= fun x2 =>
        if ((↑x1.toNat : Int) != (↑x2.toNat : Int)) = true then
          none
        else n_71l12 (v.fst, v.snd.fst, v.snd.snd.fst, v.snd.snd.snd.fst, IntKind.i64.wrap (v.snd.snd.snd.snd.fst + (1 : Int)), ())
      else none
    else none
  else some ((v.snd.snd.fst, v.snd.snd.snd.fst, ()))
  partial_fixpoint
noncomputable def n_71l5 (v : ByteArray × ByteArray × Int × Int × Unit) : Option (((Int × Unit) ⊕ (Unit))) :=
  if decide (v.snd.snd.snd.fst < (↑v.fst.size : Int)) = true then
    (if (0 : Int) ≤ v.snd.snd.snd.fst then
        v.fst[v.snd.snd.snd.fst.toNat]? >>= fun x1 =>
        if (0 : Int) ≤ v.snd.snd.fst then
          v.snd.fst[v.snd.snd.fst.toNat]? >>= fun x2 =>
          if ((↑x1.toNat : Int) != (↑x2.toNat : Int)) = true then
            if (0 : Int) ≤ IntKind.i64.wrap (v.snd.snd.snd.fst + (1 : Int)) ∧ IntKind.i64.wrap (v.snd.snd.snd.fst + (1 : Int)) ≤ (↑v.fst.size : Int) ∧ (↑v.fst.size : Int) ≤ (↑v.fst.size : Int) then
              if (0 : Int) ≤ v.snd.snd.fst then
                v.snd.fst[v.snd.snd.fst.toNat]? >>= fun x3 =>
                n_37 (v.fst.extract (IntKind.i64.wrap (v.snd.snd.snd.fst + (1 : Int))).toNat (↑v.fst.size : Int).toNat, (↑x3.toNat : Int), ()) >>= fun x4 =>
                if decide (x4.fst < (0 : Int)) = true then
                  some (Sum.inr ((-1 : Int), ()))
                else some (Sum.inl (v.fst, v.snd.fst, v.snd.snd.fst, IntKind.i64.wrap (v.snd.snd.snd.fst + IntKind.i64.wrap (x4.fst + (1 : Int))), ()))
              else none
            else none
          else some (Sum.inl (v.fst, v.snd.fst, v.snd.snd.fst, v.snd.snd.snd.fst, ()))
        else none
      else none) >>= fun x1 => match x1 with
      | .inl y1 => n_71l12 (y1.fst, y1.snd.fst, y1.snd.snd.fst, y1.snd.snd.snd.fst, (1 : Int), ()) >>= fun x2 =>
        some (Sum.inl (IntKind.i64.wrap (x2.snd.fst - x2.fst), ()))
      | .inr y1 => some (Sum.inl y1)
  else some (Sum.inr ())
noncomputable def n_71 (v : ByteArray × Int × Unit) : Option (Int × Unit) :=
  (if decide ((0 : Int) ≤ v.snd.fst) = true then
      some ((v.fst, v.snd.fst, decide (v.snd.fst < (128 : Int)), ()))
    else some ((v.fst, v.snd.fst, false, ()))) >>= fun x1 =>
  if x1.snd.snd.fst = true then
    n_37 (x1.fst, IntKind.u8.wrap x1.snd.fst, ()) >>= fun x2 =>
    some ((x2.fst, ()))
  else if (x1.snd.fst == (65533 : Int)) = true then
    n_71l38 (x1.fst, (0 : Int), ()) >>= fun x2 => match x2 with
      | .inl y2 => some y2
      | .inr y2 => some (((-1 : Int), ()))
  else n_69 (x1.snd.fst, ()) >>= fun x2 =>
  if (!x2.fst) = true then
    some (((-1 : Int), ()))
  else n_71l5 (x1.fst, Bs.enc1 x1.snd.fst, IntKind.i64.wrap ((↑(Bs.enc1 x1.snd.fst).size : Int) - (1 : Int)), IntKind.i64.wrap ((↑(Bs.enc1 x1.snd.fst).size : Int) - (1 : Int)), ()) >>= fun x3 => match x3 with
    | .inl y3 => some y3
    | .inr y3 => some (((-1 : Int), ()))
noncomputable def call71 : Caller vw := fun A fid args S k => match fid with | 37 => callPure Tryd.prog sig37 n_37 A args S k | 69 => callPure Tryd.prog sig69 n_69 A args S k | _ => none
noncomputable def x71 : Xc vw := { P := Tryd.prog, n := 187, nm := id, call := call71, pre := fun _ => false, sh := sh71, joins := fun k => match k with | 11 => some (c71j11, [.norm, .ret]) | _ => none, regs := fun k => match k with | 34 => some c71r34 | _ => none, loops := fun k => match k with | 5 => some { cut := c71l5, alts := [.ret, .exit 1], F := n_71l5 } | 12 => some { cut := c71l12, alts := [.exit 3], F := n_71l12 } | 38 => some { cut := c71l38, alts := [.ret, .exit 9], F := n_71l38 } | _ => none }
theorem call71_ok : CallerOk Tryd.prog call71 := fun A fid args S dst k r h => by
  unfold call71 at h
  split at h
  · exact callPure_ok (n_37_ok) rfl rfl h
  · exact callPure_ok (n_69_ok) rfl rfl h
  · cases h
theorem n_71l38_ok (C : Ctx) (hP : C.P = Tryd.prog) (hN : C.N = 187) : LoopOk C (loopNo (bodyOf Tryd.f71) 0) (sh := sh71) { cut := c71l38, alts := [.ret, .exit 9], F := n_71l38 } :=
  n_71l38.partial_correctness (motive := fun v out => AWpL C (loopNo (bodyOf Tryd.f71) 0) (encS vw (conc vw c71l38 v)) (OutQ sh71 [.ret, .exit 9] out)) fun F ih v out h =>
    loop_step (X := x71) (b := (loopNo (bodyOf Tryd.f71) 0)) hP hN Ty.mixed call71_ok (lok_all (X := x71) (c := (loopNo (bodyOf Tryd.f71) 0)) (kcast (by kernel_rfl : True = AllB (LoopsP C (x71)) (loopsIn (loopNo (bodyOf Tryd.f71) 0))) trivial)) ih (kcast (by kernel_rfl) h)
theorem n_71l12_ok (C : Ctx) (hP : C.P = Tryd.prog) (hN : C.N = 187) : LoopOk C (loopNo (loopNo (bodyOf Tryd.f71) 1) 0) (sh := sh71) { cut := c71l12, alts := [.exit 3], F := n_71l12 } :=
  n_71l12.partial_correctness (motive := fun v out => AWpL C (loopNo (loopNo (bodyOf Tryd.f71) 1) 0) (encS vw (conc vw c71l12 v)) (OutQ sh71 [.exit 3] out)) fun F ih v out h =>
    loop_step (X := x71) (b := (loopNo (loopNo (bodyOf Tryd.f71) 1) 0)) hP hN Ty.mixed call71_ok (lok_all (X := x71) (c := (loopNo (loopNo (bodyOf Tryd.f71) 1) 0)) (kcast (by kernel_rfl : True = AllB (LoopsP C (x71)) (loopsIn (loopNo (loopNo (bodyOf Tryd.f71) 1) 0))) trivial)) ih (kcast (by kernel_rfl) h)
theorem n_71l5_ok (C : Ctx) (hP : C.P = Tryd.prog) (hN : C.N = 187) : LoopOk C (loopNo (bodyOf Tryd.f71) 1) (sh := sh71) { cut := c71l5, alts := [.ret, .exit 1], F := n_71l5 } :=
  fun v out h => loop_step (X := x71) (b := (loopNo (bodyOf Tryd.f71) 1)) hP hN Ty.mixed call71_ok (lok_all (X := x71) (c := (loopNo (bodyOf Tryd.f71) 1)) (kcast (by kernel_rfl : AllB (LoopsP C (x71)) [(loopNo (loopNo (bodyOf Tryd.f71) 1) 0)] = AllB (LoopsP C (x71)) (loopsIn (loopNo (bodyOf Tryd.f71) 1))) ⟨loop_at (X := x71) (b := (loopNo (loopNo (bodyOf Tryd.f71) 1) 0)) (by kernel_rfl) (n_71l12_ok C hP hN), trivial⟩)) (F := fun _ => none) (fun _ _ h => by cases h) (kcast (by kernel_rfl) h)
theorem n_71_ok : SigOk Tryd.prog 71 sig71 n_71 := fun v r x h hx =>
  fn_ok (X := x71) (sig := sig71) rfl Tryd.func71 (c := bodyOf Tryd.f71) (by kernel_rfl) Tryd.ntmps71 (by kernel_rfl) (by kernel_rfl) rfl Ty.mixed call71_ok rfl (fun C hP hN => (lok_all (X := x71) (c := (bodyOf Tryd.f71)) (kcast (by kernel_rfl : AllB (LoopsP C (x71)) [(loopNo (bodyOf Tryd.f71) 0), (loopNo (bodyOf Tryd.f71) 1), (loopNo (bodyOf Tryd.f71) 2)] = AllB (LoopsP C (x71)) (loopsIn (bodyOf Tryd.f71))) ⟨loop_at (X := x71) (b := (loopNo (bodyOf Tryd.f71) 0)) (by kernel_rfl) (n_71l38_ok C hP hN), loop_at (X := x71) (b := (loopNo (bodyOf Tryd.f71) 1)) (by kernel_rfl) (n_71l5_ok C hP hN), loop_dead (X := x71) (b := (loopNo (bodyOf Tryd.f71) 2)) (by kernel_rfl), trivial⟩))) (kcast (by kernel_rfl) h) x hx

noncomputable def c72z : Cut SN := { slots := [(2, .dat .bool)], objs := [] }
noncomputable def sh72 : Shape vw := { exits := fun _ => { slots := [], objs := [] }, rcut := c72z }
noncomputable def sig72 : Sig vw := { params := [.dat (.int .i64)], objs := [], rcut := c72z, rvars := [.tmp 2], keep := [] }
noncomputable def n_72 (v : Int × Unit) : Option (Bool × Unit) :=
  some ((decide (v.fst > (8 : Int)), ()))
noncomputable def call72 : Caller vw := fun _ _ _ _ _ => none
noncomputable def x72 : Xc vw := { P := Tryd.prog, n := 5, nm := id, call := call72, pre := fun _ => false, sh := sh72, joins := fun _ => none, regs := fun _ => none, loops := fun _ => none }
theorem call72_ok : CallerOk Tryd.prog call72 := call_none
theorem n_72_ok : SigOk Tryd.prog 72 sig72 n_72 := fun v r x h hx =>
  fn_ok (X := x72) (sig := sig72) rfl Tryd.func72 (c := bodyOf Tryd.f72) (by kernel_rfl) Tryd.ntmps72 (by kernel_rfl) (by kernel_rfl) rfl Ty.mixed call72_ok rfl (fun C hP hN => (lok_all (X := x72) (c := (bodyOf Tryd.f72)) (kcast (by kernel_rfl : True = AllB (LoopsP C (x72)) (loopsIn (bodyOf Tryd.f72))) trivial))) (kcast (by kernel_rfl) h) x hx

noncomputable def c56l18 : Cut SN := { slots := [(1, .dat .str), (45, .bp 45 0)], objs := [(45, .iter)] }
noncomputable def c56j7 : Cut SN := { slots := [(0, .dat .str), (5, .dat (.int .i32))], objs := [] }
noncomputable def c56e2 : Cut SN := { slots := [], objs := [] }
noncomputable def c56z : Cut SN := { slots := [(4, .dat (.int .i64))], objs := [] }
noncomputable def sh56 : Shape vw := { exits := fun id => match id with | 2 => c56e2 | _ => { slots := [], objs := [] }, rcut := c56z }
noncomputable def sig56 : Sig vw := { params := [.dat .str, .dat .str], objs := [], rcut := c56z, rvars := [.tmp 4], keep := [] }
noncomputable def n_56l18 (v : ByteArray × ByteArray × Int × Unit) : Option (((Int × Unit) ⊕ (Unit))) :=
  if (0 : Int) ≤ v.snd.snd.fst then
    if v.snd.snd.fst < (↑v.snd.fst.size : Int) then
      n_71 (v.fst, Bs.dec v.snd.fst v.snd.snd.fst, ()) >>= fun x1 =>
      if decide (x1.fst ≥ (0 : Int)) = true then
        some (Sum.inl (v.snd.snd.fst, ()))
      else n_56l18 (v.fst, v.snd.fst, v.snd.snd.fst + Bs.wid v.snd.fst v.snd.snd.fst, ())
    else some (Sum.inr ())
  else none
  partial_fixpoint
noncomputable def n_56x (v : ByteArray × ByteArray × Unit) : Option (Int × Unit) :=
  if (v.snd.fst.toList == (ByteArray.mk #[]).toList) = true then
    some (((-1 : Int), ()))
  else if ((↑v.snd.fst.size : Int) == (1 : Int)) = true then
    v.snd.fst[Int.toNat (0 : Int)]? >>= fun x1 =>
    (if decide (IntKind.i32.wrap (↑x1.toNat : Int) ≥ (128 : Int)) = true then
        some ((v.fst, (65533 : Int), ()))
      else some ((v.fst, IntKind.i32.wrap (↑x1.toNat : Int), ()))) >>= fun x2 =>
    n_71 (x2.fst, x2.snd.fst, ()) >>= fun x3 =>
    some ((x3.fst, ()))
  else n_72 ((↑v.fst.size : Int), ()) >>= fun x1 =>
  if x1.fst = true then
    none
  else n_56l18 (v.snd.fst, v.fst, (0 : Int), ()) >>= fun x2 => match x2 with
    | .inl y2 => some y2
    | .inr y2 => some (((-1 : Int), ()))
noncomputable def call56 : Caller vw := fun A fid args S k => match fid with | 71 => callPure Tryd.prog sig71 n_71 A args S k | 72 => callPure Tryd.prog sig72 n_72 A args S k | _ => none
noncomputable def x56 : Xc vw := { P := Tryd.prog, n := 55, nm := id, call := call56, pre := fun _ => false, sh := sh56, joins := fun k => match k with | 7 => some (c56j7, [.norm]) | _ => none, regs := fun _ => none, loops := fun k => match k with | 18 => some { cut := c56l18, alts := [.ret, .exit 2], F := n_56l18 } | _ => none }
theorem call56_ok : CallerOk Tryd.prog call56 := fun A fid args S dst k r h => by
  unfold call56 at h
  split at h
  · exact callPure_ok (n_71_ok) rfl rfl h
  · exact callPure_ok (n_72_ok) rfl rfl h
  · cases h
theorem n_56l18_ok (C : Ctx) (hP : C.P = Tryd.prog) (hN : C.N = 55) : LoopOk C (loopNo (bodyOf Tryd.f56) 1) (sh := sh56) { cut := c56l18, alts := [.ret, .exit 2], F := n_56l18 } :=
  n_56l18.partial_correctness (motive := fun v out => AWpL C (loopNo (bodyOf Tryd.f56) 1) (encS vw (conc vw c56l18 v)) (OutQ sh56 [.ret, .exit 2] out)) fun F ih v out h =>
    loop_step (X := x56) (b := (loopNo (bodyOf Tryd.f56) 1)) hP hN Ty.mixed call56_ok (lok_all (X := x56) (c := (loopNo (bodyOf Tryd.f56) 1)) (kcast (by kernel_rfl : True = AllB (LoopsP C (x56)) (loopsIn (loopNo (bodyOf Tryd.f56) 1))) trivial)) ih (kcast (by kernel_rfl) h)
theorem n_56x_ok : SigOk Tryd.prog 56 sig56 n_56x := fun v r x h hx =>
  fn_ok (X := x56) (sig := sig56) rfl Tryd.func56 (c := bodyOf Tryd.f56) (by kernel_rfl) Tryd.ntmps56 (by kernel_rfl) (by kernel_rfl) rfl Ty.mixed call56_ok rfl (fun C hP hN => (lok_all (X := x56) (c := (bodyOf Tryd.f56)) (kcast (by kernel_rfl : AllB (LoopsP C (x56)) [(loopNo (bodyOf Tryd.f56) 0), (loopNo (bodyOf Tryd.f56) 1)] = AllB (LoopsP C (x56)) (loopsIn (bodyOf Tryd.f56))) ⟨loop_dead (X := x56) (b := (loopNo (bodyOf Tryd.f56) 0)) (by kernel_rfl), loop_at (X := x56) (b := (loopNo (bodyOf Tryd.f56) 1)) (by kernel_rfl) (n_56l18_ok C hP hN), trivial⟩))) (kcast (by kernel_rfl) h) x hx
noncomputable def n_56 (v : ByteArray × ByteArray × Unit) : Option (Int × Unit) :=
  if v.1.size < 4294967281 ∧ 8 < v.1.size ∧ v.2.1 = ByteArray.mk #[123, 125] then some (Lib.indexAny v.1.data.toList v.2.1.data.toList, ()) else n_56x v
theorem n_56_ok : SigOk Tryd.prog 56 sig56 n_56 := fun v r x h hx => by
  unfold n_56 at h
  split at h
  · rename_i hc
    obtain ⟨s, c, u⟩ := v
    obtain ⟨h1, h2, h3⟩ := hc
    simp only at h1 h2 h3
    subst h3
    cases h; cases hx
    exact kcast (by kernel_rfl) (FnOk.pure (P := Tryd.prog) (f := 56) (args := [.d (.v (.string s)), .d (.v (.string (ByteArray.mk #[123, 125])))]) (r := .d (.v (.int .i64 (Lib.indexAny s.data.toList [123, 125])))) (by kernel_rfl) fun E M w vs _ _ hv => by
      obtain ⟨v1, v2, rfl, h5, h6⟩ := hreps_two hv
      rw [h5.dv, h6.dv]
      refine (Tryd.strings_IndexAny_long (fun w => by kernel_rfl) s (ByteArray.mk #[123, 125]) w (by decide) h2 h1 (by decide) (fun j b hb => ?_)).mono fun e w' ⟨he, hw⟩ => ⟨_, he, .d (.v _), ?_⟩
      · match j with
        | 0 => simp at hb; subst hb; decide
        | 1 => simp at hb; subst hb; decide
        | j + 2 => simp at hb
      · subst hw; exact below_two _ _ _)
  · exact n_56x_ok v r x h hx

noncomputable def c75r1 : Cut SN := { slots := [(4, .dat .bool)], objs := [] }
noncomputable def c75z : Cut SN := { slots := [(4, .dat .bool)], objs := [] }
noncomputable def sh75 : Shape vw := { exits := fun _ => { slots := [], objs := [] }, rcut := c75z }
noncomputable def sig75 : Sig vw := { params := [.dat .str, .dat .str], objs := [], rcut := c75z, rvars := [.tmp 4], keep := [] }
noncomputable def n_75 (v : ByteArray × ByteArray × Unit) : Option (Bool × Unit) :=
  (if decide ((↑v.fst.size : Int) ≥ (↑v.snd.fst.size : Int)) = true then
      if (0 : Int) ≤ (0 : Int) ∧ (0 : Int) ≤ (↑v.snd.fst.size : Int) ∧ (↑v.snd.fst.size : Int) ≤ (↑v.fst.size : Int) then
        some (((v.fst.extract (Int.toNat (0 : Int)) (↑v.snd.fst.size : Int).toNat).toList == v.snd.fst.toList, ()))
      else none
    else some ((false, ()))) >>= fun x1 =>
  some ((x1.fst, ()))
noncomputable def call75 : Caller vw := fun _ _ _ _ _ => none
noncomputable def x75 : Xc vw := { P := Tryd.prog, n := 18, nm := id, call := call75, pre := fun _ => false, sh := sh75, joins := fun _ => none, regs := fun k => match k with | 1 => some c75r1 | _ => none, loops := fun _ => none }
theorem call75_ok : CallerOk Tryd.prog call75 := call_none
theorem n_75_ok : SigOk Tryd.prog 75 sig75 n_75 := fun v r x h hx =>
  fn_ok (X := x75) (sig := sig75) rfl Tryd.func75 (c := bodyOf Tryd.f75) (by kernel_rfl) Tryd.ntmps75 (by kernel_rfl) (by kernel_rfl) rfl Ty.mixed call75_ok rfl (fun C hP hN => (lok_all (X := x75) (c := (bodyOf Tryd.f75)) (kcast (by kernel_rfl : True = AllB (LoopsP C (x75)) (loopsIn (bodyOf Tryd.f75))) trivial))) (kcast (by kernel_rfl) h) x hx

noncomputable def c57z : Cut SN := { slots := [(4, .dat .bool)], objs := [] }
noncomputable def sh57 : Shape vw := { exits := fun _ => { slots := [], objs := [] }, rcut := c57z }
noncomputable def sig57 : Sig vw := { params := [.dat .str, .dat .str], objs := [], rcut := c57z, rvars := [.tmp 4], keep := [] }
noncomputable def n_57 (v : ByteArray × ByteArray × Unit) : Option (Bool × Unit) :=
  n_75 (v.fst, v.snd.fst, ()) >>= fun x1 =>
  some ((x1.fst, ()))
noncomputable def call57 : Caller vw := fun A fid args S k => match fid with | 75 => callPure Tryd.prog sig75 n_75 A args S k | _ => none
noncomputable def x57 : Xc vw := { P := Tryd.prog, n := 8, nm := id, call := call57, pre := fun _ => false, sh := sh57, joins := fun _ => none, regs := fun _ => none, loops := fun _ => none }
theorem call57_ok : CallerOk Tryd.prog call57 := fun A fid args S dst k r h => by
  unfold call57 at h
  split at h
  · exact callPure_ok (n_75_ok) rfl rfl h
  · cases h
theorem n_57_ok : SigOk Tryd.prog 57 sig57 n_57 := fun v r x h hx =>
  fn_ok (X := x57) (sig := sig57) rfl Tryd.func57 (c := bodyOf Tryd.f57) (by kernel_rfl) Tryd.ntmps57 (by kernel_rfl) (by kernel_rfl) rfl Ty.mixed call57_ok rfl (fun C hP hN => (lok_all (X := x57) (c := (bodyOf Tryd.f57)) (kcast (by kernel_rfl : True = AllB (LoopsP C (x57)) (loopsIn (bodyOf Tryd.f57))) trivial))) (kcast (by kernel_rfl) h) x hx

noncomputable def c58l11 : Cut SN := { slots := [(0, .dat .str), (2, .bp 2 0), (5, .bp 5 0), (6, .dat (.int .i64)), (7, .dat (.int .i64))], objs := [(2, .st .pieceT), (5, .st .pieceT)] }
noncomputable def c58j10 : Cut SN := { slots := [(0, .dat .str), (2, .bp 2 0), (5, .bp 5 0), (6, .dat (.int .i64))], objs := [(2, .st .pieceT), (5, .st .pieceT)] }
noncomputable def c58j16 : Cut SN := { slots := [(0, .dat .str), (2, .bp 2 0), (5, .bp 5 0), (6, .dat (.int .i64))], objs := [(2, .st .pieceT), (5, .st .pieceT)] }
noncomputable def c58r1 : Cut SN := { slots := [(0, .dat .str), (2, .bp 2 0), (15, .dat .bool)], objs := [(2, .st .pieceT)] }
noncomputable def c58r7 : Cut SN := { slots := [(0, .dat .str), (2, .bp 2 0), (5, .bp 5 0), (6, .dat (.int .i64)), (36, .dat .bool)], objs := [(2, .st .pieceT), (5, .st .pieceT)] }
noncomputable def c58r11 : Cut SN := { slots := [(0, .dat .str), (2, .bp 2 0), (5, .bp 5 0), (6, .dat (.int .i64)), (7, .dat (.int .i64)), (65, .dat .bool)], objs := [(2, .st .pieceT), (5, .st .pieceT)] }
noncomputable def c58r14 : Cut SN := { slots := [(0, .dat .str), (2, .bp 2 0), (5, .bp 5 0), (6, .dat (.int .i64)), (86, .dat .bool)], objs := [(2, .st .pieceT), (5, .st .pieceT)] }
noncomputable def c58e0 : Cut SN := { slots := [(0, .dat .str), (2, .bp 2 0), (5, .bp 5 0), (6, .dat (.int .i64)), (7, .dat (.int .i64))], objs := [(2, .st .pieceT), (5, .st .pieceT)] }
noncomputable def c58z : Cut SN := { slots := [(2, .bp 2 0), (3, .dat (.int .i64)), (4, .dat .bool)], objs := [(2, .st .pieceT)] }
noncomputable def sh58 : Shape vw := { exits := fun id => match id with | 0 => c58e0 | _ => { slots := [], objs := [] }, rcut := c58z }
noncomputable def sig58 : Sig vw := { params := [.dat .str], objs := [], rcut := c58z, rvars := [.cell 2 57, .tmp 3, .tmp 4], keep := [] }
noncomputable def n_58l11 (v : ByteArray × Int × Int × Piece × Piece × Unit) : Option ((ByteArray × Int × Int × Piece × Piece × Unit)) :=
  (if decide (v.snd.fst < (↑v.fst.size : Int)) = true then
      if (0 : Int) ≤ v.snd.fst then
        v.fst[v.snd.fst.toNat]? >>= fun x1 =>
        if decide ((↑x1.toNat : Int) ≥ (48 : Int)) = true then
          if (0 : Int) ≤ v.snd.fst then
            v.fst[v.snd.fst.toNat]? >>= fun x2 =>
            if decide ((↑x2.toNat : Int) ≤ (57 : Int)) = true then
              some ((v.fst, v.snd.fst, v.snd.snd.fst, decide (v.snd.fst < IntKind.i64.wrap (v.snd.snd.fst + (2 : Int))), v.snd.snd.snd.fst, v.snd.snd.snd.snd.fst, ()))
            else some ((v.fst, v.snd.fst, v.snd.snd.fst, false, v.snd.snd.snd.fst, v.snd.snd.snd.snd.fst, ()))
          else none
        else some ((v.fst, v.snd.fst, v.snd.snd.fst, false, v.snd.snd.snd.fst, v.snd.snd.snd.snd.fst, ()))
      else none
    else some ((v.fst, v.snd.fst, v.snd.snd.fst, false, v.snd.snd.snd.fst, v.snd.snd.snd.snd.fst, ()))) >>= fun x1 =>
  if x1.snd.snd.snd.fst = true then
    if (0 : Int) ≤ x1.snd.fst then
      x1.fst[x1.snd.fst.toNat]? >>= fun x2 =>
      n_58l11 (x1.fst, IntKind.i64.wrap (x1.snd.fst + (1 : Int)), x1.snd.snd.fst, x1.snd.snd.snd.snd.fst, Piece.mk x1.snd.snd.snd.snd.snd.fst.text x1.snd.snd.snd.snd.snd.fst.letter x1.snd.snd.snd.snd.snd.fst.side (IntKind.i64.wrap (IntKind.i64.wrap ((10 : Int) * x1.snd.snd.snd.snd.snd.fst.width) + IntKind.i64.wrap (IntKind.u8.wrap ((↑x2.toNat : Int) - (48 : Int))))), ())
    else none
  else some ((x1.fst, x1.snd.fst, x1.snd.snd.fst, x1.snd.snd.snd.snd.fst, x1.snd.snd.snd.snd.snd.fst, ()))
  partial_fixpoint
noncomputable def n_58 (v : ByteArray × Unit) : Option (Int × Bool × Piece × Unit) :=
  (if (v.fst.toList == (ByteArray.mk #[]).toList) = true then
      some ((v.fst, true, Piece.mk (ByteArray.mk #[]) (0 : Int) (0 : Int) (0 : Int), ()))
    else v.fst[Int.toNat (0 : Int)]? >>= fun x1 =>
    n_37 (ByteArray.mk #[(100 : UInt8), (120 : UInt8), (98 : UInt8), (115 : UInt8), (116 : UInt8), (99 : UInt8), (106 : UInt8)], (↑x1.toNat : Int), ()) >>= fun x2 =>
    some ((v.fst, decide (x2.fst < (0 : Int)), Piece.mk (ByteArray.mk #[]) (0 : Int) (0 : Int) (0 : Int), ()))) >>= fun x1 =>
  if x1.snd.fst = true then
    some (((0 : Int), false, Piece.mk (ByteArray.mk #[]) (0 : Int) (0 : Int) (0 : Int), ()))
  else x1.fst[Int.toNat (0 : Int)]? >>= fun x2 =>
  (if (0 : Int) ≤ (1 : Int) ∧ (1 : Int) ≤ (↑x1.fst.size : Int) ∧ (↑x1.fst.size : Int) ≤ (↑x1.fst.size : Int) then
      n_57 (x1.fst.extract (Int.toNat (1 : Int)) (↑x1.fst.size : Int).toNat, ByteArray.mk #[(58 : UInt8)], ()) >>= fun x3 =>
      if x3.fst = true then
        ((if decide (IntKind.i64.wrap ((1 : Int) + (1 : Int)) < (↑x1.fst.size : Int)) = true then
              x1.fst[(IntKind.i64.wrap ((1 : Int) + (1 : Int))).toNat]? >>= fun x4 =>
              n_37 (ByteArray.mk #[(60 : UInt8), (62 : UInt8), (94 : UInt8)], (↑x4.toNat : Int), ()) >>= fun x5 =>
              some ((x1.fst, IntKind.i64.wrap ((1 : Int) + (1 : Int)), decide (x5.fst ≥ (0 : Int)), x1.snd.snd.fst, Piece.mk (ByteArray.mk #[]) (↑x2.toNat : Int) (0 : Int) (0 : Int), ()))
            else some ((x1.fst, IntKind.i64.wrap ((1 : Int) + (1 : Int)), false, x1.snd.snd.fst, Piece.mk (ByteArray.mk #[]) (↑x2.toNat : Int) (0 : Int) (0 : Int), ()))) >>= fun x4 =>
          if x4.snd.snd.fst = true then
            if (0 : Int) ≤ x4.snd.fst then
              x4.fst[x4.snd.fst.toNat]? >>= fun x5 =>
              some ((x4.fst, IntKind.i64.wrap (x4.snd.fst + (1 : Int)), x4.snd.snd.snd.fst, Piece.mk x4.snd.snd.snd.snd.fst.text x4.snd.snd.snd.snd.fst.letter (↑x5.toNat : Int) x4.snd.snd.snd.snd.fst.width, ()))
            else none
          else some ((x4.fst, x4.snd.fst, x4.snd.snd.snd.fst, x4.snd.snd.snd.snd.fst, ()))) >>= fun x4 =>
        n_58l11 (x4.fst, x4.snd.fst, x4.snd.fst, x4.snd.snd.fst, x4.snd.snd.snd.fst, ()) >>= fun x5 =>
        (if (x5.snd.fst == x5.snd.snd.fst) = true then
            some ((x5.fst, x5.snd.fst, true, x5.snd.snd.snd.fst, x5.snd.snd.snd.snd.fst, ()))
          else if (0 : Int) ≤ x5.snd.snd.fst then
            x5.fst[x5.snd.snd.fst.toNat]? >>= fun x6 =>
            some ((x5.fst, x5.snd.fst, (↑x6.toNat : Int) == (48 : Int), x5.snd.snd.snd.fst, x5.snd.snd.snd.snd.fst, ()))
          else none) >>= fun x6 =>
        if x6.snd.snd.fst = true then
          some (Sum.inr ((0 : Int), false, Piece.mk (ByteArray.mk #[]) (0 : Int) (0 : Int) (0 : Int), ()))
        else some (Sum.inl (x6.fst, x6.snd.fst, x6.snd.snd.snd.fst, x6.snd.snd.snd.snd.fst, ()))
      else some (Sum.inl (x1.fst, (1 : Int), x1.snd.snd.fst, Piece.mk (ByteArray.mk #[]) (↑x2.toNat : Int) (0 : Int) (0 : Int), ()))
    else none) >>= fun x3 => match x3 with
    | .inl y3 => if (0 : Int) ≤ y3.snd.fst ∧ y3.snd.fst ≤ (↑y3.fst.size : Int) ∧ (↑y3.fst.size : Int) ≤ (↑y3.fst.size : Int) then
        n_57 (y3.fst.extract y3.snd.fst.toNat (↑y3.fst.size : Int).toNat, ByteArray.mk #[(125 : UInt8)], ()) >>= fun x4 =>
        if (!x4.fst) = true then
          some (((0 : Int), false, Piece.mk (ByteArray.mk #[]) (0 : Int) (0 : Int) (0 : Int), ()))
        else some ((IntKind.i64.wrap (y3.snd.fst + (1 : Int)), true, y3.snd.snd.snd.fst, ()))
      else none
    | .inr y3 => some y3
noncomputable def call58 : Caller vw := fun A fid args S k => match fid with | 37 => callPure Tryd.prog sig37 n_37 A args S k | 57 => callPure Tryd.prog sig57 n_57 A args S k | _ => none
noncomputable def x58 : Xc vw := { P := Tryd.prog, n := 97, nm := id, call := call58, pre := fun _ => false, sh := sh58, joins := fun k => match k with | 10 => some (c58j10, [.norm]) | 16 => some (c58j16, [.norm, .ret]) | _ => none, regs := fun k => match k with | 1 => some c58r1 | 7 => some c58r7 | 11 => some c58r11 | 14 => some c58r14 | _ => none, loops := fun k => match k with | 11 => some { cut := c58l11, alts := [.exit 0], F := n_58l11 } | _ => none }
theorem call58_ok : CallerOk Tryd.prog call58 := fun A fid args S dst k r h => by
  unfold call58 at h
  split at h
  · exact callPure_ok (n_37_ok) rfl rfl h
  · exact callPure_ok (n_57_ok) rfl rfl h
  · cases h
theorem n_58l11_ok (C : Ctx) (hP : C.P = Tryd.prog) (hN : C.N = 97) : LoopOk C (loopNo (bodyOf Tryd.f58) 0) (sh := sh58) { cut := c58l11, alts := [.exit 0], F := n_58l11 } :=
  n_58l11.partial_correctness (motive := fun v out => AWpL C (loopNo (bodyOf Tryd.f58) 0) (encS vw (conc vw c58l11 v)) (OutQ sh58 [.exit 0] out)) fun F ih v out h =>
    loop_step (X := x58) (b := (loopNo (bodyOf Tryd.f58) 0)) hP hN Ty.mixed call58_ok (lok_all (X := x58) (c := (loopNo (bodyOf Tryd.f58) 0)) (kcast (by kernel_rfl : True = AllB (LoopsP C (x58)) (loopsIn (loopNo (bodyOf Tryd.f58) 0))) trivial)) ih (kcast (by kernel_rfl) h)
theorem n_58_ok : SigOk Tryd.prog 58 sig58 n_58 := fun v r x h hx =>
  fn_ok (X := x58) (sig := sig58) rfl Tryd.func58 (c := bodyOf Tryd.f58) (by kernel_rfl) Tryd.ntmps58 (by kernel_rfl) (by kernel_rfl) rfl Ty.mixed call58_ok rfl (fun C hP hN => (lok_all (X := x58) (c := (bodyOf Tryd.f58)) (kcast (by kernel_rfl : AllB (LoopsP C (x58)) [(loopNo (bodyOf Tryd.f58) 0)] = AllB (LoopsP C (x58)) (loopsIn (bodyOf Tryd.f58))) ⟨loop_at (X := x58) (b := (loopNo (bodyOf Tryd.f58) 0)) (by kernel_rfl) (n_58l11_ok C hP hN), trivial⟩))) (kcast (by kernel_rfl) h) x hx

noncomputable def c29l4 : Cut SN := { slots := [(0, .dat .str), (4, .vh 1004)], objs := [(1004, .vec 57 (.st .pieceT))] }
noncomputable def c29j8 : Cut SN := { slots := [(0, .dat .str), (4, .vh 1004), (5, .dat (.int .i64))], objs := [(1004, .vec 57 (.st .pieceT))] }
noncomputable def c29r11 : Cut SN := { slots := [(0, .dat .str), (4, .vh 1004), (37, .dat .bool)], objs := [(1004, .vec 57 (.st .pieceT))] }
noncomputable def c29r15 : Cut SN := { slots := [(0, .dat .str), (4, .vh 1004), (6, .bp 6 0), (7, .dat (.int .i64)), (59, .dat .bool)], objs := [(1004, .vec 57 (.st .pieceT)), (6, .st .pieceT)] }
noncomputable def c29e0 : Cut SN := { slots := [(4, .vh 1004)], objs := [(1004, .vec 57 (.st .pieceT))] }
noncomputable def c29z : Cut SN := { slots := [(2, .dat (.sl (.st .pieceT))), (3, .dat (.int .i64))], objs := [] }
noncomputable def sh29 : Shape vw := { exits := fun id => match id with | 0 => c29e0 | _ => { slots := [], objs := [] }, rcut := c29z }
noncomputable def sig29 : Sig vw := { params := [.dat .str], objs := [], rcut := c29z, rvars := [.tmp 2, .tmp 3], keep := [] }
noncomputable def n_29l4 (v : ByteArray × (List Piece) × Unit) : Option ((((List Piece) × Int × Unit) ⊕ ((List Piece) × Unit))) :=
  if (!v.fst.toList == (ByteArray.mk #[]).toList) = true then
    n_56 (v.fst, ByteArray.mk #[(123 : UInt8), (125 : UInt8)], ()) >>= fun x1 =>
    (if decide (x1.fst < (0 : Int)) = true then
        some ((v.fst, (↑v.fst.size : Int), v.snd.fst, ()))
      else some ((v.fst, x1.fst, v.snd.fst, ()))) >>= fun x2 =>
    if decide (x2.snd.fst > (0 : Int)) = true then
      if (0 : Int) ≤ (0 : Int) ∧ (0 : Int) ≤ x2.snd.fst ∧ x2.snd.fst ≤ (↑x2.fst.size : Int) then
        if x2.snd.snd.fst.length + [Piece.mk (x2.fst.extract (Int.toNat (0 : Int)) x2.snd.fst.toNat) (0 : Int) (0 : Int) (0 : Int)].length ≤ (4294967296 : Nat) then
          if (0 : Int) ≤ x2.snd.fst ∧ x2.snd.fst ≤ (↑x2.fst.size : Int) ∧ (↑x2.fst.size : Int) ≤ (↑x2.fst.size : Int) then
            n_29l4 (x2.fst.extract x2.snd.fst.toNat (↑x2.fst.size : Int).toNat, x2.snd.snd.fst ++ [Piece.mk (x2.fst.extract (Int.toNat (0 : Int)) x2.snd.fst.toNat) (0 : Int) (0 : Int) (0 : Int)], ())
          else none
        else none
      else none
    else (n_57 (x2.fst, ByteArray.mk #[(123 : UInt8), (123 : UInt8)], ()) >>= fun x3 =>
      if x3.fst = true then
        some ((x2.fst, true, x2.snd.snd.fst, ()))
      else n_57 (x2.fst, ByteArray.mk #[(125 : UInt8), (125 : UInt8)], ()) >>= fun x4 =>
      some ((x2.fst, x4.fst, x2.snd.snd.fst, ()))) >>= fun x3 =>
    if x3.snd.fst = true then
      if (0 : Int) ≤ (0 : Int) ∧ (0 : Int) ≤ (1 : Int) ∧ (1 : Int) ≤ (↑x3.fst.size : Int) then
        if x3.snd.snd.fst.length + [Piece.mk (x3.fst.extract (Int.toNat (0 : Int)) (Int.toNat (1 : Int))) (0 : Int) (0 : Int) (0 : Int)].length ≤ (4294967296 : Nat) then
          if (0 : Int) ≤ (2 : Int) ∧ (2 : Int) ≤ (↑x3.fst.size : Int) ∧ (↑x3.fst.size : Int) ≤ (↑x3.fst.size : Int) then
            n_29l4 (x3.fst.extract (Int.toNat (2 : Int)) (↑x3.fst.size : Int).toNat, x3.snd.snd.fst ++ [Piece.mk (x3.fst.extract (Int.toNat (0 : Int)) (Int.toNat (1 : Int))) (0 : Int) (0 : Int) (0 : Int)], ())
          else none
        else none
      else none
    else if (0 : Int) ≤ (1 : Int) ∧ (1 : Int) ≤ (↑x3.fst.size : Int) ∧ (↑x3.fst.size : Int) ≤ (↑x3.fst.size : Int) then
      n_58 (x3.fst.extract (Int.toNat (1 : Int)) (↑x3.fst.size : Int).toNat, ()) >>= fun x4 =>
      (if (!x4.snd.fst) = true then
          some ((x3.fst, x4.fst, true, x3.snd.snd.fst, x4.snd.snd.fst, ()))
        else x3.fst[Int.toNat (0 : Int)]? >>= fun x5 =>
        some ((x3.fst, x4.fst, (↑x5.toNat : Int) == (125 : Int), x3.snd.snd.fst, x4.snd.snd.fst, ()))) >>= fun x5 =>
      if x5.snd.snd.fst = true then
        some (Sum.inl ([], (2 : Int), ()))
      else if x5.snd.snd.snd.fst.length + [x5.snd.snd.snd.snd.fst].length ≤ (4294967296 : Nat) then
        if (0 : Int) ≤ IntKind.i64.wrap ((1 : Int) + x5.snd.fst) ∧ IntKind.i64.wrap ((1 : Int) + x5.snd.fst) ≤ (↑x5.fst.size : Int) ∧ (↑x5.fst.size : Int) ≤ (↑x5.fst.size : Int) then
          n_29l4 (x5.fst.extract (IntKind.i64.wrap ((1 : Int) + x5.snd.fst)).toNat (↑x5.fst.size : Int).toNat, x5.snd.snd.snd.fst ++ [x5.snd.snd.snd.snd.fst], ())
        else none
      else none
    else none
  else some (Sum.inr (v.snd.fst, ()))
  partial_fixpoint
noncomputable def n_29 (v : ByteArray × Unit) : Option ((List Piece) × Int × Unit) :=
  if decide ((↑v.fst.size : Int) > (4096 : Int)) = true then
    some (([], (3 : Int), ()))
  else n_29l4 (v.fst, [], ()) >>= fun x1 => match x1 with
    | .inl y1 => some y1
    | .inr y1 => some ((y1.fst, (0 : Int), ()))
noncomputable def call29 : Caller vw := fun A fid args S k => match fid with | 56 => callPure Tryd.prog sig56 n_56 A args S k | 57 => callPure Tryd.prog sig57 n_57 A args S k | 58 => callPure Tryd.prog sig58 n_58 A args S k | _ => none
noncomputable def x29 : Xc vw := { P := Tryd.prog, n := 69, nm := id, call := call29, pre := fun _ => false, sh := sh29, joins := fun k => match k with | 8 => some (c29j8, [.norm]) | _ => none, regs := fun k => match k with | 11 => some c29r11 | 15 => some c29r15 | _ => none, loops := fun k => match k with | 4 => some { cut := c29l4, alts := [.ret, .exit 0], F := n_29l4 } | _ => none }
theorem call29_ok : CallerOk Tryd.prog call29 := fun A fid args S dst k r h => by
  unfold call29 at h
  split at h
  · exact callPure_ok (n_56_ok) rfl rfl h
  · exact callPure_ok (n_57_ok) rfl rfl h
  · exact callPure_ok (n_58_ok) rfl rfl h
  · cases h
theorem n_29l4_ok (C : Ctx) (hP : C.P = Tryd.prog) (hN : C.N = 69) : LoopOk C (loopNo (bodyOf Tryd.f29) 0) (sh := sh29) { cut := c29l4, alts := [.ret, .exit 0], F := n_29l4 } :=
  n_29l4.partial_correctness (motive := fun v out => AWpL C (loopNo (bodyOf Tryd.f29) 0) (encS vw (conc vw c29l4 v)) (OutQ sh29 [.ret, .exit 0] out)) fun F ih v out h =>
    loop_step (X := x29) (b := (loopNo (bodyOf Tryd.f29) 0)) hP hN Ty.mixed call29_ok (lok_all (X := x29) (c := (loopNo (bodyOf Tryd.f29) 0)) (kcast (by kernel_rfl : True = AllB (LoopsP C (x29)) (loopsIn (loopNo (bodyOf Tryd.f29) 0))) trivial)) ih (kcast (by kernel_rfl) h)
theorem n_29_ok : SigOk Tryd.prog 29 sig29 n_29 := fun v r x h hx =>
  fn_ok (X := x29) (sig := sig29) rfl Tryd.func29 (c := bodyOf Tryd.f29) (by kernel_rfl) Tryd.ntmps29 (by kernel_rfl) (by kernel_rfl) rfl Ty.mixed call29_ok rfl (fun C hP hN => (lok_all (X := x29) (c := (bodyOf Tryd.f29)) (kcast (by kernel_rfl : AllB (LoopsP C (x29)) [(loopNo (bodyOf Tryd.f29) 0)] = AllB (LoopsP C (x29)) (loopsIn (bodyOf Tryd.f29))) ⟨loop_at (X := x29) (b := (loopNo (bodyOf Tryd.f29) 0)) (by kernel_rfl) (n_29l4_ok C hP hN), trivial⟩))) (kcast (by kernel_rfl) h) x hx

noncomputable def c49z : Cut SN := { slots := [(2, .dat (.int .i32)), (3, .dat (.int .i64))], objs := [] }
noncomputable def sh49 : Shape vw := { exits := fun _ => { slots := [], objs := [] }, rcut := c49z }
noncomputable def sig49 : Sig vw := { params := [.dat .str], objs := [], rcut := c49z, rvars := [.tmp 2, .tmp 3], keep := [] }
noncomputable def n_49 (v : ByteArray × Unit) : Option (Int × Int × Unit) :=
  some ((Lib.decodeGo v.1).1, (Lib.decodeGo v.1).2, ())
theorem n_49_ok : SigOk Tryd.prog 49 sig49 n_49 := fun v r x h hx => by
  obtain ⟨s, u⟩ := v
  cases h; cases hx
  exact kcast (by kernel_rfl) (FnOk.pure (P := Tryd.prog) (f := 49) (args := [.d (.v (.string s))]) (r := .tup [.d (.v (.int .i32 (Lib.decodeGo s).1)), .d (.v (.int .i64 (Lib.decodeGo s).2))]) (by kernel_rfl) fun E M w vs hg hm hv => by
    obtain ⟨v1, rfl, h1⟩ := hreps_one hv
    rw [h1.dv]
    exact (Tryd.utf8_DecodeRuneInString s w (tabs_utf8 hg hm)).mono fun e w' ⟨he, hw⟩ => ⟨_, he, hrep_pair, hw⟩)

noncomputable def c20l2 : Cut SN := { slots := [(0, .dat .str), (9, .bp 9 0)], objs := [(9, .iter)] }
noncomputable def c20e0 : Cut SN := { slots := [(0, .dat .str)], objs := [] }
noncomputable def c20z : Cut SN := { slots := [(2, .dat (.int .i64)), (3, .dat .bool)], objs := [] }
noncomputable def sh20 : Shape vw := { exits := fun id => match id with | 0 => c20e0 | _ => { slots := [], objs := [] }, rcut := c20z }
noncomputable def sig20 : Sig vw := { params := [.dat .str], objs := [], rcut := c20z, rvars := [.tmp 2, .tmp 3], keep := [] }
noncomputable def n_20l2 (v : ByteArray × ByteArray × Int × Unit) : Option (((Int × Bool × Unit) ⊕ (ByteArray × Unit))) :=
  if (0 : Int) ≤ v.snd.snd.fst then
    if v.snd.snd.fst < (↑v.snd.fst.size : Int) then
      if (Bs.dec v.snd.fst v.snd.snd.fst == (65533 : Int)) = true then
        if (0 : Int) ≤ v.snd.snd.fst ∧ v.snd.snd.fst ≤ (↑v.fst.size : Int) ∧ (↑v.fst.size : Int) ≤ (↑v.fst.size : Int) then
          n_49 (v.fst.extract v.snd.snd.fst.toNat (↑v.fst.size : Int).toNat, ()) >>= fun x1 =>
          if decide (x1.snd.fst < (2 : Int)) = true then
            some (Sum.inl (v.snd.snd.fst, false, ()))
          else n_20l2 (v.fst, v.snd.fst, v.snd.snd.fst + Bs.wid v.snd.fst v.snd.snd.fst, ())
        else none
      else n_20l2 (v.fst, v.snd.fst, v.snd.snd.fst + Bs.wid v.snd.fst v.snd.snd.fst, ())
    else some (Sum.inr (v.fst, ()))
  else none
  partial_fixpoint
noncomputable def n_20 (v : ByteArray × Unit) : Option (Int × Bool × Unit) :=
  n_20l2 (v.fst, v.fst, (0 : Int), ()) >>= fun x1 => match x1 with
    | .inl y1 => some y1
    | .inr y1 => some (((↑y1.fst.size : Int), true, ()))
noncomputable def call20 : Caller vw := fun A fid args S k => match fid with | 49 => callPure Tryd.prog sig49 n_49 A args S k | _ => none
noncomputable def x20 : Xc vw := { P := Tryd.prog, n := 28, nm := id, call := call20, pre := fun _ => false, sh := sh20, joins := fun _ => none, regs := fun _ => none, loops := fun k => match k with | 2 => some { cut := c20l2, alts := [.ret, .exit 0], F := n_20l2 } | _ => none }
theorem call20_ok : CallerOk Tryd.prog call20 := fun A fid args S dst k r h => by
  unfold call20 at h
  split at h
  · exact callPure_ok (n_49_ok) rfl rfl h
  · cases h
theorem n_20l2_ok (C : Ctx) (hP : C.P = Tryd.prog) (hN : C.N = 28) : LoopOk C (loopNo (bodyOf Tryd.f20) 0) (sh := sh20) { cut := c20l2, alts := [.ret, .exit 0], F := n_20l2 } :=
  n_20l2.partial_correctness (motive := fun v out => AWpL C (loopNo (bodyOf Tryd.f20) 0) (encS vw (conc vw c20l2 v)) (OutQ sh20 [.ret, .exit 0] out)) fun F ih v out h =>
    loop_step (X := x20) (b := (loopNo (bodyOf Tryd.f20) 0)) hP hN Ty.mixed call20_ok (lok_all (X := x20) (c := (loopNo (bodyOf Tryd.f20) 0)) (kcast (by kernel_rfl : True = AllB (LoopsP C (x20)) (loopsIn (loopNo (bodyOf Tryd.f20) 0))) trivial)) ih (kcast (by kernel_rfl) h)
theorem n_20_ok : SigOk Tryd.prog 20 sig20 n_20 := fun v r x h hx =>
  fn_ok (X := x20) (sig := sig20) rfl Tryd.func20 (c := bodyOf Tryd.f20) (by kernel_rfl) Tryd.ntmps20 (by kernel_rfl) (by kernel_rfl) rfl Ty.mixed call20_ok rfl (fun C hP hN => (lok_all (X := x20) (c := (bodyOf Tryd.f20)) (kcast (by kernel_rfl : AllB (LoopsP C (x20)) [(loopNo (bodyOf Tryd.f20) 0)] = AllB (LoopsP C (x20)) (loopsIn (bodyOf Tryd.f20))) ⟨loop_at (X := x20) (b := (loopNo (bodyOf Tryd.f20) 0)) (by kernel_rfl) (n_20l2_ok C hP hN), trivial⟩))) (kcast (by kernel_rfl) h) x hx

noncomputable def c36z : Cut SN := { slots := [(2, .dat (.int .i64))], objs := [] }
noncomputable def sh36 : Shape vw := { exits := fun _ => { slots := [], objs := [] }, rcut := c36z }
noncomputable def sig36 : Sig vw := { params := [.dat .str], objs := [], rcut := c36z, rvars := [.tmp 2], keep := [] }
noncomputable def n_36 (v : ByteArray × Unit) : Option (Int × Unit) :=
  if decide ((↑v.fst.size : Int) > (4096 : Int)) = true then
    some (((3 : Int), ()))
  else n_20 (v.fst, ()) >>= fun x1 =>
  if (!x1.snd.fst) = true then
    some (((2 : Int), ()))
  else some (((0 : Int), ()))
noncomputable def call36 : Caller vw := fun A fid args S k => match fid with | 20 => callPure Tryd.prog sig20 n_20 A args S k | _ => none
noncomputable def x36 : Xc vw := { P := Tryd.prog, n := 15, nm := id, call := call36, pre := fun _ => false, sh := sh36, joins := fun _ => none, regs := fun _ => none, loops := fun _ => none }
theorem call36_ok : CallerOk Tryd.prog call36 := fun A fid args S dst k r h => by
  unfold call36 at h
  split at h
  · exact callPure_ok (n_20_ok) rfl rfl h
  · cases h
theorem n_36_ok : SigOk Tryd.prog 36 sig36 n_36 := fun v r x h hx =>
  fn_ok (X := x36) (sig := sig36) rfl Tryd.func36 (c := bodyOf Tryd.f36) (by kernel_rfl) Tryd.ntmps36 (by kernel_rfl) (by kernel_rfl) rfl Ty.mixed call36_ok rfl (fun C hP hN => (lok_all (X := x36) (c := (bodyOf Tryd.f36)) (kcast (by kernel_rfl : True = AllB (LoopsP C (x36)) (loopsIn (bodyOf Tryd.f36))) trivial))) (kcast (by kernel_rfl) h) x hx

noncomputable def c30j6 : Cut SN := { slots := [(1, .bp 1 0), (34, .dat (.int .i64)), (35, .dat .bool)], objs := [(1, .st .tagT)] }
noncomputable def c30r1 : Cut SN := { slots := [(1, .bp 1 0), (32, .dat .bool)], objs := [(1, .st .tagT)] }
noncomputable def c30r8 : Cut SN := { slots := [(2, .dat .bool)], objs := [] }
noncomputable def c30z : Cut SN := { slots := [(2, .dat .bool)], objs := [] }
noncomputable def sh30 : Shape vw := { exits := fun _ => { slots := [], objs := [] }, rcut := c30z }
noncomputable def sig30 : Sig vw := { params := [.dat (.st .tagT)], objs := [], rcut := c30z, rvars := [.tmp 2], keep := [] }
noncomputable def n_30 (v : Tag × Unit) : Option (Bool × Unit) :=
  (if decide ((↑v.fst.names.length : Int) > (0 : Int)) = true then
      some ((true, v.fst, ()))
    else if decide ((↑v.fst.parts.length : Int) > (0 : Int)) = true then
      some ((true, v.fst, ()))
    else if (v.fst.kind != (3 : Int)) = true then
      if (v.fst.n != (0 : Int)) = true then
        some ((true, v.fst, ()))
      else if (v.fst.kind != (4 : Int)) = true then
        some ((!v.fst.text.toList == (ByteArray.mk #[]).toList, v.fst, ()))
      else some ((false, v.fst, ()))
    else if (v.fst.kind != (4 : Int)) = true then
      some ((!v.fst.text.toList == (ByteArray.mk #[]).toList, v.fst, ()))
    else some ((false, v.fst, ()))) >>= fun x1 =>
  if x1.fst = true then
    some ((false, ()))
  else (if (x1.snd.fst.kind == (1 : Int)) = true then
      some ((x1.snd.fst.kind, true, x1.snd.fst, ()))
    else some ((x1.snd.fst.kind, x1.snd.fst.kind == (2 : Int), x1.snd.fst, ()))) >>= fun x2 =>
  if x2.snd.fst = true then
    some ((true, ()))
  else if (x2.fst == (3 : Int)) = true then
    (if decide (x2.snd.snd.fst.n ≥ (-1099511627776 : Int)) = true then
        some ((decide (x2.snd.snd.fst.n ≤ (1099511627776 : Int)), ()))
      else some ((false, ()))) >>= fun x3 =>
    some ((x3.fst, ()))
  else if (x2.fst == (4 : Int)) = true then
    n_36 (x2.snd.snd.fst.text, ()) >>= fun x3 =>
    some ((x3.fst == (0 : Int), ()))
  else some ((false, ()))
noncomputable def call30 : Caller vw := fun A fid args S k => match fid with | 36 => callPure Tryd.prog sig36 n_36 A args S k | _ => none
noncomputable def x30 : Xc vw := { P := Tryd.prog, n := 54, nm := id, call := call30, pre := fun _ => false, sh := sh30, joins := fun k => match k with | 6 => some (c30j6, [.norm]) | _ => none, regs := fun k => match k with | 1 => some c30r1 | 8 => some c30r8 | _ => none, loops := fun _ => none }
theorem call30_ok : CallerOk Tryd.prog call30 := fun A fid args S dst k r h => by
  unfold call30 at h
  split at h
  · exact callPure_ok (n_36_ok) rfl rfl h
  · cases h
theorem n_30_ok : SigOk Tryd.prog 30 sig30 n_30 := fun v r x h hx =>
  fn_ok (X := x30) (sig := sig30) rfl Tryd.func30 (c := bodyOf Tryd.f30) (by kernel_rfl) Tryd.ntmps30 (by kernel_rfl) (by kernel_rfl) rfl Ty.mixed call30_ok rfl (fun C hP hN => (lok_all (X := x30) (c := (bodyOf Tryd.f30)) (kcast (by kernel_rfl : True = AllB (LoopsP C (x30)) (loopsIn (bodyOf Tryd.f30))) trivial))) (kcast (by kernel_rfl) h) x hx

noncomputable def c59s4b14z : Cut SN := { slots := [(0, .bp 100000 0)], objs := [(100000, .box (some 61) [.np 100000, .vh 3001]), (3001, .vec 5 (.int .u8))] }
noncomputable def sh59s4b14 : Shape vw := { exits := fun _ => { slots := [], objs := [] }, rcut := c59s4b14z }
noncomputable def sig59s4b14 : Sig vw := { params := [.bp 100000 0], objs := [(100000, .box (some 61) [.np 100000, .vh 100001]), (100001, .vec 5 (.int .u8))], rcut := c59s4b14z, rvars := [], keep := [100000, 3001] }
noncomputable def n_59s4b14 (v : Bool × (List Int) × Unit) : Option (Bool × (List Int) × Unit) :=
  some (true, v.2.1, ())
theorem n_59s4b14_ok : SigOk Tryd.prog 59 sig59s4b14 n_59s4b14 := fun v r x h hx => by
  obtain ⟨bl, xs, u⟩ := v
  cases h; cases hx
  exact kcast (by kernel_rfl) (FnOk.copyCheck (P := Tryd.prog) (f := 59) (T := 61) (by kernel_rfl)
    (Any.Builder_copyCheck_fresh (P := Tryd.prog) (ρ := Tryd.lays105_ren) { Tryd.lays105 with } Tryd.Builder_Extra_105.toX72)
    (Any.Builder_copyCheck_used (P := Tryd.prog) (ρ := Tryd.lays105_ren) { Tryd.lays105 with } Tryd.Builder_Extra_105.toX72)
    (g := 100000) (m := 100001) (c := 3001) (l := xs.length) (bl := bl) (e := 5) (sz := 1) (rows := xs.map fun y => encR szN encN (.int .u8) y) (by decide) (by decide) (by decide))

noncomputable def c31s9b49z : Cut SN := { slots := [(0, .bp 100000 0), (4, .dat (.int .i64)), (5, .nif)], objs := [(100000, .box (some 61) [.np 100000, .vh 3001]), (3001, .vec 5 (.int .u8))] }
noncomputable def sh31s9b49 : Shape vw := { exits := fun _ => { slots := [], objs := [] }, rcut := c31s9b49z }
noncomputable def sig31s9b49 : Sig vw := { params := [.bp 100000 0, .dat .str], objs := [(100000, .box (some 61) [.np 100000, .vh 100001]), (100001, .vec 5 (.int .u8))], rcut := c31s9b49z, rvars := [.tmp 4, .tmp 5], keep := [100000, 3001] }
noncomputable def n_31s9b49 (v : ByteArray × Bool × (List Int) × Unit) : Option (Int × Bool × (List Int) × Unit) :=
  n_59s4b14 (v.snd.fst, v.snd.snd.fst, ()) >>= fun x1 =>
  if x1.snd.fst.length + v.fst.size ≤ (4294967296 : Nat) then
    some (((↑v.fst.size : Int), x1.fst, x1.snd.fst ++ Bs.ints v.fst, ()))
  else none
noncomputable def call31s9b49 : Caller vw := fun A fid args S k => match fid with | 59 => callObj Tryd.prog sig59s4b14 n_59s4b14 A args S k | _ => none
noncomputable def x31s9b49 : Xc vw := { P := Tryd.prog, n := 19, nm := id, call := call31s9b49, pre := fun _ => false, sh := sh31s9b49, joins := fun _ => none, regs := fun _ => none, loops := fun _ => none }
theorem call31s9b49_ok : CallerOk Tryd.prog call31s9b49 := fun A fid args S dst k r h => by
  unfold call31s9b49 at h
  split at h
  · exact callObj_ok (n_59s4b14_ok) h
  · cases h
theorem n_31s9b49_ok : SigOk Tryd.prog 31 sig31s9b49 n_31s9b49 := fun v r x h hx =>
  fn_ok (X := x31s9b49) (sig := sig31s9b49) rfl Tryd.func31 (c := bodyOf Tryd.f31) (by kernel_rfl) Tryd.ntmps31 (by kernel_rfl) (by kernel_rfl) rfl Ty.mixed call31s9b49_ok rfl (fun C hP hN => (lok_all (X := x31s9b49) (c := (bodyOf Tryd.f31)) (kcast (by kernel_rfl : True = AllB (LoopsP C (x31s9b49)) (loopsIn (bodyOf Tryd.f31))) trivial))) (kcast (by kernel_rfl) h) x hx

noncomputable def c52r1 : Cut SN := { slots := [(2, .dat .bool)], objs := [] }
noncomputable def c52z : Cut SN := { slots := [(2, .dat .bool)], objs := [] }
noncomputable def sh52 : Shape vw := { exits := fun _ => { slots := [], objs := [] }, rcut := c52z }
noncomputable def sig52 : Sig vw := { params := [.dat (.int .i64)], objs := [], rcut := c52z, rvars := [.tmp 2], keep := [] }
noncomputable def n_52 (v : Int × Unit) : Option (Bool × Unit) :=
  (if decide (v.fst ≥ (0 : Int)) = true then
      if decide (v.fst ≤ (1114111 : Int)) = true then
        n_69 (IntKind.i32.wrap v.fst, ()) >>= fun x1 =>
        some ((x1.fst, ()))
      else some ((false, ()))
    else some ((false, ()))) >>= fun x1 =>
  some ((x1.fst, ()))
noncomputable def call52 : Caller vw := fun A fid args S k => match fid with | 69 => callPure Tryd.prog sig69 n_69 A args S k | _ => none
noncomputable def x52 : Xc vw := { P := Tryd.prog, n := 14, nm := id, call := call52, pre := fun _ => false, sh := sh52, joins := fun _ => none, regs := fun k => match k with | 1 => some c52r1 | _ => none, loops := fun _ => none }
theorem call52_ok : CallerOk Tryd.prog call52 := fun A fid args S dst k r h => by
  unfold call52 at h
  split at h
  · exact callPure_ok (n_69_ok) rfl rfl h
  · cases h
theorem n_52_ok : SigOk Tryd.prog 52 sig52 n_52 := fun v r x h hx =>
  fn_ok (X := x52) (sig := sig52) rfl Tryd.func52 (c := bodyOf Tryd.f52) (by kernel_rfl) Tryd.ntmps52 (by kernel_rfl) (by kernel_rfl) rfl Ty.mixed call52_ok rfl (fun C hP hN => (lok_all (X := x52) (c := (bodyOf Tryd.f52)) (kcast (by kernel_rfl : True = AllB (LoopsP C (x52)) (loopsIn (bodyOf Tryd.f52))) trivial))) (kcast (by kernel_rfl) h) x hx

noncomputable def c77r1 : Cut SN := { slots := [(2, .dat .bool)], objs := [] }
noncomputable def c77z : Cut SN := { slots := [(2, .dat .bool)], objs := [] }
noncomputable def sh77 : Shape vw := { exits := fun _ => { slots := [], objs := [] }, rcut := c77z }
noncomputable def sig77 : Sig vw := { params := [.dat (.int .i64)], objs := [], rcut := c77z, rvars := [.tmp 2], keep := [] }
noncomputable def n_77 (v : Int × Unit) : Option (Bool × Unit) :=
  (if decide (v.fst ≥ (2 : Int)) = true then
      some ((decide (v.fst ≤ (16 : Int)), ()))
    else some ((false, ()))) >>= fun x1 =>
  some ((x1.fst, ()))
noncomputable def call77 : Caller vw := fun _ _ _ _ _ => none
noncomputable def x77 : Xc vw := { P := Tryd.prog, n := 9, nm := id, call := call77, pre := fun _ => false, sh := sh77, joins := fun _ => none, regs := fun k => match k with | 1 => some c77r1 | _ => none, loops := fun _ => none }
theorem call77_ok : CallerOk Tryd.prog call77 := call_none
theorem n_77_ok : SigOk Tryd.prog 77 sig77 n_77 := fun v r x h hx =>
  fn_ok (X := x77) (sig := sig77) rfl Tryd.func77 (c := bodyOf Tryd.f77) (by kernel_rfl) Tryd.ntmps77 (by kernel_rfl) (by kernel_rfl) rfl Ty.mixed call77_ok rfl (fun C hP hN => (lok_all (X := x77) (c := (bodyOf Tryd.f77)) (kcast (by kernel_rfl : True = AllB (LoopsP C (x77)) (loopsIn (bodyOf Tryd.f77))) trivial))) (kcast (by kernel_rfl) h) x hx

noncomputable def c78l4 : Cut SN := { slots := [(0, .dat (.int .i64)), (1, .dat (.int .i64)), (5, .dat .str)], objs := [] }
noncomputable def c78e0 : Cut SN := { slots := [(0, .dat (.int .i64)), (5, .dat .str)], objs := [] }
noncomputable def c78z : Cut SN := { slots := [(4, .dat .str)], objs := [] }
noncomputable def sh78 : Shape vw := { exits := fun id => match id with | 0 => c78e0 | _ => { slots := [], objs := [] }, rcut := c78z }
noncomputable def sig78 : Sig vw := { params := [.dat (.int .i64), .dat (.int .i64)], objs := [], rcut := c78z, rvars := [.tmp 4], keep := [] }
noncomputable def n_78l4 (v : Int × Int × ByteArray × Unit) : Option ((Int × ByteArray × Unit)) :=
  if decide (v.fst ≥ v.snd.fst) = true then
    if v.snd.fst = (0 : Int) then
      none
    else if (0 : Int) ≤ v.fst.tmod v.snd.fst then
      (ByteArray.mk #[(48 : UInt8), (49 : UInt8), (50 : UInt8), (51 : UInt8), (52 : UInt8), (53 : UInt8), (54 : UInt8), (55 : UInt8), (56 : UInt8), (57 : UInt8), (97 : UInt8), (98 : UInt8), (99 : UInt8), (100 : UInt8), (101 : UInt8), (102 : UInt8)])[(v.fst.tmod v.snd.fst).toNat]? >>= fun x1 =>
      if (Bs.enc1 (↑x1.toNat : Int)).size + v.snd.snd.fst.size ≤ (4294967296 : Nat) then
        if v.snd.fst = (0 : Int) then
          none
        else n_78l4 (IntKind.i64.wrap (v.fst.tdiv v.snd.fst), v.snd.fst, Bs.enc1 (↑x1.toNat : Int) ++ v.snd.snd.fst, ())
      else none
    else none
  else some ((v.fst, v.snd.snd.fst, ()))
  partial_fixpoint
noncomputable def n_78 (v : Int × Int × Unit) : Option (ByteArray × Unit) :=
  if decide (v.fst < (0 : Int)) = true then
    n_78 (IntKind.i64.wrap ((0 : Int) - v.fst), v.snd.fst, ()) >>= fun x1 =>
    if (ByteArray.mk #[(45 : UInt8)]).size + x1.fst.size ≤ (4294967296 : Nat) then
      some ((ByteArray.mk #[(45 : UInt8)] ++ x1.fst, ()))
    else none
  else n_78l4 (v.fst, v.snd.fst, ByteArray.mk #[], ()) >>= fun x1 =>
  if (0 : Int) ≤ x1.fst then
    (ByteArray.mk #[(48 : UInt8), (49 : UInt8), (50 : UInt8), (51 : UInt8), (52 : UInt8), (53 : UInt8), (54 : UInt8), (55 : UInt8), (56 : UInt8), (57 : UInt8), (97 : UInt8), (98 : UInt8), (99 : UInt8), (100 : UInt8), (101 : UInt8), (102 : UInt8)])[x1.fst.toNat]? >>= fun x2 =>
    if (Bs.enc1 (↑x2.toNat : Int)).size + x1.snd.fst.size ≤ (4294967296 : Nat) then
      some ((Bs.enc1 (↑x2.toNat : Int) ++ x1.snd.fst, ()))
    else none
  else none
  partial_fixpoint
noncomputable def call78 (n_78l4 : Int × Int × ByteArray × Unit → Option ((Int × ByteArray × Unit))) (n_78 : Int × Int × Unit → Option (ByteArray × Unit)) : Caller vw := fun A fid args S k => match fid with | 78 => callPure Tryd.prog sig78 n_78 A args S k | _ => none
noncomputable def x78 (n_78l4 : Int × Int × ByteArray × Unit → Option ((Int × ByteArray × Unit))) (n_78 : Int × Int × Unit → Option (ByteArray × Unit)) : Xc vw := { P := Tryd.prog, n := 31, nm := id, call := call78 n_78l4 n_78, pre := fun _ => false, sh := sh78, joins := fun _ => none, regs := fun _ => none, loops := fun k => match k with | 4 => some { cut := c78l4, alts := [.exit 0], F := n_78l4 } | _ => none }
theorem n_78l4_pc : ∀ v out, n_78l4 v = some out → (fun v out => ∀ C : Ctx, C.P = Tryd.prog → C.N = 31 → AWpL C (loopNo (bodyOf Tryd.f78) 0) (encS vw (conc vw c78l4 v)) (OutQ sh78 [.exit 0] out)) v out := (n_78l4.partial_correctness (motive := fun v out => ∀ C : Ctx, C.P = Tryd.prog → C.N = 31 → AWpL C (loopNo (bodyOf Tryd.f78) 0) (encS vw (conc vw c78l4 v)) (OutQ sh78 [.exit 0] out)) (fun f0 h0 v out h C hP hN => loop_step (X := x78 f0 (fun _ => none)) (b := (loopNo (bodyOf Tryd.f78) 0)) hP hN Ty.mixed (by
        intro A fid args S dst k r h
        unfold x78 call78 at h
        simp only at h
        split at h
        · exact callPure_ok ((fun v r x h hx => by cases h)) rfl rfl h
        · cases h) (lok_all (X := x78 f0 (fun _ => none)) (c := (loopNo (bodyOf Tryd.f78) 0)) (kcast (by kernel_rfl : True = AllB (LoopsP C (x78 f0 (fun _ => none))) (loopsIn (loopNo (bodyOf Tryd.f78) 0))) trivial)) (cut := c78l4) (alts := [.exit 0]) (F := f0) (fun v out h => h0 v out h C hP hN) (kcast (by kernel_rfl) h)))
theorem n_78_ok : SigOk Tryd.prog 78 sig78 n_78 := fun v r x h hx => (n_78.partial_correctness (motive := fun v r => ∀ x, resV Tryd.prog sig78 r = some x → FnOk Tryd.prog 78 (encL vw (startS sig78 v).len (startOs sig78 v).1) (encOs (startS sig78 v).len (startS sig78 v).own) (encV vw (conc vw sig78.rcut r).len x) (encOs (conc vw sig78.rcut r).len (kept sig78 r))) (fun f0 h0 v r h x hx => fn_ok (X := x78 n_78l4 f0) (sig := sig78) rfl Tryd.func78 (c := bodyOf Tryd.f78) (by kernel_rfl) Tryd.ntmps78 (by kernel_rfl) (by kernel_rfl) rfl Ty.mixed (by
        intro A fid args S dst k r h
        unfold x78 call78 at h
        simp only at h
        split at h
        · exact callPure_ok ((fun v r x h hx => h0 v r h x hx)) rfl rfl h
        · cases h) rfl (fun C hP hN => (lok_all (X := x78 n_78l4 f0) (c := (bodyOf Tryd.f78)) (kcast (by kernel_rfl : AllB (LoopsP C (x78 n_78l4 f0)) [(loopNo (bodyOf Tryd.f78) 0)] = AllB (LoopsP C (x78 n_78l4 f0)) (loopsIn (bodyOf Tryd.f78))) ⟨loop_at (X := x78 n_78l4 f0) (b := (loopNo (bodyOf Tryd.f78) 0)) (by kernel_rfl) (show LoopOk C (loopNo (bodyOf Tryd.f78) 0) (sh := sh78) { cut := c78l4, alts := [.exit 0], F := n_78l4 } from fun v out h => n_78l4_pc v out h C hP hN), trivial⟩))) (kcast (by kernel_rfl) h) x hx)) v r h x hx

noncomputable def c60r1 : Cut SN := { slots := [(0, .dat (.int .i64)), (1, .dat (.int .i64)), (16, .dat .bool)], objs := [] }
noncomputable def c60z : Cut SN := { slots := [(4, .dat .str), (5, .dat (.int .i64))], objs := [] }
noncomputable def sh60 : Shape vw := { exits := fun _ => { slots := [], objs := [] }, rcut := c60z }
noncomputable def sig60 : Sig vw := { params := [.dat (.int .i64), .dat (.int .i64)], objs := [], rcut := c60z, rvars := [.tmp 4, .tmp 5], keep := [] }
noncomputable def n_60 (v : Int × Int × Unit) : Option (ByteArray × Int × Unit) :=
  (n_77 (v.snd.fst, ()) >>= fun x1 =>
    if (!x1.fst) = true then
      some ((v.fst, v.snd.fst, true, ()))
    else if decide (v.fst < (-1099511627776 : Int)) = true then
      some ((v.fst, v.snd.fst, true, ()))
    else some ((v.fst, v.snd.fst, decide (v.fst > (1099511627776 : Int)), ()))) >>= fun x1 =>
  if x1.snd.snd.fst = true then
    some ((ByteArray.mk #[], (1 : Int), ()))
  else n_78 (x1.fst, x1.snd.fst, ()) >>= fun x2 =>
  some ((x2.fst, (0 : Int), ()))
noncomputable def call60 : Caller vw := fun A fid args S k => match fid with | 77 => callPure Tryd.prog sig77 n_77 A args S k | 78 => callPure Tryd.prog sig78 n_78 A args S k | _ => none
noncomputable def x60 : Xc vw := { P := Tryd.prog, n := 20, nm := id, call := call60, pre := fun _ => false, sh := sh60, joins := fun _ => none, regs := fun k => match k with | 1 => some c60r1 | _ => none, loops := fun _ => none }
theorem call60_ok : CallerOk Tryd.prog call60 := fun A fid args S dst k r h => by
  unfold call60 at h
  split at h
  · exact callPure_ok (n_77_ok) rfl rfl h
  · exact callPure_ok (n_78_ok) rfl rfl h
  · cases h
theorem n_60_ok : SigOk Tryd.prog 60 sig60 n_60 := fun v r x h hx =>
  fn_ok (X := x60) (sig := sig60) rfl Tryd.func60 (c := bodyOf Tryd.f60) (by kernel_rfl) Tryd.ntmps60 (by kernel_rfl) (by kernel_rfl) rfl Ty.mixed call60_ok rfl (fun C hP hN => (lok_all (X := x60) (c := (bodyOf Tryd.f60)) (kcast (by kernel_rfl : True = AllB (LoopsP C (x60)) (loopsIn (bodyOf Tryd.f60))) trivial))) (kcast (by kernel_rfl) h) x hx

noncomputable def c32j3 : Cut SN := { slots := [(0, .dat (.int .u8)), (3, .bp 3 0)], objs := [(3, .st .tagT)] }
noncomputable def c32j17 : Cut SN := { slots := [(3, .bp 3 0), (6, .dat (.int .i64))], objs := [(3, .st .tagT)] }
noncomputable def c32r8 : Cut SN := { slots := [(4, .dat .str), (5, .dat .bool)], objs := [] }
noncomputable def c32r10 : Cut SN := { slots := [(3, .bp 3 0), (49, .dat .bool)], objs := [(3, .st .tagT)] }
noncomputable def c32z : Cut SN := { slots := [(4, .dat .str), (5, .dat .bool)], objs := [] }
noncomputable def sh32 : Shape vw := { exits := fun _ => { slots := [], objs := [] }, rcut := c32z }
noncomputable def sig32 : Sig vw := { params := [.dat (.int .u8), .dat (.st .tagT)], objs := [], rcut := c32z, rvars := [.tmp 4, .tmp 5], keep := [] }
noncomputable def n_32 (v : Int × Tag × Unit) : Option (ByteArray × Bool × Unit) :=
  (if (v.fst == (106 : Int)) = true then
      some (((Mp.get Mp.ieq v.snd.fst.kind (Mp.set Mp.ieq (4 : Int) (115 : Int) (Mp.set Mp.ieq (3 : Int) (100 : Int) (Mp.set Mp.ieq (2 : Int) (116 : Int) (Mp.set Mp.ieq (1 : Int) (116 : Int) []))))).getD (0 : Int), v.snd.fst, ()))
    else some ((v.fst, v.snd.fst, ()))) >>= fun x1 =>
  (if (x1.fst == (115 : Int)) = true then
      some (Sum.inr (x1.snd.fst.text, x1.snd.fst.kind == (4 : Int), ()))
    else if (x1.fst == (116 : Int)) = true then
      (both (if (x1.snd.fst.kind == (1 : Int)) = true then
            some (((Mp.get Mp.ieq x1.snd.fst.kind (Mp.set Mp.ieq (2 : Int) (ByteArray.mk #[(116 : UInt8), (114 : UInt8), (117 : UInt8), (101 : UInt8)]) (Mp.set Mp.ieq (1 : Int) (ByteArray.mk #[(102 : UInt8), (97 : UInt8), (108 : UInt8), (115 : UInt8), (101 : UInt8)]) []))).getD (ByteArray.mk #[]), true, ()))
          else some (((Mp.get Mp.ieq x1.snd.fst.kind (Mp.set Mp.ieq (2 : Int) (ByteArray.mk #[(116 : UInt8), (114 : UInt8), (117 : UInt8), (101 : UInt8)]) (Mp.set Mp.ieq (1 : Int) (ByteArray.mk #[(102 : UInt8), (97 : UInt8), (108 : UInt8), (115 : UInt8), (101 : UInt8)]) []))).getD (ByteArray.mk #[]), x1.snd.fst.kind == (2 : Int), ())))
          (if (x1.snd.fst.kind == (1 : Int)) = true then
            some (((Mp.get Mp.ieq x1.snd.fst.kind (Mp.set Mp.ieq (1 : Int) (ByteArray.mk #[(102 : UInt8), (97 : UInt8), (108 : UInt8), (115 : UInt8), (101 : UInt8)]) (Mp.set Mp.ieq (2 : Int) (ByteArray.mk #[(116 : UInt8), (114 : UInt8), (117 : UInt8), (101 : UInt8)]) []))).getD (ByteArray.mk #[]), true, ()))
          else some (((Mp.get Mp.ieq x1.snd.fst.kind (Mp.set Mp.ieq (1 : Int) (ByteArray.mk #[(102 : UInt8), (97 : UInt8), (108 : UInt8), (115 : UInt8), (101 : UInt8)]) (Mp.set Mp.ieq (2 : Int) (ByteArray.mk #[(116 : UInt8), (114 : UInt8), (117 : UInt8), (101 : UInt8)]) []))).getD (ByteArray.mk #[]), x1.snd.fst.kind == (2 : Int), ())))) >>= fun x2 =>
      some (Sum.inr (x2.fst, x2.snd.fst, ()))
    else if (x1.fst == (99 : Int)) = true then
      (if (x1.snd.fst.kind != (3 : Int)) = true then
          some ((true, x1.snd.fst, ()))
        else n_52 (x1.snd.fst.n, ()) >>= fun x2 =>
        some ((!x2.fst, x1.snd.fst, ()))) >>= fun x2 =>
      if x2.fst = true then
        some (Sum.inr (ByteArray.mk #[], false, ()))
      else some (Sum.inr (Bs.enc1 (IntKind.i32.wrap x2.snd.fst.n), true, ()))
    else if (x1.fst == (120 : Int)) = true then
      some (Sum.inl ((16 : Int), x1.snd.fst, ()))
    else if (x1.fst == (98 : Int)) = true then
      some (Sum.inl ((2 : Int), x1.snd.fst, ()))
    else some (Sum.inl ((10 : Int), x1.snd.fst, ()))) >>= fun x2 => match x2 with
    | .inl y2 => n_60 (y2.snd.fst.n, y2.fst, ()) >>= fun x3 =>
      some ((x3.fst, y2.snd.fst.kind == (3 : Int), ()))
    | .inr y2 => some y2
noncomputable def call32 : Caller vw := fun A fid args S k => match fid with | 52 => callPure Tryd.prog sig52 n_52 A args S k | 60 => callPure Tryd.prog sig60 n_60 A args S k | _ => none
noncomputable def x32 : Xc vw := { P := Tryd.prog, n := 69, nm := id, call := call32, pre := fun _ => false, sh := sh32, joins := fun k => match k with | 3 => some (c32j3, [.norm]) | 17 => some (c32j17, [.norm, .ret]) | _ => none, regs := fun k => match k with | 8 => some c32r8 | 10 => some c32r10 | _ => none, loops := fun _ => none, pair := fun k => match k with | 8 => some (1, 2) | _ => none }
theorem call32_ok : CallerOk Tryd.prog call32 := fun A fid args S dst k r h => by
  unfold call32 at h
  split at h
  · exact callPure_ok (n_52_ok) rfl rfl h
  · exact callPure_ok (n_60_ok) rfl rfl h
  · cases h
theorem n_32_ok : SigOk Tryd.prog 32 sig32 n_32 := fun v r x h hx =>
  fn_ok (X := x32) (sig := sig32) rfl Tryd.func32 (c := bodyOf Tryd.f32) (by kernel_rfl) Tryd.ntmps32 (by kernel_rfl) (by kernel_rfl) rfl Ty.mixed call32_ok rfl (fun C hP hN => (lok_all (X := x32) (c := (bodyOf Tryd.f32)) (kcast (by kernel_rfl : True = AllB (LoopsP C (x32)) (loopsIn (bodyOf Tryd.f32))) trivial))) (kcast (by kernel_rfl) h) x hx

noncomputable def c51l2 : Cut SN := { slots := [(2, .dat (.int .i64)), (4, .bp 4 0)], objs := [(4, .iter)] }
noncomputable def c51e0 : Cut SN := { slots := [(2, .dat (.int .i64))], objs := [] }
noncomputable def c51z : Cut SN := { slots := [(2, .dat (.int .i64))], objs := [] }
noncomputable def sh51 : Shape vw := { exits := fun id => match id with | 0 => c51e0 | _ => { slots := [], objs := [] }, rcut := c51z }
noncomputable def sig51 : Sig vw := { params := [.dat .str], objs := [], rcut := c51z, rvars := [.tmp 2], keep := [] }
noncomputable def n_51l2 (v : Int × ByteArray × Int × Unit) : Option ((Int × Unit)) :=
  if (0 : Int) ≤ v.snd.snd.fst then
    if v.snd.snd.fst < (↑v.snd.fst.size : Int) then
      n_51l2 (IntKind.i64.wrap (v.fst + (1 : Int)), v.snd.fst, v.snd.snd.fst + Bs.wid v.snd.fst v.snd.snd.fst, ())
    else some ((v.fst, ()))
  else none
  partial_fixpoint
noncomputable def n_51 (v : ByteArray × Unit) : Option (Int × Unit) :=
  n_51l2 ((0 : Int), v.fst, (0 : Int), ()) >>= fun x1 =>
  some ((x1.fst, ()))
noncomputable def call51 : Caller vw := fun _ _ _ _ _ => none
noncomputable def x51 : Xc vw := { P := Tryd.prog, n := 10, nm := id, call := call51, pre := fun _ => false, sh := sh51, joins := fun _ => none, regs := fun _ => none, loops := fun k => match k with | 2 => some { cut := c51l2, alts := [.exit 0], F := n_51l2 } | _ => none }
theorem call51_ok : CallerOk Tryd.prog call51 := call_none
theorem n_51l2_ok (C : Ctx) (hP : C.P = Tryd.prog) (hN : C.N = 10) : LoopOk C (loopNo (bodyOf Tryd.f51) 0) (sh := sh51) { cut := c51l2, alts := [.exit 0], F := n_51l2 } :=
  n_51l2.partial_correctness (motive := fun v out => AWpL C (loopNo (bodyOf Tryd.f51) 0) (encS vw (conc vw c51l2 v)) (OutQ sh51 [.exit 0] out)) fun F ih v out h =>
    loop_step (X := x51) (b := (loopNo (bodyOf Tryd.f51) 0)) hP hN Ty.mixed call51_ok (lok_all (X := x51) (c := (loopNo (bodyOf Tryd.f51) 0)) (kcast (by kernel_rfl : True = AllB (LoopsP C (x51)) (loopsIn (loopNo (bodyOf Tryd.f51) 0))) trivial)) ih (kcast (by kernel_rfl) h)
theorem n_51_ok : SigOk Tryd.prog 51 sig51 n_51 := fun v r x h hx =>
  fn_ok (X := x51) (sig := sig51) rfl Tryd.func51 (c := bodyOf Tryd.f51) (by kernel_rfl) Tryd.ntmps51 (by kernel_rfl) (by kernel_rfl) rfl Ty.mixed call51_ok rfl (fun C hP hN => (lok_all (X := x51) (c := (bodyOf Tryd.f51)) (kcast (by kernel_rfl : AllB (LoopsP C (x51)) [(loopNo (bodyOf Tryd.f51) 0)] = AllB (LoopsP C (x51)) (loopsIn (bodyOf Tryd.f51))) ⟨loop_at (X := x51) (b := (loopNo (bodyOf Tryd.f51) 0)) (by kernel_rfl) (n_51l2_ok C hP hN), trivial⟩))) (kcast (by kernel_rfl) h) x hx

noncomputable def c61z : Cut SN := { slots := [(4, .dat .str)], objs := [] }
noncomputable def sh61 : Shape vw := { exits := fun _ => { slots := [], objs := [] }, rcut := c61z }
noncomputable def sig61 : Sig vw := { params := [.dat .str, .dat (.int .i64)], objs := [], rcut := c61z, rvars := [.tmp 4], keep := [] }
noncomputable def n_61 (v : ByteArray × Int × Unit) : Option (ByteArray × Unit) :=
  if 0 ≤ v.2.1 ∧ v.2.1 ≤ 4294967296 ∧ (v.1.size : Int) * v.2.1 ≤ 140737488355328 then some (⟨(Lib.repeatL v.1.data.toList v.2.1.toNat).toArray⟩, ()) else none
theorem n_61_ok : SigOk Tryd.prog 61 sig61 n_61 := fun v r x h hx => by
  obtain ⟨s, c, u⟩ := v
  unfold n_61 at h
  split at h
  · rename_i hc
    obtain ⟨h0, h1, h2⟩ := hc
    simp only at h0 h1 h2
    cases h; cases hx
    obtain ⟨k, rfl⟩ : ∃ k : Nat, c = k := ⟨c.toNat, (Int.toNat_of_nonneg h0).symm⟩
    have hm : s.size * k ≤ 140737488355328 := by
      have : ((s.size * k : Nat) : Int) ≤ 140737488355328 := by rw [Int.natCast_mul]; exact h2
      omega
    have hk : k ≤ 9223372036854775807 := by omega
    exact kcast (by kernel_rfl) (FnOk.pure (P := Tryd.prog) (f := 61) (args := [.d (.v (.string s)), .d (.v (.int .i64 (k : Int)))]) (r := .d (.v (.string ⟨(Lib.repeatL s.data.toList (k : Int).toNat).toArray⟩))) (by kernel_rfl) fun E M w vs _ _ hv => by
      obtain ⟨v1, v2, rfl, h1, h2⟩ := hreps_two hv
      rw [h1.dv, h2.dv]
      exact (Tryd.strings_Repeat s k w hk hm).mono fun e w' ⟨he, hw⟩ => ⟨_, he, .d (.v _), hw⟩)
  · cases h

noncomputable def c33j8 : Cut SN := { slots := [(0, .dat .str), (7, .dat (.int .i64)), (8, .dat (.int .i64))], objs := [] }
noncomputable def c33z : Cut SN := { slots := [(6, .dat .str)], objs := [] }
noncomputable def sh33 : Shape vw := { exits := fun _ => { slots := [], objs := [] }, rcut := c33z }
noncomputable def sig33 : Sig vw := { params := [.dat .str, .dat (.int .i64), .dat (.int .u8)], objs := [], rcut := c33z, rvars := [.tmp 6], keep := [] }
noncomputable def n_33 (v : ByteArray × Int × Int × Unit) : Option (ByteArray × Unit) :=
  n_51 (v.fst, ()) >>= fun x1 =>
  (if (v.snd.snd.fst == (60 : Int)) = true then
      some ((v.fst, max (0 : Int) (IntKind.i64.wrap (v.snd.fst - x1.fst)), (0 : Int), ()))
    else if (v.snd.snd.fst == (94 : Int)) = true then
      some ((v.fst, max (0 : Int) (IntKind.i64.wrap (v.snd.fst - x1.fst)), IntKind.i64.wrap ((max (0 : Int) (IntKind.i64.wrap (v.snd.fst - x1.fst))).tdiv (2 : Int)), ()))
    else some ((v.fst, max (0 : Int) (IntKind.i64.wrap (v.snd.fst - x1.fst)), max (0 : Int) (IntKind.i64.wrap (v.snd.fst - x1.fst)), ()))) >>= fun x2 =>
  n_61 (ByteArray.mk #[(32 : UInt8)], x2.snd.snd.fst, ()) >>= fun x3 =>
  if x3.fst.size + x2.fst.size ≤ (4294967296 : Nat) then
    n_61 (ByteArray.mk #[(32 : UInt8)], IntKind.i64.wrap (x2.snd.fst - x2.snd.snd.fst), ()) >>= fun x4 =>
    if (x3.fst ++ x2.fst).size + x4.fst.size ≤ (4294967296 : Nat) then
      some ((x3.fst ++ x2.fst ++ x4.fst, ()))
    else none
  else none
noncomputable def call33 : Caller vw := fun A fid args S k => match fid with | 51 => callPure Tryd.prog sig51 n_51 A args S k | 61 => callPure Tryd.prog sig61 n_61 A args S k | _ => none
noncomputable def x33 : Xc vw := { P := Tryd.prog, n := 31, nm := id, call := call33, pre := fun _ => false, sh := sh33, joins := fun k => match k with | 8 => some (c33j8, [.norm]) | _ => none, regs := fun _ => none, loops := fun _ => none }
theorem call33_ok : CallerOk Tryd.prog call33 := fun A fid args S dst k r h => by
  unfold call33 at h
  split at h
  · exact callPure_ok (n_51_ok) rfl rfl h
  · exact callPure_ok (n_61_ok) rfl rfl h
  · cases h
theorem n_33_ok : SigOk Tryd.prog 33 sig33 n_33 := fun v r x h hx =>
  fn_ok (X := x33) (sig := sig33) rfl Tryd.func33 (c := bodyOf Tryd.f33) (by kernel_rfl) Tryd.ntmps33 (by kernel_rfl) (by kernel_rfl) rfl Ty.mixed call33_ok rfl (fun C hP hN => (lok_all (X := x33) (c := (bodyOf Tryd.f33)) (kcast (by kernel_rfl : True = AllB (LoopsP C (x33)) (loopsIn (bodyOf Tryd.f33))) trivial))) (kcast (by kernel_rfl) h) x hx

noncomputable def c34s4b14z : Cut SN := { slots := [(0, .bp 100000 0), (2, .dat (.int .i64))], objs := [(100000, .box (some 61) [.np 100000, .vh 3001]), (3001, .vec 5 (.int .u8))] }
noncomputable def sh34s4b14 : Shape vw := { exits := fun _ => { slots := [], objs := [] }, rcut := c34s4b14z }
noncomputable def sig34s4b14 : Sig vw := { params := [.bp 100000 0], objs := [(100000, .box (some 61) [.np 100000, .vh 100001]), (100001, .vec 5 (.int .u8))], rcut := c34s4b14z, rvars := [.tmp 2], keep := [100000, 3001] }
noncomputable def n_34s4b14 (v : Bool × (List Int) × Unit) : Option (Int × Bool × (List Int) × Unit) :=
  some (((↑v.snd.fst.length : Int), v.fst, v.snd.fst, ()))
noncomputable def call34s4b14 : Caller vw := fun _ _ _ _ _ => none
noncomputable def x34s4b14 : Xc vw := { P := Tryd.prog, n := 8, nm := id, call := call34s4b14, pre := fun _ => false, sh := sh34s4b14, joins := fun _ => none, regs := fun _ => none, loops := fun _ => none }
theorem call34s4b14_ok : CallerOk Tryd.prog call34s4b14 := call_none
theorem n_34s4b14_ok : SigOk Tryd.prog 34 sig34s4b14 n_34s4b14 := fun v r x h hx =>
  fn_ok (X := x34s4b14) (sig := sig34s4b14) rfl Tryd.func34 (c := bodyOf Tryd.f34) (by kernel_rfl) Tryd.ntmps34 (by kernel_rfl) (by kernel_rfl) rfl Ty.mixed call34s4b14_ok rfl (fun C hP hN => (lok_all (X := x34s4b14) (c := (bodyOf Tryd.f34)) (kcast (by kernel_rfl : True = AllB (LoopsP C (x34s4b14)) (loopsIn (bodyOf Tryd.f34))) trivial))) (kcast (by kernel_rfl) h) x hx

noncomputable def c35s4b14z : Cut SN := { slots := [(2, .dat .str)], objs := [] }
noncomputable def sh35s4b14 : Shape vw := { exits := fun _ => { slots := [], objs := [] }, rcut := c35s4b14z }
noncomputable def sig35s4b14 : Sig vw := { params := [.bp 100000 0], objs := [(100000, .box (some 61) [.np 100000, .vh 100001]), (100001, .vec 5 (.int .u8))], rcut := c35s4b14z, rvars := [.tmp 2], keep := [] }
noncomputable def n_35s4b14 (v : Bool × (List Int) × Unit) : Option (ByteArray × Unit) :=
  if (↑v.snd.fst.length : Int) = (↑v.snd.fst.length : Int) ∧ v.snd.fst.length ≤ (4294967296 : Nat) then
    some ((Bs.bytes v.snd.fst, ()))
  else none
noncomputable def call35s4b14 : Caller vw := fun _ _ _ _ _ => none
noncomputable def x35s4b14 : Xc vw := { P := Tryd.prog, n := 14, nm := id, call := call35s4b14, pre := fun _ => false, sh := sh35s4b14, joins := fun _ => none, regs := fun _ => none, loops := fun _ => none }
theorem call35s4b14_ok : CallerOk Tryd.prog call35s4b14 := call_none
theorem n_35s4b14_ok : SigOk Tryd.prog 35 sig35s4b14 n_35s4b14 := fun v r x h hx =>
  fn_ok (X := x35s4b14) (sig := sig35s4b14) rfl Tryd.func35 (c := bodyOf Tryd.f35) (by kernel_rfl) Tryd.ntmps35 (by kernel_rfl) (by kernel_rfl) rfl Ty.mixed call35s4b14_ok rfl (fun C hP hN => (lok_all (X := x35s4b14) (c := (bodyOf Tryd.f35)) (kcast (by kernel_rfl : True = AllB (LoopsP C (x35s4b14)) (loopsIn (bodyOf Tryd.f35))) trivial))) (kcast (by kernel_rfl) h) x hx

noncomputable def c10l6 : Cut SN := { slots := [(1, .dat (.sl (.st .tagT))), (6, .dat (.sl (.st .pieceT))), (8, .dat (.int .i64)), (27, .dat (.sl (.st .pieceT))), (28, .dat (.int .i64)), (29, .dat (.int .i64))], objs := [] }
noncomputable def c10l14 : Cut SN := { slots := [(1, .dat (.sl (.st .tagT))), (6, .dat (.sl (.st .pieceT))), (43, .dat (.sl (.st .tagT))), (44, .dat (.int .i64)), (45, .dat (.int .i64))], objs := [] }
noncomputable def c10l21 : Cut SN := { slots := [(1, .dat (.sl (.st .tagT))), (13, .bp 13 0), (53, .dat (.sl (.st .pieceT))), (54, .dat (.int .i64)), (55, .dat (.int .i64))], objs := [(13, .box (some 61) [.np 13, .vh 3131]), (3131, .vec 5 (.int .u8))] }
noncomputable def c10j10 : Cut SN := { slots := [(1, .dat (.sl (.st .tagT))), (6, .dat (.sl (.st .pieceT))), (8, .dat (.int .i64)), (27, .dat (.sl (.st .pieceT))), (28, .dat (.int .i64)), (29, .dat (.int .i64))], objs := [] }
noncomputable def c10j31 : Cut SN := { slots := [(1, .dat (.sl (.st .tagT))), (13, .bp 13 0), (15, .bp 15 0), (16, .dat .str), (18, .dat (.int .u8)), (53, .dat (.sl (.st .pieceT))), (54, .dat (.int .i64)), (55, .dat (.int .i64))], objs := [(13, .box (some 61) [.np 13, .vh 3131]), (15, .st .pieceT), (3131, .vec 5 (.int .u8))] }
noncomputable def c10j33 : Cut SN := { slots := [(1, .dat (.sl (.st .tagT))), (13, .bp 13 0), (53, .dat (.sl (.st .pieceT))), (54, .dat (.int .i64)), (55, .dat (.int .i64))], objs := [(13, .box (some 61) [.np 13, .vh 3131]), (3131, .vec 5 (.int .u8))] }
noncomputable def c10r19 : Cut SN := { slots := [(1, .dat (.sl (.st .tagT))), (6, .dat (.sl (.st .pieceT))), (13, .bp 13 0)], objs := [(13, .box (some 61) [.np 13, .vh 3131]), (3131, .vec 5 (.int .u8))] }
noncomputable def c10r29 : Cut SN := { slots := [(1, .dat (.sl (.st .tagT))), (13, .bp 13 0), (15, .bp 15 0), (16, .dat .str), (18, .dat (.int .u8)), (53, .dat (.sl (.st .pieceT))), (54, .dat (.int .i64)), (55, .dat (.int .i64)), (86, .dat .bool)], objs := [(13, .box (some 61) [.np 13, .vh 3131]), (15, .st .pieceT), (3131, .vec 5 (.int .u8))] }
noncomputable def c10e0 : Cut SN := { slots := [(1, .dat (.sl (.st .tagT))), (6, .dat (.sl (.st .pieceT))), (8, .dat (.int .i64))], objs := [] }
noncomputable def c10e2 : Cut SN := { slots := [(1, .dat (.sl (.st .tagT))), (6, .dat (.sl (.st .pieceT)))], objs := [] }
noncomputable def c10e4 : Cut SN := { slots := [(13, .bp 13 0)], objs := [(13, .box (some 61) [.np 13, .vh 3131]), (3131, .vec 5 (.int .u8))] }
noncomputable def c10z : Cut SN := { slots := [(4, .dat .str), (5, .dat (.int .i64))], objs := [] }
noncomputable def sh10 : Shape vw := { exits := fun id => match id with | 0 => c10e0 | 2 => c10e2 | 4 => c10e4 | _ => { slots := [], objs := [] }, rcut := c10z }
noncomputable def sig10 : Sig vw := { params := [.dat .str, .dat (.sl (.st .tagT))], objs := [], rcut := c10z, rvars := [.tmp 4, .tmp 5], keep := [] }
noncomputable def n_10l6 (v : (List Tag) × (List Piece) × Int × (List Piece) × Int × Int × Unit) : Option (((List Tag) × (List Piece) × Int × Unit)) :=
  if decide (v.snd.snd.snd.snd.snd.fst < v.snd.snd.snd.snd.fst) = true then
    (if (0 : Int) ≤ v.snd.snd.snd.snd.snd.fst then
        v.snd.snd.snd.fst[v.snd.snd.snd.snd.snd.fst.toNat]? >>= fun x1 =>
        if (x1.letter != (0 : Int)) = true then
          some ((v.fst, v.snd.fst, IntKind.i64.wrap (v.snd.snd.fst + (1 : Int)), v.snd.snd.snd.fst, v.snd.snd.snd.snd.fst, v.snd.snd.snd.snd.snd.fst, ()))
        else some ((v.fst, v.snd.fst, v.snd.snd.fst, v.snd.snd.snd.fst, v.snd.snd.snd.snd.fst, v.snd.snd.snd.snd.snd.fst, ()))
      else none) >>= fun x1 =>
    n_10l6 (x1.fst, x1.snd.fst, x1.snd.snd.fst, x1.snd.snd.snd.fst, x1.snd.snd.snd.snd.fst, IntKind.i64.wrap (x1.snd.snd.snd.snd.snd.fst + (1 : Int)), ())
  else some ((v.fst, v.snd.fst, v.snd.snd.fst, ()))
  partial_fixpoint
noncomputable def n_10l14 (v : (List Tag) × (List Piece) × (List Tag) × Int × Int × Unit) : Option (((ByteArray × Int × Unit) ⊕ ((List Tag) × (List Piece) × Unit))) :=
  if decide (v.snd.snd.snd.snd.fst < v.snd.snd.snd.fst) = true then
    if (0 : Int) ≤ v.snd.snd.snd.snd.fst then
      v.snd.snd.fst[v.snd.snd.snd.snd.fst.toNat]? >>= fun x1 =>
      n_30 (x1, ()) >>= fun x2 =>
      if (!x2.fst) = true then
        some (Sum.inl (ByteArray.mk #[], (1 : Int), ()))
      else n_10l14 (v.fst, v.snd.fst, v.snd.snd.fst, v.snd.snd.snd.fst, IntKind.i64.wrap (v.snd.snd.snd.snd.fst + (1 : Int)), ())
    else none
  else some (Sum.inr (v.fst, v.snd.fst, ()))
  partial_fixpoint
noncomputable def n_10l21 (v : (List Tag) × (List Piece) × Int × Int × Bool × (List Int) × Unit) : Option (((ByteArray × Int × Unit) ⊕ (Bool × (List Int) × Unit))) :=
  if decide (v.snd.snd.snd.fst < v.snd.snd.fst) = true then
    (if (0 : Int) ≤ v.snd.snd.snd.fst then
        v.snd.fst[v.snd.snd.snd.fst.toNat]? >>= fun x1 =>
        if (x1.letter == (0 : Int)) = true then
          n_31s9b49 (x1.text, v.snd.snd.snd.snd.fst, v.snd.snd.snd.snd.snd.fst, ()) >>= fun x2 =>
          some (Sum.inl (v.fst, v.snd.fst, v.snd.snd.fst, v.snd.snd.snd.fst, x2.snd.fst, x2.snd.snd.fst, ()))
        else v.fst[Int.toNat (0 : Int)]? >>= fun x2 =>
        n_32 (x1.letter, x2, ()) >>= fun x3 =>
        if (!x3.snd.fst) = true then
          some (Sum.inr (ByteArray.mk #[], (6 : Int), ()))
        else ((if (x1.side == (0 : Int)) = true then
              v.fst[Int.toNat (0 : Int)]? >>= fun x4 =>
              some ((v.fst, x3.fst, x1.side, v.snd.fst, v.snd.snd.fst, v.snd.snd.snd.fst, x4.kind != (3 : Int), v.snd.snd.snd.snd.fst, x1, v.snd.snd.snd.snd.snd.fst, ()))
            else some ((v.fst, x3.fst, x1.side, v.snd.fst, v.snd.snd.fst, v.snd.snd.snd.fst, false, v.snd.snd.snd.snd.fst, x1, v.snd.snd.snd.snd.snd.fst, ()))) >>= fun x4 =>
          if x4.snd.snd.snd.snd.snd.snd.fst = true then
            some ((x4.fst, x4.snd.fst, (60 : Int), x4.snd.snd.snd.fst, x4.snd.snd.snd.snd.fst, x4.snd.snd.snd.snd.snd.fst, x4.snd.snd.snd.snd.snd.snd.snd.fst, x4.snd.snd.snd.snd.snd.snd.snd.snd.fst, x4.snd.snd.snd.snd.snd.snd.snd.snd.snd.fst, ()))
          else some ((x4.fst, x4.snd.fst, x4.snd.snd.fst, x4.snd.snd.snd.fst, x4.snd.snd.snd.snd.fst, x4.snd.snd.snd.snd.snd.fst, x4.snd.snd.snd.snd.snd.snd.snd.fst, x4.snd.snd.snd.snd.snd.snd.snd.snd.fst, x4.snd.snd.snd.snd.snd.snd.snd.snd.snd.fst, ()))) >>= fun x4 =>
        if (0 : Int) ≤ (1 : Int) ∧ (1 : Int) ≤ (↑x4.fst.length : Int) ∧ (↑x4.fst.length : Int) ≤ (↑x4.fst.length : Int) then
          n_33 (x4.snd.fst, x4.snd.snd.snd.snd.snd.snd.snd.fst.width, x4.snd.snd.fst, ()) >>= fun x5 =>
          n_31s9b49 (x5.fst, x4.snd.snd.snd.snd.snd.snd.fst, x4.snd.snd.snd.snd.snd.snd.snd.snd.fst, ()) >>= fun x6 =>
          some (Sum.inl (List.drop (Int.toNat (1 : Int)) (List.take (↑x4.fst.length : Int).toNat x4.fst), x4.snd.snd.snd.fst, x4.snd.snd.snd.snd.fst, x4.snd.snd.snd.snd.snd.fst, x6.snd.fst, x6.snd.snd.fst, ()))
        else none
      else none) >>= fun x1 => match x1 with
      | .inl y1 => n_10l21 (y1.fst, y1.snd.fst, y1.snd.snd.fst, IntKind.i64.wrap (y1.snd.snd.snd.fst + (1 : Int)), y1.snd.snd.snd.snd.fst, y1.snd.snd.snd.snd.snd.fst, ())
      | .inr y1 => some (Sum.inl y1)
  else some (Sum.inr (v.snd.snd.snd.snd.fst, v.snd.snd.snd.snd.snd.fst, ()))
  partial_fixpoint
noncomputable def n_10 (v : ByteArray × (List Tag) × Unit) : Option (ByteArray × Int × Unit) :=
  n_29 (v.fst, ()) >>= fun x1 =>
  if (x1.snd.fst != (0 : Int)) = true then
    some ((ByteArray.mk #[], x1.snd.fst, ()))
  else n_10l6 (v.snd.fst, x1.fst, (0 : Int), x1.fst, (↑x1.fst.length : Int), (0 : Int), ()) >>= fun x2 =>
  if (x2.snd.snd.fst != (↑x2.fst.length : Int)) = true then
    some ((ByteArray.mk #[], (10 : Int), ()))
  else n_10l14 (x2.fst, x2.snd.fst, x2.fst, (↑x2.fst.length : Int), (0 : Int), ()) >>= fun x3 => match x3 with
    | .inl y3 => some y3
    | .inr y3 => some (y3.fst, y3.snd.fst, false, [], ()) >>= fun x4 =>
      n_10l21 (x4.fst, x4.snd.fst, (↑x4.snd.fst.length : Int), (0 : Int), x4.snd.snd.fst, x4.snd.snd.snd.fst, ()) >>= fun x5 => match x5 with
        | .inl y5 => some y5
        | .inr y5 => n_34s4b14 (y5.fst, y5.snd.fst, ()) >>= fun x6 =>
          if decide (x6.fst > (16384 : Int)) = true then
            some ((ByteArray.mk #[], (3 : Int), ()))
          else n_35s4b14 (x6.snd.fst, x6.snd.snd.fst, ()) >>= fun x7 =>
          some ((x7.fst, (0 : Int), ()))
noncomputable def call10 : Caller vw := fun A fid args S k => match fid with | 29 => callPure Tryd.prog sig29 n_29 A args S k | 30 => callPure Tryd.prog sig30 n_30 A args S k | 31 => callObj Tryd.prog sig31s9b49 n_31s9b49 A args S k | 32 => callPure Tryd.prog sig32 n_32 A args S k | 33 => callPure Tryd.prog sig33 n_33 A args S k | 34 => callObj Tryd.prog sig34s4b14 n_34s4b14 A args S k | 35 => callObj Tryd.prog sig35s4b14 n_35s4b14 A args S k | _ => none
noncomputable def x10 : Xc vw := { P := Tryd.prog, n := 99, nm := id, call := call10, pre := fun _ => false, sh := sh10, joins := fun k => match k with | 10 => some (c10j10, [.norm]) | 31 => some (c10j31, [.norm]) | 33 => some (c10j33, [.norm, .ret]) | _ => none, regs := fun k => match k with | 19 => some c10r19 | 29 => some c10r29 | _ => none, loops := fun k => match k with | 6 => some { cut := c10l6, alts := [.exit 0], F := n_10l6 } | 14 => some { cut := c10l14, alts := [.ret, .exit 2], F := n_10l14 } | 21 => some { cut := c10l21, alts := [.ret, .exit 4], F := n_10l21 } | _ => none }
theorem call10_ok : CallerOk Tryd.prog call10 := fun A fid args S dst k r h => by
  unfold call10 at h
  split at h
  · exact callPure_ok (n_29_ok) rfl rfl h
  · exact callPure_ok (n_30_ok) rfl rfl h
  · exact callObj_ok (n_31s9b49_ok) h
  · exact callPure_ok (n_32_ok) rfl rfl h
  · exact callPure_ok (n_33_ok) rfl rfl h
  · exact callObj_ok (n_34s4b14_ok) h
  · exact callObj_ok (n_35s4b14_ok) h
  · cases h
theorem n_10l6_ok (C : Ctx) (hP : C.P = Tryd.prog) (hN : C.N = 99) : LoopOk C (loopNo (bodyOf Tryd.f10) 0) (sh := sh10) { cut := c10l6, alts := [.exit 0], F := n_10l6 } :=
  n_10l6.partial_correctness (motive := fun v out => AWpL C (loopNo (bodyOf Tryd.f10) 0) (encS vw (conc vw c10l6 v)) (OutQ sh10 [.exit 0] out)) fun F ih v out h =>
    loop_step (X := x10) (b := (loopNo (bodyOf Tryd.f10) 0)) hP hN Ty.mixed call10_ok (lok_all (X := x10) (c := (loopNo (bodyOf Tryd.f10) 0)) (kcast (by kernel_rfl : True = AllB (LoopsP C (x10)) (loopsIn (loopNo (bodyOf Tryd.f10) 0))) trivial)) ih (kcast (by kernel_rfl) h)
theorem n_10l14_ok (C : Ctx) (hP : C.P = Tryd.prog) (hN : C.N = 99) : LoopOk C (loopNo (bodyOf Tryd.f10) 1) (sh := sh10) { cut := c10l14, alts := [.ret, .exit 2], F := n_10l14 } :=
  n_10l14.partial_correctness (motive := fun v out => AWpL C (loopNo (bodyOf Tryd.f10) 1) (encS vw (conc vw c10l14 v)) (OutQ sh10 [.ret, .exit 2] out)) fun F ih v out h =>
    loop_step (X := x10) (b := (loopNo (bodyOf Tryd.f10) 1)) hP hN Ty.mixed call10_ok (lok_all (X := x10) (c := (loopNo (bodyOf Tryd.f10) 1)) (kcast (by kernel_rfl : True = AllB (LoopsP C (x10)) (loopsIn (loopNo (bodyOf Tryd.f10) 1))) trivial)) ih (kcast (by kernel_rfl) h)
theorem n_10l21_ok (C : Ctx) (hP : C.P = Tryd.prog) (hN : C.N = 99) : LoopOk C (loopNo (bodyOf Tryd.f10) 2) (sh := sh10) { cut := c10l21, alts := [.ret, .exit 4], F := n_10l21 } :=
  n_10l21.partial_correctness (motive := fun v out => AWpL C (loopNo (bodyOf Tryd.f10) 2) (encS vw (conc vw c10l21 v)) (OutQ sh10 [.ret, .exit 4] out)) fun F ih v out h =>
    loop_step (X := x10) (b := (loopNo (bodyOf Tryd.f10) 2)) hP hN Ty.mixed call10_ok (lok_all (X := x10) (c := (loopNo (bodyOf Tryd.f10) 2)) (kcast (by kernel_rfl : True = AllB (LoopsP C (x10)) (loopsIn (loopNo (bodyOf Tryd.f10) 2))) trivial)) ih (kcast (by kernel_rfl) h)
theorem n_10_ok : SigOk Tryd.prog 10 sig10 n_10 := fun v r x h hx =>
  fn_ok (X := x10) (sig := sig10) rfl Tryd.func10 (c := bodyOf Tryd.f10) (by kernel_rfl) Tryd.ntmps10 (by kernel_rfl) (by kernel_rfl) rfl Ty.mixed call10_ok rfl (fun C hP hN => (lok_all (X := x10) (c := (bodyOf Tryd.f10)) (kcast (by kernel_rfl : AllB (LoopsP C (x10)) [(loopNo (bodyOf Tryd.f10) 0), (loopNo (bodyOf Tryd.f10) 1), (loopNo (bodyOf Tryd.f10) 2)] = AllB (LoopsP C (x10)) (loopsIn (bodyOf Tryd.f10))) ⟨loop_at (X := x10) (b := (loopNo (bodyOf Tryd.f10) 0)) (by kernel_rfl) (n_10l6_ok C hP hN), loop_at (X := x10) (b := (loopNo (bodyOf Tryd.f10) 1)) (by kernel_rfl) (n_10l14_ok C hP hN), loop_at (X := x10) (b := (loopNo (bodyOf Tryd.f10) 2)) (by kernel_rfl) (n_10l21_ok C hP hN), trivial⟩))) (kcast (by kernel_rfl) h) x hx

noncomputable def c11r4 : Cut SN := { slots := [(0, .dat .str), (1, .dat (.int .i64)), (2, .dat (.int .u8)), (24, .dat .bool)], objs := [] }
noncomputable def c11z : Cut SN := { slots := [(6, .dat .str), (7, .dat (.int .i64))], objs := [] }
noncomputable def sh11 : Shape vw := { exits := fun _ => { slots := [], objs := [] }, rcut := c11z }
noncomputable def sig11 : Sig vw := { params := [.dat .str, .dat (.int .i64), .dat (.int .u8)], objs := [], rcut := c11z, rvars := [.tmp 6, .tmp 7], keep := [] }
noncomputable def n_11 (v : ByteArray × Int × Int × Unit) : Option (ByteArray × Int × Unit) :=
  n_36 (v.fst, ()) >>= fun x1 =>
  if (x1.fst != (0 : Int)) = true then
    some ((ByteArray.mk #[], x1.fst, ()))
  else (if decide (v.snd.fst < (0 : Int)) = true then
      some ((v.fst, v.snd.fst, v.snd.snd.fst, true, ()))
    else if decide (v.snd.fst > (99 : Int)) = true then
      some ((v.fst, v.snd.fst, v.snd.snd.fst, true, ()))
    else n_37 (ByteArray.mk #[(60 : UInt8), (62 : UInt8), (94 : UInt8)], v.snd.snd.fst, ()) >>= fun x2 =>
    some ((v.fst, v.snd.fst, v.snd.snd.fst, decide (x2.fst < (0 : Int)), ()))) >>= fun x2 =>
  if x2.snd.snd.snd.fst = true then
    some ((ByteArray.mk #[], (1 : Int), ()))
  else n_33 (x2.fst, x2.snd.fst, x2.snd.snd.fst, ()) >>= fun x3 =>
  some ((x3.fst, (0 : Int), ()))
noncomputable def call11 : Caller vw := fun A fid args S k => match fid with | 33 => callPure Tryd.prog sig33 n_33 A args S k | 36 => callPure Tryd.prog sig36 n_36 A args S k | 37 => callPure Tryd.prog sig37 n_37 A args S k | _ => none
noncomputable def x11 : Xc vw := { P := Tryd.prog, n := 29, nm := id, call := call11, pre := fun _ => false, sh := sh11, joins := fun _ => none, regs := fun k => match k with | 4 => some c11r4 | _ => none, loops := fun _ => none }
theorem call11_ok : CallerOk Tryd.prog call11 := fun A fid args S dst k r h => by
  unfold call11 at h
  split at h
  · exact callPure_ok (n_33_ok) rfl rfl h
  · exact callPure_ok (n_36_ok) rfl rfl h
  · exact callPure_ok (n_37_ok) rfl rfl h
  · cases h
theorem n_11_ok : SigOk Tryd.prog 11 sig11 n_11 := fun v r x h hx =>
  fn_ok (X := x11) (sig := sig11) rfl Tryd.func11 (c := bodyOf Tryd.f11) (by kernel_rfl) Tryd.ntmps11 (by kernel_rfl) (by kernel_rfl) rfl Ty.mixed call11_ok rfl (fun C hP hN => (lok_all (X := x11) (c := (bodyOf Tryd.f11)) (kcast (by kernel_rfl : True = AllB (LoopsP C (x11)) (loopsIn (bodyOf Tryd.f11))) trivial))) (kcast (by kernel_rfl) h) x hx

noncomputable def c39r1 : Cut SN := { slots := [(6, .dat .bool)], objs := [] }
noncomputable def c39z : Cut SN := { slots := [(6, .dat .bool)], objs := [] }
noncomputable def sh39 : Shape vw := { exits := fun _ => { slots := [], objs := [] }, rcut := c39z }
noncomputable def sig39 : Sig vw := { params := [.dat (.int .i64), .dat (.int .i64), .dat (.int .i64)], objs := [], rcut := c39z, rvars := [.tmp 6], keep := [] }
noncomputable def n_39 (v : Int × Int × Int × Unit) : Option (Bool × Unit) :=
  (if decide (v.fst ≥ v.snd.fst) = true then
      some ((decide (v.fst ≤ v.snd.snd.fst), ()))
    else some ((false, ()))) >>= fun x1 =>
  some ((x1.fst, ()))
noncomputable def call39 : Caller vw := fun _ _ _ _ _ => none
noncomputable def x39 : Xc vw := { P := Tryd.prog, n := 15, nm := id, call := call39, pre := fun _ => false, sh := sh39, joins := fun _ => none, regs := fun k => match k with | 1 => some c39r1 | _ => none, loops := fun _ => none }
theorem call39_ok : CallerOk Tryd.prog call39 := call_none
theorem n_39_ok : SigOk Tryd.prog 39 sig39 n_39 := fun v r x h hx =>
  fn_ok (X := x39) (sig := sig39) rfl Tryd.func39 (c := bodyOf Tryd.f39) (by kernel_rfl) Tryd.ntmps39 (by kernel_rfl) (by kernel_rfl) rfl Ty.mixed call39_ok rfl (fun C hP hN => (lok_all (X := x39) (c := (bodyOf Tryd.f39)) (kcast (by kernel_rfl : True = AllB (LoopsP C (x39)) (loopsIn (bodyOf Tryd.f39))) trivial))) (kcast (by kernel_rfl) h) x hx

noncomputable def c55r1 : Cut SN := { slots := [(2, .dat .bool)], objs := [] }
noncomputable def c55z : Cut SN := { slots := [(2, .dat .bool)], objs := [] }
noncomputable def sh55 : Shape vw := { exits := fun _ => { slots := [], objs := [] }, rcut := c55z }
noncomputable def sig55 : Sig vw := { params := [.dat (.int .i64)], objs := [], rcut := c55z, rvars := [.tmp 2], keep := [] }
noncomputable def n_55 (v : Int × Unit) : Option (Bool × Unit) :=
  (n_39 (v.fst, (0 : Int), (55295 : Int), ()) >>= fun x1 =>
    if x1.fst = true then
      some ((true, ()))
    else n_39 (v.fst, (57344 : Int), (1114111 : Int), ()) >>= fun x2 =>
    some ((x2.fst, ()))) >>= fun x1 =>
  some ((x1.fst, ()))
noncomputable def call55 : Caller vw := fun A fid args S k => match fid with | 39 => callPure Tryd.prog sig39 n_39 A args S k | _ => none
noncomputable def x55 : Xc vw := { P := Tryd.prog, n := 9, nm := id, call := call55, pre := fun _ => false, sh := sh55, joins := fun _ => none, regs := fun k => match k with | 1 => some c55r1 | _ => none, loops := fun _ => none }
theorem call55_ok : CallerOk Tryd.prog call55 := fun A fid args S dst k r h => by
  unfold call55 at h
  split at h
  · exact callPure_ok (n_39_ok) rfl rfl h
  · cases h
theorem n_55_ok : SigOk Tryd.prog 55 sig55 n_55 := fun v r x h hx =>
  fn_ok (X := x55) (sig := sig55) rfl Tryd.func55 (c := bodyOf Tryd.f55) (by kernel_rfl) Tryd.ntmps55 (by kernel_rfl) (by kernel_rfl) rfl Ty.mixed call55_ok rfl (fun C hP hN => (lok_all (X := x55) (c := (bodyOf Tryd.f55)) (kcast (by kernel_rfl : True = AllB (LoopsP C (x55)) (loopsIn (bodyOf Tryd.f55))) trivial))) (kcast (by kernel_rfl) h) x hx

noncomputable def c65z : Cut SN := { slots := [(2, .dat .str)], objs := [] }
noncomputable def sh65 : Shape vw := { exits := fun _ => { slots := [], objs := [] }, rcut := c65z }
noncomputable def sig65 : Sig vw := { params := [.dat (.int .i64)], objs := [], rcut := c65z, rvars := [.tmp 2], keep := [] }
noncomputable def n_65 (v : Int × Unit) : Option (ByteArray × Unit) :=
  if decide (v.fst < (128 : Int)) = true then
    some ((Bs.bytes [IntKind.u8.wrap v.fst], ()))
  else if decide (v.fst < (2048 : Int)) = true then
    some ((Bs.bytes [IntKind.u8.wrap (IntKind.i64.wrap ((192 : Int) + IntKind.i64.wrap (v.fst.tdiv (64 : Int)))), IntKind.u8.wrap (IntKind.i64.wrap ((128 : Int) + v.fst.tmod (64 : Int)))], ()))
  else if decide (v.fst < (65536 : Int)) = true then
    some ((Bs.bytes [IntKind.u8.wrap (IntKind.i64.wrap ((224 : Int) + IntKind.i64.wrap (v.fst.tdiv (4096 : Int)))), IntKind.u8.wrap (IntKind.i64.wrap ((128 : Int) + (IntKind.i64.wrap (v.fst.tdiv (64 : Int))).tmod (64 : Int))), IntKind.u8.wrap (IntKind.i64.wrap ((128 : Int) + v.fst.tmod (64 : Int)))], ()))
  else some ((Bs.bytes [IntKind.u8.wrap (IntKind.i64.wrap ((240 : Int) + IntKind.i64.wrap (v.fst.tdiv (262144 : Int)))), IntKind.u8.wrap (IntKind.i64.wrap ((128 : Int) + (IntKind.i64.wrap (v.fst.tdiv (4096 : Int))).tmod (64 : Int))), IntKind.u8.wrap (IntKind.i64.wrap ((128 : Int) + (IntKind.i64.wrap (v.fst.tdiv (64 : Int))).tmod (64 : Int))), IntKind.u8.wrap (IntKind.i64.wrap ((128 : Int) + v.fst.tmod (64 : Int)))], ()))
noncomputable def call65 : Caller vw := fun _ _ _ _ _ => none
noncomputable def x65 : Xc vw := { P := Tryd.prog, n := 61, nm := id, call := call65, pre := fun _ => false, sh := sh65, joins := fun _ => none, regs := fun _ => none, loops := fun _ => none }
theorem call65_ok : CallerOk Tryd.prog call65 := call_none
theorem n_65_ok : SigOk Tryd.prog 65 sig65 n_65 := fun v r x h hx =>
  fn_ok (X := x65) (sig := sig65) rfl Tryd.func65 (c := bodyOf Tryd.f65) (by kernel_rfl) Tryd.ntmps65 (by kernel_rfl) (by kernel_rfl) rfl Ty.mixed call65_ok rfl (fun C hP hN => (lok_all (X := x65) (c := (bodyOf Tryd.f65)) (kcast (by kernel_rfl : True = AllB (LoopsP C (x65)) (loopsIn (bodyOf Tryd.f65))) trivial))) (kcast (by kernel_rfl) h) x hx

noncomputable def c68l14 : Cut SN := { slots := [(0, .dat .str), (1, .dat (.int .i64)), (7, .dat (.int .i64)), (8, .dat (.int .i64)), (9, .dat (.int .i64))], objs := [] }
noncomputable def c68j11 : Cut SN := { slots := [(0, .dat .str), (1, .dat (.int .i64)), (7, .dat (.int .i64)), (8, .dat (.int .i64))], objs := [] }
noncomputable def c68r17 : Cut SN := { slots := [(0, .dat .str), (1, .dat (.int .i64)), (7, .dat (.int .i64)), (8, .dat (.int .i64)), (9, .dat (.int .i64)), (10, .dat (.int .i64)), (56, .dat .bool)], objs := [] }
noncomputable def c68r20 : Cut SN := { slots := [(7, .dat (.int .i64)), (8, .dat (.int .i64)), (75, .dat .bool)], objs := [] }
noncomputable def c68e1 : Cut SN := { slots := [(0, .dat .str), (1, .dat (.int .i64)), (7, .dat (.int .i64)), (8, .dat (.int .i64))], objs := [] }
noncomputable def c68z : Cut SN := { slots := [(4, .dat (.int .i64)), (5, .dat (.int .i64))], objs := [] }
noncomputable def sh68 : Shape vw := { exits := fun id => match id with | 1 => c68e1 | _ => { slots := [], objs := [] }, rcut := c68z }
noncomputable def sig68 : Sig vw := { params := [.dat .str, .dat (.int .i64)], objs := [], rcut := c68z, rvars := [.tmp 4, .tmp 5], keep := [] }
noncomputable def n_68l14 (v : ByteArray × Int × Int × Int × Int × Unit) : Option (((Int × Int × Unit) ⊕ (ByteArray × Int × Int × Int × Unit))) :=
  if decide (v.snd.snd.snd.snd.fst < v.snd.snd.fst) = true then
    if (0 : Int) ≤ IntKind.i64.wrap (v.snd.fst + v.snd.snd.snd.snd.fst) then
      v.fst[(IntKind.i64.wrap (v.snd.fst + v.snd.snd.snd.snd.fst)).toNat]? >>= fun x1 =>
      (if decide (IntKind.i64.wrap (↑x1.toNat : Int) < (128 : Int)) = true then
          some ((v.fst, v.snd.fst, v.snd.snd.fst, v.snd.snd.snd.fst, v.snd.snd.snd.snd.fst, IntKind.i64.wrap (↑x1.toNat : Int), true, ()))
        else some ((v.fst, v.snd.fst, v.snd.snd.fst, v.snd.snd.snd.fst, v.snd.snd.snd.snd.fst, IntKind.i64.wrap (↑x1.toNat : Int), decide (IntKind.i64.wrap (↑x1.toNat : Int) > (191 : Int)), ()))) >>= fun x2 =>
      if x2.snd.snd.snd.snd.snd.snd.fst = true then
        some (Sum.inl ((0 : Int), (0 : Int), ()))
      else n_68l14 (x2.fst, x2.snd.fst, x2.snd.snd.fst, IntKind.i64.wrap (IntKind.i64.wrap (IntKind.i64.wrap ((64 : Int) * x2.snd.snd.snd.fst) + x2.snd.snd.snd.snd.snd.fst) - (128 : Int)), IntKind.i64.wrap (x2.snd.snd.snd.snd.fst + (1 : Int)), ())
    else none
  else some (Sum.inr (v.fst, v.snd.fst, v.snd.snd.fst, v.snd.snd.snd.fst, ()))
  partial_fixpoint
noncomputable def n_68 (v : ByteArray × Int × Unit) : Option (Int × Int × Unit) :=
  if (0 : Int) ≤ v.snd.fst then
    v.fst[v.snd.fst.toNat]? >>= fun x1 =>
    (if decide (IntKind.i64.wrap (↑x1.toNat : Int) ≥ (240 : Int)) = true then
        some (Sum.inl (v.fst, v.snd.fst, (4 : Int), IntKind.i64.wrap (IntKind.i64.wrap (↑x1.toNat : Int) - (240 : Int)), ()))
      else if decide (IntKind.i64.wrap (↑x1.toNat : Int) ≥ (224 : Int)) = true then
        some (Sum.inl (v.fst, v.snd.fst, (3 : Int), IntKind.i64.wrap (IntKind.i64.wrap (↑x1.toNat : Int) - (224 : Int)), ()))
      else if decide (IntKind.i64.wrap (↑x1.toNat : Int) ≥ (192 : Int)) = true then
        some (Sum.inl (v.fst, v.snd.fst, (2 : Int), IntKind.i64.wrap (IntKind.i64.wrap (↑x1.toNat : Int) - (192 : Int)), ()))
      else if decide (IntKind.i64.wrap (↑x1.toNat : Int) ≥ (128 : Int)) = true then
        some (Sum.inr ((0 : Int), (0 : Int), ()))
      else some (Sum.inl (v.fst, v.snd.fst, (1 : Int), IntKind.i64.wrap (↑x1.toNat : Int), ()))) >>= fun x2 => match x2 with
      | .inl y2 => if decide (IntKind.i64.wrap (y2.snd.fst + y2.snd.snd.fst) > (↑y2.fst.size : Int)) = true then
          some (((0 : Int), (0 : Int), ()))
        else n_68l14 (y2.fst, y2.snd.fst, y2.snd.snd.fst, y2.snd.snd.snd.fst, (1 : Int), ()) >>= fun x3 => match x3 with
          | .inl y3 => some y3
          | .inr y3 => (n_55 (y3.snd.snd.snd.fst, ()) >>= fun x4 =>
              if (!x4.fst) = true then
                some ((y3.snd.snd.fst, y3.snd.snd.snd.fst, true, ()))
              else n_65 (y3.snd.snd.snd.fst, ()) >>= fun x5 =>
              if (0 : Int) ≤ y3.snd.fst ∧ y3.snd.fst ≤ IntKind.i64.wrap (y3.snd.fst + y3.snd.snd.fst) ∧ IntKind.i64.wrap (y3.snd.fst + y3.snd.snd.fst) ≤ (↑y3.fst.size : Int) then
                some ((y3.snd.snd.fst, y3.snd.snd.snd.fst, !x5.fst.toList == (y3.fst.extract y3.snd.fst.toNat (IntKind.i64.wrap (y3.snd.fst + y3.snd.snd.fst)).toNat).toList, ()))
              else none) >>= fun x4 =>
            if x4.snd.snd.fst = true then
              some (((0 : Int), (0 : Int), ()))
            else some ((x4.snd.fst, x4.fst, ()))
      | .inr y2 => some y2
  else none
noncomputable def call68 : Caller vw := fun A fid args S k => match fid with | 55 => callPure Tryd.prog sig55 n_55 A args S k | 65 => callPure Tryd.prog sig65 n_65 A args S k | _ => none
noncomputable def x68 : Xc vw := { P := Tryd.prog, n := 78, nm := id, call := call68, pre := fun _ => false, sh := sh68, joins := fun k => match k with | 11 => some (c68j11, [.norm, .ret]) | _ => none, regs := fun k => match k with | 17 => some c68r17 | 20 => some c68r20 | _ => none, loops := fun k => match k with | 14 => some { cut := c68l14, alts := [.ret, .exit 1], F := n_68l14 } | _ => none }
theorem call68_ok : CallerOk Tryd.prog call68 := fun A fid args S dst k r h => by
  unfold call68 at h
  split at h
  · exact callPure_ok (n_55_ok) rfl rfl h
  · exact callPure_ok (n_65_ok) rfl rfl h
  · cases h
theorem n_68l14_ok (C : Ctx) (hP : C.P = Tryd.prog) (hN : C.N = 78) : LoopOk C (loopNo (bodyOf Tryd.f68) 0) (sh := sh68) { cut := c68l14, alts := [.ret, .exit 1], F := n_68l14 } :=
  n_68l14.partial_correctness (motive := fun v out => AWpL C (loopNo (bodyOf Tryd.f68) 0) (encS vw (conc vw c68l14 v)) (OutQ sh68 [.ret, .exit 1] out)) fun F ih v out h =>
    loop_step (X := x68) (b := (loopNo (bodyOf Tryd.f68) 0)) hP hN Ty.mixed call68_ok (lok_all (X := x68) (c := (loopNo (bodyOf Tryd.f68) 0)) (kcast (by kernel_rfl : True = AllB (LoopsP C (x68)) (loopsIn (loopNo (bodyOf Tryd.f68) 0))) trivial)) ih (kcast (by kernel_rfl) h)
theorem n_68_ok : SigOk Tryd.prog 68 sig68 n_68 := fun v r x h hx =>
  fn_ok (X := x68) (sig := sig68) rfl Tryd.func68 (c := bodyOf Tryd.f68) (by kernel_rfl) Tryd.ntmps68 (by kernel_rfl) (by kernel_rfl) rfl Ty.mixed call68_ok rfl (fun C hP hN => (lok_all (X := x68) (c := (bodyOf Tryd.f68)) (kcast (by kernel_rfl : AllB (LoopsP C (x68)) [(loopNo (bodyOf Tryd.f68) 0)] = AllB (LoopsP C (x68)) (loopsIn (bodyOf Tryd.f68))) ⟨loop_at (X := x68) (b := (loopNo (bodyOf Tryd.f68) 0)) (by kernel_rfl) (n_68l14_ok C hP hN), trivial⟩))) (kcast (by kernel_rfl) h) x hx

noncomputable def c50l3 : Cut SN := { slots := [(0, .dat .str), (4, .vh 1004), (5, .dat (.int .i64))], objs := [(1004, .vec 3 (.int .i64))] }
noncomputable def c50e0 : Cut SN := { slots := [(4, .vh 1004), (5, .dat (.int .i64))], objs := [(1004, .vec 3 (.int .i64))] }
noncomputable def c50z : Cut SN := { slots := [(2, .dat (.sl (.int .i64))), (3, .dat (.int .i64))], objs := [] }
noncomputable def sh50 : Shape vw := { exits := fun id => match id with | 0 => c50e0 | _ => { slots := [], objs := [] }, rcut := c50z }
noncomputable def sig50 : Sig vw := { params := [.dat .str], objs := [], rcut := c50z, rvars := [.tmp 2, .tmp 3], keep := [] }
noncomputable def n_50l3 (v : ByteArray × Int × (List Int) × Unit) : Option ((((List Int) × Int × Unit) ⊕ (Int × (List Int) × Unit))) :=
  if decide (v.snd.fst < (↑v.fst.size : Int)) = true then
    n_68 (v.fst, v.snd.fst, ()) >>= fun x1 =>
    if (x1.snd.fst == (0 : Int)) = true then
      some (Sum.inl (v.snd.snd.fst, v.snd.fst, ()))
    else if v.snd.snd.fst.length + [x1.fst].length ≤ (4294967296 : Nat) then
      n_50l3 (v.fst, IntKind.i64.wrap (v.snd.fst + x1.snd.fst), v.snd.snd.fst ++ [x1.fst], ())
    else none
  else some (Sum.inr (v.snd.fst, v.snd.snd.fst, ()))
  partial_fixpoint
noncomputable def n_50 (v : ByteArray × Unit) : Option ((List Int) × Int × Unit) :=
  n_50l3 (v.fst, (0 : Int), [], ()) >>= fun x1 => match x1 with
    | .inl y1 => some y1
    | .inr y1 => some ((y1.snd.fst, y1.fst, ()))
noncomputable def call50 : Caller vw := fun A fid args S k => match fid with | 68 => callPure Tryd.prog sig68 n_68 A args S k | _ => none
noncomputable def x50 : Xc vw := { P := Tryd.prog, n := 31, nm := id, call := call50, pre := fun _ => false, sh := sh50, joins := fun _ => none, regs := fun _ => none, loops := fun k => match k with | 3 => some { cut := c50l3, alts := [.ret, .exit 0], F := n_50l3 } | _ => none }
theorem call50_ok : CallerOk Tryd.prog call50 := fun A fid args S dst k r h => by
  unfold call50 at h
  split at h
  · exact callPure_ok (n_68_ok) rfl rfl h
  · cases h
theorem n_50l3_ok (C : Ctx) (hP : C.P = Tryd.prog) (hN : C.N = 31) : LoopOk C (loopNo (bodyOf Tryd.f50) 0) (sh := sh50) { cut := c50l3, alts := [.ret, .exit 0], F := n_50l3 } :=
  n_50l3.partial_correctness (motive := fun v out => AWpL C (loopNo (bodyOf Tryd.f50) 0) (encS vw (conc vw c50l3 v)) (OutQ sh50 [.ret, .exit 0] out)) fun F ih v out h =>
    loop_step (X := x50) (b := (loopNo (bodyOf Tryd.f50) 0)) hP hN Ty.mixed call50_ok (lok_all (X := x50) (c := (loopNo (bodyOf Tryd.f50) 0)) (kcast (by kernel_rfl : True = AllB (LoopsP C (x50)) (loopsIn (loopNo (bodyOf Tryd.f50) 0))) trivial)) ih (kcast (by kernel_rfl) h)
theorem n_50_ok : SigOk Tryd.prog 50 sig50 n_50 := fun v r x h hx =>
  fn_ok (X := x50) (sig := sig50) rfl Tryd.func50 (c := bodyOf Tryd.f50) (by kernel_rfl) Tryd.ntmps50 (by kernel_rfl) (by kernel_rfl) rfl Ty.mixed call50_ok rfl (fun C hP hN => (lok_all (X := x50) (c := (bodyOf Tryd.f50)) (kcast (by kernel_rfl : AllB (LoopsP C (x50)) [(loopNo (bodyOf Tryd.f50) 0)] = AllB (LoopsP C (x50)) (loopsIn (bodyOf Tryd.f50))) ⟨loop_at (X := x50) (b := (loopNo (bodyOf Tryd.f50) 0)) (by kernel_rfl) (n_50l3_ok C hP hN), trivial⟩))) (kcast (by kernel_rfl) h) x hx

noncomputable def c21z : Cut SN := { slots := [(2, .dat (.int .i64)), (3, .dat .bool)], objs := [] }
noncomputable def sh21 : Shape vw := { exits := fun _ => { slots := [], objs := [] }, rcut := c21z }
noncomputable def sig21 : Sig vw := { params := [.dat .str], objs := [], rcut := c21z, rvars := [.tmp 2, .tmp 3], keep := [] }
noncomputable def n_21 (v : ByteArray × Unit) : Option (Int × Bool × Unit) :=
  n_50 (v.fst, ()) >>= fun x1 =>
  some ((x1.snd.fst, x1.snd.fst == (↑v.fst.size : Int), ()))
noncomputable def call21 : Caller vw := fun A fid args S k => match fid with | 50 => callPure Tryd.prog sig50 n_50 A args S k | _ => none
noncomputable def x21 : Xc vw := { P := Tryd.prog, n := 16, nm := id, call := call21, pre := fun _ => false, sh := sh21, joins := fun _ => none, regs := fun _ => none, loops := fun _ => none }
theorem call21_ok : CallerOk Tryd.prog call21 := fun A fid args S dst k r h => by
  unfold call21 at h
  split at h
  · exact callPure_ok (n_50_ok) rfl rfl h
  · cases h
theorem n_21_ok : SigOk Tryd.prog 21 sig21 n_21 := fun v r x h hx =>
  fn_ok (X := x21) (sig := sig21) rfl Tryd.func21 (c := bodyOf Tryd.f21) (by kernel_rfl) Tryd.ntmps21 (by kernel_rfl) (by kernel_rfl) rfl Ty.mixed call21_ok rfl (fun C hP hN => (lok_all (X := x21) (c := (bodyOf Tryd.f21)) (kcast (by kernel_rfl : True = AllB (LoopsP C (x21)) (loopsIn (bodyOf Tryd.f21))) trivial))) (kcast (by kernel_rfl) h) x hx

noncomputable def c38z : Cut SN := { slots := [(2, .dat (.int .i64))], objs := [] }
noncomputable def sh38 : Shape vw := { exits := fun _ => { slots := [], objs := [] }, rcut := c38z }
noncomputable def sig38 : Sig vw := { params := [.dat .str], objs := [], rcut := c38z, rvars := [.tmp 2], keep := [] }
noncomputable def n_38 (v : ByteArray × Unit) : Option (Int × Unit) :=
  if decide ((↑v.fst.size : Int) > (4096 : Int)) = true then
    some (((3 : Int), ()))
  else n_21 (v.fst, ()) >>= fun x1 =>
  if (!x1.snd.fst) = true then
    some (((2 : Int), ()))
  else some (((0 : Int), ()))
noncomputable def call38 : Caller vw := fun A fid args S k => match fid with | 21 => callPure Tryd.prog sig21 n_21 A args S k | _ => none
noncomputable def x38 : Xc vw := { P := Tryd.prog, n := 15, nm := id, call := call38, pre := fun _ => false, sh := sh38, joins := fun _ => none, regs := fun _ => none, loops := fun _ => none }
theorem call38_ok : CallerOk Tryd.prog call38 := fun A fid args S dst k r h => by
  unfold call38 at h
  split at h
  · exact callPure_ok (n_21_ok) rfl rfl h
  · cases h
theorem n_38_ok : SigOk Tryd.prog 38 sig38 n_38 := fun v r x h hx =>
  fn_ok (X := x38) (sig := sig38) rfl Tryd.func38 (c := bodyOf Tryd.f38) (by kernel_rfl) Tryd.ntmps38 (by kernel_rfl) (by kernel_rfl) rfl Ty.mixed call38_ok rfl (fun C hP hN => (lok_all (X := x38) (c := (bodyOf Tryd.f38)) (kcast (by kernel_rfl : True = AllB (LoopsP C (x38)) (loopsIn (bodyOf Tryd.f38))) trivial))) (kcast (by kernel_rfl) h) x hx

noncomputable def c40r1 : Cut SN := { slots := [(2, .dat .bool)], objs := [] }
noncomputable def c40z : Cut SN := { slots := [(2, .dat .bool)], objs := [] }
noncomputable def sh40 : Shape vw := { exits := fun _ => { slots := [], objs := [] }, rcut := c40z }
noncomputable def sig40 : Sig vw := { params := [.dat (.int .u8)], objs := [], rcut := c40z, rvars := [.tmp 2], keep := [] }
noncomputable def n_40 (v : Int × Unit) : Option (Bool × Unit) :=
  (if (v.fst == (60 : Int)) = true then
      some ((true, ()))
    else if (v.fst == (62 : Int)) = true then
      some ((true, ()))
    else some ((v.fst == (94 : Int), ()))) >>= fun x1 =>
  some ((x1.fst, ()))
noncomputable def call40 : Caller vw := fun _ _ _ _ _ => none
noncomputable def x40 : Xc vw := { P := Tryd.prog, n := 13, nm := id, call := call40, pre := fun _ => false, sh := sh40, joins := fun _ => none, regs := fun k => match k with | 1 => some c40r1 | _ => none, loops := fun _ => none }
theorem call40_ok : CallerOk Tryd.prog call40 := call_none
theorem n_40_ok : SigOk Tryd.prog 40 sig40 n_40 := fun v r x h hx =>
  fn_ok (X := x40) (sig := sig40) rfl Tryd.func40 (c := bodyOf Tryd.f40) (by kernel_rfl) Tryd.ntmps40 (by kernel_rfl) (by kernel_rfl) rfl Ty.mixed call40_ok rfl (fun C hP hN => (lok_all (X := x40) (c := (bodyOf Tryd.f40)) (kcast (by kernel_rfl : True = AllB (LoopsP C (x40)) (loopsIn (bodyOf Tryd.f40))) trivial))) (kcast (by kernel_rfl) h) x hx

noncomputable def c63l3 : Cut SN := { slots := [(0, .dat (.int .i64)), (3, .vh 1003), (4, .dat (.int .i64))], objs := [(1003, .vec 5 (.int .u8))] }
noncomputable def c63e0 : Cut SN := { slots := [(3, .vh 1003)], objs := [(1003, .vec 5 (.int .u8))] }
noncomputable def c63z : Cut SN := { slots := [(2, .dat .str)], objs := [] }
noncomputable def sh63 : Shape vw := { exits := fun id => match id with | 0 => c63e0 | _ => { slots := [], objs := [] }, rcut := c63z }
noncomputable def sig63 : Sig vw := { params := [.dat (.int .i64)], objs := [], rcut := c63z, rvars := [.tmp 2], keep := [] }
noncomputable def n_63l3 (v : Int × Int × (List Int) × Unit) : Option (((List Int) × Unit)) :=
  if decide (v.snd.fst < v.fst) = true then
    if v.snd.snd.fst.length + [(32 : Int)].length ≤ (4294967296 : Nat) then
      n_63l3 (v.fst, IntKind.i64.wrap (v.snd.fst + (1 : Int)), v.snd.snd.fst ++ [(32 : Int)], ())
    else none
  else some ((v.snd.snd.fst, ()))
  partial_fixpoint
noncomputable def n_63 (v : Int × Unit) : Option (ByteArray × Unit) :=
  n_63l3 (v.fst, (0 : Int), [], ()) >>= fun x1 =>
  some ((Bs.bytes x1.fst, ()))
noncomputable def call63 : Caller vw := fun _ _ _ _ _ => none
noncomputable def x63 : Xc vw := { P := Tryd.prog, n := 15, nm := id, call := call63, pre := fun _ => false, sh := sh63, joins := fun _ => none, regs := fun _ => none, loops := fun k => match k with | 3 => some { cut := c63l3, alts := [.exit 0], F := n_63l3 } | _ => none }
theorem call63_ok : CallerOk Tryd.prog call63 := call_none
theorem n_63l3_ok (C : Ctx) (hP : C.P = Tryd.prog) (hN : C.N = 15) : LoopOk C (loopNo (bodyOf Tryd.f63) 0) (sh := sh63) { cut := c63l3, alts := [.exit 0], F := n_63l3 } :=
  n_63l3.partial_correctness (motive := fun v out => AWpL C (loopNo (bodyOf Tryd.f63) 0) (encS vw (conc vw c63l3 v)) (OutQ sh63 [.exit 0] out)) fun F ih v out h =>
    loop_step (X := x63) (b := (loopNo (bodyOf Tryd.f63) 0)) hP hN Ty.mixed call63_ok (lok_all (X := x63) (c := (loopNo (bodyOf Tryd.f63) 0)) (kcast (by kernel_rfl : True = AllB (LoopsP C (x63)) (loopsIn (loopNo (bodyOf Tryd.f63) 0))) trivial)) ih (kcast (by kernel_rfl) h)
theorem n_63_ok : SigOk Tryd.prog 63 sig63 n_63 := fun v r x h hx =>
  fn_ok (X := x63) (sig := sig63) rfl Tryd.func63 (c := bodyOf Tryd.f63) (by kernel_rfl) Tryd.ntmps63 (by kernel_rfl) (by kernel_rfl) rfl Ty.mixed call63_ok rfl (fun C hP hN => (lok_all (X := x63) (c := (bodyOf Tryd.f63)) (kcast (by kernel_rfl : AllB (LoopsP C (x63)) [(loopNo (bodyOf Tryd.f63) 0)] = AllB (LoopsP C (x63)) (loopsIn (bodyOf Tryd.f63))) ⟨loop_at (X := x63) (b := (loopNo (bodyOf Tryd.f63) 0)) (by kernel_rfl) (n_63l3_ok C hP hN), trivial⟩))) (kcast (by kernel_rfl) h) x hx

noncomputable def c41z : Cut SN := { slots := [(6, .dat .str)], objs := [] }
noncomputable def sh41 : Shape vw := { exits := fun _ => { slots := [], objs := [] }, rcut := c41z }
noncomputable def sig41 : Sig vw := { params := [.dat .str, .dat (.int .i64), .dat (.int .u8)], objs := [], rcut := c41z, rvars := [.tmp 6], keep := [] }
noncomputable def n_41 (v : ByteArray × Int × Int × Unit) : Option (ByteArray × Unit) :=
  n_50 (v.fst, ()) >>= fun x1 =>
  if decide (IntKind.i64.wrap (v.snd.fst - (↑x1.fst.length : Int)) ≤ (0 : Int)) = true then
    some ((v.fst, ()))
  else if (v.snd.snd.fst == (60 : Int)) = true then
    n_63 (IntKind.i64.wrap (v.snd.fst - (↑x1.fst.length : Int)), ()) >>= fun x2 =>
    if v.fst.size + x2.fst.size ≤ (4294967296 : Nat) then
      some ((v.fst ++ x2.fst, ()))
    else none
  else if (v.snd.snd.fst == (62 : Int)) = true then
    n_63 (IntKind.i64.wrap (v.snd.fst - (↑x1.fst.length : Int)), ()) >>= fun x2 =>
    if x2.fst.size + v.fst.size ≤ (4294967296 : Nat) then
      some ((x2.fst ++ v.fst, ()))
    else none
  else n_63 (IntKind.i64.wrap ((IntKind.i64.wrap (v.snd.fst - (↑x1.fst.length : Int))).tdiv (2 : Int)), ()) >>= fun x2 =>
  if x2.fst.size + v.fst.size ≤ (4294967296 : Nat) then
    n_63 (IntKind.i64.wrap (IntKind.i64.wrap (v.snd.fst - (↑x1.fst.length : Int)) - IntKind.i64.wrap ((IntKind.i64.wrap (v.snd.fst - (↑x1.fst.length : Int))).tdiv (2 : Int))), ()) >>= fun x3 =>
    if (x2.fst ++ v.fst).size + x3.fst.size ≤ (4294967296 : Nat) then
      some ((x2.fst ++ v.fst ++ x3.fst, ()))
    else none
  else none
noncomputable def call41 : Caller vw := fun A fid args S k => match fid with | 50 => callPure Tryd.prog sig50 n_50 A args S k | 63 => callPure Tryd.prog sig63 n_63 A args S k | _ => none
noncomputable def x41 : Xc vw := { P := Tryd.prog, n := 46, nm := id, call := call41, pre := fun _ => false, sh := sh41, joins := fun _ => none, regs := fun _ => none, loops := fun _ => none }
theorem call41_ok : CallerOk Tryd.prog call41 := fun A fid args S dst k r h => by
  unfold call41 at h
  split at h
  · exact callPure_ok (n_50_ok) rfl rfl h
  · exact callPure_ok (n_63_ok) rfl rfl h
  · cases h
theorem n_41_ok : SigOk Tryd.prog 41 sig41 n_41 := fun v r x h hx =>
  fn_ok (X := x41) (sig := sig41) rfl Tryd.func41 (c := bodyOf Tryd.f41) (by kernel_rfl) Tryd.ntmps41 (by kernel_rfl) (by kernel_rfl) rfl Ty.mixed call41_ok rfl (fun C hP hN => (lok_all (X := x41) (c := (bodyOf Tryd.f41)) (kcast (by kernel_rfl : True = AllB (LoopsP C (x41)) (loopsIn (bodyOf Tryd.f41))) trivial))) (kcast (by kernel_rfl) h) x hx

noncomputable def c12r4 : Cut SN := { slots := [(0, .dat .str), (1, .dat (.int .i64)), (2, .dat (.int .u8)), (21, .dat .bool)], objs := [] }
noncomputable def c12z : Cut SN := { slots := [(6, .dat .str), (7, .dat (.int .i64))], objs := [] }
noncomputable def sh12 : Shape vw := { exits := fun _ => { slots := [], objs := [] }, rcut := c12z }
noncomputable def sig12 : Sig vw := { params := [.dat .str, .dat (.int .i64), .dat (.int .u8)], objs := [], rcut := c12z, rvars := [.tmp 6, .tmp 7], keep := [] }
noncomputable def n_12 (v : ByteArray × Int × Int × Unit) : Option (ByteArray × Int × Unit) :=
  n_38 (v.fst, ()) >>= fun x1 =>
  if (x1.fst != (0 : Int)) = true then
    some ((ByteArray.mk #[], x1.fst, ()))
  else (n_39 (v.snd.fst, (0 : Int), (99 : Int), ()) >>= fun x2 =>
    if (!x2.fst) = true then
      some ((v.fst, v.snd.fst, v.snd.snd.fst, true, ()))
    else n_40 (v.snd.snd.fst, ()) >>= fun x3 =>
    some ((v.fst, v.snd.fst, v.snd.snd.fst, !x3.fst, ()))) >>= fun x2 =>
  if x2.snd.snd.snd.fst = true then
    some ((ByteArray.mk #[], (1 : Int), ()))
  else n_41 (x2.fst, x2.snd.fst, x2.snd.snd.fst, ()) >>= fun x3 =>
  some ((x3.fst, (0 : Int), ()))
noncomputable def call12 : Caller vw := fun A fid args S k => match fid with | 38 => callPure Tryd.prog sig38 n_38 A args S k | 39 => callPure Tryd.prog sig39 n_39 A args S k | 40 => callPure Tryd.prog sig40 n_40 A args S k | 41 => callPure Tryd.prog sig41 n_41 A args S k | _ => none
noncomputable def x12 : Xc vw := { P := Tryd.prog, n := 26, nm := id, call := call12, pre := fun _ => false, sh := sh12, joins := fun _ => none, regs := fun k => match k with | 4 => some c12r4 | _ => none, loops := fun _ => none }
theorem call12_ok : CallerOk Tryd.prog call12 := fun A fid args S dst k r h => by
  unfold call12 at h
  split at h
  · exact callPure_ok (n_38_ok) rfl rfl h
  · exact callPure_ok (n_39_ok) rfl rfl h
  · exact callPure_ok (n_40_ok) rfl rfl h
  · exact callPure_ok (n_41_ok) rfl rfl h
  · cases h
theorem n_12_ok : SigOk Tryd.prog 12 sig12 n_12 := fun v r x h hx =>
  fn_ok (X := x12) (sig := sig12) rfl Tryd.func12 (c := bodyOf Tryd.f12) (by kernel_rfl) Tryd.ntmps12 (by kernel_rfl) (by kernel_rfl) rfl Ty.mixed call12_ok rfl (fun C hP hN => (lok_all (X := x12) (c := (bodyOf Tryd.f12)) (kcast (by kernel_rfl : True = AllB (LoopsP C (x12)) (loopsIn (bodyOf Tryd.f12))) trivial))) (kcast (by kernel_rfl) h) x hx

noncomputable def c84l4 : Cut SN := { slots := [(0, .dat (.int .i64)), (1, .dat (.int .i64)), (5, .dat .str)], objs := [] }
noncomputable def c84e0 : Cut SN := { slots := [(0, .dat (.int .i64)), (5, .dat .str)], objs := [] }
noncomputable def c84z : Cut SN := { slots := [(4, .dat .str)], objs := [] }
noncomputable def sh84 : Shape vw := { exits := fun id => match id with | 0 => c84e0 | _ => { slots := [], objs := [] }, rcut := c84z }
noncomputable def sig84 : Sig vw := { params := [.dat (.int .i64), .dat (.int .i64)], objs := [], rcut := c84z, rvars := [.tmp 4], keep := [] }
noncomputable def n_84l4 (v : Int × Int × ByteArray × Unit) : Option ((Int × ByteArray × Unit)) :=
  if decide (v.fst ≥ v.snd.fst) = true then
    if v.snd.fst = (0 : Int) then
      none
    else if v.snd.fst = (0 : Int) then
      none
    else if (0 : Int) ≤ v.fst.tmod v.snd.fst ∧ v.fst.tmod v.snd.fst ≤ IntKind.i64.wrap (v.fst.tmod v.snd.fst + (1 : Int)) ∧ IntKind.i64.wrap (v.fst.tmod v.snd.fst + (1 : Int)) ≤ (↑(ByteArray.mk #[(48 : UInt8), (49 : UInt8), (50 : UInt8), (51 : UInt8), (52 : UInt8), (53 : UInt8), (54 : UInt8), (55 : UInt8), (56 : UInt8), (57 : UInt8), (97 : UInt8), (98 : UInt8), (99 : UInt8), (100 : UInt8), (101 : UInt8), (102 : UInt8)]).size : Int) then
      if ((ByteArray.mk #[(48 : UInt8), (49 : UInt8), (50 : UInt8), (51 : UInt8), (52 : UInt8), (53 : UInt8), (54 : UInt8), (55 : UInt8), (56 : UInt8), (57 : UInt8), (97 : UInt8), (98 : UInt8), (99 : UInt8), (100 : UInt8), (101 : UInt8), (102 : UInt8)]).extract (v.fst.tmod v.snd.fst).toNat (IntKind.i64.wrap (v.fst.tmod v.snd.fst + (1 : Int))).toNat).size + v.snd.snd.fst.size ≤ (4294967296 : Nat) then
        if v.snd.fst = (0 : Int) then
          none
        else n_84l4 (IntKind.i64.wrap (v.fst.tdiv v.snd.fst), v.snd.fst, (ByteArray.mk #[(48 : UInt8), (49 : UInt8), (50 : UInt8), (51 : UInt8), (52 : UInt8), (53 : UInt8), (54 : UInt8), (55 : UInt8), (56 : UInt8), (57 : UInt8), (97 : UInt8), (98 : UInt8), (99 : UInt8), (100 : UInt8), (101 : UInt8), (102 : UInt8)]).extract (v.fst.tmod v.snd.fst).toNat (IntKind.i64.wrap (v.fst.tmod v.snd.fst + (1 : Int))).toNat ++ v.snd.snd.fst, ())
      else none
    else none
  else some ((v.fst, v.snd.snd.fst, ()))
  partial_fixpoint
noncomputable def n_84 (v : Int × Int × Unit) : Option (ByteArray × Unit) :=
  if decide (v.fst < (0 : Int)) = true then
    n_84 (IntKind.i64.wrap ((0 : Int) - v.fst), v.snd.fst, ()) >>= fun x1 =>
    if (ByteArray.mk #[(45 : UInt8)]).size + x1.fst.size ≤ (4294967296 : Nat) then
      some ((ByteArray.mk #[(45 : UInt8)] ++ x1.fst, ()))
    else none
  else n_84l4 (v.fst, v.snd.fst, ByteArray.mk #[], ()) >>= fun x1 =>
  if (0 : Int) ≤ x1.fst ∧ x1.fst ≤ IntKind.i64.wrap (x1.fst + (1 : Int)) ∧ IntKind.i64.wrap (x1.fst + (1 : Int)) ≤ (↑(ByteArray.mk #[(48 : UInt8), (49 : UInt8), (50 : UInt8), (51 : UInt8), (52 : UInt8), (53 : UInt8), (54 : UInt8), (55 : UInt8), (56 : UInt8), (57 : UInt8), (97 : UInt8), (98 : UInt8), (99 : UInt8), (100 : UInt8), (101 : UInt8), (102 : UInt8)]).size : Int) then
    if ((ByteArray.mk #[(48 : UInt8), (49 : UInt8), (50 : UInt8), (51 : UInt8), (52 : UInt8), (53 : UInt8), (54 : UInt8), (55 : UInt8), (56 : UInt8), (57 : UInt8), (97 : UInt8), (98 : UInt8), (99 : UInt8), (100 : UInt8), (101 : UInt8), (102 : UInt8)]).extract x1.fst.toNat (IntKind.i64.wrap (x1.fst + (1 : Int))).toNat).size + x1.snd.fst.size ≤ (4294967296 : Nat) then
      some (((ByteArray.mk #[(48 : UInt8), (49 : UInt8), (50 : UInt8), (51 : UInt8), (52 : UInt8), (53 : UInt8), (54 : UInt8), (55 : UInt8), (56 : UInt8), (57 : UInt8), (97 : UInt8), (98 : UInt8), (99 : UInt8), (100 : UInt8), (101 : UInt8), (102 : UInt8)]).extract x1.fst.toNat (IntKind.i64.wrap (x1.fst + (1 : Int))).toNat ++ x1.snd.fst, ()))
    else none
  else none
  partial_fixpoint
noncomputable def call84 (n_84l4 : Int × Int × ByteArray × Unit → Option ((Int × ByteArray × Unit))) (n_84 : Int × Int × Unit → Option (ByteArray × Unit)) : Caller vw := fun A fid args S k => match fid with | 84 => callPure Tryd.prog sig84 n_84 A args S k | _ => none
noncomputable def x84 (n_84l4 : Int × Int × ByteArray × Unit → Option ((Int × ByteArray × Unit))) (n_84 : Int × Int × Unit → Option (ByteArray × Unit)) : Xc vw := { P := Tryd.prog, n := 35, nm := id, call := call84 n_84l4 n_84, pre := fun _ => false, sh := sh84, joins := fun _ => none, regs := fun _ => none, loops := fun k => match k with | 4 => some { cut := c84l4, alts := [.exit 0], F := n_84l4 } | _ => none }
theorem n_84l4_pc : ∀ v out, n_84l4 v = some out → (fun v out => ∀ C : Ctx, C.P = Tryd.prog → C.N = 35 → AWpL C (loopNo (bodyOf Tryd.f84) 0) (encS vw (conc vw c84l4 v)) (OutQ sh84 [.exit 0] out)) v out := (n_84l4.partial_correctness (motive := fun v out => ∀ C : Ctx, C.P = Tryd.prog → C.N = 35 → AWpL C (loopNo (bodyOf Tryd.f84) 0) (encS vw (conc vw c84l4 v)) (OutQ sh84 [.exit 0] out)) (fun f0 h0 v out h C hP hN => loop_step (X := x84 f0 (fun _ => none)) (b := (loopNo (bodyOf Tryd.f84) 0)) hP hN Ty.mixed (by
        intro A fid args S dst k r h
        unfold x84 call84 at h
        simp only at h
        split at h
        · exact callPure_ok ((fun v r x h hx => by cases h)) rfl rfl h
        · cases h) (lok_all (X := x84 f0 (fun _ => none)) (c := (loopNo (bodyOf Tryd.f84) 0)) (kcast (by kernel_rfl : True = AllB (LoopsP C (x84 f0 (fun _ => none))) (loopsIn (loopNo (bodyOf Tryd.f84) 0))) trivial)) (cut := c84l4) (alts := [.exit 0]) (F := f0) (fun v out h => h0 v out h C hP hN) (kcast (by kernel_rfl) h)))
theorem n_84_ok : SigOk Tryd.prog 84 sig84 n_84 := fun v r x h hx => (n_84.partial_correctness (motive := fun v r => ∀ x, resV Tryd.prog sig84 r = some x → FnOk Tryd.prog 84 (encL vw (startS sig84 v).len (startOs sig84 v).1) (encOs (startS sig84 v).len (startS sig84 v).own) (encV vw (conc vw sig84.rcut r).len x) (encOs (conc vw sig84.rcut r).len (kept sig84 r))) (fun f0 h0 v r h x hx => fn_ok (X := x84 n_84l4 f0) (sig := sig84) rfl Tryd.func84 (c := bodyOf Tryd.f84) (by kernel_rfl) Tryd.ntmps84 (by kernel_rfl) (by kernel_rfl) rfl Ty.mixed (by
        intro A fid args S dst k r h
        unfold x84 call84 at h
        simp only at h
        split at h
        · exact callPure_ok ((fun v r x h hx => h0 v r h x hx)) rfl rfl h
        · cases h) rfl (fun C hP hN => (lok_all (X := x84 n_84l4 f0) (c := (bodyOf Tryd.f84)) (kcast (by kernel_rfl : AllB (LoopsP C (x84 n_84l4 f0)) [(loopNo (bodyOf Tryd.f84) 0)] = AllB (LoopsP C (x84 n_84l4 f0)) (loopsIn (bodyOf Tryd.f84))) ⟨loop_at (X := x84 n_84l4 f0) (b := (loopNo (bodyOf Tryd.f84) 0)) (by kernel_rfl) (show LoopOk C (loopNo (bodyOf Tryd.f84) 0) (sh := sh84) { cut := c84l4, alts := [.exit 0], F := n_84l4 } from fun v out h => n_84l4_pc v out h C hP hN), trivial⟩))) (kcast (by kernel_rfl) h) x hx)) v r h x hx

noncomputable def c82z : Cut SN := { slots := [(2, .dat .str)], objs := [] }
noncomputable def sh82 : Shape vw := { exits := fun _ => { slots := [], objs := [] }, rcut := c82z }
noncomputable def sig82 : Sig vw := { params := [.dat (.int .i64)], objs := [], rcut := c82z, rvars := [.tmp 2], keep := [] }
noncomputable def n_82 (v : Int × Unit) : Option (ByteArray × Unit) :=
  n_84 (v.fst, (10 : Int), ()) >>= fun x1 =>
  some ((x1.fst, ()))
noncomputable def call82 : Caller vw := fun A fid args S k => match fid with | 84 => callPure Tryd.prog sig84 n_84 A args S k | _ => none
noncomputable def x82 : Xc vw := { P := Tryd.prog, n := 5, nm := id, call := call82, pre := fun _ => false, sh := sh82, joins := fun _ => none, regs := fun _ => none, loops := fun _ => none }
theorem call82_ok : CallerOk Tryd.prog call82 := fun A fid args S dst k r h => by
  unfold call82 at h
  split at h
  · exact callPure_ok (n_84_ok) rfl rfl h
  · cases h
theorem n_82_ok : SigOk Tryd.prog 82 sig82 n_82 := fun v r x h hx =>
  fn_ok (X := x82) (sig := sig82) rfl Tryd.func82 (c := bodyOf Tryd.f82) (by kernel_rfl) Tryd.ntmps82 (by kernel_rfl) (by kernel_rfl) rfl Ty.mixed call82_ok rfl (fun C hP hN => (lok_all (X := x82) (c := (bodyOf Tryd.f82)) (kcast (by kernel_rfl : True = AllB (LoopsP C (x82)) (loopsIn (bodyOf Tryd.f82))) trivial))) (kcast (by kernel_rfl) h) x hx

noncomputable def c64l6 : Cut SN := { slots := [(0, .dat .str), (2, .bp 2 0), (4, .bp 4 0), (5, .dat .bool), (6, .dat (.int .i64))], objs := [(2, .st .partT), (4, .st .partT)] }
noncomputable def c64l18 : Cut SN := { slots := [(0, .dat .str), (2, .bp 2 0), (4, .bp 4 0), (7, .dat (.int .i64)), (8, .dat (.int .i64))], objs := [(2, .st .partT), (4, .st .partT)] }
noncomputable def c64j17 : Cut SN := { slots := [(0, .dat .str), (2, .bp 2 0), (4, .bp 4 0), (7, .dat (.int .i64))], objs := [(2, .st .partT), (4, .st .partT)] }
noncomputable def c64j23 : Cut SN := { slots := [(0, .dat .str), (2, .bp 2 0), (4, .bp 4 0), (7, .dat (.int .i64))], objs := [(2, .st .partT), (4, .st .partT)] }
noncomputable def c64r8 : Cut SN := { slots := [(0, .dat .str), (2, .bp 2 0), (4, .bp 4 0), (5, .dat .bool), (6, .dat (.int .i64))], objs := [(2, .st .partT), (4, .st .partT)] }
noncomputable def c64r14 : Cut SN := { slots := [(0, .dat .str), (2, .bp 2 0), (4, .bp 4 0), (7, .dat (.int .i64)), (46, .dat .bool)], objs := [(2, .st .partT), (4, .st .partT)] }
noncomputable def c64r18 : Cut SN := { slots := [(0, .dat .str), (2, .bp 2 0), (4, .bp 4 0), (7, .dat (.int .i64)), (8, .dat (.int .i64)), (75, .dat .bool)], objs := [(2, .st .partT), (4, .st .partT)] }
noncomputable def c64r21 : Cut SN := { slots := [(0, .dat .str), (2, .bp 2 0), (4, .bp 4 0), (7, .dat (.int .i64)), (106, .dat .bool)], objs := [(2, .st .partT), (4, .st .partT)] }
noncomputable def c64r23 : Cut SN := { slots := [(2, .bp 2 0), (4, .bp 4 0), (7, .dat (.int .i64)), (117, .dat .bool)], objs := [(2, .st .partT), (4, .st .partT)] }
noncomputable def c64e0 : Cut SN := { slots := [(0, .dat .str), (2, .bp 2 0), (4, .bp 4 0), (5, .dat .bool)], objs := [(2, .st .partT), (4, .st .partT)] }
noncomputable def c64e2 : Cut SN := { slots := [(0, .dat .str), (2, .bp 2 0), (4, .bp 4 0), (7, .dat (.int .i64)), (8, .dat (.int .i64))], objs := [(2, .st .partT), (4, .st .partT)] }
noncomputable def c64z : Cut SN := { slots := [(2, .bp 2 0), (3, .dat (.int .i64))], objs := [(2, .st .partT)] }
noncomputable def sh64 : Shape vw := { exits := fun id => match id with | 0 => c64e0 | 2 => c64e2 | _ => { slots := [], objs := [] }, rcut := c64z }
noncomputable def sig64 : Sig vw := { params := [.dat .str], objs := [], rcut := c64z, rvars := [.cell 2 81, .tmp 3], keep := [] }
noncomputable def n_64l6 (v : ByteArray × Bool × Int × Part × Part × Unit) : Option ((ByteArray × Bool × Part × Part × Unit)) :=
  if decide (v.snd.snd.fst < (7 : Int)) = true then
    (if v.snd.fst = true then
        some ((v.fst, true, v.snd.snd.fst, v.snd.snd.snd.fst, v.snd.snd.snd.snd.fst, ()))
      else if (0 : Int) ≤ v.snd.snd.fst then
        (ByteArray.mk #[(100 : UInt8), (120 : UInt8), (98 : UInt8), (115 : UInt8), (116 : UInt8), (99 : UInt8), (106 : UInt8)])[v.snd.snd.fst.toNat]? >>= fun x1 =>
        v.fst[Int.toNat (0 : Int)]? >>= fun x2 =>
        some ((v.fst, (↑x1.toNat : Int) == (↑x2.toNat : Int), v.snd.snd.fst, v.snd.snd.snd.fst, v.snd.snd.snd.snd.fst, ()))
      else none) >>= fun x1 =>
    n_64l6 (x1.fst, x1.snd.fst, IntKind.i64.wrap (x1.snd.snd.fst + (1 : Int)), x1.snd.snd.snd.fst, x1.snd.snd.snd.snd.fst, ())
  else some ((v.fst, v.snd.fst, v.snd.snd.snd.fst, v.snd.snd.snd.snd.fst, ()))
  partial_fixpoint
noncomputable def n_64l18 (v : ByteArray × Int × Int × Part × Part × Unit) : Option ((ByteArray × Int × Int × Part × Part × Unit)) :=
  (if decide (v.snd.fst < (↑v.fst.size : Int)) = true then
      if decide (v.snd.fst < IntKind.i64.wrap (v.snd.snd.fst + (3 : Int))) = true then
        if (0 : Int) ≤ v.snd.fst then
          v.fst[v.snd.fst.toNat]? >>= fun x1 =>
          if decide ((↑x1.toNat : Int) ≥ (48 : Int)) = true then
            if (0 : Int) ≤ v.snd.fst then
              v.fst[v.snd.fst.toNat]? >>= fun x2 =>
              some ((v.fst, v.snd.fst, v.snd.snd.fst, decide ((↑x2.toNat : Int) ≤ (57 : Int)), v.snd.snd.snd.fst, v.snd.snd.snd.snd.fst, ()))
            else none
          else some ((v.fst, v.snd.fst, v.snd.snd.fst, false, v.snd.snd.snd.fst, v.snd.snd.snd.snd.fst, ()))
        else none
      else some ((v.fst, v.snd.fst, v.snd.snd.fst, false, v.snd.snd.snd.fst, v.snd.snd.snd.snd.fst, ()))
    else some ((v.fst, v.snd.fst, v.snd.snd.fst, false, v.snd.snd.snd.fst, v.snd.snd.snd.snd.fst, ()))) >>= fun x1 =>
  if x1.snd.snd.snd.fst = true then
    if (0 : Int) ≤ x1.snd.fst then
      x1.fst[x1.snd.fst.toNat]? >>= fun x2 =>
      n_64l18 (x1.fst, IntKind.i64.wrap (x1.snd.fst + (1 : Int)), x1.snd.snd.fst, x1.snd.snd.snd.snd.fst, Part.mk x1.snd.snd.snd.snd.snd.fst.text x1.snd.snd.snd.snd.snd.fst.letter x1.snd.snd.snd.snd.snd.fst.side (IntKind.i64.wrap (IntKind.i64.wrap (IntKind.i64.wrap ((10 : Int) * x1.snd.snd.snd.snd.snd.fst.width) + IntKind.i64.wrap (↑x2.toNat : Int)) - (48 : Int))), ())
    else none
  else some ((x1.fst, x1.snd.fst, x1.snd.snd.fst, x1.snd.snd.snd.snd.fst, x1.snd.snd.snd.snd.snd.fst, ()))
  partial_fixpoint
noncomputable def n_64 (v : ByteArray × Unit) : Option (Int × Part × Unit) :=
  if decide ((↑v.fst.size : Int) < (2 : Int)) = true then
    some (((0 : Int), Part.mk (ByteArray.mk #[]) (0 : Int) (0 : Int) (0 : Int), ()))
  else v.fst[Int.toNat (0 : Int)]? >>= fun x1 =>
  n_64l6 (v.fst, false, (0 : Int), Part.mk (ByteArray.mk #[]) (0 : Int) (0 : Int) (0 : Int), Part.mk (ByteArray.mk #[]) (↑x1.toNat : Int) (0 : Int) (0 : Int), ()) >>= fun x2 =>
  if (!x2.snd.fst) = true then
    some (((0 : Int), Part.mk (ByteArray.mk #[]) (0 : Int) (0 : Int) (0 : Int), ()))
  else (x2.fst[Int.toNat (1 : Int)]? >>= fun x3 =>
    if ((↑x3.toNat : Int) == (58 : Int)) = true then
      ((if decide (IntKind.i64.wrap ((1 : Int) + (1 : Int)) < (↑x2.fst.size : Int)) = true then
            x2.fst[(IntKind.i64.wrap ((1 : Int) + (1 : Int))).toNat]? >>= fun x4 =>
            n_40 ((↑x4.toNat : Int), ()) >>= fun x5 =>
            some ((x2.fst, IntKind.i64.wrap ((1 : Int) + (1 : Int)), x5.fst, x2.snd.snd.fst, x2.snd.snd.snd.fst, ()))
          else some ((x2.fst, IntKind.i64.wrap ((1 : Int) + (1 : Int)), false, x2.snd.snd.fst, x2.snd.snd.snd.fst, ()))) >>= fun x4 =>
        if x4.snd.snd.fst = true then
          if (0 : Int) ≤ x4.snd.fst then
            x4.fst[x4.snd.fst.toNat]? >>= fun x5 =>
            some ((x4.fst, IntKind.i64.wrap (x4.snd.fst + (1 : Int)), x4.snd.snd.snd.fst, Part.mk x4.snd.snd.snd.snd.fst.text x4.snd.snd.snd.snd.fst.letter (↑x5.toNat : Int) x4.snd.snd.snd.snd.fst.width, ()))
          else none
        else some ((x4.fst, x4.snd.fst, x4.snd.snd.snd.fst, x4.snd.snd.snd.snd.fst, ()))) >>= fun x4 =>
      n_64l18 (x4.fst, x4.snd.fst, x4.snd.fst, x4.snd.snd.fst, x4.snd.snd.snd.fst, ()) >>= fun x5 =>
      (if (x5.snd.fst == x5.snd.snd.fst) = true then
          some ((x5.fst, x5.snd.fst, true, x5.snd.snd.snd.fst, x5.snd.snd.snd.snd.fst, ()))
        else n_82 (x5.snd.snd.snd.snd.fst.width, ()) >>= fun x6 =>
        if (0 : Int) ≤ x5.snd.snd.fst ∧ x5.snd.snd.fst ≤ x5.snd.fst ∧ x5.snd.fst ≤ (↑x5.fst.size : Int) then
          if (!x6.fst.toList == (x5.fst.extract x5.snd.snd.fst.toNat x5.snd.fst.toNat).toList) = true then
            some ((x5.fst, x5.snd.fst, true, x5.snd.snd.snd.fst, x5.snd.snd.snd.snd.fst, ()))
          else n_39 (x5.snd.snd.snd.snd.fst.width, (1 : Int), (99 : Int), ()) >>= fun x7 =>
          some ((x5.fst, x5.snd.fst, !x7.fst, x5.snd.snd.snd.fst, x5.snd.snd.snd.snd.fst, ()))
        else none) >>= fun x6 =>
      if x6.snd.snd.fst = true then
        some (Sum.inr ((0 : Int), Part.mk (ByteArray.mk #[]) (0 : Int) (0 : Int) (0 : Int), ()))
      else some (Sum.inl (x6.fst, x6.snd.fst, x6.snd.snd.snd.fst, x6.snd.snd.snd.snd.fst, ()))
    else some (Sum.inl (x2.fst, (1 : Int), x2.snd.snd.fst, x2.snd.snd.snd.fst, ()))) >>= fun x3 => match x3 with
    | .inl y3 => (if decide (y3.snd.fst ≥ (↑y3.fst.size : Int)) = true then
          some ((y3.snd.fst, true, y3.snd.snd.fst, y3.snd.snd.snd.fst, ()))
        else if (0 : Int) ≤ y3.snd.fst then
          y3.fst[y3.snd.fst.toNat]? >>= fun x4 =>
          some ((y3.snd.fst, (↑x4.toNat : Int) != (125 : Int), y3.snd.snd.fst, y3.snd.snd.snd.fst, ()))
        else none) >>= fun x4 =>
      if x4.snd.fst = true then
        some (((0 : Int), Part.mk (ByteArray.mk #[]) (0 : Int) (0 : Int) (0 : Int), ()))
      else some ((IntKind.i64.wrap (x4.fst + (1 : Int)), x4.snd.snd.snd.fst, ()))
    | .inr y3 => some y3
noncomputable def call64 : Caller vw := fun A fid args S k => match fid with | 39 => callPure Tryd.prog sig39 n_39 A args S k | 40 => callPure Tryd.prog sig40 n_40 A args S k | 82 => callPure Tryd.prog sig82 n_82 A args S k | _ => none
noncomputable def x64 : Xc vw := { P := Tryd.prog, n := 122, nm := id, call := call64, pre := fun _ => false, sh := sh64, joins := fun k => match k with | 17 => some (c64j17, [.norm]) | 23 => some (c64j23, [.norm, .ret]) | _ => none, regs := fun k => match k with | 8 => some c64r8 | 14 => some c64r14 | 18 => some c64r18 | 21 => some c64r21 | 23 => some c64r23 | _ => none, loops := fun k => match k with | 6 => some { cut := c64l6, alts := [.exit 0], F := n_64l6 } | 18 => some { cut := c64l18, alts := [.exit 2], F := n_64l18 } | _ => none }
theorem call64_ok : CallerOk Tryd.prog call64 := fun A fid args S dst k r h => by
  unfold call64 at h
  split at h
  · exact callPure_ok (n_39_ok) rfl rfl h
  · exact callPure_ok (n_40_ok) rfl rfl h
  · exact callPure_ok (n_82_ok) rfl rfl h
  · cases h
theorem n_64l6_ok (C : Ctx) (hP : C.P = Tryd.prog) (hN : C.N = 122) : LoopOk C (loopNo (bodyOf Tryd.f64) 0) (sh := sh64) { cut := c64l6, alts := [.exit 0], F := n_64l6 } :=
  n_64l6.partial_correctness (motive := fun v out => AWpL C (loopNo (bodyOf Tryd.f64) 0) (encS vw (conc vw c64l6 v)) (OutQ sh64 [.exit 0] out)) fun F ih v out h =>
    loop_step (X := x64) (b := (loopNo (bodyOf Tryd.f64) 0)) hP hN Ty.mixed call64_ok (lok_all (X := x64) (c := (loopNo (bodyOf Tryd.f64) 0)) (kcast (by kernel_rfl : True = AllB (LoopsP C (x64)) (loopsIn (loopNo (bodyOf Tryd.f64) 0))) trivial)) ih (kcast (by kernel_rfl) h)
theorem n_64l18_ok (C : Ctx) (hP : C.P = Tryd.prog) (hN : C.N = 122) : LoopOk C (loopNo (bodyOf Tryd.f64) 1) (sh := sh64) { cut := c64l18, alts := [.exit 2], F := n_64l18 } :=
  n_64l18.partial_correctness (motive := fun v out => AWpL C (loopNo (bodyOf Tryd.f64) 1) (encS vw (conc vw c64l18 v)) (OutQ sh64 [.exit 2] out)) fun F ih v out h =>
    loop_step (X := x64) (b := (loopNo (bodyOf Tryd.f64) 1)) hP hN Ty.mixed call64_ok (lok_all (X := x64) (c := (loopNo (bodyOf Tryd.f64) 1)) (kcast (by kernel_rfl : True = AllB (LoopsP C (x64)) (loopsIn (loopNo (bodyOf Tryd.f64) 1))) trivial)) ih (kcast (by kernel_rfl) h)
theorem n_64_ok : SigOk Tryd.prog 64 sig64 n_64 := fun v r x h hx =>
  fn_ok (X := x64) (sig := sig64) rfl Tryd.func64 (c := bodyOf Tryd.f64) (by kernel_rfl) Tryd.ntmps64 (by kernel_rfl) (by kernel_rfl) rfl Ty.mixed call64_ok rfl (fun C hP hN => (lok_all (X := x64) (c := (bodyOf Tryd.f64)) (kcast (by kernel_rfl : AllB (LoopsP C (x64)) [(loopNo (bodyOf Tryd.f64) 0), (loopNo (bodyOf Tryd.f64) 1)] = AllB (LoopsP C (x64)) (loopsIn (bodyOf Tryd.f64))) ⟨loop_at (X := x64) (b := (loopNo (bodyOf Tryd.f64) 0)) (by kernel_rfl) (n_64l6_ok C hP hN), loop_at (X := x64) (b := (loopNo (bodyOf Tryd.f64) 1)) (by kernel_rfl) (n_64l18_ok C hP hN), trivial⟩))) (kcast (by kernel_rfl) h) x hx

noncomputable def c42l5 : Cut SN := { slots := [(0, .dat .str), (4, .vh 1004), (5, .dat (.int .i64))], objs := [(1004, .vec 81 (.st .partT))] }
noncomputable def c42r7 : Cut SN := { slots := [(0, .dat .str), (4, .vh 1004), (5, .dat (.int .i64)), (6, .dat (.int .u8)), (7, .dat .bool)], objs := [(1004, .vec 81 (.st .partT))] }
noncomputable def c42r13 : Cut SN := { slots := [(0, .dat .str), (4, .vh 1004), (5, .dat (.int .i64)), (6, .dat (.int .u8)), (7, .dat .bool), (51, .dat .bool)], objs := [(1004, .vec 81 (.st .partT))] }
noncomputable def c42e0 : Cut SN := { slots := [(4, .vh 1004)], objs := [(1004, .vec 81 (.st .partT))] }
noncomputable def c42z : Cut SN := { slots := [(2, .dat (.sl (.st .partT))), (3, .dat (.int .i64))], objs := [] }
noncomputable def sh42 : Shape vw := { exits := fun id => match id with | 0 => c42e0 | _ => { slots := [], objs := [] }, rcut := c42z }
noncomputable def sig42 : Sig vw := { params := [.dat .str], objs := [], rcut := c42z, rvars := [.tmp 2, .tmp 3], keep := [] }
noncomputable def n_42l5 (v : ByteArray × Int × (List Part) × Unit) : Option ((((List Part) × Int × Unit) ⊕ ((List Part) × Unit))) :=
  if decide (v.snd.fst < (↑v.fst.size : Int)) = true then
    if (0 : Int) ≤ v.snd.fst then
      v.fst[v.snd.fst.toNat]? >>= fun x1 =>
      (if decide (IntKind.i64.wrap (v.snd.fst + (1 : Int)) < (↑v.fst.size : Int)) = true then
          if (0 : Int) ≤ IntKind.i64.wrap (v.snd.fst + (1 : Int)) then
            v.fst[(IntKind.i64.wrap (v.snd.fst + (1 : Int))).toNat]? >>= fun x2 =>
            some ((v.fst, v.snd.fst, (↑x1.toNat : Int), (↑x2.toNat : Int) == (↑x1.toNat : Int), v.snd.snd.fst, ()))
          else none
        else some ((v.fst, v.snd.fst, (↑x1.toNat : Int), false, v.snd.snd.fst, ()))) >>= fun x2 =>
      (if (x2.snd.snd.fst != (123 : Int)) = true then
          some ((x2.fst, x2.snd.fst, x2.snd.snd.fst, x2.snd.snd.snd.fst, x2.snd.snd.fst != (125 : Int), x2.snd.snd.snd.snd.fst, ()))
        else some ((x2.fst, x2.snd.fst, x2.snd.snd.fst, x2.snd.snd.snd.fst, false, x2.snd.snd.snd.snd.fst, ()))) >>= fun x3 =>
      if x3.snd.snd.snd.snd.fst = true then
        if (0 : Int) ≤ x3.snd.fst ∧ x3.snd.fst ≤ IntKind.i64.wrap (x3.snd.fst + (1 : Int)) ∧ IntKind.i64.wrap (x3.snd.fst + (1 : Int)) ≤ (↑x3.fst.size : Int) then
          if x3.snd.snd.snd.snd.snd.fst.length + [Part.mk (x3.fst.extract x3.snd.fst.toNat (IntKind.i64.wrap (x3.snd.fst + (1 : Int))).toNat) (0 : Int) (0 : Int) (0 : Int)].length ≤ (4294967296 : Nat) then
            n_42l5 (x3.fst, IntKind.i64.wrap (x3.snd.fst + (1 : Int)), x3.snd.snd.snd.snd.snd.fst ++ [Part.mk (x3.fst.extract x3.snd.fst.toNat (IntKind.i64.wrap (x3.snd.fst + (1 : Int))).toNat) (0 : Int) (0 : Int) (0 : Int)], ())
          else none
        else none
      else if x3.snd.snd.snd.fst = true then
        if (0 : Int) ≤ x3.snd.fst ∧ x3.snd.fst ≤ IntKind.i64.wrap (x3.snd.fst + (1 : Int)) ∧ IntKind.i64.wrap (x3.snd.fst + (1 : Int)) ≤ (↑x3.fst.size : Int) then
          if x3.snd.snd.snd.snd.snd.fst.length + [Part.mk (x3.fst.extract x3.snd.fst.toNat (IntKind.i64.wrap (x3.snd.fst + (1 : Int))).toNat) (0 : Int) (0 : Int) (0 : Int)].length ≤ (4294967296 : Nat) then
            n_42l5 (x3.fst, IntKind.i64.wrap (x3.snd.fst + (2 : Int)), x3.snd.snd.snd.snd.snd.fst ++ [Part.mk (x3.fst.extract x3.snd.fst.toNat (IntKind.i64.wrap (x3.snd.fst + (1 : Int))).toNat) (0 : Int) (0 : Int) (0 : Int)], ())
          else none
        else none
      else if (x3.snd.snd.fst == (125 : Int)) = true then
        some (Sum.inl ([], (2 : Int), ()))
      else if (0 : Int) ≤ IntKind.i64.wrap (x3.snd.fst + (1 : Int)) ∧ IntKind.i64.wrap (x3.snd.fst + (1 : Int)) ≤ (↑x3.fst.size : Int) ∧ (↑x3.fst.size : Int) ≤ (↑x3.fst.size : Int) then
        n_64 (x3.fst.extract (IntKind.i64.wrap (x3.snd.fst + (1 : Int))).toNat (↑x3.fst.size : Int).toNat, ()) >>= fun x4 =>
        if (x4.fst == (0 : Int)) = true then
          some (Sum.inl ([], (2 : Int), ()))
        else if x3.snd.snd.snd.snd.snd.fst.length + [x4.snd.fst].length ≤ (4294967296 : Nat) then
          n_42l5 (x3.fst, IntKind.i64.wrap (x3.snd.fst + IntKind.i64.wrap ((1 : Int) + x4.fst)), x3.snd.snd.snd.snd.snd.fst ++ [x4.snd.fst], ())
        else none
      else none
    else none
  else some (Sum.inr (v.snd.snd.fst, ()))
  partial_fixpoint
noncomputable def n_42 (v : ByteArray × Unit) : Option ((List Part) × Int × Unit) :=
  if decide ((↑v.fst.size : Int) > (4096 : Int)) = true then
    some (([], (3 : Int), ()))
  else n_42l5 (v.fst, (0 : Int), [], ()) >>= fun x1 => match x1 with
    | .inl y1 => some y1
    | .inr y1 => some ((y1.fst, (0 : Int), ()))
noncomputable def call42 : Caller vw := fun A fid args S k => match fid with | 64 => callPure Tryd.prog sig64 n_64 A args S k | _ => none
noncomputable def x42 : Xc vw := { P := Tryd.prog, n := 86, nm := id, call := call42, pre := fun _ => false, sh := sh42, joins := fun _ => none, regs := fun k => match k with | 7 => some c42r7 | 13 => some c42r13 | _ => none, loops := fun k => match k with | 5 => some { cut := c42l5, alts := [.ret, .exit 0], F := n_42l5 } | _ => none }
theorem call42_ok : CallerOk Tryd.prog call42 := fun A fid args S dst k r h => by
  unfold call42 at h
  split at h
  · exact callPure_ok (n_64_ok) rfl rfl h
  · cases h
theorem n_42l5_ok (C : Ctx) (hP : C.P = Tryd.prog) (hN : C.N = 86) : LoopOk C (loopNo (bodyOf Tryd.f42) 0) (sh := sh42) { cut := c42l5, alts := [.ret, .exit 0], F := n_42l5 } :=
  n_42l5.partial_correctness (motive := fun v out => AWpL C (loopNo (bodyOf Tryd.f42) 0) (encS vw (conc vw c42l5 v)) (OutQ sh42 [.ret, .exit 0] out)) fun F ih v out h =>
    loop_step (X := x42) (b := (loopNo (bodyOf Tryd.f42) 0)) hP hN Ty.mixed call42_ok (lok_all (X := x42) (c := (loopNo (bodyOf Tryd.f42) 0)) (kcast (by kernel_rfl : True = AllB (LoopsP C (x42)) (loopsIn (loopNo (bodyOf Tryd.f42) 0))) trivial)) ih (kcast (by kernel_rfl) h)
theorem n_42_ok : SigOk Tryd.prog 42 sig42 n_42 := fun v r x h hx =>
  fn_ok (X := x42) (sig := sig42) rfl Tryd.func42 (c := bodyOf Tryd.f42) (by kernel_rfl) Tryd.ntmps42 (by kernel_rfl) (by kernel_rfl) rfl Ty.mixed call42_ok rfl (fun C hP hN => (lok_all (X := x42) (c := (bodyOf Tryd.f42)) (kcast (by kernel_rfl : AllB (LoopsP C (x42)) [(loopNo (bodyOf Tryd.f42) 0)] = AllB (LoopsP C (x42)) (loopsIn (bodyOf Tryd.f42))) ⟨loop_at (X := x42) (b := (loopNo (bodyOf Tryd.f42) 0)) (by kernel_rfl) (n_42l5_ok C hP hN), trivial⟩))) (kcast (by kernel_rfl) h) x hx

noncomputable def c43l3 : Cut SN := { slots := [(0, .dat (.sl (.st .partT))), (3, .vh 1003), (4, .dat (.int .i64))], objs := [(1003, .vec 81 (.st .partT))] }
noncomputable def c43j4 : Cut SN := { slots := [(0, .dat (.sl (.st .partT))), (3, .vh 1003), (4, .dat (.int .i64))], objs := [(1003, .vec 81 (.st .partT))] }
noncomputable def c43e0 : Cut SN := { slots := [(3, .vh 1003)], objs := [(1003, .vec 81 (.st .partT))] }
noncomputable def c43z : Cut SN := { slots := [(2, .dat (.sl (.st .partT)))], objs := [] }
noncomputable def sh43 : Shape vw := { exits := fun id => match id with | 0 => c43e0 | _ => { slots := [], objs := [] }, rcut := c43z }
noncomputable def sig43 : Sig vw := { params := [.dat (.sl (.st .partT))], objs := [], rcut := c43z, rvars := [.tmp 2], keep := [] }
noncomputable def n_43l3 (v : (List Part) × Int × (List Part) × Unit) : Option (((List Part) × Unit)) :=
  if decide (v.snd.fst < (↑v.fst.length : Int)) = true then
    (if (0 : Int) ≤ v.snd.fst then
        v.fst[v.snd.fst.toNat]? >>= fun x1 =>
        if (x1.letter != (0 : Int)) = true then
          if (0 : Int) ≤ v.snd.fst then
            v.fst[v.snd.fst.toNat]? >>= fun x2 =>
            if v.snd.snd.fst.length + [x2].length ≤ (4294967296 : Nat) then
              some ((v.fst, v.snd.fst, v.snd.snd.fst ++ [x2], ()))
            else none
          else none
        else some ((v.fst, v.snd.fst, v.snd.snd.fst, ()))
      else none) >>= fun x1 =>
    n_43l3 (x1.fst, IntKind.i64.wrap (x1.snd.fst + (1 : Int)), x1.snd.snd.fst, ())
  else some ((v.snd.snd.fst, ()))
  partial_fixpoint
noncomputable def n_43 (v : (List Part) × Unit) : Option ((List Part) × Unit) :=
  n_43l3 (v.fst, (0 : Int), [], ()) >>= fun x1 =>
  some ((x1.fst, ()))
noncomputable def call43 : Caller vw := fun _ _ _ _ _ => none
noncomputable def x43 : Xc vw := { P := Tryd.prog, n := 25, nm := id, call := call43, pre := fun _ => false, sh := sh43, joins := fun k => match k with | 4 => some (c43j4, [.norm]) | _ => none, regs := fun _ => none, loops := fun k => match k with | 3 => some { cut := c43l3, alts := [.exit 0], F := n_43l3 } | _ => none }
theorem call43_ok : CallerOk Tryd.prog call43 := call_none
theorem n_43l3_ok (C : Ctx) (hP : C.P = Tryd.prog) (hN : C.N = 25) : LoopOk C (loopNo (bodyOf Tryd.f43) 0) (sh := sh43) { cut := c43l3, alts := [.exit 0], F := n_43l3 } :=
  n_43l3.partial_correctness (motive := fun v out => AWpL C (loopNo (bodyOf Tryd.f43) 0) (encS vw (conc vw c43l3 v)) (OutQ sh43 [.exit 0] out)) fun F ih v out h =>
    loop_step (X := x43) (b := (loopNo (bodyOf Tryd.f43) 0)) hP hN Ty.mixed call43_ok (lok_all (X := x43) (c := (loopNo (bodyOf Tryd.f43) 0)) (kcast (by kernel_rfl : True = AllB (LoopsP C (x43)) (loopsIn (loopNo (bodyOf Tryd.f43) 0))) trivial)) ih (kcast (by kernel_rfl) h)
theorem n_43_ok : SigOk Tryd.prog 43 sig43 n_43 := fun v r x h hx =>
  fn_ok (X := x43) (sig := sig43) rfl Tryd.func43 (c := bodyOf Tryd.f43) (by kernel_rfl) Tryd.ntmps43 (by kernel_rfl) (by kernel_rfl) rfl Ty.mixed call43_ok rfl (fun C hP hN => (lok_all (X := x43) (c := (bodyOf Tryd.f43)) (kcast (by kernel_rfl : AllB (LoopsP C (x43)) [(loopNo (bodyOf Tryd.f43) 0)] = AllB (LoopsP C (x43)) (loopsIn (bodyOf Tryd.f43))) ⟨loop_at (X := x43) (b := (loopNo (bodyOf Tryd.f43) 0)) (by kernel_rfl) (n_43l3_ok C hP hN), trivial⟩))) (kcast (by kernel_rfl) h) x hx

noncomputable def c44j6 : Cut SN := { slots := [(1, .bp 1 0), (34, .dat (.int .i64)), (35, .dat .bool)], objs := [(1, .st .tagT)] }
noncomputable def c44r1 : Cut SN := { slots := [(1, .bp 1 0), (32, .dat .bool)], objs := [(1, .st .tagT)] }
noncomputable def c44r9 : Cut SN := { slots := [(2, .dat .bool)], objs := [] }
noncomputable def c44z : Cut SN := { slots := [(2, .dat .bool)], objs := [] }
noncomputable def sh44 : Shape vw := { exits := fun _ => { slots := [], objs := [] }, rcut := c44z }
noncomputable def sig44 : Sig vw := { params := [.dat (.st .tagT)], objs := [], rcut := c44z, rvars := [.tmp 2], keep := [] }
noncomputable def n_44 (v : Tag × Unit) : Option (Bool × Unit) :=
  (if decide ((↑v.fst.names.length : Int) > (0 : Int)) = true then
      some ((true, v.fst, ()))
    else if decide ((↑v.fst.parts.length : Int) > (0 : Int)) = true then
      some ((true, v.fst, ()))
    else if (v.fst.kind != (3 : Int)) = true then
      if (v.fst.n != (0 : Int)) = true then
        some ((true, v.fst, ()))
      else if (v.fst.kind != (4 : Int)) = true then
        some ((!v.fst.text.toList == (ByteArray.mk #[]).toList, v.fst, ()))
      else some ((false, v.fst, ()))
    else if (v.fst.kind != (4 : Int)) = true then
      some ((!v.fst.text.toList == (ByteArray.mk #[]).toList, v.fst, ()))
    else some ((false, v.fst, ()))) >>= fun x1 =>
  if x1.fst = true then
    some ((false, ()))
  else (if (x1.snd.fst.kind == (1 : Int)) = true then
      some ((x1.snd.fst.kind, true, x1.snd.fst, ()))
    else some ((x1.snd.fst.kind, x1.snd.fst.kind == (2 : Int), x1.snd.fst, ()))) >>= fun x2 =>
  if x2.snd.fst = true then
    some ((true, ()))
  else if (x2.fst == (3 : Int)) = true then
    n_39 (x2.snd.snd.fst.n, (-1099511627776 : Int), (1099511627776 : Int), ()) >>= fun x3 =>
    some ((x3.fst, ()))
  else (if (x2.snd.snd.fst.kind == (4 : Int)) = true then
      n_38 (x2.snd.snd.fst.text, ()) >>= fun x3 =>
      some ((x3.fst == (0 : Int), ()))
    else some ((false, ()))) >>= fun x3 =>
  some ((x3.fst, ()))
noncomputable def call44 : Caller vw := fun A fid args S k => match fid with | 38 => callPure Tryd.prog sig38 n_38 A args S k | 39 => callPure Tryd.prog sig39 n_39 A args S k | _ => none
noncomputable def x44 : Xc vw := { P := Tryd.prog, n := 52, nm := id, call := call44, pre := fun _ => false, sh := sh44, joins := fun k => match k with | 6 => some (c44j6, [.norm]) | _ => none, regs := fun k => match k with | 1 => some c44r1 | 9 => some c44r9 | _ => none, loops := fun _ => none }
theorem call44_ok : CallerOk Tryd.prog call44 := fun A fid args S dst k r h => by
  unfold call44 at h
  split at h
  · exact callPure_ok (n_38_ok) rfl rfl h
  · exact callPure_ok (n_39_ok) rfl rfl h
  · cases h
theorem n_44_ok : SigOk Tryd.prog 44 sig44 n_44 := fun v r x h hx =>
  fn_ok (X := x44) (sig := sig44) rfl Tryd.func44 (c := bodyOf Tryd.f44) (by kernel_rfl) Tryd.ntmps44 (by kernel_rfl) (by kernel_rfl) rfl Ty.mixed call44_ok rfl (fun C hP hN => (lok_all (X := x44) (c := (bodyOf Tryd.f44)) (kcast (by kernel_rfl : True = AllB (LoopsP C (x44)) (loopsIn (bodyOf Tryd.f44))) trivial))) (kcast (by kernel_rfl) h) x hx

noncomputable def c45j5 : Cut SN := { slots := [(3, .bp 3 0), (5, .dat (.int .u8)), (6, .dat .bool)], objs := [(3, .st .tagT)] }
noncomputable def c45r9 : Cut SN := { slots := [(4, .dat .bool)], objs := [] }
noncomputable def c45r11 : Cut SN := { slots := [(4, .dat .bool)], objs := [] }
noncomputable def c45z : Cut SN := { slots := [(4, .dat .bool)], objs := [] }
noncomputable def sh45 : Shape vw := { exits := fun _ => { slots := [], objs := [] }, rcut := c45z }
noncomputable def sig45 : Sig vw := { params := [.dat (.int .u8), .dat (.st .tagT)], objs := [], rcut := c45z, rvars := [.tmp 4], keep := [] }
noncomputable def n_45 (v : Int × Tag × Unit) : Option (Bool × Unit) :=
  (if (v.fst == (100 : Int)) = true then
      some ((v.fst, true, v.snd.fst, ()))
    else if (v.fst == (120 : Int)) = true then
      some ((v.fst, true, v.snd.fst, ()))
    else some ((v.fst, v.fst == (98 : Int), v.snd.fst, ()))) >>= fun x1 =>
  if x1.snd.fst = true then
    some ((x1.snd.snd.fst.kind == (3 : Int), ()))
  else if (x1.fst == (115 : Int)) = true then
    some ((x1.snd.snd.fst.kind == (4 : Int), ()))
  else if (x1.fst == (116 : Int)) = true then
    (if (x1.snd.snd.fst.kind == (1 : Int)) = true then
        some ((true, ()))
      else some ((x1.snd.snd.fst.kind == (2 : Int), ()))) >>= fun x2 =>
    some ((x2.fst, ()))
  else if (x1.fst == (99 : Int)) = true then
    (if (x1.snd.snd.fst.kind == (3 : Int)) = true then
        n_55 (x1.snd.snd.fst.n, ()) >>= fun x2 =>
        some ((x2.fst, ()))
      else some ((false, ()))) >>= fun x2 =>
    some ((x2.fst, ()))
  else some ((true, ()))
noncomputable def call45 : Caller vw := fun A fid args S k => match fid with | 55 => callPure Tryd.prog sig55 n_55 A args S k | _ => none
noncomputable def x45 : Xc vw := { P := Tryd.prog, n := 38, nm := id, call := call45, pre := fun _ => false, sh := sh45, joins := fun k => match k with | 5 => some (c45j5, [.norm]) | _ => none, regs := fun k => match k with | 9 => some c45r9 | 11 => some c45r11 | _ => none, loops := fun _ => none }
theorem call45_ok : CallerOk Tryd.prog call45 := fun A fid args S dst k r h => by
  unfold call45 at h
  split at h
  · exact callPure_ok (n_55_ok) rfl rfl h
  · cases h
theorem n_45_ok : SigOk Tryd.prog 45 sig45 n_45 := fun v r x h hx =>
  fn_ok (X := x45) (sig := sig45) rfl Tryd.func45 (c := bodyOf Tryd.f45) (by kernel_rfl) Tryd.ntmps45 (by kernel_rfl) (by kernel_rfl) rfl Ty.mixed call45_ok rfl (fun C hP hN => (lok_all (X := x45) (c := (bodyOf Tryd.f45)) (kcast (by kernel_rfl : True = AllB (LoopsP C (x45)) (loopsIn (bodyOf Tryd.f45))) trivial))) (kcast (by kernel_rfl) h) x hx

noncomputable def c83r1 : Cut SN := { slots := [(6, .dat .bool)], objs := [] }
noncomputable def c83z : Cut SN := { slots := [(6, .dat .bool)], objs := [] }
noncomputable def sh83 : Shape vw := { exits := fun _ => { slots := [], objs := [] }, rcut := c83z }
noncomputable def sig83 : Sig vw := { params := [.dat (.int .i64), .dat (.int .i64), .dat (.int .i64)], objs := [], rcut := c83z, rvars := [.tmp 6], keep := [] }
noncomputable def n_83 (v : Int × Int × Int × Unit) : Option (Bool × Unit) :=
  (if decide (v.fst ≥ v.snd.fst) = true then
      some ((decide (v.fst ≤ v.snd.snd.fst), ()))
    else some ((false, ()))) >>= fun x1 =>
  some ((x1.fst, ()))
noncomputable def call83 : Caller vw := fun _ _ _ _ _ => none
noncomputable def x83 : Xc vw := { P := Tryd.prog, n := 15, nm := id, call := call83, pre := fun _ => false, sh := sh83, joins := fun _ => none, regs := fun k => match k with | 1 => some c83r1 | _ => none, loops := fun _ => none }
theorem call83_ok : CallerOk Tryd.prog call83 := call_none
theorem n_83_ok : SigOk Tryd.prog 83 sig83 n_83 := fun v r x h hx =>
  fn_ok (X := x83) (sig := sig83) rfl Tryd.func83 (c := bodyOf Tryd.f83) (by kernel_rfl) Tryd.ntmps83 (by kernel_rfl) (by kernel_rfl) rfl Ty.mixed call83_ok rfl (fun C hP hN => (lok_all (X := x83) (c := (bodyOf Tryd.f83)) (kcast (by kernel_rfl : True = AllB (LoopsP C (x83)) (loopsIn (bodyOf Tryd.f83))) trivial))) (kcast (by kernel_rfl) h) x hx

noncomputable def c66r1 : Cut SN := { slots := [(0, .dat (.int .i64)), (1, .dat (.int .i64)), (13, .dat .bool)], objs := [] }
noncomputable def c66z : Cut SN := { slots := [(4, .dat .str), (5, .dat (.int .i64))], objs := [] }
noncomputable def sh66 : Shape vw := { exits := fun _ => { slots := [], objs := [] }, rcut := c66z }
noncomputable def sig66 : Sig vw := { params := [.dat (.int .i64), .dat (.int .i64)], objs := [], rcut := c66z, rvars := [.tmp 4, .tmp 5], keep := [] }
noncomputable def n_66 (v : Int × Int × Unit) : Option (ByteArray × Int × Unit) :=
  (n_83 (v.snd.fst, (2 : Int), (16 : Int), ()) >>= fun x1 =>
    if (!x1.fst) = true then
      some ((v.fst, v.snd.fst, true, ()))
    else n_83 (v.fst, (-1099511627776 : Int), (1099511627776 : Int), ()) >>= fun x2 =>
    some ((v.fst, v.snd.fst, !x2.fst, ()))) >>= fun x1 =>
  if x1.snd.snd.fst = true then
    some ((ByteArray.mk #[], (1 : Int), ()))
  else n_84 (x1.fst, x1.snd.fst, ()) >>= fun x2 =>
  some ((x2.fst, (0 : Int), ()))
noncomputable def call66 : Caller vw := fun A fid args S k => match fid with | 83 => callPure Tryd.prog sig83 n_83 A args S k | 84 => callPure Tryd.prog sig84 n_84 A args S k | _ => none
noncomputable def x66 : Xc vw := { P := Tryd.prog, n := 17, nm := id, call := call66, pre := fun _ => false, sh := sh66, joins := fun _ => none, regs := fun k => match k with | 1 => some c66r1 | _ => none, loops := fun _ => none }
theorem call66_ok : CallerOk Tryd.prog call66 := fun A fid args S dst k r h => by
  unfold call66 at h
  split at h
  · exact callPure_ok (n_83_ok) rfl rfl h
  · exact callPure_ok (n_84_ok) rfl rfl h
  · cases h
theorem n_66_ok : SigOk Tryd.prog 66 sig66 n_66 := fun v r x h hx =>
  fn_ok (X := x66) (sig := sig66) rfl Tryd.func66 (c := bodyOf Tryd.f66) (by kernel_rfl) Tryd.ntmps66 (by kernel_rfl) (by kernel_rfl) rfl Ty.mixed call66_ok rfl (fun C hP hN => (lok_all (X := x66) (c := (bodyOf Tryd.f66)) (kcast (by kernel_rfl : True = AllB (LoopsP C (x66)) (loopsIn (bodyOf Tryd.f66))) trivial))) (kcast (by kernel_rfl) h) x hx

noncomputable def c46j14 : Cut SN := { slots := [(3, .bp 3 0), (6, .dat (.int .i64))], objs := [(3, .st .tagT)] }
noncomputable def c46z : Cut SN := { slots := [(4, .dat .str), (5, .dat (.int .u8))], objs := [] }
noncomputable def sh46 : Shape vw := { exits := fun _ => { slots := [], objs := [] }, rcut := c46z }
noncomputable def sig46 : Sig vw := { params := [.dat (.int .u8), .dat (.st .tagT)], objs := [], rcut := c46z, rvars := [.tmp 4, .tmp 5], keep := [] }
noncomputable def n_46 (v : Int × Tag × Unit) : Option (ByteArray × Int × Unit) :=
  (if (v.fst == (99 : Int)) = true then
      n_65 (v.snd.fst.n, ()) >>= fun x1 =>
      some (Sum.inr (x1.fst, (62 : Int), ()))
    else if (v.snd.fst.kind == (1 : Int)) = true then
      some (Sum.inr (ByteArray.mk #[(102 : UInt8), (97 : UInt8), (108 : UInt8), (115 : UInt8), (101 : UInt8)], (60 : Int), ()))
    else if (v.snd.fst.kind == (2 : Int)) = true then
      some (Sum.inr (ByteArray.mk #[(116 : UInt8), (114 : UInt8), (117 : UInt8), (101 : UInt8)], (60 : Int), ()))
    else if (v.snd.fst.kind == (4 : Int)) = true then
      some (Sum.inr (v.snd.fst.text, (60 : Int), ()))
    else if (v.fst == (120 : Int)) = true then
      some (Sum.inl ((16 : Int), v.snd.fst, ()))
    else if (v.fst == (98 : Int)) = true then
      some (Sum.inl ((2 : Int), v.snd.fst, ()))
    else some (Sum.inl ((10 : Int), v.snd.fst, ()))) >>= fun x1 => match x1 with
    | .inl y1 => n_66 (y1.snd.fst.n, y1.fst, ()) >>= fun x2 =>
      some ((x2.fst, (62 : Int), ()))
    | .inr y1 => some y1
noncomputable def call46 : Caller vw := fun A fid args S k => match fid with | 65 => callPure Tryd.prog sig65 n_65 A args S k | 66 => callPure Tryd.prog sig66 n_66 A args S k | _ => none
noncomputable def x46 : Xc vw := { P := Tryd.prog, n := 43, nm := id, call := call46, pre := fun _ => false, sh := sh46, joins := fun k => match k with | 14 => some (c46j14, [.norm, .ret]) | _ => none, regs := fun _ => none, loops := fun _ => none }
theorem call46_ok : CallerOk Tryd.prog call46 := fun A fid args S dst k r h => by
  unfold call46 at h
  split at h
  · exact callPure_ok (n_65_ok) rfl rfl h
  · exact callPure_ok (n_66_ok) rfl rfl h
  · cases h
theorem n_46_ok : SigOk Tryd.prog 46 sig46 n_46 := fun v r x h hx =>
  fn_ok (X := x46) (sig := sig46) rfl Tryd.func46 (c := bodyOf Tryd.f46) (by kernel_rfl) Tryd.ntmps46 (by kernel_rfl) (by kernel_rfl) rfl Ty.mixed call46_ok rfl (fun C hP hN => (lok_all (X := x46) (c := (bodyOf Tryd.f46)) (kcast (by kernel_rfl : True = AllB (LoopsP C (x46)) (loopsIn (bodyOf Tryd.f46))) trivial))) (kcast (by kernel_rfl) h) x hx

noncomputable def c13l8 : Cut SN := { slots := [(1, .dat (.sl (.st .tagT))), (6, .dat (.sl (.st .partT))), (8, .dat (.sl (.st .partT))), (9, .dat (.int .i64))], objs := [] }
noncomputable def c13l13 : Cut SN := { slots := [(1, .dat (.sl (.st .tagT))), (6, .dat (.sl (.st .partT))), (8, .dat (.sl (.st .partT))), (10, .dat (.int .i64))], objs := [] }
noncomputable def c13l20 : Cut SN := { slots := [(1, .dat (.sl (.st .tagT))), (6, .dat (.sl (.st .partT))), (11, .vh 1011), (12, .dat (.int .i64)), (13, .dat (.int .i64))], objs := [(1011, .vec 5 (.int .u8))] }
noncomputable def c13j27 : Cut SN := { slots := [(1, .dat (.sl (.st .tagT))), (6, .dat (.sl (.st .partT))), (11, .vh 1011), (12, .dat (.int .i64)), (13, .dat (.int .i64)), (15, .dat .str), (16, .dat (.int .u8))], objs := [(1011, .vec 5 (.int .u8))] }
noncomputable def c13j29 : Cut SN := { slots := [(1, .dat (.sl (.st .tagT))), (6, .dat (.sl (.st .partT))), (11, .vh 1011), (12, .dat (.int .i64)), (13, .dat (.int .i64)), (14, .dat .str)], objs := [(1011, .vec 5 (.int .u8))] }
noncomputable def c13e0 : Cut SN := { slots := [(1, .dat (.sl (.st .tagT))), (6, .dat (.sl (.st .partT))), (8, .dat (.sl (.st .partT)))], objs := [] }
noncomputable def c13e2 : Cut SN := { slots := [(1, .dat (.sl (.st .tagT))), (6, .dat (.sl (.st .partT)))], objs := [] }
noncomputable def c13e4 : Cut SN := { slots := [(11, .vh 1011)], objs := [(1011, .vec 5 (.int .u8))] }
noncomputable def c13z : Cut SN := { slots := [(4, .dat .str), (5, .dat (.int .i64))], objs := [] }
noncomputable def sh13 : Shape vw := { exits := fun id => match id with | 0 => c13e0 | 2 => c13e2 | 4 => c13e4 | _ => { slots := [], objs := [] }, rcut := c13z }
noncomputable def sig13 : Sig vw := { params := [.dat .str, .dat (.sl (.st .tagT))], objs := [], rcut := c13z, rvars := [.tmp 4, .tmp 5], keep := [] }
noncomputable def n_13l8 (v : (List Tag) × (List Part) × (List Part) × Int × Unit) : Option (((ByteArray × Int × Unit) ⊕ ((List Tag) × (List Part) × (List Part) × Unit))) :=
  if decide (v.snd.snd.snd.fst < (↑v.fst.length : Int)) = true then
    if (0 : Int) ≤ v.snd.snd.snd.fst then
      v.fst[v.snd.snd.snd.fst.toNat]? >>= fun x1 =>
      n_44 (x1, ()) >>= fun x2 =>
      if (!x2.fst) = true then
        some (Sum.inl (ByteArray.mk #[], (1 : Int), ()))
      else n_13l8 (v.fst, v.snd.fst, v.snd.snd.fst, IntKind.i64.wrap (v.snd.snd.snd.fst + (1 : Int)), ())
    else none
  else some (Sum.inr (v.fst, v.snd.fst, v.snd.snd.fst, ()))
  partial_fixpoint
noncomputable def n_13l13 (v : (List Tag) × (List Part) × (List Part) × Int × Unit) : Option (((ByteArray × Int × Unit) ⊕ ((List Tag) × (List Part) × Unit))) :=
  if decide (v.snd.snd.snd.fst < (↑v.fst.length : Int)) = true then
    if (0 : Int) ≤ v.snd.snd.snd.fst then
      v.snd.snd.fst[v.snd.snd.snd.fst.toNat]? >>= fun x1 =>
      if (0 : Int) ≤ v.snd.snd.snd.fst then
        v.fst[v.snd.snd.snd.fst.toNat]? >>= fun x2 =>
        n_45 (x1.letter, x2, ()) >>= fun x3 =>
        if (!x3.fst) = true then
          some (Sum.inl (ByteArray.mk #[], (6 : Int), ()))
        else n_13l13 (v.fst, v.snd.fst, v.snd.snd.fst, IntKind.i64.wrap (v.snd.snd.snd.fst + (1 : Int)), ())
      else none
    else none
  else some (Sum.inr (v.fst, v.snd.fst, ()))
  partial_fixpoint
noncomputable def n_13l20 (v : (List Tag) × (List Part) × Int × Int × (List Int) × Unit) : Option (((List Int) × Unit)) :=
  if decide (v.snd.snd.snd.fst < (↑v.snd.fst.length : Int)) = true then
    if (0 : Int) ≤ v.snd.snd.snd.fst then
      v.snd.fst[v.snd.snd.snd.fst.toNat]? >>= fun x1 =>
      (if (0 : Int) ≤ v.snd.snd.snd.fst then
          v.snd.fst[v.snd.snd.snd.fst.toNat]? >>= fun x2 =>
          if (x2.letter != (0 : Int)) = true then
            if (0 : Int) ≤ v.snd.snd.snd.fst then
              v.snd.fst[v.snd.snd.snd.fst.toNat]? >>= fun x3 =>
              if (0 : Int) ≤ v.snd.snd.fst then
                v.fst[v.snd.snd.fst.toNat]? >>= fun x4 =>
                n_46 (x3.letter, x4, ()) >>= fun x5 =>
                (if (0 : Int) ≤ v.snd.snd.snd.fst then
                    v.snd.fst[v.snd.snd.snd.fst.toNat]? >>= fun x6 =>
                    if (x6.side != (0 : Int)) = true then
                      if (0 : Int) ≤ v.snd.snd.snd.fst then
                        v.snd.fst[v.snd.snd.snd.fst.toNat]? >>= fun x7 =>
                        some ((v.fst, v.snd.fst, v.snd.snd.fst, v.snd.snd.snd.fst, x5.fst, x7.side, v.snd.snd.snd.snd.fst, ()))
                      else none
                    else some ((v.fst, v.snd.fst, v.snd.snd.fst, v.snd.snd.snd.fst, x5.fst, x5.snd.fst, v.snd.snd.snd.snd.fst, ()))
                  else none) >>= fun x6 =>
                if (0 : Int) ≤ x6.snd.snd.snd.fst then
                  x6.snd.fst[x6.snd.snd.snd.fst.toNat]? >>= fun x7 =>
                  n_41 (x6.snd.snd.snd.snd.fst, x7.width, x6.snd.snd.snd.snd.snd.fst, ()) >>= fun x8 =>
                  some ((x6.fst, x6.snd.fst, IntKind.i64.wrap (x6.snd.snd.fst + (1 : Int)), x6.snd.snd.snd.fst, x8.fst, x6.snd.snd.snd.snd.snd.snd.fst, ()))
                else none
              else none
            else none
          else some ((v.fst, v.snd.fst, v.snd.snd.fst, v.snd.snd.snd.fst, x1.text, v.snd.snd.snd.snd.fst, ()))
        else none) >>= fun x2 =>
      if x2.snd.snd.snd.snd.snd.fst.length + x2.snd.snd.snd.snd.fst.size ≤ (4294967296 : Nat) then
        n_13l20 (x2.fst, x2.snd.fst, x2.snd.snd.fst, IntKind.i64.wrap (x2.snd.snd.snd.fst + (1 : Int)), x2.snd.snd.snd.snd.snd.fst ++ Bs.ints x2.snd.snd.snd.snd.fst, ())
      else none
    else none
  else some ((v.snd.snd.snd.snd.fst, ()))
  partial_fixpoint
noncomputable def n_13 (v : ByteArray × (List Tag) × Unit) : Option (ByteArray × Int × Unit) :=
  n_42 (v.fst, ()) >>= fun x1 =>
  if (x1.snd.fst != (0 : Int)) = true then
    some ((ByteArray.mk #[], x1.snd.fst, ()))
  else n_43 (x1.fst, ()) >>= fun x2 =>
  if ((↑x2.fst.length : Int) != (↑v.snd.fst.length : Int)) = true then
    some ((ByteArray.mk #[], (10 : Int), ()))
  else n_13l8 (v.snd.fst, x1.fst, x2.fst, (0 : Int), ()) >>= fun x3 => match x3 with
    | .inl y3 => some y3
    | .inr y3 => n_13l13 (y3.fst, y3.snd.fst, y3.snd.snd.fst, (0 : Int), ()) >>= fun x4 => match x4 with
        | .inl y4 => some y4
        | .inr y4 => n_13l20 (y4.fst, y4.snd.fst, (0 : Int), (0 : Int), [], ()) >>= fun x5 =>
          if decide ((↑x5.fst.length : Int) > (16384 : Int)) = true then
            some ((ByteArray.mk #[], (3 : Int), ()))
          else some ((Bs.bytes x5.fst, (0 : Int), ()))
noncomputable def call13 : Caller vw := fun A fid args S k => match fid with | 41 => callPure Tryd.prog sig41 n_41 A args S k | 42 => callPure Tryd.prog sig42 n_42 A args S k | 43 => callPure Tryd.prog sig43 n_43 A args S k | 44 => callPure Tryd.prog sig44 n_44 A args S k | 45 => callPure Tryd.prog sig45 n_45 A args S k | 46 => callPure Tryd.prog sig46 n_46 A args S k | _ => none
noncomputable def x13 : Xc vw := { P := Tryd.prog, n := 120, nm := id, call := call13, pre := fun _ => false, sh := sh13, joins := fun k => match k with | 27 => some (c13j27, [.norm]) | 29 => some (c13j29, [.norm]) | _ => none, regs := fun _ => none, loops := fun k => match k with | 8 => some { cut := c13l8, alts := [.ret, .exit 0], F := n_13l8 } | 13 => some { cut := c13l13, alts := [.ret, .exit 2], F := n_13l13 } | 20 => some { cut := c13l20, alts := [.exit 4], F := n_13l20 } | _ => none }
theorem call13_ok : CallerOk Tryd.prog call13 := fun A fid args S dst k r h => by
  unfold call13 at h
  split at h
  · exact callPure_ok (n_41_ok) rfl rfl h
  · exact callPure_ok (n_42_ok) rfl rfl h
  · exact callPure_ok (n_43_ok) rfl rfl h
  · exact callPure_ok (n_44_ok) rfl rfl h
  · exact callPure_ok (n_45_ok) rfl rfl h
  · exact callPure_ok (n_46_ok) rfl rfl h
  · cases h
theorem n_13l8_ok (C : Ctx) (hP : C.P = Tryd.prog) (hN : C.N = 120) : LoopOk C (loopNo (bodyOf Tryd.f13) 0) (sh := sh13) { cut := c13l8, alts := [.ret, .exit 0], F := n_13l8 } :=
  n_13l8.partial_correctness (motive := fun v out => AWpL C (loopNo (bodyOf Tryd.f13) 0) (encS vw (conc vw c13l8 v)) (OutQ sh13 [.ret, .exit 0] out)) fun F ih v out h =>
    loop_step (X := x13) (b := (loopNo (bodyOf Tryd.f13) 0)) hP hN Ty.mixed call13_ok (lok_all (X := x13) (c := (loopNo (bodyOf Tryd.f13) 0)) (kcast (by kernel_rfl : True = AllB (LoopsP C (x13)) (loopsIn (loopNo (bodyOf Tryd.f13) 0))) trivial)) ih (kcast (by kernel_rfl) h)
theorem n_13l13_ok (C : Ctx) (hP : C.P = Tryd.prog) (hN : C.N = 120) : LoopOk C (loopNo (bodyOf Tryd.f13) 1) (sh := sh13) { cut := c13l13, alts := [.ret, .exit 2], F := n_13l13 } :=
  n_13l13.partial_correctness (motive := fun v out => AWpL C (loopNo (bodyOf Tryd.f13) 1) (encS vw (conc vw c13l13 v)) (OutQ sh13 [.ret, .exit 2] out)) fun F ih v out h =>
    loop_step (X := x13) (b := (loopNo (bodyOf Tryd.f13) 1)) hP hN Ty.mixed call13_ok (lok_all (X := x13) (c := (loopNo (bodyOf Tryd.f13) 1)) (kcast (by kernel_rfl : True = AllB (LoopsP C (x13)) (loopsIn (loopNo (bodyOf Tryd.f13) 1))) trivial)) ih (kcast (by kernel_rfl) h)
theorem n_13l20_ok (C : Ctx) (hP : C.P = Tryd.prog) (hN : C.N = 120) : LoopOk C (loopNo (bodyOf Tryd.f13) 2) (sh := sh13) { cut := c13l20, alts := [.exit 4], F := n_13l20 } :=
  n_13l20.partial_correctness (motive := fun v out => AWpL C (loopNo (bodyOf Tryd.f13) 2) (encS vw (conc vw c13l20 v)) (OutQ sh13 [.exit 4] out)) fun F ih v out h =>
    loop_step (X := x13) (b := (loopNo (bodyOf Tryd.f13) 2)) hP hN Ty.mixed call13_ok (lok_all (X := x13) (c := (loopNo (bodyOf Tryd.f13) 2)) (kcast (by kernel_rfl : True = AllB (LoopsP C (x13)) (loopsIn (loopNo (bodyOf Tryd.f13) 2))) trivial)) ih (kcast (by kernel_rfl) h)
theorem n_13_ok : SigOk Tryd.prog 13 sig13 n_13 := fun v r x h hx =>
  fn_ok (X := x13) (sig := sig13) rfl Tryd.func13 (c := bodyOf Tryd.f13) (by kernel_rfl) Tryd.ntmps13 (by kernel_rfl) (by kernel_rfl) rfl Ty.mixed call13_ok rfl (fun C hP hN => (lok_all (X := x13) (c := (bodyOf Tryd.f13)) (kcast (by kernel_rfl : AllB (LoopsP C (x13)) [(loopNo (bodyOf Tryd.f13) 0), (loopNo (bodyOf Tryd.f13) 1), (loopNo (bodyOf Tryd.f13) 2)] = AllB (LoopsP C (x13)) (loopsIn (bodyOf Tryd.f13))) ⟨loop_at (X := x13) (b := (loopNo (bodyOf Tryd.f13) 0)) (by kernel_rfl) (n_13l8_ok C hP hN), loop_at (X := x13) (b := (loopNo (bodyOf Tryd.f13) 1)) (by kernel_rfl) (n_13l13_ok C hP hN), loop_at (X := x13) (b := (loopNo (bodyOf Tryd.f13) 2)) (by kernel_rfl) (n_13l20_ok C hP hN), trivial⟩))) (kcast (by kernel_rfl) h) x hx

noncomputable def c14l6 : Cut SN := { slots := [(6, .vh 1006), (17, .dat (.sl (.st .pieceT))), (18, .dat (.int .i64)), (19, .dat (.int .i64))], objs := [(1006, .vec 5 (.int .u8))] }
noncomputable def c14j10 : Cut SN := { slots := [(6, .vh 1006), (17, .dat (.sl (.st .pieceT))), (18, .dat (.int .i64)), (19, .dat (.int .i64))], objs := [(1006, .vec 5 (.int .u8))] }
noncomputable def c14e0 : Cut SN := { slots := [(6, .vh 1006)], objs := [(1006, .vec 5 (.int .u8))] }
noncomputable def c14z : Cut SN := { slots := [(2, .dat (.sl (.int .u8))), (3, .dat (.int .i64))], objs := [] }
noncomputable def sh14 : Shape vw := { exits := fun id => match id with | 0 => c14e0 | _ => { slots := [], objs := [] }, rcut := c14z }
noncomputable def sig14 : Sig vw := { params := [.dat .str], objs := [], rcut := c14z, rvars := [.tmp 2, .tmp 3], keep := [] }
noncomputable def n_14l6 (v : (List Piece) × Int × Int × (List Int) × Unit) : Option (((List Int) × Unit)) :=
  if decide (v.snd.snd.fst < v.snd.fst) = true then
    (if (0 : Int) ≤ v.snd.snd.fst then
        v.fst[v.snd.snd.fst.toNat]? >>= fun x1 =>
        if (x1.letter != (0 : Int)) = true then
          if v.snd.snd.snd.fst.length + [x1.letter].length ≤ (4294967296 : Nat) then
            some ((v.fst, v.snd.fst, v.snd.snd.fst, v.snd.snd.snd.fst ++ [x1.letter], ()))
          else none
        else some ((v.fst, v.snd.fst, v.snd.snd.fst, v.snd.snd.snd.fst, ()))
      else none) >>= fun x1 =>
    n_14l6 (x1.fst, x1.snd.fst, IntKind.i64.wrap (x1.snd.snd.fst + (1 : Int)), x1.snd.snd.snd.fst, ())
  else some ((v.snd.snd.snd.fst, ()))
  partial_fixpoint
noncomputable def n_14 (v : ByteArray × Unit) : Option ((List Int) × Int × Unit) :=
  n_29 (v.fst, ()) >>= fun x1 =>
  if (x1.snd.fst != (0 : Int)) = true then
    some (([], x1.snd.fst, ()))
  else n_14l6 (x1.fst, (↑x1.fst.length : Int), (0 : Int), [], ()) >>= fun x2 =>
  some ((x2.fst, (0 : Int), ()))
noncomputable def call14 : Caller vw := fun A fid args S k => match fid with | 29 => callPure Tryd.prog sig29 n_29 A args S k | _ => none
noncomputable def x14 : Xc vw := { P := Tryd.prog, n := 33, nm := id, call := call14, pre := fun _ => false, sh := sh14, joins := fun k => match k with | 10 => some (c14j10, [.norm]) | _ => none, regs := fun _ => none, loops := fun k => match k with | 6 => some { cut := c14l6, alts := [.exit 0], F := n_14l6 } | _ => none }
theorem call14_ok : CallerOk Tryd.prog call14 := fun A fid args S dst k r h => by
  unfold call14 at h
  split at h
  · exact callPure_ok (n_29_ok) rfl rfl h
  · cases h
theorem n_14l6_ok (C : Ctx) (hP : C.P = Tryd.prog) (hN : C.N = 33) : LoopOk C (loopNo (bodyOf Tryd.f14) 0) (sh := sh14) { cut := c14l6, alts := [.exit 0], F := n_14l6 } :=
  n_14l6.partial_correctness (motive := fun v out => AWpL C (loopNo (bodyOf Tryd.f14) 0) (encS vw (conc vw c14l6 v)) (OutQ sh14 [.exit 0] out)) fun F ih v out h =>
    loop_step (X := x14) (b := (loopNo (bodyOf Tryd.f14) 0)) hP hN Ty.mixed call14_ok (lok_all (X := x14) (c := (loopNo (bodyOf Tryd.f14) 0)) (kcast (by kernel_rfl : True = AllB (LoopsP C (x14)) (loopsIn (loopNo (bodyOf Tryd.f14) 0))) trivial)) ih (kcast (by kernel_rfl) h)
theorem n_14_ok : SigOk Tryd.prog 14 sig14 n_14 := fun v r x h hx =>
  fn_ok (X := x14) (sig := sig14) rfl Tryd.func14 (c := bodyOf Tryd.f14) (by kernel_rfl) Tryd.ntmps14 (by kernel_rfl) (by kernel_rfl) rfl Ty.mixed call14_ok rfl (fun C hP hN => (lok_all (X := x14) (c := (bodyOf Tryd.f14)) (kcast (by kernel_rfl : AllB (LoopsP C (x14)) [(loopNo (bodyOf Tryd.f14) 0)] = AllB (LoopsP C (x14)) (loopsIn (bodyOf Tryd.f14))) ⟨loop_at (X := x14) (b := (loopNo (bodyOf Tryd.f14) 0)) (by kernel_rfl) (n_14l6_ok C hP hN), trivial⟩))) (kcast (by kernel_rfl) h) x hx

noncomputable def c15l5 : Cut SN := { slots := [(4, .dat (.sl (.st .partT))), (5, .dat (.int .i64)), (6, .vh 1006), (7, .dat (.int .i64))], objs := [(1006, .vec 5 (.int .u8))] }
noncomputable def c15e0 : Cut SN := { slots := [(5, .dat (.int .i64)), (6, .vh 1006)], objs := [(1006, .vec 5 (.int .u8))] }
noncomputable def c15z : Cut SN := { slots := [(2, .dat (.sl (.int .u8))), (3, .dat (.int .i64))], objs := [] }
noncomputable def sh15 : Shape vw := { exits := fun id => match id with | 0 => c15e0 | _ => { slots := [], objs := [] }, rcut := c15z }
noncomputable def sig15 : Sig vw := { params := [.dat .str], objs := [], rcut := c15z, rvars := [.tmp 2, .tmp 3], keep := [] }
noncomputable def n_15l5 (v : (List Part) × Int × Int × (List Int) × Unit) : Option ((Int × (List Int) × Unit)) :=
  if decide (v.snd.snd.fst < (↑v.fst.length : Int)) = true then
    if (0 : Int) ≤ v.snd.snd.fst then
      v.fst[v.snd.snd.fst.toNat]? >>= fun x1 =>
      if v.snd.snd.snd.fst.length + [x1.letter].length ≤ (4294967296 : Nat) then
        n_15l5 (v.fst, v.snd.fst, IntKind.i64.wrap (v.snd.snd.fst + (1 : Int)), v.snd.snd.snd.fst ++ [x1.letter], ())
      else none
    else none
  else some ((v.snd.fst, v.snd.snd.snd.fst, ()))
  partial_fixpoint
noncomputable def n_15 (v : ByteArray × Unit) : Option ((List Int) × Int × Unit) :=
  n_42 (v.fst, ()) >>= fun x1 =>
  n_43 (x1.fst, ()) >>= fun x2 =>
  n_15l5 (x2.fst, x1.snd.fst, (0 : Int), [], ()) >>= fun x3 =>
  some ((x3.snd.fst, x3.fst, ()))
noncomputable def call15 : Caller vw := fun A fid args S k => match fid with | 42 => callPure Tryd.prog sig42 n_42 A args S k | 43 => callPure Tryd.prog sig43 n_43 A args S k | _ => none
noncomputable def x15 : Xc vw := { P := Tryd.prog, n := 31, nm := id, call := call15, pre := fun _ => false, sh := sh15, joins := fun _ => none, regs := fun _ => none, loops := fun k => match k with | 5 => some { cut := c15l5, alts := [.exit 0], F := n_15l5 } | _ => none }
theorem call15_ok : CallerOk Tryd.prog call15 := fun A fid args S dst k r h => by
  unfold call15 at h
  split at h
  · exact callPure_ok (n_42_ok) rfl rfl h
  · exact callPure_ok (n_43_ok) rfl rfl h
  · cases h
theorem n_15l5_ok (C : Ctx) (hP : C.P = Tryd.prog) (hN : C.N = 31) : LoopOk C (loopNo (bodyOf Tryd.f15) 0) (sh := sh15) { cut := c15l5, alts := [.exit 0], F := n_15l5 } :=
  n_15l5.partial_correctness (motive := fun v out => AWpL C (loopNo (bodyOf Tryd.f15) 0) (encS vw (conc vw c15l5 v)) (OutQ sh15 [.exit 0] out)) fun F ih v out h =>
    loop_step (X := x15) (b := (loopNo (bodyOf Tryd.f15) 0)) hP hN Ty.mixed call15_ok (lok_all (X := x15) (c := (loopNo (bodyOf Tryd.f15) 0)) (kcast (by kernel_rfl : True = AllB (LoopsP C (x15)) (loopsIn (loopNo (bodyOf Tryd.f15) 0))) trivial)) ih (kcast (by kernel_rfl) h)
theorem n_15_ok : SigOk Tryd.prog 15 sig15 n_15 := fun v r x h hx =>
  fn_ok (X := x15) (sig := sig15) rfl Tryd.func15 (c := bodyOf Tryd.f15) (by kernel_rfl) Tryd.ntmps15 (by kernel_rfl) (by kernel_rfl) rfl Ty.mixed call15_ok rfl (fun C hP hN => (lok_all (X := x15) (c := (bodyOf Tryd.f15)) (kcast (by kernel_rfl : AllB (LoopsP C (x15)) [(loopNo (bodyOf Tryd.f15) 0)] = AllB (LoopsP C (x15)) (loopsIn (bodyOf Tryd.f15))) ⟨loop_at (X := x15) (b := (loopNo (bodyOf Tryd.f15) 0)) (by kernel_rfl) (n_15l5_ok C hP hN), trivial⟩))) (kcast (by kernel_rfl) h) x hx

noncomputable def c16r5 : Cut SN := { slots := [(1, .dat (.int .i64)), (2, .dat (.int .i64)), (9, .vh 1009), (29, .dat .bool)], objs := [(1009, .vec 21 (.int .i32))] }
noncomputable def c16z : Cut SN := { slots := [(6, .dat .str), (7, .dat (.int .i64))], objs := [] }
noncomputable def sh16 : Shape vw := { exits := fun _ => { slots := [], objs := [] }, rcut := c16z }
noncomputable def sig16 : Sig vw := { params := [.dat .str, .dat (.int .i64), .dat (.int .i64)], objs := [], rcut := c16z, rvars := [.tmp 6, .tmp 7], keep := [] }
noncomputable def n_16 (v : ByteArray × Int × Int × Unit) : Option (ByteArray × Int × Unit) :=
  n_36 (v.fst, ()) >>= fun x1 =>
  if (x1.fst != (0 : Int)) = true then
    some ((ByteArray.mk #[], x1.fst, ()))
  else if v.fst.size ≤ (4294967296 : Nat) then
    (if decide (v.snd.fst < (0 : Int)) = true then
        some ((v.snd.fst, v.snd.snd.fst, true, Bs.runes v.fst, ()))
      else if decide (v.snd.fst > v.snd.snd.fst) = true then
        some ((v.snd.fst, v.snd.snd.fst, true, Bs.runes v.fst, ()))
      else some ((v.snd.fst, v.snd.snd.fst, decide (v.snd.snd.fst > (↑(Bs.runes v.fst).length : Int)), Bs.runes v.fst, ()))) >>= fun x2 =>
    if x2.snd.snd.fst = true then
      some ((ByteArray.mk #[], (1 : Int), ()))
    else if (0 : Int) ≤ x2.fst ∧ x2.fst ≤ x2.snd.fst ∧ x2.snd.fst ≤ (↑x2.snd.snd.snd.fst.length : Int) then
      some ((Bs.text (List.drop x2.fst.toNat (List.take x2.snd.fst.toNat x2.snd.snd.snd.fst)), (0 : Int), ()))
    else none
  else none
noncomputable def call16 : Caller vw := fun A fid args S k => match fid with | 36 => callPure Tryd.prog sig36 n_36 A args S k | _ => none
noncomputable def x16 : Xc vw := { P := Tryd.prog, n := 35, nm := id, call := call16, pre := fun _ => false, sh := sh16, joins := fun _ => none, regs := fun k => match k with | 5 => some c16r5 | _ => none, loops := fun _ => none }
theorem call16_ok : CallerOk Tryd.prog call16 := fun A fid args S dst k r h => by
  unfold call16 at h
  split at h
  · exact callPure_ok (n_36_ok) rfl rfl h
  · cases h
theorem n_16_ok : SigOk Tryd.prog 16 sig16 n_16 := fun v r x h hx =>
  fn_ok (X := x16) (sig := sig16) rfl Tryd.func16 (c := bodyOf Tryd.f16) (by kernel_rfl) Tryd.ntmps16 (by kernel_rfl) (by kernel_rfl) rfl Ty.mixed call16_ok rfl (fun C hP hN => (lok_all (X := x16) (c := (bodyOf Tryd.f16)) (kcast (by kernel_rfl : True = AllB (LoopsP C (x16)) (loopsIn (bodyOf Tryd.f16))) trivial))) (kcast (by kernel_rfl) h) x hx

noncomputable def c23z : Cut SN := { slots := [(2, .dat (.sl (.int .i64))), (3, .dat (.int .i64))], objs := [] }
noncomputable def sh23 : Shape vw := { exits := fun _ => { slots := [], objs := [] }, rcut := c23z }
noncomputable def sig23 : Sig vw := { params := [.dat .str], objs := [], rcut := c23z, rvars := [.tmp 2, .tmp 3], keep := [] }
noncomputable def n_23 (v : ByteArray × Unit) : Option ((List Int) × Int × Unit) :=
  n_38 (v.fst, ()) >>= fun x1 =>
  if (x1.fst != (0 : Int)) = true then
    some (([], x1.fst, ()))
  else n_50 (v.fst, ()) >>= fun x2 =>
  some ((x2.fst, (0 : Int), ()))
noncomputable def call23 : Caller vw := fun A fid args S k => match fid with | 38 => callPure Tryd.prog sig38 n_38 A args S k | 50 => callPure Tryd.prog sig50 n_50 A args S k | _ => none
noncomputable def x23 : Xc vw := { P := Tryd.prog, n := 18, nm := id, call := call23, pre := fun _ => false, sh := sh23, joins := fun _ => none, regs := fun _ => none, loops := fun _ => none }
theorem call23_ok : CallerOk Tryd.prog call23 := fun A fid args S dst k r h => by
  unfold call23 at h
  split at h
  · exact callPure_ok (n_38_ok) rfl rfl h
  · exact callPure_ok (n_50_ok) rfl rfl h
  · cases h
theorem n_23_ok : SigOk Tryd.prog 23 sig23 n_23 := fun v r x h hx =>
  fn_ok (X := x23) (sig := sig23) rfl Tryd.func23 (c := bodyOf Tryd.f23) (by kernel_rfl) Tryd.ntmps23 (by kernel_rfl) (by kernel_rfl) rfl Ty.mixed call23_ok rfl (fun C hP hN => (lok_all (X := x23) (c := (bodyOf Tryd.f23)) (kcast (by kernel_rfl : True = AllB (LoopsP C (x23)) (loopsIn (bodyOf Tryd.f23))) trivial))) (kcast (by kernel_rfl) h) x hx

noncomputable def c47l3 : Cut SN := { slots := [(0, .dat (.sl (.int .i64))), (3, .vh 1003), (4, .dat (.int .i64))], objs := [(1003, .vec 5 (.int .u8))] }
noncomputable def c47j4 : Cut SN := { slots := [(0, .dat (.sl (.int .i64))), (3, .vh 1003), (4, .dat (.int .i64))], objs := [(1003, .vec 5 (.int .u8))] }
noncomputable def c47e0 : Cut SN := { slots := [(3, .vh 1003)], objs := [(1003, .vec 5 (.int .u8))] }
noncomputable def c47z : Cut SN := { slots := [(2, .dat .str)], objs := [] }
noncomputable def sh47 : Shape vw := { exits := fun id => match id with | 0 => c47e0 | _ => { slots := [], objs := [] }, rcut := c47z }
noncomputable def sig47 : Sig vw := { params := [.dat (.sl (.int .i64))], objs := [], rcut := c47z, rvars := [.tmp 2], keep := [] }
noncomputable def n_47l3 (v : (List Int) × Int × (List Int) × Unit) : Option (((List Int) × Unit)) :=
  if decide (v.snd.fst < (↑v.fst.length : Int)) = true then
    (if (0 : Int) ≤ v.snd.fst then
        v.fst[v.snd.fst.toNat]? >>= fun x1 =>
        n_55 (x1, ()) >>= fun x2 =>
        if x2.fst = true then
          if (0 : Int) ≤ v.snd.fst then
            v.fst[v.snd.fst.toNat]? >>= fun x3 =>
            n_65 (x3, ()) >>= fun x4 =>
            if v.snd.snd.fst.length + x4.fst.size ≤ (4294967296 : Nat) then
              some ((v.fst, v.snd.fst, v.snd.snd.fst ++ Bs.ints x4.fst, ()))
            else none
          else none
        else some ((v.fst, v.snd.fst, v.snd.snd.fst, ()))
      else none) >>= fun x1 =>
    n_47l3 (x1.fst, IntKind.i64.wrap (x1.snd.fst + (1 : Int)), x1.snd.snd.fst, ())
  else some ((v.snd.snd.fst, ()))
  partial_fixpoint
noncomputable def n_47 (v : (List Int) × Unit) : Option (ByteArray × Unit) :=
  n_47l3 (v.fst, (0 : Int), [], ()) >>= fun x1 =>
  some ((Bs.bytes x1.fst, ()))
noncomputable def call47 : Caller vw := fun A fid args S k => match fid with | 55 => callPure Tryd.prog sig55 n_55 A args S k | 65 => callPure Tryd.prog sig65 n_65 A args S k | _ => none
noncomputable def x47 : Xc vw := { P := Tryd.prog, n := 25, nm := id, call := call47, pre := fun _ => false, sh := sh47, joins := fun k => match k with | 4 => some (c47j4, [.norm]) | _ => none, regs := fun _ => none, loops := fun k => match k with | 3 => some { cut := c47l3, alts := [.exit 0], F := n_47l3 } | _ => none }
theorem call47_ok : CallerOk Tryd.prog call47 := fun A fid args S dst k r h => by
  unfold call47 at h
  split at h
  · exact callPure_ok (n_55_ok) rfl rfl h
  · exact callPure_ok (n_65_ok) rfl rfl h
  · cases h
theorem n_47l3_ok (C : Ctx) (hP : C.P = Tryd.prog) (hN : C.N = 25) : LoopOk C (loopNo (bodyOf Tryd.f47) 0) (sh := sh47) { cut := c47l3, alts := [.exit 0], F := n_47l3 } :=
  n_47l3.partial_correctness (motive := fun v out => AWpL C (loopNo (bodyOf Tryd.f47) 0) (encS vw (conc vw c47l3 v)) (OutQ sh47 [.exit 0] out)) fun F ih v out h =>
    loop_step (X := x47) (b := (loopNo (bodyOf Tryd.f47) 0)) hP hN Ty.mixed call47_ok (lok_all (X := x47) (c := (loopNo (bodyOf Tryd.f47) 0)) (kcast (by kernel_rfl : True = AllB (LoopsP C (x47)) (loopsIn (loopNo (bodyOf Tryd.f47) 0))) trivial)) ih (kcast (by kernel_rfl) h)
theorem n_47_ok : SigOk Tryd.prog 47 sig47 n_47 := fun v r x h hx =>
  fn_ok (X := x47) (sig := sig47) rfl Tryd.func47 (c := bodyOf Tryd.f47) (by kernel_rfl) Tryd.ntmps47 (by kernel_rfl) (by kernel_rfl) rfl Ty.mixed call47_ok rfl (fun C hP hN => (lok_all (X := x47) (c := (bodyOf Tryd.f47)) (kcast (by kernel_rfl : AllB (LoopsP C (x47)) [(loopNo (bodyOf Tryd.f47) 0)] = AllB (LoopsP C (x47)) (loopsIn (bodyOf Tryd.f47))) ⟨loop_at (X := x47) (b := (loopNo (bodyOf Tryd.f47) 0)) (by kernel_rfl) (n_47l3_ok C hP hN), trivial⟩))) (kcast (by kernel_rfl) h) x hx

noncomputable def c17r4 : Cut SN := { slots := [(1, .dat (.int .i64)), (2, .dat (.int .i64)), (8, .dat (.sl (.int .i64))), (30, .dat .bool)], objs := [] }
noncomputable def c17z : Cut SN := { slots := [(6, .dat .str), (7, .dat (.int .i64))], objs := [] }
noncomputable def sh17 : Shape vw := { exits := fun _ => { slots := [], objs := [] }, rcut := c17z }
noncomputable def sig17 : Sig vw := { params := [.dat .str, .dat (.int .i64), .dat (.int .i64)], objs := [], rcut := c17z, rvars := [.tmp 6, .tmp 7], keep := [] }
noncomputable def n_17 (v : ByteArray × Int × Int × Unit) : Option (ByteArray × Int × Unit) :=
  n_23 (v.fst, ()) >>= fun x1 =>
  if (x1.snd.fst != (0 : Int)) = true then
    some ((ByteArray.mk #[], x1.snd.fst, ()))
  else (if decide (v.snd.fst < (0 : Int)) = true then
      some ((v.snd.fst, v.snd.snd.fst, x1.fst, true, ()))
    else if decide (v.snd.fst > v.snd.snd.fst) = true then
      some ((v.snd.fst, v.snd.snd.fst, x1.fst, true, ()))
    else some ((v.snd.fst, v.snd.snd.fst, x1.fst, decide (v.snd.snd.fst > (↑x1.fst.length : Int)), ()))) >>= fun x2 =>
  if x2.snd.snd.snd.fst = true then
    some ((ByteArray.mk #[], (1 : Int), ()))
  else if (0 : Int) ≤ x2.fst ∧ x2.fst ≤ x2.snd.fst ∧ x2.snd.fst ≤ (↑x2.snd.snd.fst.length : Int) then
    n_47 (List.drop x2.fst.toNat (List.take x2.snd.fst.toNat x2.snd.snd.fst), ()) >>= fun x3 =>
    some ((x3.fst, (0 : Int), ()))
  else none
noncomputable def call17 : Caller vw := fun A fid args S k => match fid with | 23 => callPure Tryd.prog sig23 n_23 A args S k | 47 => callPure Tryd.prog sig47 n_47 A args S k | _ => none
noncomputable def x17 : Xc vw := { P := Tryd.prog, n := 36, nm := id, call := call17, pre := fun _ => false, sh := sh17, joins := fun _ => none, regs := fun k => match k with | 4 => some c17r4 | _ => none, loops := fun _ => none }
theorem call17_ok : CallerOk Tryd.prog call17 := fun A fid args S dst k r h => by
  unfold call17 at h
  split at h
  · exact callPure_ok (n_23_ok) rfl rfl h
  · exact callPure_ok (n_47_ok) rfl rfl h
  · cases h
theorem n_17_ok : SigOk Tryd.prog 17 sig17 n_17 := fun v r x h hx =>
  fn_ok (X := x17) (sig := sig17) rfl Tryd.func17 (c := bodyOf Tryd.f17) (by kernel_rfl) Tryd.ntmps17 (by kernel_rfl) (by kernel_rfl) rfl Ty.mixed call17_ok rfl (fun C hP hN => (lok_all (X := x17) (c := (bodyOf Tryd.f17)) (kcast (by kernel_rfl : True = AllB (LoopsP C (x17)) (loopsIn (bodyOf Tryd.f17))) trivial))) (kcast (by kernel_rfl) h) x hx

noncomputable def c48s6d60l1 : Cut SN := { slots := [(0, .vh 100000), (2, .dat (.int .i64)), (3, .dat (.int .i64))], objs := [(100000, .vec 21 (.int .i32))] }
noncomputable def c48s6d60e0 : Cut SN := { slots := [(0, .vh 100000)], objs := [(100000, .vec 21 (.int .i32))] }
noncomputable def c48s6d60z : Cut SN := { slots := [(0, .vh 100000)], objs := [(100000, .vec 21 (.int .i32))] }
noncomputable def sh48s6d60 : Shape vw := { exits := fun id => match id with | 0 => c48s6d60e0 | _ => { slots := [], objs := [] }, rcut := c48s6d60z }
noncomputable def sig48s6d60 : Sig vw := { params := [.vh 100000], objs := [(100000, .vec 21 (.int .i32))], rcut := c48s6d60z, rvars := [], keep := [100000] }
noncomputable def n_48s6d60l1 (v : Int × Int × (List Int) × Unit) : Option (((List Int) × Unit)) :=
  if decide (v.fst < v.snd.fst) = true then
    if (0 : Int) ≤ v.snd.fst ∧ v.snd.fst < (↑v.snd.snd.fst.length : Int) then
      v.snd.snd.fst[v.snd.fst.toNat]? >>= fun x1 =>
      if (0 : Int) ≤ v.fst ∧ v.fst < (↑v.snd.snd.fst.length : Int) then
        v.snd.snd.fst[v.fst.toNat]? >>= fun x2 =>
        if (0 : Int) ≤ v.fst ∧ v.fst < (↑v.snd.snd.fst.length : Int) then
          v.snd.snd.fst[v.fst.toNat]? >>= fun x3 =>
          if (0 : Int) ≤ v.snd.fst ∧ v.snd.fst < (↑(v.snd.snd.fst.set v.fst.toNat x1).length : Int) then
            (v.snd.snd.fst.set v.fst.toNat x1)[v.snd.fst.toNat]? >>= fun x4 =>
            n_48s6d60l1 (IntKind.i64.wrap (v.fst + (1 : Int)), IntKind.i64.wrap (v.snd.fst - (1 : Int)), (v.snd.snd.fst.set v.fst.toNat x1).set v.snd.fst.toNat x2, ())
          else none
        else none
      else none
    else none
  else some ((v.snd.snd.fst, ()))
  partial_fixpoint
noncomputable def n_48s6d60 (v : (List Int) × Unit) : Option ((List Int) × Unit) :=
  n_48s6d60l1 ((0 : Int), IntKind.i64.wrap ((↑v.fst.length : Int) - (1 : Int)), v.fst, ()) >>= fun x1 =>
  some ((x1.fst, ()))
noncomputable def call48s6d60 : Caller vw := fun _ _ _ _ _ => none
noncomputable def x48s6d60 : Xc vw := { P := Tryd.prog, n := 28, nm := id, call := call48s6d60, pre := fun _ => false, sh := sh48s6d60, joins := fun _ => none, regs := fun _ => none, loops := fun k => match k with | 1 => some { cut := c48s6d60l1, alts := [.exit 0], F := n_48s6d60l1 } | _ => none }
theorem call48s6d60_ok : CallerOk Tryd.prog call48s6d60 := call_none
theorem n_48s6d60l1_ok (C : Ctx) (hP : C.P = Tryd.prog) (hN : C.N = 28) : LoopOk C (loopNo (bodyOf Tryd.f48) 0) (sh := sh48s6d60) { cut := c48s6d60l1, alts := [.exit 0], F := n_48s6d60l1 } :=
  n_48s6d60l1.partial_correctness (motive := fun v out => AWpL C (loopNo (bodyOf Tryd.f48) 0) (encS vw (conc vw c48s6d60l1 v)) (OutQ sh48s6d60 [.exit 0] out)) fun F ih v out h =>
    loop_step (X := x48s6d60) (b := (loopNo (bodyOf Tryd.f48) 0)) hP hN Ty.mixed call48s6d60_ok (lok_all (X := x48s6d60) (c := (loopNo (bodyOf Tryd.f48) 0)) (kcast (by kernel_rfl : True = AllB (LoopsP C (x48s6d60)) (loopsIn (loopNo (bodyOf Tryd.f48) 0))) trivial)) ih (kcast (by kernel_rfl) h)
theorem n_48s6d60_ok : SigOk Tryd.prog 48 sig48s6d60 n_48s6d60 := fun v r x h hx =>
  fn_ok (X := x48s6d60) (sig := sig48s6d60) rfl Tryd.func48 (c := bodyOf Tryd.f48) (by kernel_rfl) Tryd.ntmps48 (by kernel_rfl) (by kernel_rfl) rfl Ty.mixed call48s6d60_ok rfl (fun C hP hN => (lok_all (X := x48s6d60) (c := (bodyOf Tryd.f48)) (kcast (by kernel_rfl : AllB (LoopsP C (x48s6d60)) [(loopNo (bodyOf Tryd.f48) 0)] = AllB (LoopsP C (x48s6d60)) (loopsIn (bodyOf Tryd.f48))) ⟨loop_at (X := x48s6d60) (b := (loopNo (bodyOf Tryd.f48) 0)) (by kernel_rfl) (n_48s6d60l1_ok C hP hN), trivial⟩))) (kcast (by kernel_rfl) h) x hx

noncomputable def c18z : Cut SN := { slots := [(2, .dat .str), (3, .dat (.int .i64))], objs := [] }
noncomputable def sh18 : Shape vw := { exits := fun _ => { slots := [], objs := [] }, rcut := c18z }
noncomputable def sig18 : Sig vw := { params := [.dat .str], objs := [], rcut := c18z, rvars := [.tmp 2, .tmp 3], keep := [] }
noncomputable def n_18 (v : ByteArray × Unit) : Option (ByteArray × Int × Unit) :=
  n_36 (v.fst, ()) >>= fun x1 =>
  if (x1.fst != (0 : Int)) = true then
    some ((ByteArray.mk #[], x1.fst, ()))
  else if v.fst.size ≤ (4294967296 : Nat) then
    n_48s6d60 (Bs.runes v.fst, ()) >>= fun x2 =>
    if x2.fst.length = (Bs.runes v.fst).length then
      some ((Bs.text x2.fst, (0 : Int), ()))
    else none
  else none
noncomputable def call18 : Caller vw := fun A fid args S k => match fid with | 36 => callPure Tryd.prog sig36 n_36 A args S k | 48 => callObj Tryd.prog sig48s6d60 n_48s6d60 A args S k | _ => none
noncomputable def x18 : Xc vw := { P := Tryd.prog, n := 17, nm := id, call := call18, pre := fun _ => false, sh := sh18, joins := fun _ => none, regs := fun _ => none, loops := fun _ => none }
theorem call18_ok : CallerOk Tryd.prog call18 := fun A fid args S dst k r h => by
  unfold call18 at h
  split at h
  · exact callPure_ok (n_36_ok) rfl rfl h
  · exact callObj_ok (n_48s6d60_ok) h
  · cases h
theorem n_18_ok : SigOk Tryd.prog 18 sig18 n_18 := fun v r x h hx =>
  fn_ok (X := x18) (sig := sig18) rfl Tryd.func18 (c := bodyOf Tryd.f18) (by kernel_rfl) Tryd.ntmps18 (by kernel_rfl) (by kernel_rfl) rfl Ty.mixed call18_ok rfl (fun C hP hN => (lok_all (X := x18) (c := (bodyOf Tryd.f18)) (kcast (by kernel_rfl : True = AllB (LoopsP C (x18)) (loopsIn (bodyOf Tryd.f18))) trivial))) (kcast (by kernel_rfl) h) x hx

noncomputable def c19l4 : Cut SN := { slots := [(4, .dat (.sl (.int .i64))), (5, .dat (.int .i64)), (6, .vh 1006), (7, .dat (.int .i64))], objs := [(1006, .vec 3 (.int .i64))] }
noncomputable def c19e0 : Cut SN := { slots := [(5, .dat (.int .i64)), (6, .vh 1006)], objs := [(1006, .vec 3 (.int .i64))] }
noncomputable def c19z : Cut SN := { slots := [(2, .dat .str), (3, .dat (.int .i64))], objs := [] }
noncomputable def sh19 : Shape vw := { exits := fun id => match id with | 0 => c19e0 | _ => { slots := [], objs := [] }, rcut := c19z }
noncomputable def sig19 : Sig vw := { params := [.dat .str], objs := [], rcut := c19z, rvars := [.tmp 2, .tmp 3], keep := [] }
noncomputable def n_19l4 (v : (List Int) × Int × Int × (List Int) × Unit) : Option ((Int × (List Int) × Unit)) :=
  if decide (v.snd.snd.fst ≥ (0 : Int)) = true then
    if (0 : Int) ≤ v.snd.snd.fst then
      v.fst[v.snd.snd.fst.toNat]? >>= fun x1 =>
      if v.snd.snd.snd.fst.length + [x1].length ≤ (4294967296 : Nat) then
        n_19l4 (v.fst, v.snd.fst, IntKind.i64.wrap (v.snd.snd.fst - (1 : Int)), v.snd.snd.snd.fst ++ [x1], ())
      else none
    else none
  else some ((v.snd.fst, v.snd.snd.snd.fst, ()))
  partial_fixpoint
noncomputable def n_19 (v : ByteArray × Unit) : Option (ByteArray × Int × Unit) :=
  n_23 (v.fst, ()) >>= fun x1 =>
  n_19l4 (x1.fst, x1.snd.fst, IntKind.i64.wrap ((↑x1.fst.length : Int) - (1 : Int)), [], ()) >>= fun x2 =>
  n_47 (x2.snd.fst, ()) >>= fun x3 =>
  some ((x3.fst, x2.fst, ()))
noncomputable def call19 : Caller vw := fun A fid args S k => match fid with | 23 => callPure Tryd.prog sig23 n_23 A args S k | 47 => callPure Tryd.prog sig47 n_47 A args S k | _ => none
noncomputable def x19 : Xc vw := { P := Tryd.prog, n := 30, nm := id, call := call19, pre := fun _ => false, sh := sh19, joins := fun _ => none, regs := fun _ => none, loops := fun k => match k with | 4 => some { cut := c19l4, alts := [.exit 0], F := n_19l4 } | _ => none }
theorem call19_ok : CallerOk Tryd.prog call19 := fun A fid args S dst k r h => by
  unfold call19 at h
  split at h
  · exact callPure_ok (n_23_ok) rfl rfl h
  · exact callPure_ok (n_47_ok) rfl rfl h
  · cases h
theorem n_19l4_ok (C : Ctx) (hP : C.P = Tryd.prog) (hN : C.N = 30) : LoopOk C (loopNo (bodyOf Tryd.f19) 0) (sh := sh19) { cut := c19l4, alts := [.exit 0], F := n_19l4 } :=
  n_19l4.partial_correctness (motive := fun v out => AWpL C (loopNo (bodyOf Tryd.f19) 0) (encS vw (conc vw c19l4 v)) (OutQ sh19 [.exit 0] out)) fun F ih v out h =>
    loop_step (X := x19) (b := (loopNo (bodyOf Tryd.f19) 0)) hP hN Ty.mixed call19_ok (lok_all (X := x19) (c := (loopNo (bodyOf Tryd.f19) 0)) (kcast (by kernel_rfl : True = AllB (LoopsP C (x19)) (loopsIn (loopNo (bodyOf Tryd.f19) 0))) trivial)) ih (kcast (by kernel_rfl) h)
theorem n_19_ok : SigOk Tryd.prog 19 sig19 n_19 := fun v r x h hx =>
  fn_ok (X := x19) (sig := sig19) rfl Tryd.func19 (c := bodyOf Tryd.f19) (by kernel_rfl) Tryd.ntmps19 (by kernel_rfl) (by kernel_rfl) rfl Ty.mixed call19_ok rfl (fun C hP hN => (lok_all (X := x19) (c := (bodyOf Tryd.f19)) (kcast (by kernel_rfl : AllB (LoopsP C (x19)) [(loopNo (bodyOf Tryd.f19) 0)] = AllB (LoopsP C (x19)) (loopsIn (bodyOf Tryd.f19))) ⟨loop_at (X := x19) (b := (loopNo (bodyOf Tryd.f19) 0)) (by kernel_rfl) (n_19l4_ok C hP hN), trivial⟩))) (kcast (by kernel_rfl) h) x hx

noncomputable def c22l6 : Cut SN := { slots := [(5, .vh 1005), (14, .bp 14 0)], objs := [(1005, .vec 3 (.int .i64)), (14, .iter)] }
noncomputable def c22e0 : Cut SN := { slots := [(5, .vh 1005)], objs := [(1005, .vec 3 (.int .i64))] }
noncomputable def c22z : Cut SN := { slots := [(2, .dat (.sl (.int .i64))), (3, .dat (.int .i64))], objs := [] }
noncomputable def sh22 : Shape vw := { exits := fun id => match id with | 0 => c22e0 | _ => { slots := [], objs := [] }, rcut := c22z }
noncomputable def sig22 : Sig vw := { params := [.dat .str], objs := [], rcut := c22z, rvars := [.tmp 2, .tmp 3], keep := [] }
noncomputable def n_22l6 (v : (List Int) × ByteArray × Int × Unit) : Option (((List Int) × Unit)) :=
  if (0 : Int) ≤ v.snd.snd.fst then
    if v.snd.snd.fst < (↑v.snd.fst.size : Int) then
      if v.fst.length + [IntKind.i64.wrap (Bs.dec v.snd.fst v.snd.snd.fst)].length ≤ (4294967296 : Nat) then
        n_22l6 (v.fst ++ [IntKind.i64.wrap (Bs.dec v.snd.fst v.snd.snd.fst)], v.snd.fst, v.snd.snd.fst + Bs.wid v.snd.fst v.snd.snd.fst, ())
      else none
    else some ((v.fst, ()))
  else none
  partial_fixpoint
noncomputable def n_22 (v : ByteArray × Unit) : Option ((List Int) × Int × Unit) :=
  n_36 (v.fst, ()) >>= fun x1 =>
  if (x1.fst != (0 : Int)) = true then
    some (([], x1.fst, ()))
  else n_22l6 ([], v.fst, (0 : Int), ()) >>= fun x2 =>
  some ((x2.fst, (0 : Int), ()))
noncomputable def call22 : Caller vw := fun A fid args S k => match fid with | 36 => callPure Tryd.prog sig36 n_36 A args S k | _ => none
noncomputable def x22 : Xc vw := { P := Tryd.prog, n := 24, nm := id, call := call22, pre := fun _ => false, sh := sh22, joins := fun _ => none, regs := fun _ => none, loops := fun k => match k with | 6 => some { cut := c22l6, alts := [.exit 0], F := n_22l6 } | _ => none }
theorem call22_ok : CallerOk Tryd.prog call22 := fun A fid args S dst k r h => by
  unfold call22 at h
  split at h
  · exact callPure_ok (n_36_ok) rfl rfl h
  · cases h
theorem n_22l6_ok (C : Ctx) (hP : C.P = Tryd.prog) (hN : C.N = 24) : LoopOk C (loopNo (bodyOf Tryd.f22) 0) (sh := sh22) { cut := c22l6, alts := [.exit 0], F := n_22l6 } :=
  n_22l6.partial_correctness (motive := fun v out => AWpL C (loopNo (bodyOf Tryd.f22) 0) (encS vw (conc vw c22l6 v)) (OutQ sh22 [.exit 0] out)) fun F ih v out h =>
    loop_step (X := x22) (b := (loopNo (bodyOf Tryd.f22) 0)) hP hN Ty.mixed call22_ok (lok_all (X := x22) (c := (loopNo (bodyOf Tryd.f22) 0)) (kcast (by kernel_rfl : True = AllB (LoopsP C (x22)) (loopsIn (loopNo (bodyOf Tryd.f22) 0))) trivial)) ih (kcast (by kernel_rfl) h)
theorem n_22_ok : SigOk Tryd.prog 22 sig22 n_22 := fun v r x h hx =>
  fn_ok (X := x22) (sig := sig22) rfl Tryd.func22 (c := bodyOf Tryd.f22) (by kernel_rfl) Tryd.ntmps22 (by kernel_rfl) (by kernel_rfl) rfl Ty.mixed call22_ok rfl (fun C hP hN => (lok_all (X := x22) (c := (bodyOf Tryd.f22)) (kcast (by kernel_rfl : AllB (LoopsP C (x22)) [(loopNo (bodyOf Tryd.f22) 0)] = AllB (LoopsP C (x22)) (loopsIn (bodyOf Tryd.f22))) ⟨loop_at (X := x22) (b := (loopNo (bodyOf Tryd.f22) 0)) (by kernel_rfl) (n_22l6_ok C hP hN), trivial⟩))) (kcast (by kernel_rfl) h) x hx
end Go.Proofs.YtnbkpokcfcednaaDoor
