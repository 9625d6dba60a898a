/-
  Texts of this claim, joined by a program of mine: what the theorem uses.
-/
import Derived.Test.YtdmggfegkaiaiaaGreatDoorPkC
import Derived.Test.YtdmggfegkaiaiaaGreatDoorPkB
set_option linter.unusedVariables false
section
namespace Go.Proofs.YtdmggfegkaiaiaaGreatDoor
open Go.Awp Go.Tx
open IntKind (i32)
open IntKind (u8)
open IntKind (i64)
open Go.Proofs.Tryz (prog)
set_option maxRecDepth 100000
noncomputable def c58l3 : Cut SN := ⟨[(1, .bp 1 0), (2, .bp 2 0), (3, .bp 3 0), (14, .dat (.sl .str)), (15, .dat (.int .i64)), (16, .dat (.int .i64))], [(1, .st .tagT), (2, .st .sizeT), (3, .st .sizeT)]⟩
noncomputable def c58l8 : Cut SN := ⟨[(2, .bp 2 0), (3, .bp 3 0), (28, .dat (.sl (.st .tagT))), (29, .dat (.int .i64)), (30, .dat (.int .i64))], [(2, .st .sizeT), (3, .st .sizeT)]⟩
noncomputable def c58e0 : Cut SN := ⟨[(1, .bp 1 0), (2, .bp 2 0), (3, .bp 3 0)], [(1, .st .tagT), (2, .st .sizeT), (3, .st .sizeT)]⟩
noncomputable def c58e2 : Cut SN := ⟨[(2, .bp 2 0), (3, .bp 3 0)], [(2, .st .sizeT), (3, .st .sizeT)]⟩
noncomputable def c58z : Cut SN := ⟨[(2, .bp 2 0)], [(2, .st .sizeT)]⟩
noncomputable def sh58 : Shape vw := { exits := fun id => match id with | 0 => c58e0 | 2 => c58e2 | _ => ⟨[], []⟩, rcut := c58z }
noncomputable def sig58 : Sig vw := { params := [.dat (.st .tagT)], rcut := c58z, rvars := [.cell 2 64] }
noncomputable def n_58l3 (v : (List ByteArray) × Int × Int × Tag × Size × Size × Unit) : Option ((Tag × Size × Size × Unit)) :=
 if decide (v.2.2.1 < v.2.1) = true then
  if (0 : Int) ≤ v.2.2.1 then
   v.1[v.2.2.1.toNat]? >>= fun x1 =>
   n_58l3 (v.1, v.2.1, i64.wrap (v.2.2.1 + (1 : Int)), v.2.2.2.1, v.2.2.2.2.1, Size.mk v.2.2.2.2.2.1.depth v.2.2.2.2.2.1.pieces (i64.wrap (v.2.2.2.2.2.1.bytes + (↑x1.size : Int))), ())
  else none
 else some ((v.2.2.2.1, v.2.2.2.2.1, v.2.2.2.2.2.1, ()))
 partial_fixpoint
mutual
noncomputable def n_58l8 (v : (List Tag) × Int × Int × Size × Size × Unit) : Option ((Size × Size × Unit)) :=
 if decide (v.2.2.1 < v.2.1) = true then
  if (0 : Int) ≤ v.2.2.1 then
   v.1[v.2.2.1.toNat]? >>= fun x1 =>
   n_58 (x1, ()) >>= fun x2 =>
   n_58l8 (v.1, v.2.1, i64.wrap (v.2.2.1 + (1 : Int)), v.2.2.2.1, Size.mk (max v.2.2.2.2.1.depth x2.1.depth) (i64.wrap (v.2.2.2.2.1.pieces + x2.1.pieces)) (i64.wrap (v.2.2.2.2.1.bytes + x2.1.bytes)), ())
  else none
 else some ((v.2.2.2.1, v.2.2.2.2.1, ()))
 partial_fixpoint
noncomputable def n_58 (v : Tag × Unit) : Option (Size × Unit) :=
 n_58l3 (v.1.names, (↑v.1.names.length : Int), (0 : Int), v.1, Size.mk (0 : Int) (0 : Int) (0 : Int), Size.mk (0 : Int) (1 : Int) (↑v.1.text.size : Int), ()) >>= fun x1 =>
 n_58l8 (x1.1.parts, (↑x1.1.parts.length : Int), (0 : Int), x1.2.1, x1.2.2.1, ()) >>= fun x2 =>
 some ((Size.mk (i64.wrap (x2.2.1.depth + (1 : Int))) x2.2.1.pieces x2.2.1.bytes, ()))
 partial_fixpoint
end
noncomputable def call58 (n_58l3 : (List ByteArray) × Int × Int × Tag × Size × Size × Unit → Option ((Tag × Size × Size × Unit))) (n_58l8 : (List Tag) × Int × Int × Size × Size × Unit → Option ((Size × Size × Unit))) (n_58 : Tag × Unit → Option (Size × Unit)) : Caller vw := fun A fid args S k => match fid with | 58 => callPure prog sig58 n_58 A args S k | _ => none
noncomputable def x58 (n_58l3 : (List ByteArray) × Int × Int × Tag × Size × Size × Unit → Option ((Tag × Size × Size × Unit))) (n_58l8 : (List Tag) × Int × Int × Size × Size × Unit → Option ((Size × Size × Unit))) (n_58 : Tag × Unit → Option (Size × Unit)) : Xc vw := { P := prog, n := 58, call := call58 n_58l3 n_58l8 n_58, sh := sh58, loops := fun k => match k with | 3 => some { cut := c58l3, alts := [.exit 0], F := n_58l3 } | 8 => some { cut := c58l8, alts := [.exit 2], F := n_58l8 } | _ => none }
abbrev mn_58l3 (v : (List ByteArray) × Int × Int × Tag × Size × Size × Unit) (r : (Tag × Size × Size × Unit)) : Prop := (fun v out => ∀ C : Ctx, C.P = prog → C.N = 58 → AWpL C (loopNo (bodyOf Tryz.f58) 0) (encS vw (conc vw c58l3 v)) (OutQ sh58 [.exit 0] out)) v r
theorem cn_58l3 (f0 : (List ByteArray) × Int × Int × Tag × Size × Size × Unit → Option ((Tag × Size × Size × Unit))) (h0 : ∀ v r, f0 v = some r → mn_58l3 v r) : CallerOk prog (x58 f0 (fun _ => none) (fun _ => none)).call := (by
    intro A fid args S dst k r h
    unfold x58 call58 at h
    simp only at h
    split at h
    ·exact callPure_ok ((fun v r x h hx => by cases h)) rfl rfl h
    ·cases h)
theorem sn_58l3 (f0 : (List ByteArray) × Int × Int × Tag × Size × Size × Unit → Option ((Tag × Size × Size × Unit))) (h0 : ∀ v r, f0 v = some r → mn_58l3 v r) (v : (List ByteArray) × Int × Int × Tag × Size × Size × Unit) (r : (Tag × Size × Size × Unit)) (h : exL (x58 f0 (fun _ => none) (fun _ => none)) (loopNo (bodyOf Tryz.f58) 0) c58l3 [.exit 0] f0 v = some r) : mn_58l3 v r := fun C hP hN => loop_step (X := x58 f0 (fun _ => none) (fun _ => none)) (b := (loopNo (bodyOf Tryz.f58) 0)) hP hN Ty.mixed (cn_58l3 f0 h0) (lok_all (X := x58 f0 (fun _ => none) (fun _ => none)) (c := (loopNo (bodyOf Tryz.f58) 0)) (kcast (by kernel_rfl : True = AllB (LoopsP C (x58 f0 (fun _ => none) (fun _ => none))) (loopsIn (loopNo (bodyOf Tryz.f58) 0))) trivial)) (cut := c58l3) (alts := [.exit 0]) (F := f0) (fun v out h => h0 v out h C hP hN) h
theorem n_58l3_pc : ∀ v out, n_58l3 v = some out → (fun v out => ∀ C : Ctx, C.P = prog → C.N = 58 → AWpL C (loopNo (bodyOf Tryz.f58) 0) (encS vw (conc vw c58l3 v)) (OutQ sh58 [.exit 0] out)) v out := (n_58l3.partial_correctness (motive := mn_58l3) (fun f0 h0 v r h => sn_58l3 f0 h0 v r (kcast (by kernel_rfl) h)))
abbrev mn_58l8 (v : (List Tag) × Int × Int × Size × Size × Unit) (r : (Size × Size × Unit)) : Prop := (fun v out => ∀ C : Ctx, C.P = prog → C.N = 58 → AWpL C (loopNo (bodyOf Tryz.f58) 1) (encS vw (conc vw c58l8 v)) (OutQ sh58 [.exit 2] out)) v r
abbrev mn_58 (v : Tag × Unit) (r : Size × Unit) : Prop := (fun v r => ∀ x, resV prog sig58 r = some x → FnOk prog 58 (encL vw (startS sig58 v).len (startOs sig58 v).1) (encOs (startS sig58 v).len (startS sig58 v).own) (encV vw (conc vw sig58.rcut r).len x) (encOs (conc vw sig58.rcut r).len (kept sig58 r))) v r
theorem cn_58l8 (f0 : (List Tag) × Int × Int × Size × Size × Unit → Option ((Size × Size × Unit))) (f1 : Tag × Unit → Option (Size × Unit)) (h0 : ∀ v r, f0 v = some r → mn_58l8 v r) (h1 : ∀ v r, f1 v = some r → mn_58 v r) : CallerOk prog (x58 (fun _ => none) f0 f1).call := (by
    intro A fid args S dst k r h
    unfold x58 call58 at h
    simp only at h
    split at h
    ·exact callPure_ok ((fun v r x h hx => h1 v r h x hx)) rfl rfl h
    ·cases h)
theorem sn_58l8 (f0 : (List Tag) × Int × Int × Size × Size × Unit → Option ((Size × Size × Unit))) (f1 : Tag × Unit → Option (Size × Unit)) (h0 : ∀ v r, f0 v = some r → mn_58l8 v r) (h1 : ∀ v r, f1 v = some r → mn_58 v r) (v : (List Tag) × Int × Int × Size × Size × Unit) (r : (Size × Size × Unit)) (h : exL (x58 (fun _ => none) f0 f1) (loopNo (bodyOf Tryz.f58) 1) c58l8 [.exit 2] f0 v = some r) : mn_58l8 v r := fun C hP hN => loop_step (X := x58 (fun _ => none) f0 f1) (b := (loopNo (bodyOf Tryz.f58) 1)) hP hN Ty.mixed (cn_58l8 f0 f1 h0 h1) (lok_all (X := x58 (fun _ => none) f0 f1) (c := (loopNo (bodyOf Tryz.f58) 1)) (kcast (by kernel_rfl : True = AllB (LoopsP C (x58 (fun _ => none) f0 f1)) (loopsIn (loopNo (bodyOf Tryz.f58) 1))) trivial)) (cut := c58l8) (alts := [.exit 2]) (F := f0) (fun v out h => h0 v out h C hP hN) h
theorem cn_58 (f0 : (List Tag) × Int × Int × Size × Size × Unit → Option ((Size × Size × Unit))) (h0 : ∀ v r, f0 v = some r → mn_58l8 v r) : CallerOk prog (x58 n_58l3 f0 (fun _ => none)).call := (by
    intro A fid args S dst k r h
    unfold x58 call58 at h
    simp only at h
    split at h
    ·exact callPure_ok ((fun v r x h hx => by cases h)) rfl rfl h
    ·cases h)
theorem sn_58 (f0 : (List Tag) × Int × Int × Size × Size × Unit → Option ((Size × Size × Unit))) (h0 : ∀ v r, f0 v = some r → mn_58l8 v r) (v : Tag × Unit) (r : Size × Unit) (h : exF (x58 n_58l3 f0 (fun _ => none)) sig58 rfl (bodyOf Tryz.f58) v = some r) : mn_58 v r := fun x hx => fn_ok (X := x58 n_58l3 f0 (fun _ => none)) (sig := sig58) rfl Tryz.func58 (c := bodyOf Tryz.f58) (by kernel_rfl) Tryz.ntmps58 (by kernel_rfl) (by kernel_rfl) rfl Ty.mixed (cn_58 f0 h0) rfl (fun C hP hN => (lok_all (X := x58 n_58l3 f0 (fun _ => none)) (c := (bodyOf Tryz.f58)) (kcast (by kernel_rfl : AllB (LoopsP C (x58 n_58l3 f0 (fun _ => none))) [(loopNo (bodyOf Tryz.f58) 0), (loopNo (bodyOf Tryz.f58) 1)] = AllB (LoopsP C (x58 n_58l3 f0 (fun _ => none))) (loopsIn (bodyOf Tryz.f58))) ⟨loop_at (X := x58 n_58l3 f0 (fun _ => none)) (b := (loopNo (bodyOf Tryz.f58) 0)) (by kernel_rfl) (show LoopOk C (loopNo (bodyOf Tryz.f58) 0) (sh := sh58) { cut := c58l3, alts := [.exit 0], F := n_58l3 } from fun v out h => n_58l3_pc v out h C hP hN), loop_at (X := x58 n_58l3 f0 (fun _ => none)) (b := (loopNo (bodyOf Tryz.f58) 1)) (by kernel_rfl) (show LoopOk C (loopNo (bodyOf Tryz.f58) 1) (sh := sh58) { cut := c58l8, alts := [.exit 2], F := f0 } from fun v out h => h0 v out h C hP hN), trivial⟩))) h x hx
theorem n_58l8_all : (∀ v r, n_58l8 v = some r → mn_58l8 v r) ∧ (∀ v r, n_58 v = some r → mn_58 v r) := by
 refine n_58l8.mutual_partial_correctness
  (motive_1 := mn_58l8)
  (motive_2 := mn_58)
  ?_ ?_
 ·exact (fun f0 f1 h0 h1 v r h => sn_58l8 f0 f1 h0 h1 v r (kcast (by kernel_rfl) h))
 ·exact (fun f0 h0 v r h => sn_58 f0 h0 v r (kcast (by kernel_rfl) h))
theorem n_58_ok : SigOk prog 58 sig58 n_58 := fun v r x h hx => n_58l8_all.2 v r h x hx
noncomputable def c87z : Cut SN := ⟨[(2, .dat .bool)], []⟩
noncomputable def sig87 : Sig vw := { params := [.dat .str], rcut := c87z, rvars := [.tmp 2] }
noncomputable def n_87 (v : ByteArray × Unit) : Option (Bool × Unit) :=
 if v.1.size ≤ 9223372036854775807 then some (Lib.validD v.1.data.toList, ()) else none
theorem n_87_ok : SigOk prog 87 sig87 n_87 := fun v r x h hx => by
 obtain ⟨s, u⟩ := v
 unfold n_87 at h
 split at h
 ·rename_i hc
  simp only at hc
  cases h; cases hx
  exact kcast (by kernel_rfl) (FnOk.pure (P := prog) (f := 87) (args := [.d (.v (.string s))]) (r := .d (.v (.bool (Lib.validD s.data.toList)))) (by kernel_rfl) fun E M w vs hg hm hv => by
   obtain ⟨v1, rfl, h1⟩ := hreps_one hv
   rw [h1.dv]
   exact (Tryz.utf8_ValidString s w hc (tabs_utf8 hg hm)).mono fun e w' ⟨he, hw⟩ => ⟨_, he, .d (.v _), hw⟩)
 ·cases h
noncomputable def sh86 : Shape vw := { rcut := c87z }
noncomputable def sig86 : Sig vw := { params := [.dat .str], rcut := c87z, rvars := [.tmp 2] }
noncomputable def n_86 (v : ByteArray × Unit) : Option (Bool × Unit) :=
 n_87 (v.1, ()) >>= fun x1 =>
 some ((!x1.1, ()))
noncomputable def call86 : Caller vw := fun A fid args S k => match fid with | 87 => callPure prog sig87 n_87 A args S k | _ => none
noncomputable def x86 : Xc vw := { P := prog, n := 6, call := call86, sh := sh86 }
theorem call86_ok : CallerOk prog call86 := fun A fid args S dst k r h => by
 unfold call86 at h
 split at h
 ·exact callPure_ok (n_87_ok) rfl rfl h
 ·cases h
theorem n_86_ok : SigOk prog 86 sig86 n_86 := fun v r x h hx =>
 fn_ok (X := x86) (sig := sig86) rfl Tryz.func86 (c := bodyOf Tryz.f86) (by kernel_rfl) Tryz.ntmps86 (by kernel_rfl) (by kernel_rfl) rfl Ty.mixed call86_ok rfl (fun C hP hN => (lok_all (kcast (by kernel_rfl) trivial))) (kcast (by kernel_rfl) h) x hx
noncomputable def c117c86l2 : Cut SN := ⟨[(0, .dat (.sl .str)), (1, .fn 86 [] []), (7, .dat (.int .i64)), (8, .dat (.int .i64))], []⟩
noncomputable def c117c86e0 : Cut SN := ⟨[], []⟩
noncomputable def c117c86z : Cut SN := ⟨[(4, .dat (.int .i64))], []⟩
noncomputable def sh117c86 : Shape vw := { exits := fun id => match id with | 0 => c117c86e0 | _ => ⟨[], []⟩, rcut := c117c86z }
noncomputable def sig117c86 : Sig vw := { params := [.dat (.sl .str), .fn 86 [] []], rcut := c117c86z, rvars := [.tmp 4] }
noncomputable def n_117c86l2 (v : (List ByteArray) × Int × Int × Unit) : Option (((Int × Unit) ⊕ (Unit))) :=
 if decide (v.2.2.1 < v.2.1) = true then
  if (0 : Int) ≤ v.2.2.1 then
   v.1[v.2.2.1.toNat]? >>= fun x1 =>
   n_86 (x1, ()) >>= fun x2 =>
   if x2.1 = true then
    some (Sum.inl (v.2.2.1, ()))
   else n_117c86l2 (v.1, v.2.1, i64.wrap (v.2.2.1 + (1 : Int)), ())
  else none
 else some (Sum.inr ())
 partial_fixpoint
noncomputable def n_117c86 (v : (List ByteArray) × Unit) : Option (Int × Unit) :=
 n_117c86l2 (v.1, (↑v.1.length : Int), (0 : Int), ()) >>= fun x1 => match x1 with
  | .inl y1 => some y1
  | .inr y1 => some (((-1 : Int), ()))
noncomputable def call117c86 : Caller vw := fun A fid args S k => match fid with | 86 => callPure prog sig86 n_86 A args S k | _ => none
noncomputable def x117c86 : Xc vw := { P := prog, n := 19, call := call117c86, sh := sh117c86, loops := fun k => match k with | 2 => some { cut := c117c86l2, alts := [.ret, .exit 0], F := n_117c86l2 } | _ => none }
theorem call117c86_ok : CallerOk prog call117c86 := fun A fid args S dst k r h => by
 unfold call117c86 at h
 split at h
 ·exact callPure_ok (n_86_ok) rfl rfl h
 ·cases h
theorem n_117c86l2_ok (C : Ctx) (hP : C.P = prog) (hN : C.N = 19) : LoopOk C (loopNo (bodyOf Tryz.f117) 0) (sh := sh117c86) { cut := c117c86l2, alts := [.ret, .exit 0], F := n_117c86l2 } :=
 n_117c86l2.partial_correctness (motive := fun v out => AWpL C (loopNo (bodyOf Tryz.f117) 0) (encS vw (conc vw c117c86l2 v)) (OutQ sh117c86 [.ret, .exit 0] out)) fun F ih v out h =>
  loop_step (X := x117c86) (b := (loopNo (bodyOf Tryz.f117) 0)) hP hN Ty.mixed call117c86_ok (lok_all (X := x117c86) (c := (loopNo (bodyOf Tryz.f117) 0)) (kcast (by kernel_rfl : True = AllB (LoopsP C (x117c86)) (loopsIn (loopNo (bodyOf Tryz.f117) 0))) trivial)) ih (kcast (by kernel_rfl) h)
theorem n_117c86_ok : SigOk prog 117 sig117c86 n_117c86 := fun v r x h hx =>
 fn_ok (X := x117c86) (sig := sig117c86) rfl Tryz.func117 (c := bodyOf Tryz.f117) (by kernel_rfl) Tryz.ntmps117 (by kernel_rfl) (by kernel_rfl) rfl Ty.mixed call117c86_ok rfl (fun C hP hN => (lok_all (kcast (by kernel_rfl : AllB (LoopsP C (x117c86)) [(loopNo (bodyOf Tryz.f117) 0)] = AllB (LoopsP C (x117c86)) (loopsIn (bodyOf Tryz.f117))) ⟨loop_at (X := x117c86) (b := (loopNo (bodyOf Tryz.f117) 0)) (by kernel_rfl) (n_117c86l2_ok C hP hN), trivial⟩))) (kcast (by kernel_rfl) h) x hx
noncomputable def c88c86z : Cut SN := ⟨[(4, .dat .bool)], []⟩
noncomputable def sh88c86 : Shape vw := { rcut := c88c86z }
noncomputable def sig88c86 : Sig vw := { params := [.dat (.sl .str), .fn 86 [] []], rcut := c88c86z, rvars := [.tmp 4] }
noncomputable def n_88c86 (v : (List ByteArray) × Unit) : Option (Bool × Unit) :=
 n_117c86 (v.1, ()) >>= fun x1 =>
 some ((decide (x1.1 ≥ (0 : Int)), ()))
noncomputable def call88c86 : Caller vw := fun A fid args S k => match fid with | 117 => callPure prog sig117c86 n_117c86 A args S k | _ => none
noncomputable def x88c86 : Xc vw := { P := prog, n := 9, call := call88c86, sh := sh88c86 }
theorem call88c86_ok : CallerOk prog call88c86 := fun A fid args S dst k r h => by
 unfold call88c86 at h
 split at h
 ·exact callPure_ok (n_117c86_ok) rfl rfl h
 ·cases h
theorem n_88c86_ok : SigOk prog 88 sig88c86 n_88c86 := fun v r x h hx =>
 fn_ok (X := x88c86) (sig := sig88c86) rfl Tryz.func88 (c := bodyOf Tryz.f88) (by kernel_rfl) Tryz.ntmps88 (by kernel_rfl) (by kernel_rfl) rfl Ty.mixed call88c86_ok rfl (fun C hP hN => (lok_all (kcast (by kernel_rfl) trivial))) (kcast (by kernel_rfl) h) x hx
noncomputable def c118c90l2 : Cut SN := ⟨[(0, .dat (.sl (.st .tagT))), (1, .fn 90 [] []), (7, .dat (.int .i64)), (8, .dat (.int .i64))], []⟩
noncomputable def sh118c90 : Shape vw := { exits := fun id => match id with | 0 => c117c86e0 | _ => ⟨[], []⟩, rcut := c117c86z }
noncomputable def sig118c90 : Sig vw := { params := [.dat (.sl (.st .tagT)), .fn 90 [] []], rcut := c117c86z, rvars := [.tmp 4] }
noncomputable def c61r1 : Cut SN := ⟨[(1, .bp 1 0), (52, .dat .bool)], [(1, .st .tagT)]⟩
noncomputable def c61r3 : Cut SN := ⟨[(1, .bp 1 0), (75, .dat .bool)], [(1, .st .tagT)]⟩
noncomputable def sh61 : Shape vw := { rcut := c87z }
noncomputable def sig61 : Sig vw := { params := [.dat (.st .tagT)], rcut := c87z, rvars := [.tmp 2] }
noncomputable def sh89c90 : Shape vw := { rcut := c88c86z }
noncomputable def sig89c90 : Sig vw := { params := [.dat (.sl (.st .tagT)), .fn 90 [] []], rcut := c88c86z, rvars := [.tmp 4] }
noncomputable def sh90 : Shape vw := { rcut := c87z }
noncomputable def sig90 : Sig vw := { params := [.dat (.st .tagT)], rcut := c87z, rvars := [.tmp 2] }
mutual
noncomputable def n_118c90l2 (v : (List Tag) × Int × Int × Unit) : Option (((Int × Unit) ⊕ (Unit))) :=
 if decide (v.2.2.1 < v.2.1) = true then
  if (0 : Int) ≤ v.2.2.1 then
   v.1[v.2.2.1.toNat]? >>= fun x1 =>
   n_90 (x1, ()) >>= fun x2 =>
   if x2.1 = true then
    some (Sum.inl (v.2.2.1, ()))
   else n_118c90l2 (v.1, v.2.1, i64.wrap (v.2.2.1 + (1 : Int)), ())
  else none
 else some (Sum.inr ())
 partial_fixpoint
noncomputable def n_90 (v : Tag × Unit) : Option (Bool × Unit) :=
 n_61 (v.1, ()) >>= fun x1 =>
 some ((!x1.1, ()))
 partial_fixpoint
noncomputable def n_61 (v : Tag × Unit) : Option (Bool × Unit) :=
 (if decide (v.1.kind < (0 : Int)) = true then
    some ((true, v.1, ()))
   else if decide (v.1.kind > (6 : Int)) = true then
    some ((true, v.1, ()))
   else if (v.1.kind != (3 : Int)) = true then
    if (v.1.n != (0 : Int)) = true then
     some ((true, v.1, ()))
    else if decide (v.1.n < (-9007199254740992 : Int)) = true then
     some ((true, v.1, ()))
    else if decide (v.1.n > (9007199254740992 : Int)) = true then
     some ((true, v.1, ()))
    else if (v.1.kind != (4 : Int)) = true then
     if (!v.1.text.toList == (ByteArray.mk #[]).toList) = true then
      some ((true, v.1, ()))
     else if decide (v.1.kind < (5 : Int)) = true then
      some ((decide ((↑v.1.parts.length : Int) > (0 : Int)), v.1, ()))
     else some ((false, v.1, ()))
    else if decide (v.1.kind < (5 : Int)) = true then
     some ((decide ((↑v.1.parts.length : Int) > (0 : Int)), v.1, ()))
    else some ((false, v.1, ()))
   else if decide (v.1.n < (-9007199254740992 : Int)) = true then
    some ((true, v.1, ()))
   else if decide (v.1.n > (9007199254740992 : Int)) = true then
    some ((true, v.1, ()))
   else if (v.1.kind != (4 : Int)) = true then
    if (!v.1.text.toList == (ByteArray.mk #[]).toList) = true then
     some ((true, v.1, ()))
    else if decide (v.1.kind < (5 : Int)) = true then
     some ((decide ((↑v.1.parts.length : Int) > (0 : Int)), v.1, ()))
    else some ((false, v.1, ()))
   else if decide (v.1.kind < (5 : Int)) = true then
    some ((decide ((↑v.1.parts.length : Int) > (0 : Int)), v.1, ()))
   else some ((false, v.1, ()))) >>= fun x1 =>
 if x1.1 = true then
  some ((false, ()))
 else (if (x1.2.1.kind == (6 : Int)) = true then
   if ((↑x1.2.1.names.length : Int) != (↑x1.2.1.parts.length : Int)) = true then
    some ((true, x1.2.1, ()))
   else if (x1.2.1.kind != (6 : Int)) = true then
    some ((decide ((↑x1.2.1.names.length : Int) > (0 : Int)), x1.2.1, ()))
   else some ((false, x1.2.1, ()))
  else if (x1.2.1.kind != (6 : Int)) = true then
   some ((decide ((↑x1.2.1.names.length : Int) > (0 : Int)), x1.2.1, ()))
  else some ((false, x1.2.1, ()))) >>= fun x2 =>
 if x2.1 = true then
  some ((false, ()))
 else (n_86 (x2.2.1.text, ()) >>= fun x3 =>
  if (!x3.1) = true then
   n_88c86 (x2.2.1.names, ()) >>= fun x4 =>
   if (!x4.1) = true then
    n_89c90 (x2.2.1.parts, ()) >>= fun x5 =>
    some ((!x5.1, ()))
   else some ((false, ()))
  else some ((false, ()))) >>= fun x3 =>
 some ((x3.1, ()))
 partial_fixpoint
noncomputable def n_89c90 (v : (List Tag) × Unit) : Option (Bool × Unit) :=
 n_118c90 (v.1, ()) >>= fun x1 =>
 some ((decide (x1.1 ≥ (0 : Int)), ()))
 partial_fixpoint
noncomputable def n_118c90 (v : (List Tag) × Unit) : Option (Int × Unit) :=
 n_118c90l2 (v.1, (↑v.1.length : Int), (0 : Int), ()) >>= fun x1 => match x1 with
  | .inl y1 => some y1
  | .inr y1 => some (((-1 : Int), ()))
 partial_fixpoint
end
noncomputable def call118c90 (n_118c90l2 : (List Tag) × Int × Int × Unit → Option (((Int × Unit) ⊕ (Unit)))) (n_90 : Tag × Unit → Option (Bool × Unit)) (n_61 : Tag × Unit → Option (Bool × Unit)) (n_89c90 : (List Tag) × Unit → Option (Bool × Unit)) (n_118c90 : (List Tag) × Unit → Option (Int × Unit)) : Caller vw := fun A fid args S k => match fid with | 90 => callPure prog sig90 n_90 A args S k | _ => none
noncomputable def x118c90 (n_118c90l2 : (List Tag) × Int × Int × Unit → Option (((Int × Unit) ⊕ (Unit)))) (n_90 : Tag × Unit → Option (Bool × Unit)) (n_61 : Tag × Unit → Option (Bool × Unit)) (n_89c90 : (List Tag) × Unit → Option (Bool × Unit)) (n_118c90 : (List Tag) × Unit → Option (Int × Unit)) : Xc vw := { P := prog, n := 19, call := call118c90 n_118c90l2 n_90 n_61 n_89c90 n_118c90, sh := sh118c90, loops := fun k => match k with | 2 => some { cut := c118c90l2, alts := [.ret, .exit 0], F := n_118c90l2 } | _ => none }
noncomputable def call61 (n_118c90l2 : (List Tag) × Int × Int × Unit → Option (((Int × Unit) ⊕ (Unit)))) (n_90 : Tag × Unit → Option (Bool × Unit)) (n_61 : Tag × Unit → Option (Bool × Unit)) (n_89c90 : (List Tag) × Unit → Option (Bool × Unit)) (n_118c90 : (List Tag) × Unit → Option (Int × Unit)) : Caller vw := fun A fid args S k => match fid with | 86 => callPure prog sig86 n_86 A args S k | 88 => callPure prog sig88c86 n_88c86 A args S k | 89 => callPure prog sig89c90 n_89c90 A args S k | _ => none
noncomputable def x61 (n_118c90l2 : (List Tag) × Int × Int × Unit → Option (((Int × Unit) ⊕ (Unit)))) (n_90 : Tag × Unit → Option (Bool × Unit)) (n_61 : Tag × Unit → Option (Bool × Unit)) (n_89c90 : (List Tag) × Unit → Option (Bool × Unit)) (n_118c90 : (List Tag) × Unit → Option (Int × Unit)) : Xc vw := { P := prog, n := 94, call := call61 n_118c90l2 n_90 n_61 n_89c90 n_118c90, sh := sh61, regs := fun k => match k with | 1 => some c61r1 | 3 => some c61r3 | 6 => some c87z | _ => none }
noncomputable def call89c90 (n_118c90l2 : (List Tag) × Int × Int × Unit → Option (((Int × Unit) ⊕ (Unit)))) (n_90 : Tag × Unit → Option (Bool × Unit)) (n_61 : Tag × Unit → Option (Bool × Unit)) (n_89c90 : (List Tag) × Unit → Option (Bool × Unit)) (n_118c90 : (List Tag) × Unit → Option (Int × Unit)) : Caller vw := fun A fid args S k => match fid with | 118 => callPure prog sig118c90 n_118c90 A args S k | _ => none
noncomputable def x89c90 (n_118c90l2 : (List Tag) × Int × Int × Unit → Option (((Int × Unit) ⊕ (Unit)))) (n_90 : Tag × Unit → Option (Bool × Unit)) (n_61 : Tag × Unit → Option (Bool × Unit)) (n_89c90 : (List Tag) × Unit → Option (Bool × Unit)) (n_118c90 : (List Tag) × Unit → Option (Int × Unit)) : Xc vw := { P := prog, n := 9, call := call89c90 n_118c90l2 n_90 n_61 n_89c90 n_118c90, sh := sh89c90 }
noncomputable def call90 (n_118c90l2 : (List Tag) × Int × Int × Unit → Option (((Int × Unit) ⊕ (Unit)))) (n_90 : Tag × Unit → Option (Bool × Unit)) (n_61 : Tag × Unit → Option (Bool × Unit)) (n_89c90 : (List Tag) × Unit → Option (Bool × Unit)) (n_118c90 : (List Tag) × Unit → Option (Int × Unit)) : Caller vw := fun A fid args S k => match fid with | 61 => callPure prog sig61 n_61 A args S k | _ => none
noncomputable def x90 (n_118c90l2 : (List Tag) × Int × Int × Unit → Option (((Int × Unit) ⊕ (Unit)))) (n_90 : Tag × Unit → Option (Bool × Unit)) (n_61 : Tag × Unit → Option (Bool × Unit)) (n_89c90 : (List Tag) × Unit → Option (Bool × Unit)) (n_118c90 : (List Tag) × Unit → Option (Int × Unit)) : Xc vw := { P := prog, n := 6, call := call90 n_118c90l2 n_90 n_61 n_89c90 n_118c90, sh := sh90 }
abbrev mn_118c90l2 (v : (List Tag) × Int × Int × Unit) (r : ((Int × Unit) ⊕ (Unit))) : Prop := (fun v out => ∀ C : Ctx, C.P = prog → C.N = 19 → AWpL C (loopNo (bodyOf Tryz.f118) 0) (encS vw (conc vw c118c90l2 v)) (OutQ sh118c90 [.ret, .exit 0] out)) v r
abbrev mn_90 (v : Tag × Unit) (r : Bool × Unit) : Prop := (fun v r => ∀ x, resV prog sig90 r = some x → FnOk prog 90 (encL vw (startS sig90 v).len (startOs sig90 v).1) (encOs (startS sig90 v).len (startS sig90 v).own) (encV vw (conc vw sig90.rcut r).len x) (encOs (conc vw sig90.rcut r).len (kept sig90 r))) v r
abbrev mn_61 (v : Tag × Unit) (r : Bool × Unit) : Prop := (fun v r => ∀ x, resV prog sig61 r = some x → FnOk prog 61 (encL vw (startS sig61 v).len (startOs sig61 v).1) (encOs (startS sig61 v).len (startS sig61 v).own) (encV vw (conc vw sig61.rcut r).len x) (encOs (conc vw sig61.rcut r).len (kept sig61 r))) v r
abbrev mn_89c90 (v : (List Tag) × Unit) (r : Bool × Unit) : Prop := (fun v r => ∀ x, resV prog sig89c90 r = some x → FnOk prog 89 (encL vw (startS sig89c90 v).len (startOs sig89c90 v).1) (encOs (startS sig89c90 v).len (startS sig89c90 v).own) (encV vw (conc vw sig89c90.rcut r).len x) (encOs (conc vw sig89c90.rcut r).len (kept sig89c90 r))) v r
abbrev mn_118c90 (v : (List Tag) × Unit) (r : Int × Unit) : Prop := (fun v r => ∀ x, resV prog sig118c90 r = some x → FnOk prog 118 (encL vw (startS sig118c90 v).len (startOs sig118c90 v).1) (encOs (startS sig118c90 v).len (startS sig118c90 v).own) (encV vw (conc vw sig118c90.rcut r).len x) (encOs (conc vw sig118c90.rcut r).len (kept sig118c90 r))) v r
theorem cn_118c90l2 (f0 : (List Tag) × Int × Int × Unit → Option (((Int × Unit) ⊕ (Unit)))) (f1 : Tag × Unit → Option (Bool × Unit)) (h0 : ∀ v r, f0 v = some r → mn_118c90l2 v r) (h1 : ∀ v r, f1 v = some r → mn_90 v r) : CallerOk prog (x118c90 f0 f1 (fun _ => none) (fun _ => none) (fun _ => none)).call := (by
    intro A fid args S dst k r h
    unfold x118c90 call118c90 at h
    simp only at h
    split at h
    ·exact callPure_ok ((fun v r x h hx => h1 v r h x hx)) rfl rfl h
    ·cases h)
theorem sn_118c90l2 (f0 : (List Tag) × Int × Int × Unit → Option (((Int × Unit) ⊕ (Unit)))) (f1 : Tag × Unit → Option (Bool × Unit)) (h0 : ∀ v r, f0 v = some r → mn_118c90l2 v r) (h1 : ∀ v r, f1 v = some r → mn_90 v r) (v : (List Tag) × Int × Int × Unit) (r : ((Int × Unit) ⊕ (Unit))) (h : exL (x118c90 f0 f1 (fun _ => none) (fun _ => none) (fun _ => none)) (loopNo (bodyOf Tryz.f118) 0) c118c90l2 [.ret, .exit 0] f0 v = some r) : mn_118c90l2 v r := fun C hP hN => loop_step (X := x118c90 f0 f1 (fun _ => none) (fun _ => none) (fun _ => none)) (b := (loopNo (bodyOf Tryz.f118) 0)) hP hN Ty.mixed (cn_118c90l2 f0 f1 h0 h1) (lok_all (X := x118c90 f0 f1 (fun _ => none) (fun _ => none) (fun _ => none)) (c := (loopNo (bodyOf Tryz.f118) 0)) (kcast (by kernel_rfl : True = AllB (LoopsP C (x118c90 f0 f1 (fun _ => none) (fun _ => none) (fun _ => none))) (loopsIn (loopNo (bodyOf Tryz.f118) 0))) trivial)) (cut := c118c90l2) (alts := [.ret, .exit 0]) (F := f0) (fun v out h => h0 v out h C hP hN) h
theorem cn_90 (f0 : Tag × Unit → Option (Bool × Unit)) (h0 : ∀ v r, f0 v = some r → mn_61 v r) : CallerOk prog (x90 (fun _ => none) (fun _ => none) f0 (fun _ => none) (fun _ => none)).call := (by
    intro A fid args S dst k r h
    unfold x90 call90 at h
    simp only at h
    split at h
    ·exact callPure_ok ((fun v r x h hx => h0 v r h x hx)) rfl rfl h
    ·cases h)
theorem sn_90 (f0 : Tag × Unit → Option (Bool × Unit)) (h0 : ∀ v r, f0 v = some r → mn_61 v r) (v : Tag × Unit) (r : Bool × Unit) (h : exF (x90 (fun _ => none) (fun _ => none) f0 (fun _ => none) (fun _ => none)) sig90 rfl (bodyOf Tryz.f90) v = some r) : mn_90 v r := fun x hx => fn_ok (X := x90 (fun _ => none) (fun _ => none) f0 (fun _ => none) (fun _ => none)) (sig := sig90) rfl Tryz.func90 (c := bodyOf Tryz.f90) (by kernel_rfl) Tryz.ntmps90 (by kernel_rfl) (by kernel_rfl) rfl Ty.mixed (cn_90 f0 h0) rfl (fun C hP hN => (lok_all (X := x90 (fun _ => none) (fun _ => none) f0 (fun _ => none) (fun _ => none)) (c := (bodyOf Tryz.f90)) (kcast (by kernel_rfl : True = AllB (LoopsP C (x90 (fun _ => none) (fun _ => none) f0 (fun _ => none) (fun _ => none))) (loopsIn (bodyOf Tryz.f90))) trivial))) h x hx
theorem cn_61 (f0 : (List Tag) × Unit → Option (Bool × Unit)) (h0 : ∀ v r, f0 v = some r → mn_89c90 v r) : CallerOk prog (x61 (fun _ => none) (fun _ => none) (fun _ => none) f0 (fun _ => none)).call := (by
    intro A fid args S dst k r h
    unfold x61 call61 at h
    simp only at h
    split at h
    ·exact callPure_ok (n_86_ok) rfl rfl h
    ·exact callPure_ok (n_88c86_ok) rfl rfl h
    ·exact callPure_ok ((fun v r x h hx => h0 v r h x hx)) rfl rfl h
    ·cases h)
theorem sn_61 (f0 : (List Tag) × Unit → Option (Bool × Unit)) (h0 : ∀ v r, f0 v = some r → mn_89c90 v r) (v : Tag × Unit) (r : Bool × Unit) (h : exF (x61 (fun _ => none) (fun _ => none) (fun _ => none) f0 (fun _ => none)) sig61 rfl (bodyOf Tryz.f61) v = some r) : mn_61 v r := fun x hx => fn_ok (X := x61 (fun _ => none) (fun _ => none) (fun _ => none) f0 (fun _ => none)) (sig := sig61) rfl Tryz.func61 (c := bodyOf Tryz.f61) (by kernel_rfl) Tryz.ntmps61 (by kernel_rfl) (by kernel_rfl) rfl Ty.mixed (cn_61 f0 h0) rfl (fun C hP hN => (lok_all (X := x61 (fun _ => none) (fun _ => none) (fun _ => none) f0 (fun _ => none)) (c := (bodyOf Tryz.f61)) (kcast (by kernel_rfl : True = AllB (LoopsP C (x61 (fun _ => none) (fun _ => none) (fun _ => none) f0 (fun _ => none))) (loopsIn (bodyOf Tryz.f61))) trivial))) h x hx
theorem cn_89c90 (f0 : (List Tag) × Unit → Option (Int × Unit)) (h0 : ∀ v r, f0 v = some r → mn_118c90 v r) : CallerOk prog (x89c90 (fun _ => none) (fun _ => none) (fun _ => none) (fun _ => none) f0).call := (by
    intro A fid args S dst k r h
    unfold x89c90 call89c90 at h
    simp only at h
    split at h
    ·exact callPure_ok ((fun v r x h hx => h0 v r h x hx)) rfl rfl h
    ·cases h)
theorem sn_89c90 (f0 : (List Tag) × Unit → Option (Int × Unit)) (h0 : ∀ v r, f0 v = some r → mn_118c90 v r) (v : (List Tag) × Unit) (r : Bool × Unit) (h : exF (x89c90 (fun _ => none) (fun _ => none) (fun _ => none) (fun _ => none) f0) sig89c90 rfl (bodyOf Tryz.f89) v = some r) : mn_89c90 v r := fun x hx => fn_ok (X := x89c90 (fun _ => none) (fun _ => none) (fun _ => none) (fun _ => none) f0) (sig := sig89c90) rfl Tryz.func89 (c := bodyOf Tryz.f89) (by kernel_rfl) Tryz.ntmps89 (by kernel_rfl) (by kernel_rfl) rfl Ty.mixed (cn_89c90 f0 h0) rfl (fun C hP hN => (lok_all (X := x89c90 (fun _ => none) (fun _ => none) (fun _ => none) (fun _ => none) f0) (c := (bodyOf Tryz.f89)) (kcast (by kernel_rfl : True = AllB (LoopsP C (x89c90 (fun _ => none) (fun _ => none) (fun _ => none) (fun _ => none) f0)) (loopsIn (bodyOf Tryz.f89))) trivial))) h x hx
theorem cn_118c90 (f0 : (List Tag) × Int × Int × Unit → Option (((Int × Unit) ⊕ (Unit)))) (h0 : ∀ v r, f0 v = some r → mn_118c90l2 v r) : CallerOk prog (x118c90 f0 (fun _ => none) (fun _ => none) (fun _ => none) (fun _ => none)).call := (by
    intro A fid args S dst k r h
    unfold x118c90 call118c90 at h
    simp only at h
    split at h
    ·exact callPure_ok ((fun v r x h hx => by cases h)) rfl rfl h
    ·cases h)
theorem sn_118c90 (f0 : (List Tag) × Int × Int × Unit → Option (((Int × Unit) ⊕ (Unit)))) (h0 : ∀ v r, f0 v = some r → mn_118c90l2 v r) (v : (List Tag) × Unit) (r : Int × Unit) (h : exF (x118c90 f0 (fun _ => none) (fun _ => none) (fun _ => none) (fun _ => none)) sig118c90 rfl (bodyOf Tryz.f118) v = some r) : mn_118c90 v r := fun x hx => fn_ok (X := x118c90 f0 (fun _ => none) (fun _ => none) (fun _ => none) (fun _ => none)) (sig := sig118c90) rfl Tryz.func118 (c := bodyOf Tryz.f118) (by kernel_rfl) Tryz.ntmps118 (by kernel_rfl) (by kernel_rfl) rfl Ty.mixed (cn_118c90 f0 h0) rfl (fun C hP hN => (lok_all (X := x118c90 f0 (fun _ => none) (fun _ => none) (fun _ => none) (fun _ => none)) (c := (bodyOf Tryz.f118)) (kcast (by kernel_rfl : AllB (LoopsP C (x118c90 f0 (fun _ => none) (fun _ => none) (fun _ => none) (fun _ => none))) [(loopNo (bodyOf Tryz.f118) 0)] = AllB (LoopsP C (x118c90 f0 (fun _ => none) (fun _ => none) (fun _ => none) (fun _ => none))) (loopsIn (bodyOf Tryz.f118))) ⟨loop_at (X := x118c90 f0 (fun _ => none) (fun _ => none) (fun _ => none) (fun _ => none)) (b := (loopNo (bodyOf Tryz.f118) 0)) (by kernel_rfl) (show LoopOk C (loopNo (bodyOf Tryz.f118) 0) (sh := sh118c90) { cut := c118c90l2, alts := [.ret, .exit 0], F := f0 } from fun v out h => h0 v out h C hP hN), trivial⟩))) h x hx
theorem n_118c90l2_all : (∀ v r, n_118c90l2 v = some r → mn_118c90l2 v r) ∧ (∀ v r, n_90 v = some r → mn_90 v r) ∧ (∀ v r, n_61 v = some r → mn_61 v r) ∧ (∀ v r, n_89c90 v = some r → mn_89c90 v r) ∧ (∀ v r, n_118c90 v = some r → mn_118c90 v r) := by
 refine n_118c90l2.mutual_partial_correctness
  (motive_1 := mn_118c90l2)
  (motive_2 := mn_90)
  (motive_3 := mn_61)
  (motive_4 := mn_89c90)
  (motive_5 := mn_118c90)
  ?_ ?_ ?_ ?_ ?_
 ·exact (fun f0 f1 h0 h1 v r h => sn_118c90l2 f0 f1 h0 h1 v r (kcast (by kernel_rfl) h))
 ·exact (fun f0 h0 v r h => sn_90 f0 h0 v r (kcast (by kernel_rfl) h))
 ·exact (fun f0 h0 v r h => sn_61 f0 h0 v r (kcast (by kernel_rfl) h))
 ·exact (fun f0 h0 v r h => sn_89c90 f0 h0 v r (kcast (by kernel_rfl) h))
 ·exact (fun f0 h0 v r h => sn_118c90 f0 h0 v r (kcast (by kernel_rfl) h))
theorem n_61_ok : SigOk prog 61 sig61 n_61 := fun v r x h hx => n_118c90l2_all.2.2.1 v r h x hx
noncomputable def c118c62l2 : Cut SN := ⟨[(0, .dat (.sl (.st .tagT))), (1, .fn 62 [] []), (7, .dat (.int .i64)), (8, .dat (.int .i64))], []⟩
noncomputable def sh118c62 : Shape vw := { exits := fun id => match id with | 0 => c117c86e0 | _ => ⟨[], []⟩, rcut := c117c86z }
noncomputable def sig118c62 : Sig vw := { params := [.dat (.sl (.st .tagT)), .fn 62 [] []], rcut := c117c86z, rvars := [.tmp 4] }
noncomputable def c62l3 : Cut SN := ⟨[(1, .bp 1 0), (3, .mp 6), (8, .dat (.sl .str)), (9, .dat (.int .i64)), (10, .dat (.int .i64))], [(1, .st .tagT), (6, .map .str .bool)]⟩
noncomputable def c62e0 : Cut SN := ⟨[(1, .bp 1 0)], [(1, .st .tagT)]⟩
noncomputable def sh62 : Shape vw := { exits := fun id => match id with | 0 => c62e0 | _ => ⟨[], []⟩, rcut := c87z }
noncomputable def sig62 : Sig vw := { params := [.dat (.st .tagT)], rcut := c87z, rvars := [.tmp 2] }
noncomputable def sh89c62 : Shape vw := { rcut := c88c86z }
noncomputable def sig89c62 : Sig vw := { params := [.dat (.sl (.st .tagT)), .fn 62 [] []], rcut := c88c86z, rvars := [.tmp 4] }
noncomputable def n_62l3 (v : (List ByteArray) × Int × Int × Tag × (List (ByteArray × Bool)) × Unit) : Option (((Bool × Unit) ⊕ (Tag × Unit))) :=
 if decide (v.2.2.1 < v.2.1) = true then
  if (0 : Int) ≤ v.2.2.1 then
   v.1[v.2.2.1.toNat]? >>= fun x1 =>
   if (Mp.get Mp.seq x1 v.2.2.2.2.1).getD false = true then
    some (Sum.inl (true, ()))
   else n_62l3 (v.1, v.2.1, i64.wrap (v.2.2.1 + (1 : Int)), v.2.2.2.1, Mp.set Mp.seq x1 true v.2.2.2.2.1, ())
  else none
 else some (Sum.inr (v.2.2.2.1, ()))
 partial_fixpoint
mutual
noncomputable def n_118c62l2 (v : (List Tag) × Int × Int × Unit) : Option (((Int × Unit) ⊕ (Unit))) :=
 if decide (v.2.2.1 < v.2.1) = true then
  if (0 : Int) ≤ v.2.2.1 then
   v.1[v.2.2.1.toNat]? >>= fun x1 =>
   n_62 (x1, ()) >>= fun x2 =>
   if x2.1 = true then
    some (Sum.inl (v.2.2.1, ()))
   else n_118c62l2 (v.1, v.2.1, i64.wrap (v.2.2.1 + (1 : Int)), ())
  else none
 else some (Sum.inr ())
 partial_fixpoint
noncomputable def n_62 (v : Tag × Unit) : Option (Bool × Unit) :=
 n_62l3 (v.1.names, (↑v.1.names.length : Int), (0 : Int), v.1, [], ()) >>= fun x1 => match x1 with
  | .inl y1 => some y1
  | .inr y1 => n_89c62 (y1.1.parts, ()) >>= fun x2 =>
   some ((x2.1, ()))
 partial_fixpoint
noncomputable def n_89c62 (v : (List Tag) × Unit) : Option (Bool × Unit) :=
 n_118c62 (v.1, ()) >>= fun x1 =>
 some ((decide (x1.1 ≥ (0 : Int)), ()))
 partial_fixpoint
noncomputable def n_118c62 (v : (List Tag) × Unit) : Option (Int × Unit) :=
 n_118c62l2 (v.1, (↑v.1.length : Int), (0 : Int), ()) >>= fun x1 => match x1 with
  | .inl y1 => some y1
  | .inr y1 => some (((-1 : Int), ()))
 partial_fixpoint
end
noncomputable def call118c62 (n_62l3 : (List ByteArray) × Int × Int × Tag × (List (ByteArray × Bool)) × Unit → Option (((Bool × Unit) ⊕ (Tag × Unit)))) (n_118c62l2 : (List Tag) × Int × Int × Unit → Option (((Int × Unit) ⊕ (Unit)))) (n_62 : Tag × Unit → Option (Bool × Unit)) (n_89c62 : (List Tag) × Unit → Option (Bool × Unit)) (n_118c62 : (List Tag) × Unit → Option (Int × Unit)) : Caller vw := fun A fid args S k => match fid with | 62 => callPure prog sig62 n_62 A args S k | _ => none
noncomputable def x118c62 (n_62l3 : (List ByteArray) × Int × Int × Tag × (List (ByteArray × Bool)) × Unit → Option (((Bool × Unit) ⊕ (Tag × Unit)))) (n_118c62l2 : (List Tag) × Int × Int × Unit → Option (((Int × Unit) ⊕ (Unit)))) (n_62 : Tag × Unit → Option (Bool × Unit)) (n_89c62 : (List Tag) × Unit → Option (Bool × Unit)) (n_118c62 : (List Tag) × Unit → Option (Int × Unit)) : Xc vw := { P := prog, n := 19, call := call118c62 n_62l3 n_118c62l2 n_62 n_89c62 n_118c62, sh := sh118c62, loops := fun k => match k with | 2 => some { cut := c118c62l2, alts := [.ret, .exit 0], F := n_118c62l2 } | _ => none }
noncomputable def call62 (n_62l3 : (List ByteArray) × Int × Int × Tag × (List (ByteArray × Bool)) × Unit → Option (((Bool × Unit) ⊕ (Tag × Unit)))) (n_118c62l2 : (List Tag) × Int × Int × Unit → Option (((Int × Unit) ⊕ (Unit)))) (n_62 : Tag × Unit → Option (Bool × Unit)) (n_89c62 : (List Tag) × Unit → Option (Bool × Unit)) (n_118c62 : (List Tag) × Unit → Option (Int × Unit)) : Caller vw := fun A fid args S k => match fid with | 89 => callPure prog sig89c62 n_89c62 A args S k | _ => none
noncomputable def x62 (n_62l3 : (List ByteArray) × Int × Int × Tag × (List (ByteArray × Bool)) × Unit → Option (((Bool × Unit) ⊕ (Tag × Unit)))) (n_118c62l2 : (List Tag) × Int × Int × Unit → Option (((Int × Unit) ⊕ (Unit)))) (n_62 : Tag × Unit → Option (Bool × Unit)) (n_89c62 : (List Tag) × Unit → Option (Bool × Unit)) (n_118c62 : (List Tag) × Unit → Option (Int × Unit)) : Xc vw := { P := prog, n := 23, call := call62 n_62l3 n_118c62l2 n_62 n_89c62 n_118c62, sh := sh62, loops := fun k => match k with | 3 => some { cut := c62l3, alts := [.ret, .exit 0], F := n_62l3 } | _ => none }
noncomputable def call89c62 (n_62l3 : (List ByteArray) × Int × Int × Tag × (List (ByteArray × Bool)) × Unit → Option (((Bool × Unit) ⊕ (Tag × Unit)))) (n_118c62l2 : (List Tag) × Int × Int × Unit → Option (((Int × Unit) ⊕ (Unit)))) (n_62 : Tag × Unit → Option (Bool × Unit)) (n_89c62 : (List Tag) × Unit → Option (Bool × Unit)) (n_118c62 : (List Tag) × Unit → Option (Int × Unit)) : Caller vw := fun A fid args S k => match fid with | 118 => callPure prog sig118c62 n_118c62 A args S k | _ => none
noncomputable def x89c62 (n_62l3 : (List ByteArray) × Int × Int × Tag × (List (ByteArray × Bool)) × Unit → Option (((Bool × Unit) ⊕ (Tag × Unit)))) (n_118c62l2 : (List Tag) × Int × Int × Unit → Option (((Int × Unit) ⊕ (Unit)))) (n_62 : Tag × Unit → Option (Bool × Unit)) (n_89c62 : (List Tag) × Unit → Option (Bool × Unit)) (n_118c62 : (List Tag) × Unit → Option (Int × Unit)) : Xc vw := { P := prog, n := 9, call := call89c62 n_62l3 n_118c62l2 n_62 n_89c62 n_118c62, sh := sh89c62 }
abbrev mn_62l3 (v : (List ByteArray) × Int × Int × Tag × (List (ByteArray × Bool)) × Unit) (r : ((Bool × Unit) ⊕ (Tag × Unit))) : Prop := (fun v out => ∀ C : Ctx, C.P = prog → C.N = 23 → AWpL C (loopNo (bodyOf Tryz.f62) 0) (encS vw (conc vw c62l3 v)) (OutQ sh62 [.ret, .exit 0] out)) v r
theorem cn_62l3 (f0 : (List ByteArray) × Int × Int × Tag × (List (ByteArray × Bool)) × Unit → Option (((Bool × Unit) ⊕ (Tag × Unit)))) (h0 : ∀ v r, f0 v = some r → mn_62l3 v r) : CallerOk prog (x62 f0 (fun _ => none) (fun _ => none) (fun _ => none) (fun _ => none)).call := (by
    intro A fid args S dst k r h
    unfold x62 call62 at h
    simp only at h
    split at h
    ·exact callPure_ok ((fun v r x h hx => by cases h)) rfl rfl h
    ·cases h)
theorem sn_62l3 (f0 : (List ByteArray) × Int × Int × Tag × (List (ByteArray × Bool)) × Unit → Option (((Bool × Unit) ⊕ (Tag × Unit)))) (h0 : ∀ v r, f0 v = some r → mn_62l3 v r) (v : (List ByteArray) × Int × Int × Tag × (List (ByteArray × Bool)) × Unit) (r : ((Bool × Unit) ⊕ (Tag × Unit))) (h : exL (x62 f0 (fun _ => none) (fun _ => none) (fun _ => none) (fun _ => none)) (loopNo (bodyOf Tryz.f62) 0) c62l3 [.ret, .exit 0] f0 v = some r) : mn_62l3 v r := fun C hP hN => loop_step (X := x62 f0 (fun _ => none) (fun _ => none) (fun _ => none) (fun _ => none)) (b := (loopNo (bodyOf Tryz.f62) 0)) hP hN Ty.mixed (cn_62l3 f0 h0) (lok_all (X := x62 f0 (fun _ => none) (fun _ => none) (fun _ => none) (fun _ => none)) (c := (loopNo (bodyOf Tryz.f62) 0)) (kcast (by kernel_rfl : True = AllB (LoopsP C (x62 f0 (fun _ => none) (fun _ => none) (fun _ => none) (fun _ => none))) (loopsIn (loopNo (bodyOf Tryz.f62) 0))) trivial)) (cut := c62l3) (alts := [.ret, .exit 0]) (F := f0) (fun v out h => h0 v out h C hP hN) h
theorem n_62l3_pc : ∀ v out, n_62l3 v = some out → (fun v out => ∀ C : Ctx, C.P = prog → C.N = 23 → AWpL C (loopNo (bodyOf Tryz.f62) 0) (encS vw (conc vw c62l3 v)) (OutQ sh62 [.ret, .exit 0] out)) v out := (n_62l3.partial_correctness (motive := mn_62l3) (fun f0 h0 v r h => sn_62l3 f0 h0 v r (kcast (by kernel_rfl) h)))
abbrev mn_118c62l2 (v : (List Tag) × Int × Int × Unit) (r : ((Int × Unit) ⊕ (Unit))) : Prop := (fun v out => ∀ C : Ctx, C.P = prog → C.N = 19 → AWpL C (loopNo (bodyOf Tryz.f118) 0) (encS vw (conc vw c118c62l2 v)) (OutQ sh118c62 [.ret, .exit 0] out)) v r
abbrev mn_62 (v : Tag × Unit) (r : Bool × Unit) : Prop := (fun v r => ∀ x, resV prog sig62 r = some x → FnOk prog 62 (encL vw (startS sig62 v).len (startOs sig62 v).1) (encOs (startS sig62 v).len (startS sig62 v).own) (encV vw (conc vw sig62.rcut r).len x) (encOs (conc vw sig62.rcut r).len (kept sig62 r))) v r
abbrev mn_89c62 (v : (List Tag) × Unit) (r : Bool × Unit) : Prop := (fun v r => ∀ x, resV prog sig89c62 r = some x → FnOk prog 89 (encL vw (startS sig89c62 v).len (startOs sig89c62 v).1) (encOs (startS sig89c62 v).len (startS sig89c62 v).own) (encV vw (conc vw sig89c62.rcut r).len x) (encOs (conc vw sig89c62.rcut r).len (kept sig89c62 r))) v r
abbrev mn_118c62 (v : (List Tag) × Unit) (r : Int × Unit) : Prop := (fun v r => ∀ x, resV prog sig118c62 r = some x → FnOk prog 118 (encL vw (startS sig118c62 v).len (startOs sig118c62 v).1) (encOs (startS sig118c62 v).len (startS sig118c62 v).own) (encV vw (conc vw sig118c62.rcut r).len x) (encOs (conc vw sig118c62.rcut r).len (kept sig118c62 r))) v r
theorem cn_118c62l2 (f0 : (List Tag) × Int × Int × Unit → Option (((Int × Unit) ⊕ (Unit)))) (f1 : Tag × Unit → Option (Bool × Unit)) (h0 : ∀ v r, f0 v = some r → mn_118c62l2 v r) (h1 : ∀ v r, f1 v = some r → mn_62 v r) : CallerOk prog (x118c62 (fun _ => none) f0 f1 (fun _ => none) (fun _ => none)).call := (by
    intro A fid args S dst k r h
    unfold x118c62 call118c62 at h
    simp only at h
    split at h
    ·exact callPure_ok ((fun v r x h hx => h1 v r h x hx)) rfl rfl h
    ·cases h)
theorem sn_118c62l2 (f0 : (List Tag) × Int × Int × Unit → Option (((Int × Unit) ⊕ (Unit)))) (f1 : Tag × Unit → Option (Bool × Unit)) (h0 : ∀ v r, f0 v = some r → mn_118c62l2 v r) (h1 : ∀ v r, f1 v = some r → mn_62 v r) (v : (List Tag) × Int × Int × Unit) (r : ((Int × Unit) ⊕ (Unit))) (h : exL (x118c62 (fun _ => none) f0 f1 (fun _ => none) (fun _ => none)) (loopNo (bodyOf Tryz.f118) 0) c118c62l2 [.ret, .exit 0] f0 v = some r) : mn_118c62l2 v r := fun C hP hN => loop_step (X := x118c62 (fun _ => none) f0 f1 (fun _ => none) (fun _ => none)) (b := (loopNo (bodyOf Tryz.f118) 0)) hP hN Ty.mixed (cn_118c62l2 f0 f1 h0 h1) (lok_all (X := x118c62 (fun _ => none) f0 f1 (fun _ => none) (fun _ => none)) (c := (loopNo (bodyOf Tryz.f118) 0)) (kcast (by kernel_rfl : True = AllB (LoopsP C (x118c62 (fun _ => none) f0 f1 (fun _ => none) (fun _ => none))) (loopsIn (loopNo (bodyOf Tryz.f118) 0))) trivial)) (cut := c118c62l2) (alts := [.ret, .exit 0]) (F := f0) (fun v out h => h0 v out h C hP hN) h
theorem cn_62 (f0 : (List Tag) × Unit → Option (Bool × Unit)) (h0 : ∀ v r, f0 v = some r → mn_89c62 v r) : CallerOk prog (x62 n_62l3 (fun _ => none) (fun _ => none) f0 (fun _ => none)).call := (by
    intro A fid args S dst k r h
    unfold x62 call62 at h
    simp only at h
    split at h
    ·exact callPure_ok ((fun v r x h hx => h0 v r h x hx)) rfl rfl h
    ·cases h)
theorem sn_62 (f0 : (List Tag) × Unit → Option (Bool × Unit)) (h0 : ∀ v r, f0 v = some r → mn_89c62 v r) (v : Tag × Unit) (r : Bool × Unit) (h : exF (x62 n_62l3 (fun _ => none) (fun _ => none) f0 (fun _ => none)) sig62 rfl (bodyOf Tryz.f62) v = some r) : mn_62 v r := fun x hx => fn_ok (X := x62 n_62l3 (fun _ => none) (fun _ => none) f0 (fun _ => none)) (sig := sig62) rfl Tryz.func62 (c := bodyOf Tryz.f62) (by kernel_rfl) Tryz.ntmps62 (by kernel_rfl) (by kernel_rfl) rfl Ty.mixed (cn_62 f0 h0) rfl (fun C hP hN => (lok_all (X := x62 n_62l3 (fun _ => none) (fun _ => none) f0 (fun _ => none)) (c := (bodyOf Tryz.f62)) (kcast (by kernel_rfl : AllB (LoopsP C (x62 n_62l3 (fun _ => none) (fun _ => none) f0 (fun _ => none))) [(loopNo (bodyOf Tryz.f62) 0)] = AllB (LoopsP C (x62 n_62l3 (fun _ => none) (fun _ => none) f0 (fun _ => none))) (loopsIn (bodyOf Tryz.f62))) ⟨loop_at (X := x62 n_62l3 (fun _ => none) (fun _ => none) f0 (fun _ => none)) (b := (loopNo (bodyOf Tryz.f62) 0)) (by kernel_rfl) (show LoopOk C (loopNo (bodyOf Tryz.f62) 0) (sh := sh62) { cut := c62l3, alts := [.ret, .exit 0], F := n_62l3 } from fun v out h => n_62l3_pc v out h C hP hN), trivial⟩))) h x hx
theorem cn_89c62 (f0 : (List Tag) × Unit → Option (Int × Unit)) (h0 : ∀ v r, f0 v = some r → mn_118c62 v r) : CallerOk prog (x89c62 (fun _ => none) (fun _ => none) (fun _ => none) (fun _ => none) f0).call := (by
    intro A fid args S dst k r h
    unfold x89c62 call89c62 at h
    simp only at h
    split at h
    ·exact callPure_ok ((fun v r x h hx => h0 v r h x hx)) rfl rfl h
    ·cases h)
theorem sn_89c62 (f0 : (List Tag) × Unit → Option (Int × Unit)) (h0 : ∀ v r, f0 v = some r → mn_118c62 v r) (v : (List Tag) × Unit) (r : Bool × Unit) (h : exF (x89c62 (fun _ => none) (fun _ => none) (fun _ => none) (fun _ => none) f0) sig89c62 rfl (bodyOf Tryz.f89) v = some r) : mn_89c62 v r := fun x hx => fn_ok (X := x89c62 (fun _ => none) (fun _ => none) (fun _ => none) (fun _ => none) f0) (sig := sig89c62) rfl Tryz.func89 (c := bodyOf Tryz.f89) (by kernel_rfl) Tryz.ntmps89 (by kernel_rfl) (by kernel_rfl) rfl Ty.mixed (cn_89c62 f0 h0) rfl (fun C hP hN => (lok_all (X := x89c62 (fun _ => none) (fun _ => none) (fun _ => none) (fun _ => none) f0) (c := (bodyOf Tryz.f89)) (kcast (by kernel_rfl : True = AllB (LoopsP C (x89c62 (fun _ => none) (fun _ => none) (fun _ => none) (fun _ => none) f0)) (loopsIn (bodyOf Tryz.f89))) trivial))) h x hx
theorem cn_118c62 (f0 : (List Tag) × Int × Int × Unit → Option (((Int × Unit) ⊕ (Unit)))) (h0 : ∀ v r, f0 v = some r → mn_118c62l2 v r) : CallerOk prog (x118c62 (fun _ => none) f0 (fun _ => none) (fun _ => none) (fun _ => none)).call := (by
    intro A fid args S dst k r h
    unfold x118c62 call118c62 at h
    simp only at h
    split at h
    ·exact callPure_ok ((fun v r x h hx => by cases h)) rfl rfl h
    ·cases h)
theorem sn_118c62 (f0 : (List Tag) × Int × Int × Unit → Option (((Int × Unit) ⊕ (Unit)))) (h0 : ∀ v r, f0 v = some r → mn_118c62l2 v r) (v : (List Tag) × Unit) (r : Int × Unit) (h : exF (x118c62 (fun _ => none) f0 (fun _ => none) (fun _ => none) (fun _ => none)) sig118c62 rfl (bodyOf Tryz.f118) v = some r) : mn_118c62 v r := fun x hx => fn_ok (X := x118c62 (fun _ => none) f0 (fun _ => none) (fun _ => none) (fun _ => none)) (sig := sig118c62) rfl Tryz.func118 (c := bodyOf Tryz.f118) (by kernel_rfl) Tryz.ntmps118 (by kernel_rfl) (by kernel_rfl) rfl Ty.mixed (cn_118c62 f0 h0) rfl (fun C hP hN => (lok_all (X := x118c62 (fun _ => none) f0 (fun _ => none) (fun _ => none) (fun _ => none)) (c := (bodyOf Tryz.f118)) (kcast (by kernel_rfl : AllB (LoopsP C (x118c62 (fun _ => none) f0 (fun _ => none) (fun _ => none) (fun _ => none))) [(loopNo (bodyOf Tryz.f118) 0)] = AllB (LoopsP C (x118c62 (fun _ => none) f0 (fun _ => none) (fun _ => none) (fun _ => none))) (loopsIn (bodyOf Tryz.f118))) ⟨loop_at (X := x118c62 (fun _ => none) f0 (fun _ => none) (fun _ => none) (fun _ => none)) (b := (loopNo (bodyOf Tryz.f118) 0)) (by kernel_rfl) (show LoopOk C (loopNo (bodyOf Tryz.f118) 0) (sh := sh118c62) { cut := c118c62l2, alts := [.ret, .exit 0], F := f0 } from fun v out h => h0 v out h C hP hN), trivial⟩))) h x hx
theorem n_118c62l2_all : (∀ v r, n_118c62l2 v = some r → mn_118c62l2 v r) ∧ (∀ v r, n_62 v = some r → mn_62 v r) ∧ (∀ v r, n_89c62 v = some r → mn_89c62 v r) ∧ (∀ v r, n_118c62 v = some r → mn_118c62 v r) := by
 refine n_118c62l2.mutual_partial_correctness
  (motive_1 := mn_118c62l2)
  (motive_2 := mn_62)
  (motive_3 := mn_89c62)
  (motive_4 := mn_118c62)
  ?_ ?_ ?_ ?_
 ·exact (fun f0 f1 h0 h1 v r h => sn_118c62l2 f0 f1 h0 h1 v r (kcast (by kernel_rfl) h))
 ·exact (fun f0 h0 v r h => sn_62 f0 h0 v r (kcast (by kernel_rfl) h))
 ·exact (fun f0 h0 v r h => sn_89c62 f0 h0 v r (kcast (by kernel_rfl) h))
 ·exact (fun f0 h0 v r h => sn_118c62 f0 h0 v r (kcast (by kernel_rfl) h))
theorem n_62_ok : SigOk prog 62 sig62 n_62 := fun v r x h hx => n_118c62l2_all.2.1 v r h x hx
noncomputable def c29r2 : Cut SN := ⟨[(1, .bp 1 0), (6, .dat .bool)], [(1, .st .tagT)]⟩
noncomputable def c29z : Cut SN := ⟨[(2, .dat (.int .i64))], []⟩
noncomputable def sh29 : Shape vw := { rcut := c29z }
noncomputable def sig29 : Sig vw := { params := [.dat (.st .tagT)], rcut := c29z, rvars := [.tmp 2] }
noncomputable def n_29 (v : Tag × Unit) : Option (Int × Unit) :=
 n_58 (v.1, ()) >>= fun x1 =>
 (if decide (x1.1.depth > (20 : Int)) = true then
    some ((true, v.1, ()))
   else if decide (x1.1.pieces > (500 : Int)) = true then
    some ((true, v.1, ()))
   else some ((decide (x1.1.bytes > (4096 : Int)), v.1, ()))) >>= fun x2 =>
 if x2.1 = true then
  some (((3 : Int), ()))
 else n_61 (x2.2.1, ()) >>= fun x3 =>
 if (!x3.1) = true then
  some (((1 : Int), ()))
 else n_62 (x2.2.1, ()) >>= fun x4 =>
 if x4.1 = true then
  some (((5 : Int), ()))
 else some (((0 : Int), ()))
noncomputable def call29 : Caller vw := fun A fid args S k => match fid with | 58 => callPure prog sig58 n_58 A args S k | 61 => callPure prog sig61 n_61 A args S k | 62 => callPure prog sig62 n_62 A args S k | _ => none
noncomputable def x29 : Xc vw := { P := prog, n := 27, call := call29, sh := sh29, regs := fun k => match k with | 2 => some c29r2 | _ => none }
theorem call29_ok : CallerOk prog call29 := fun A fid args S dst k r h => by
 unfold call29 at h
 split at h
 ·exact callPure_ok (n_58_ok) rfl rfl h
 ·exact callPure_ok (n_61_ok) rfl rfl h
 ·exact callPure_ok (n_62_ok) rfl rfl h
 ·cases h
theorem n_29_ok : SigOk prog 29 sig29 n_29 := fun v r x h hx =>
 fn_ok (X := x29) (sig := sig29) rfl Tryz.func29 (c := bodyOf Tryz.f29) (by kernel_rfl) Tryz.ntmps29 (by kernel_rfl) (by kernel_rfl) rfl Ty.mixed call29_ok rfl (fun C hP hN => (lok_all (kcast (by kernel_rfl) trivial))) (kcast (by kernel_rfl) h) x hx
noncomputable def c77l2 : Cut SN := ⟨[(0, .dat (.sl .str)), (1, .dat .str), (7, .dat (.int .i64)), (8, .dat (.int .i64))], []⟩
noncomputable def sh77 : Shape vw := { exits := fun id => match id with | 0 => c117c86e0 | _ => ⟨[], []⟩, rcut := c117c86z }
noncomputable def sig77 : Sig vw := { params := [.dat (.sl .str), .dat .str], rcut := c117c86z, rvars := [.tmp 4] }
noncomputable def n_77l2 (v : (List ByteArray) × ByteArray × Int × Int × Unit) : Option (((Int × Unit) ⊕ (Unit))) :=
 if decide (v.2.2.2.1 < v.2.2.1) = true then
  if (0 : Int) ≤ v.2.2.2.1 then
   v.1[v.2.2.2.1.toNat]? >>= fun x1 =>
   if (v.2.1.toList == x1.toList) = true then
    some (Sum.inl (v.2.2.2.1, ()))
   else n_77l2 (v.1, v.2.1, v.2.2.1, i64.wrap (v.2.2.2.1 + (1 : Int)), ())
  else none
 else some (Sum.inr ())
 partial_fixpoint
noncomputable def n_77 (v : (List ByteArray) × ByteArray × Unit) : Option (Int × Unit) :=
 n_77l2 (v.1, v.2.1, (↑v.1.length : Int), (0 : Int), ()) >>= fun x1 => match x1 with
  | .inl y1 => some y1
  | .inr y1 => some (((-1 : Int), ()))
noncomputable def call77 : Caller vw := fun _ _ _ _ _ => none
noncomputable def x77 : Xc vw := { P := prog, n := 19, call := call77, sh := sh77, loops := fun k => match k with | 2 => some { cut := c77l2, alts := [.ret, .exit 0], F := n_77l2 } | _ => none }
theorem call77_ok : CallerOk prog call77 := call_none
theorem n_77l2_ok (C : Ctx) (hP : C.P = prog) (hN : C.N = 19) : LoopOk C (loopNo (bodyOf Tryz.f77) 0) (sh := sh77) { cut := c77l2, alts := [.ret, .exit 0], F := n_77l2 } :=
 n_77l2.partial_correctness (motive := fun v out => AWpL C (loopNo (bodyOf Tryz.f77) 0) (encS vw (conc vw c77l2 v)) (OutQ sh77 [.ret, .exit 0] out)) fun F ih v out h =>
  loop_step (X := x77) (b := (loopNo (bodyOf Tryz.f77) 0)) hP hN Ty.mixed call77_ok (lok_all (X := x77) (c := (loopNo (bodyOf Tryz.f77) 0)) (kcast (by kernel_rfl : True = AllB (LoopsP C (x77)) (loopsIn (loopNo (bodyOf Tryz.f77) 0))) trivial)) ih (kcast (by kernel_rfl) h)
theorem n_77_ok : SigOk prog 77 sig77 n_77 := fun v r x h hx =>
 fn_ok (X := x77) (sig := sig77) rfl Tryz.func77 (c := bodyOf Tryz.f77) (by kernel_rfl) Tryz.ntmps77 (by kernel_rfl) (by kernel_rfl) rfl Ty.mixed call77_ok rfl (fun C hP hN => (lok_all (kcast (by kernel_rfl : AllB (LoopsP C (x77)) [(loopNo (bodyOf Tryz.f77) 0)] = AllB (LoopsP C (x77)) (loopsIn (bodyOf Tryz.f77))) ⟨loop_at (X := x77) (b := (loopNo (bodyOf Tryz.f77) 0)) (by kernel_rfl) (n_77l2_ok C hP hN), trivial⟩))) (kcast (by kernel_rfl) h) x hx
noncomputable def c78z : Cut SN := ⟨[(2, .dat (.int .i64)), (3, .dat .er)], []⟩
noncomputable def sig78 : Sig vw := { params := [.dat .str], rcut := c78z, rvars := [.tmp 2, .tmp 3] }
noncomputable def n_78 (v : ByteArray × Unit) : Option (Int × Bool × Unit) :=
 if v.1.size ≤ 1000000000000 then (match Lib.atoiAll v.1.data.toList with | .ok n => some (n, false, ()) | .range => some (Lib.atoiSat v.1.data.toList, true, ()) | _ => some (0, true, ())) else none
theorem n_78_ok : SigOk prog 78 sig78 n_78 := fun v r x h hx => by
 obtain ⟨s, u⟩ := v
 unfold n_78 at h
 split at h
 ·rename_i hc
  simp only at hc h
  cases hq : Lib.atoiAll s.data.toList with
  | ok n =>
   simp only [hq] at h
   cases h; cases hx
   exact kcast (by kernel_rfl) (FnOk.pure (P := prog) (f := 78) (args := [.d (.v (.string s))]) (r := .tup [.d (.v (.int .i64 n)), .d (.er false)]) (by kernel_rfl) fun E M w vs hg hm hv => by
    obtain ⟨v1, rfl, h1⟩ := hreps_one hv
    rw [h1.dv]
    exact (Tryz.strconv_Atoi_ok s (by omega) n hq w).mono fun e w' ⟨he, hw⟩ => ⟨_, he, hrep_er .ern, below_bytes hw⟩)
  | range =>
   simp only [hq] at h
   cases h; cases hx
   exact kcast (by kernel_rfl) (FnOk.pure (P := prog) (f := 78) (args := [.d (.v (.string s))]) (r := .tup [.d (.v (.int .i64 (Lib.atoiSat s.data.toList))), .d (.er true)]) (by kernel_rfl) fun E M w vs hg hm hv => by
    obtain ⟨v1, rfl, h1⟩ := hreps_one hv
    rw [h1.dv]
    obtain ⟨te, pe, hev⟩ := gm_range hg hm
    exact (Tryz.strconv_Atoi_range s (by omega) hq _ w hev (.inr ⟨te, pe, rfl⟩)).mono fun e w' ⟨N, he, _, _, hw⟩ => ⟨_, he, hrep_er (.ere _ _), hw⟩)
  | _ =>
   simp only [hq] at h
   cases h; cases hx
   exact kcast (by kernel_rfl) (FnOk.pure (P := prog) (f := 78) (args := [.d (.v (.string s))]) (r := .tup [.d (.v (.int .i64 0)), .d (.er true)]) (by kernel_rfl) fun E M w vs hg hm hv => by
    obtain ⟨v1, rfl, h1⟩ := hreps_one hv
    rw [h1.dv]
    obtain ⟨te, pe, hev⟩ := gm_syntax hg hm
    exact (Tryz.strconv_Atoi_syntax s (by omega) ⟨fun n hn => (by rw [hq] at hn; cases hn), fun hn => (by rw [hq] at hn; cases hn)⟩ _ w hev (.inr ⟨te, pe, rfl⟩)).mono fun e w' ⟨N, he, _, _, hw⟩ => ⟨_, he, hrep_er (.ere _ _), hw⟩)
 ·cases h
noncomputable def c79z : Cut SN := ⟨[(2, .dat .str)], []⟩
noncomputable def sig79 : Sig vw := { params := [.dat (.int .i64)], rcut := c79z, rvars := [.tmp 2] }
noncomputable def n_79 (v : Int × Unit) : Option (ByteArray × Unit) :=
 if -9223372036854775808 ≤ v.1 ∧ v.1 ≤ 9223372036854775807 then some (⟨(Lib.itoa v.1).toArray⟩, ()) else none
theorem n_79_ok : SigOk prog 79 sig79 n_79 := fun v r x h hx => by
 obtain ⟨n, u⟩ := v
 unfold n_79 at h
 split at h
 ·rename_i hc
  obtain ⟨h0, h1⟩ := hc
  simp only at h0 h1
  cases h; cases hx
  exact kcast (by kernel_rfl) (FnOk.pure (P := prog) (f := 79) (args := [.d (.v (.int .i64 n))]) (r := .d (.v (.string ⟨(Lib.itoa n).toArray⟩))) (by kernel_rfl) fun E M w vs hg hm hv => by
   obtain ⟨v1, rfl, h2⟩ := hreps_one hv
   rw [h2.dv]
   exact (Tryz.strconv_Itoa n h0 h1 w (tab_pow10 hg hm)).mono fun e w' ⟨he, k, os, hw⟩ => ⟨_, he, .d (.v _), hw ▸ Lib.below_grow _ w (Nat.le_refl _) k os⟩)
 ·cases h
noncomputable def c55r4 : Cut SN := ⟨[(5, .dat (.int .i64)), (42, .dat .bool)], []⟩
noncomputable def sh55 : Shape vw := { rcut := c117c86z }
noncomputable def sig55 : Sig vw := { params := [.dat (.st .tagT), .dat .str], rcut := c117c86z, rvars := [.tmp 4] }
noncomputable def n_55 (v : Tag × ByteArray × Unit) : Option (Int × Unit) :=
 if (v.1.kind == (6 : Int)) = true then
  n_77 (v.1.names, v.2.1, ()) >>= fun x1 =>
  some ((x1.1, ()))
 else n_78 (v.2.1, ()) >>= fun x1 =>
 (if (v.1.kind != (5 : Int)) = true then
    some ((x1.1, true, ()))
   else if x1.2.1 = true then
    some ((x1.1, true, ()))
   else if decide (x1.1 < (0 : Int)) = true then
    some ((x1.1, true, ()))
   else if decide (x1.1 > (↑v.1.parts.length : Int)) = true then
    some ((x1.1, true, ()))
   else n_79 (x1.1, ()) >>= fun x2 =>
   some ((x1.1, !x2.1.toList == v.2.1.toList, ()))) >>= fun x2 =>
 if x2.2.1 = true then
  some (((-1 : Int), ()))
 else some ((x2.1, ()))
noncomputable def call55 : Caller vw := fun A fid args S k => match fid with | 77 => callPure prog sig77 n_77 A args S k | 78 => callPure prog sig78 n_78 A args S k | 79 => callPure prog sig79 n_79 A args S k | _ => none
noncomputable def x55 : Xc vw := { P := prog, n := 44, call := call55, sh := sh55, regs := fun k => match k with | 4 => some c55r4 | _ => none }
theorem call55_ok : CallerOk prog call55 := fun A fid args S dst k r h => by
 unfold call55 at h
 split at h
 ·exact callPure_ok (n_77_ok) rfl rfl h
 ·exact callPure_ok (n_78_ok) rfl rfl h
 ·exact callPure_ok (n_79_ok) rfl rfl h
 ·cases h
theorem n_55_ok : SigOk prog 55 sig55 n_55 := fun v r x h hx =>
 fn_ok (X := x55) (sig := sig55) rfl Tryz.func55 (c := bodyOf Tryz.f55) (by kernel_rfl) Tryz.ntmps55 (by kernel_rfl) (by kernel_rfl) rfl Ty.mixed call55_ok rfl (fun C hP hN => (lok_all (kcast (by kernel_rfl) trivial))) (kcast (by kernel_rfl) h) x hx
noncomputable def c44l2 : Cut SN := ⟨[(2, .bp 2 0), (4, .bp 4 0), (9, .dat (.sl .str)), (10, .dat (.int .i64)), (11, .dat (.int .i64))], [(2, .st .tagT), (4, .st .tagT)]⟩
noncomputable def c44r5 : Cut SN := ⟨[(2, .bp 2 0), (4, .bp 4 0), (8, .dat (.int .i64)), (9, .dat (.sl .str)), (10, .dat (.int .i64)), (11, .dat (.int .i64)), (26, .dat .bool)], [(2, .st .tagT), (4, .st .tagT)]⟩
noncomputable def c44e0 : Cut SN := ⟨[(2, .bp 2 0), (4, .bp 4 0)], [(2, .st .tagT), (4, .st .tagT)]⟩
noncomputable def c44z : Cut SN := ⟨[(4, .bp 4 0), (5, .dat .bool)], [(4, .st .tagT)]⟩
noncomputable def sh44 : Shape vw := { exits := fun id => match id with | 0 => c44e0 | _ => ⟨[], []⟩, rcut := c44z }
noncomputable def sig44 : Sig vw := { params := [.dat (.st .tagT), .dat (.sl .str)], rcut := c44z, rvars := [.cell 4 25, .tmp 5] }
noncomputable def n_44l2 (v : (List ByteArray) × Int × Int × Tag × Tag × Unit) : Option (((Bool × Tag × Unit) ⊕ (Tag × Tag × Unit))) :=
 if decide (v.2.2.1 < v.2.1) = true then
  if (0 : Int) ≤ v.2.2.1 then
   v.1[v.2.2.1.toNat]? >>= fun x1 =>
   n_55 (v.2.2.2.1, x1, ()) >>= fun x2 =>
   (if decide (x2.1 < (0 : Int)) = true then
      some ((x2.1, v.1, v.2.1, v.2.2.1, true, v.2.2.2.1, v.2.2.2.2.1, ()))
     else some ((x2.1, v.1, v.2.1, v.2.2.1, decide (x2.1 ≥ (↑v.2.2.2.1.parts.length : Int)), v.2.2.2.1, v.2.2.2.2.1, ()))) >>= fun x3 =>
   if x3.2.2.2.2.1 = true then
    some (Sum.inl (false, Tag.mk (0 : Int) (0 : Int) (ByteArray.mk #[]) [] [], ()))
   else if (0 : Int) ≤ x3.1 then
    x3.2.2.2.2.2.1.parts[x3.1.toNat]? >>= fun x4 =>
    n_44l2 (x3.2.1, x3.2.2.1, i64.wrap (x3.2.2.2.1 + (1 : Int)), x4, x3.2.2.2.2.2.2.1, ())
   else none
  else none
 else some (Sum.inr (v.2.2.2.1, v.2.2.2.2.1, ()))
 partial_fixpoint
noncomputable def n_44 (v : Tag × (List ByteArray) × Unit) : Option (Bool × Tag × Unit) :=
 n_44l2 (v.2.1, (↑v.2.1.length : Int), (0 : Int), v.1, Tag.mk (0 : Int) (0 : Int) (ByteArray.mk #[]) [] [], ()) >>= fun x1 => match x1 with
  | .inl y1 => some y1
  | .inr y1 => some ((true, y1.1, ()))
noncomputable def call44 : Caller vw := fun A fid args S k => match fid with | 55 => callPure prog sig55 n_55 A args S k | _ => none
noncomputable def x44 : Xc vw := { P := prog, n := 35, call := call44, sh := sh44, regs := fun k => match k with | 5 => some c44r5 | _ => none, loops := fun k => match k with | 2 => some { cut := c44l2, alts := [.ret, .exit 0], F := n_44l2 } | _ => none }
theorem call44_ok : CallerOk prog call44 := fun A fid args S dst k r h => by
 unfold call44 at h
 split at h
 ·exact callPure_ok (n_55_ok) rfl rfl h
 ·cases h
theorem n_44l2_ok (C : Ctx) (hP : C.P = prog) (hN : C.N = 35) : LoopOk C (loopNo (bodyOf Tryz.f44) 0) (sh := sh44) { cut := c44l2, alts := [.ret, .exit 0], F := n_44l2 } :=
 n_44l2.partial_correctness (motive := fun v out => AWpL C (loopNo (bodyOf Tryz.f44) 0) (encS vw (conc vw c44l2 v)) (OutQ sh44 [.ret, .exit 0] out)) fun F ih v out h =>
  loop_step (X := x44) (b := (loopNo (bodyOf Tryz.f44) 0)) hP hN Ty.mixed call44_ok (lok_all (X := x44) (c := (loopNo (bodyOf Tryz.f44) 0)) (kcast (by kernel_rfl : True = AllB (LoopsP C (x44)) (loopsIn (loopNo (bodyOf Tryz.f44) 0))) trivial)) ih (kcast (by kernel_rfl) h)
theorem n_44_ok : SigOk prog 44 sig44 n_44 := fun v r x h hx =>
 fn_ok (X := x44) (sig := sig44) rfl Tryz.func44 (c := bodyOf Tryz.f44) (by kernel_rfl) Tryz.ntmps44 (by kernel_rfl) (by kernel_rfl) rfl Ty.mixed call44_ok rfl (fun C hP hN => (lok_all (kcast (by kernel_rfl : AllB (LoopsP C (x44)) [(loopNo (bodyOf Tryz.f44) 0)] = AllB (LoopsP C (x44)) (loopsIn (bodyOf Tryz.f44))) ⟨loop_at (X := x44) (b := (loopNo (bodyOf Tryz.f44) 0)) (by kernel_rfl) (n_44l2_ok C hP hN), trivial⟩))) (kcast (by kernel_rfl) h) x hx
noncomputable def c75z : Cut SN := ⟨[(2, .dat (.sl .str))], []⟩
noncomputable def sh75 : Shape vw := { rcut := c75z }
noncomputable def sig75 : Sig vw := { params := [.dat (.sl .str)], rcut := c75z, rvars := [.tmp 2] }
noncomputable def n_75 (v : (List ByteArray) × Unit) : Option ((List ByteArray) × Unit) :=
 if v.1.length ≤ 4294967296 then some (v.1, ()) else none
noncomputable def call75 : Caller vw := fun _ _ _ _ _ => none
noncomputable def x75 : Xc vw := { P := prog, n := 8, nm := fun d => match d with | 5 => 40005 | _ => d, call := call75, sh := sh75 }
theorem call75_ok : CallerOk prog call75 := call_none
theorem n_75_ok : SigOk prog 75 sig75 n_75 := fun v r x h hx => by
 unfold n_75 at h
 split at h
 ·rename_i hlen
  cases h; cases hx
  refine kcast (by kernel_rfl) (fn_split (P := prog) (f := 75) (sz := 1) (rows := (v.1.map fun y => Go.Tx.encR szN encN .str y)) (r := .d (.sl 1 (v.1.map fun y => Go.Tx.encR szN encN .str y))) (own' := []) (fun hne => ?_) (fun he => ?_) (fun he a cap => ?_))
  ·obtain ⟨l, u⟩ := v
   cases l with
   | nil => simp at hne
   | cons y ys =>
    have e : exF x75 sig75 rfl (bodyOf Tryz.f75) (y :: ys, ()) = if ([] : (List ByteArray)).length + (y :: ys).length ≤ most then some ([] ++ (y :: ys), ()) else none := by kernel_rfl
    rw [if_pos (by simp only [List.length_nil, Nat.zero_add]; exact hlen)] at e
    exact kcast (by kernel_rfl) (fn_ok (X := x75) (sig := sig75) rfl Tryz.func75 (c := bodyOf Tryz.f75) (by kernel_rfl) Tryz.ntmps75 (by kernel_rfl) (by kernel_rfl) rfl Ty.mixed call75_ok rfl (fun C hP hN => (lok_all (kcast (by kernel_rfl) trivial))) (v := (y :: ys, ())) e (.lf (.sl .str) (y :: ys)) rfl)
  ·have hv : v.1 = [] := by simpa using he
   obtain ⟨l, u⟩ := v
   cases hv
   exact kcast (by kernel_rfl) (fn_okS (X := x75) (sig := sig75) rfl Tryz.func75 (c := bodyOf Tryz.f75) (by kernel_rfl) Tryz.ntmps75 (by kernel_rfl) (by kernel_rfl) Ty.mixed call75_ok rfl (fun C hP hN => (lok_all (kcast (by kernel_rfl) trivial))) (xs := [.raw (.slice none 0 0)]) (by kernel_rfl) (r := ([], ())) (by kernel_rfl) (.lf (.sl .str) []) rfl)
  ·have hv : v.1 = [] := by simpa using he
   obtain ⟨l, u⟩ := v
   cases hv
   exact kcast (by kernel_rfl) (fn_okS (X := x75) (sig := sig75) rfl Tryz.func75 (c := bodyOf Tryz.f75) (by kernel_rfl) Tryz.ntmps75 (by kernel_rfl) (by kernel_rfl) Ty.mixed call75_ok rfl (fun C hP hN => (lok_all (kcast (by kernel_rfl) trivial))) (xs := [.raw (.slice (some a) 0 cap)]) (by kernel_rfl) (r := ([], ())) (by kernel_rfl) (.lf (.sl .str) []) rfl)
 ·cases h
noncomputable def c45l4 : Cut SN := ⟨[(1, .bp 1 0), (2, .bp 2 0), (3, .vh 1003), (11, .dat (.sl (.st .tagT))), (12, .dat (.int .i64)), (13, .dat (.int .i64))], [(1, .st .tagT), (2, .st .tagT), (1003, .vec 25 (.st .tagT))]⟩
noncomputable def c45e0 : Cut SN := ⟨[(1, .bp 1 0), (2, .bp 2 0), (3, .vh 1003)], [(1, .st .tagT), (2, .st .tagT), (1003, .vec 25 (.st .tagT))]⟩
noncomputable def c45z : Cut SN := ⟨[(2, .bp 2 0)], [(2, .st .tagT)]⟩
noncomputable def sh45 : Shape vw := { exits := fun id => match id with | 0 => c45e0 | _ => ⟨[], []⟩, rcut := c45z }
noncomputable def sig45 : Sig vw := { params := [.dat (.st .tagT)], rcut := c45z, rvars := [.cell 2 25] }
mutual
noncomputable def n_45l4 (v : (List Tag) × Int × Int × Tag × Tag × (List Tag) × Unit) : Option ((Tag × Tag × (List Tag) × Unit)) :=
 if decide (v.2.2.1 < v.2.1) = true then
  if (0 : Int) ≤ v.2.2.1 then
   v.1[v.2.2.1.toNat]? >>= fun x1 =>
   n_45 (x1, ()) >>= fun x2 =>
   if v.2.2.2.2.2.1.length + [x2.1].length ≤ (4294967296 : Nat) then
    n_45l4 (v.1, v.2.1, i64.wrap (v.2.2.1 + (1 : Int)), v.2.2.2.1, v.2.2.2.2.1, v.2.2.2.2.2.1 ++ [x2.1], ())
   else none
  else none
 else some ((v.2.2.2.1, v.2.2.2.2.1, v.2.2.2.2.2.1, ()))
 partial_fixpoint
noncomputable def n_45 (v : Tag × Unit) : Option (Tag × Unit) :=
 n_75 (v.1.names, ()) >>= fun x1 =>
 n_45l4 (v.1.parts, (↑v.1.parts.length : Int), (0 : Int), Tag.mk v.1.kind v.1.n v.1.text x1.1 v.1.parts, Tag.mk (0 : Int) (0 : Int) (ByteArray.mk #[]) [] [], [], ()) >>= fun x2 =>
 some ((Tag.mk x2.1.kind x2.1.n x2.1.text x2.1.names x2.2.2.1, ()))
 partial_fixpoint
end
noncomputable def call45 (n_45l4 : (List Tag) × Int × Int × Tag × Tag × (List Tag) × Unit → Option ((Tag × Tag × (List Tag) × Unit))) (n_45 : Tag × Unit → Option (Tag × Unit)) : Caller vw := fun A fid args S k => match fid with | 45 => callPure prog sig45 n_45 A args S k | 75 => callPure prog sig75 n_75 A args S k | _ => none
noncomputable def x45 (n_45l4 : (List Tag) × Int × Int × Tag × Tag × (List Tag) × Unit → Option ((Tag × Tag × (List Tag) × Unit))) (n_45 : Tag × Unit → Option (Tag × Unit)) : Xc vw := { P := prog, n := 26, call := call45 n_45l4 n_45, sh := sh45, loops := fun k => match k with | 4 => some { cut := c45l4, alts := [.exit 0], F := n_45l4 } | _ => none }
abbrev mn_45l4 (v : (List Tag) × Int × Int × Tag × Tag × (List Tag) × Unit) (r : (Tag × Tag × (List Tag) × Unit)) : Prop := (fun v out => ∀ C : Ctx, C.P = prog → C.N = 26 → AWpL C (loopNo (bodyOf Tryz.f45) 0) (encS vw (conc vw c45l4 v)) (OutQ sh45 [.exit 0] out)) v r
abbrev mn_45 (v : Tag × Unit) (r : Tag × Unit) : Prop := (fun v r => ∀ x, resV prog sig45 r = some x → FnOk prog 45 (encL vw (startS sig45 v).len (startOs sig45 v).1) (encOs (startS sig45 v).len (startS sig45 v).own) (encV vw (conc vw sig45.rcut r).len x) (encOs (conc vw sig45.rcut r).len (kept sig45 r))) v r
theorem cn_45l4 (f0 : (List Tag) × Int × Int × Tag × Tag × (List Tag) × Unit → Option ((Tag × Tag × (List Tag) × Unit))) (f1 : Tag × Unit → Option (Tag × Unit)) (h0 : ∀ v r, f0 v = some r → mn_45l4 v r) (h1 : ∀ v r, f1 v = some r → mn_45 v r) : CallerOk prog (x45 f0 f1).call := (by
    intro A fid args S dst k r h
    unfold x45 call45 at h
    simp only at h
    split at h
    ·exact callPure_ok ((fun v r x h hx => h1 v r h x hx)) rfl rfl h
    ·exact callPure_ok (n_75_ok) rfl rfl h
    ·cases h)
theorem sn_45l4 (f0 : (List Tag) × Int × Int × Tag × Tag × (List Tag) × Unit → Option ((Tag × Tag × (List Tag) × Unit))) (f1 : Tag × Unit → Option (Tag × Unit)) (h0 : ∀ v r, f0 v = some r → mn_45l4 v r) (h1 : ∀ v r, f1 v = some r → mn_45 v r) (v : (List Tag) × Int × Int × Tag × Tag × (List Tag) × Unit) (r : (Tag × Tag × (List Tag) × Unit)) (h : exL (x45 f0 f1) (loopNo (bodyOf Tryz.f45) 0) c45l4 [.exit 0] f0 v = some r) : mn_45l4 v r := fun C hP hN => loop_step (X := x45 f0 f1) (b := (loopNo (bodyOf Tryz.f45) 0)) hP hN Ty.mixed (cn_45l4 f0 f1 h0 h1) (lok_all (X := x45 f0 f1) (c := (loopNo (bodyOf Tryz.f45) 0)) (kcast (by kernel_rfl : True = AllB (LoopsP C (x45 f0 f1)) (loopsIn (loopNo (bodyOf Tryz.f45) 0))) trivial)) (cut := c45l4) (alts := [.exit 0]) (F := f0) (fun v out h => h0 v out h C hP hN) h
theorem cn_45 (f0 : (List Tag) × Int × Int × Tag × Tag × (List Tag) × Unit → Option ((Tag × Tag × (List Tag) × Unit))) (h0 : ∀ v r, f0 v = some r → mn_45l4 v r) : CallerOk prog (x45 f0 (fun _ => none)).call := (by
    intro A fid args S dst k r h
    unfold x45 call45 at h
    simp only at h
    split at h
    ·exact callPure_ok ((fun v r x h hx => by cases h)) rfl rfl h
    ·exact callPure_ok (n_75_ok) rfl rfl h
    ·cases h)
theorem sn_45 (f0 : (List Tag) × Int × Int × Tag × Tag × (List Tag) × Unit → Option ((Tag × Tag × (List Tag) × Unit))) (h0 : ∀ v r, f0 v = some r → mn_45l4 v r) (v : Tag × Unit) (r : Tag × Unit) (h : exF (x45 f0 (fun _ => none)) sig45 rfl (bodyOf Tryz.f45) v = some r) : mn_45 v r := fun x hx => fn_ok (X := x45 f0 (fun _ => none)) (sig := sig45) rfl Tryz.func45 (c := bodyOf Tryz.f45) (by kernel_rfl) Tryz.ntmps45 (by kernel_rfl) (by kernel_rfl) rfl Ty.mixed (cn_45 f0 h0) rfl (fun C hP hN => (lok_all (X := x45 f0 (fun _ => none)) (c := (bodyOf Tryz.f45)) (kcast (by kernel_rfl : AllB (LoopsP C (x45 f0 (fun _ => none))) [(loopNo (bodyOf Tryz.f45) 0)] = AllB (LoopsP C (x45 f0 (fun _ => none))) (loopsIn (bodyOf Tryz.f45))) ⟨loop_at (X := x45 f0 (fun _ => none)) (b := (loopNo (bodyOf Tryz.f45) 0)) (by kernel_rfl) (show LoopOk C (loopNo (bodyOf Tryz.f45) 0) (sh := sh45) { cut := c45l4, alts := [.exit 0], F := f0 } from fun v out h => h0 v out h C hP hN), trivial⟩))) h x hx
theorem n_45l4_all : (∀ v r, n_45l4 v = some r → mn_45l4 v r) ∧ (∀ v r, n_45 v = some r → mn_45 v r) := by
 refine n_45l4.mutual_partial_correctness
  (motive_1 := mn_45l4)
  (motive_2 := mn_45)
  ?_ ?_
 ·exact (fun f0 f1 h0 h1 v r h => sn_45l4 f0 f1 h0 h1 v r (kcast (by kernel_rfl) h))
 ·exact (fun f0 h0 v r h => sn_45 f0 h0 v r (kcast (by kernel_rfl) h))
theorem n_45_ok : SigOk prog 45 sig45 n_45 := fun v r x h hx => n_45l4_all.2 v r h x hx
noncomputable def c16z : Cut SN := ⟨[(4, .bp 4 0), (5, .dat .bool), (6, .dat (.int .i64))], [(4, .st .tagT)]⟩
noncomputable def sh16 : Shape vw := { rcut := c16z }
noncomputable def sig16 : Sig vw := { params := [.dat (.st .tagT), .dat (.sl .str)], rcut := c16z, rvars := [.cell 4 25, .tmp 5, .tmp 6] }
noncomputable def n_16 (v : Tag × (List ByteArray) × Unit) : Option (Bool × Int × Tag × Unit) :=
 n_29 (v.1, ()) >>= fun x1 =>
 if (x1.1 != (0 : Int)) = true then
  some ((false, x1.1, Tag.mk (0 : Int) (0 : Int) (ByteArray.mk #[]) [] [], ()))
 else n_44 (v.1, v.2.1, ()) >>= fun x2 =>
 n_45 (x2.2.1, ()) >>= fun x3 =>
 some ((x2.1, (0 : Int), x3.1, ()))
noncomputable def call16 : Caller vw := fun A fid args S k => match fid with | 29 => callPure prog sig29 n_29 A args S k | 44 => callPure prog sig44 n_44 A args S k | 45 => callPure prog sig45 n_45 A args S k | _ => none
noncomputable def x16 : Xc vw := { P := prog, n := 25, call := call16, sh := sh16 }
theorem call16_ok : CallerOk prog call16 := fun A fid args S dst k r h => by
 unfold call16 at h
 split at h
 ·exact callPure_ok (n_29_ok) rfl rfl h
 ·exact callPure_ok (n_44_ok) rfl rfl h
 ·exact callPure_ok (n_45_ok) rfl rfl h
 ·cases h
theorem n_16_ok : SigOk prog 16 sig16 n_16 := fun v r x h hx =>
 fn_ok (X := x16) (sig := sig16) rfl Tryz.func16 (c := bodyOf Tryz.f16) (by kernel_rfl) Tryz.ntmps16 (by kernel_rfl) (by kernel_rfl) rfl Ty.mixed call16_ok rfl (fun C hP hN => (lok_all (kcast (by kernel_rfl) trivial))) (kcast (by kernel_rfl) h) x hx
noncomputable def sig122 : Sig vw := { params := [.dat .str, .dat .str], rcut := c88c86z, rvars := [.tmp 4] }
noncomputable def n_122 (v : ByteArray × ByteArray × Unit) : Option (Bool × Unit) :=
 match v.2.1.data.toList with | [c] => some (decide (0 ≤ Lib.indexByte v.1.data.toList c), ()) | _ => none
theorem n_122_ok : SigOk prog 122 sig122 n_122 := fun v r x h hx => by
 obtain ⟨s, c, u⟩ := v
 unfold n_122 at h
 simp only at h
 split at h
 ·rename_i c0 hc
  obtain rfl : c = ⟨#[c0]⟩ := by
   obtain ⟨⟨l⟩⟩ := c
   simp only at hc
   rw [hc]
  cases h; cases hx
  exact kcast (by kernel_rfl) (FnOk.pure (P := prog) (f := 122) (args := [.d (.v (.string s)), .d (.v (.string ⟨#[c0]⟩))]) (r := .d (.v (.bool (decide (0 ≤ Lib.indexByte s.data.toList c0))))) (by kernel_rfl) fun E M w vs hg hm hv => by
   obtain ⟨v1, v2, rfl, h1, h2⟩ := hreps_two hv
   rw [h1.dv, h2.dv]
   exact (Tryz.strings_Contains_one s c0 w).mono fun e w' ⟨he, hw⟩ => ⟨_, he, .d (.v _), hw ▸ Go.RowKit.Below.refl _ _⟩)
 ·cases h
noncomputable def c97s5bd0r1 : Cut SN := ⟨[(0, .bp 100000 0), (33, .dat .bool)], [(100000, .st .readerT)]⟩
noncomputable def c97s5bd0z : Cut SN := ⟨[(0, .bp 100000 0), (4, .dat .bool)], [(100000, .st .readerT)]⟩
noncomputable def sh97s5bd0 : Shape vw := { rcut := c97s5bd0z }
noncomputable def sig97s5bd0 : Sig vw := { params := [.bp 100000 0, .dat .str], objs := [(100000, .st .readerT)], rcut := c97s5bd0z, rvars := [.tmp 4], keep := [100000] }
noncomputable def n_97s5bd0 (v : ByteArray × Reader × Unit) : Option (Bool × Reader × Unit) :=
 (if (v.2.1.at0 == (↑v.2.1.s.size : Int)) = true then
    some ((true, v.2.1, ()))
   else if (0 : Int) ≤ v.2.1.at0 ∧ v.2.1.at0 ≤ i64.wrap (v.2.1.at0 + (1 : Int)) ∧ i64.wrap (v.2.1.at0 + (1 : Int)) ≤ (↑v.2.1.s.size : Int) then
    n_122 (v.1, v.2.1.s.extract v.2.1.at0.toNat (i64.wrap (v.2.1.at0 + (1 : Int))).toNat, ()) >>= fun x1 =>
    some ((!x1.1, v.2.1, ()))
   else none) >>= fun x1 =>
 if x1.1 = true then
  some ((false, x1.2.1, ()))
 else some ((true, Reader.mk x1.2.1.s (i64.wrap (x1.2.1.at0 + (1 : Int))), ()))
noncomputable def call97s5bd0 : Caller vw := fun A fid args S k => match fid with | 122 => callPure prog sig122 n_122 A args S k | _ => none
noncomputable def x97s5bd0 : Xc vw := { P := prog, n := 41, call := call97s5bd0, sh := sh97s5bd0, regs := fun k => match k with | 1 => some c97s5bd0r1 | _ => none }
theorem call97s5bd0_ok : CallerOk prog call97s5bd0 := fun A fid args S dst k r h => by
 unfold call97s5bd0 at h
 split at h
 ·exact callPure_ok (n_122_ok) rfl rfl h
 ·cases h
theorem n_97s5bd0_ok : SigOk prog 97 sig97s5bd0 n_97s5bd0 := fun v r x h hx =>
 fn_ok (X := x97s5bd0) (sig := sig97s5bd0) rfl Tryz.func97 (c := bodyOf Tryz.f97) (by kernel_rfl) Tryz.ntmps97 (by kernel_rfl) (by kernel_rfl) rfl Ty.mixed call97s5bd0_ok rfl (fun C hP hN => (lok_all (kcast (by kernel_rfl) trivial))) (kcast (by kernel_rfl) h) x hx
noncomputable def c66s0e1dl0 : Cut SN := ⟨[(0, .bp 100000 0)], [(100000, .st .readerT)]⟩
noncomputable def sh66s0e1d : Shape vw := { exits := fun id => match id with | 0 => c66s0e1dl0 | _ => ⟨[], []⟩, rcut := c66s0e1dl0 }
noncomputable def sig66s0e1d : Sig vw := { params := [.bp 100000 0], objs := [(100000, .st .readerT)], rcut := c66s0e1dl0, rvars := [], keep := [100000] }
noncomputable def n_66s0e1dl0 (v : Reader × Unit) : Option ((Reader × Unit)) :=
 n_97s5bd0 (ByteArray.mk #[32, 10, 9, 13], v.1, ()) >>= fun x1 =>
 if x1.1 = true then
  n_66s0e1dl0 (x1.2.1, ())
 else some ((x1.2.1, ()))
 partial_fixpoint
noncomputable def n_66s0e1d (v : Reader × Unit) : Option (Reader × Unit) :=
 n_66s0e1dl0 (v.1, ()) >>= fun x1 =>
 some ((x1.1, ()))
noncomputable def call66s0e1d : Caller vw := fun A fid args S k => match fid with | 97 => callObj prog sig97s5bd0 n_97s5bd0 A args S k | _ => none
noncomputable def x66s0e1d : Xc vw := { P := prog, n := 4, call := call66s0e1d, sh := sh66s0e1d, loops := fun k => match k with | 0 => some { cut := c66s0e1dl0, alts := [.exit 0], F := n_66s0e1dl0 } | _ => none }
theorem call66s0e1d_ok : CallerOk prog call66s0e1d := fun A fid args S dst k r h => by
 unfold call66s0e1d at h
 split at h
 ·exact callObj_ok (n_97s5bd0_ok) h
 ·cases h
theorem n_66s0e1dl0_ok (C : Ctx) (hP : C.P = prog) (hN : C.N = 4) : LoopOk C (loopNo (bodyOf Tryz.f66) 0) (sh := sh66s0e1d) { cut := c66s0e1dl0, alts := [.exit 0], F := n_66s0e1dl0 } :=
 n_66s0e1dl0.partial_correctness (motive := fun v out => AWpL C (loopNo (bodyOf Tryz.f66) 0) (encS vw (conc vw c66s0e1dl0 v)) (OutQ sh66s0e1d [.exit 0] out)) fun F ih v out h =>
  loop_step (X := x66s0e1d) (b := (loopNo (bodyOf Tryz.f66) 0)) hP hN Ty.mixed call66s0e1d_ok (lok_all (X := x66s0e1d) (c := (loopNo (bodyOf Tryz.f66) 0)) (kcast (by kernel_rfl : True = AllB (LoopsP C (x66s0e1d)) (loopsIn (loopNo (bodyOf Tryz.f66) 0))) trivial)) ih (kcast (by kernel_rfl) h)
theorem n_66s0e1d_ok : SigOk prog 66 sig66s0e1d n_66s0e1d := fun v r x h hx =>
 fn_ok (X := x66s0e1d) (sig := sig66s0e1d) rfl Tryz.func66 (c := bodyOf Tryz.f66) (by kernel_rfl) Tryz.ntmps66 (by kernel_rfl) (by kernel_rfl) rfl Ty.mixed call66s0e1d_ok rfl (fun C hP hN => (lok_all (kcast (by kernel_rfl : AllB (LoopsP C (x66s0e1d)) [(loopNo (bodyOf Tryz.f66) 0)] = AllB (LoopsP C (x66s0e1d)) (loopsIn (bodyOf Tryz.f66))) ⟨loop_at (X := x66s0e1d) (b := (loopNo (bodyOf Tryz.f66) 0)) (by kernel_rfl) (n_66s0e1dl0_ok C hP hN), trivial⟩))) (kcast (by kernel_rfl) h) x hx
noncomputable def c91s0e1dz : Cut SN := ⟨[(0, .bp 100000 0), (2, .dat (.int .u8))], [(100000, .st .readerT)]⟩
noncomputable def sh91s0e1d : Shape vw := { rcut := c91s0e1dz }
noncomputable def sig91s0e1d : Sig vw := { params := [.bp 100000 0], objs := [(100000, .st .readerT)], rcut := c91s0e1dz, rvars := [.tmp 2], keep := [100000] }
noncomputable def n_91s0e1d (v : Reader × Unit) : Option (Int × Reader × Unit) :=
 if (v.1.at0 == (↑v.1.s.size : Int)) = true then
  some (((0 : Int), v.1, ()))
 else if (0 : Int) ≤ v.1.at0 then
  v.1.s[v.1.at0.toNat]? >>= fun x1 =>
  some (((↑x1.toNat : Int), v.1, ()))
 else none
noncomputable def call91s0e1d : Caller vw := fun _ _ _ _ _ => none
noncomputable def x91s0e1d : Xc vw := { P := prog, n := 22, call := call91s0e1d, sh := sh91s0e1d }
theorem call91s0e1d_ok : CallerOk prog call91s0e1d := call_none
theorem n_91s0e1d_ok : SigOk prog 91 sig91s0e1d n_91s0e1d := fun v r x h hx =>
 fn_ok (X := x91s0e1d) (sig := sig91s0e1d) rfl Tryz.func91 (c := bodyOf Tryz.f91) (by kernel_rfl) Tryz.ntmps91 (by kernel_rfl) (by kernel_rfl) rfl Ty.mixed call91s0e1d_ok rfl (fun C hP hN => (lok_all (kcast (by kernel_rfl) trivial))) (kcast (by kernel_rfl) h) x hx
noncomputable def c92s5bd0l2 : Cut SN := ⟨[(0, .bp 100000 0), (1, .dat .str), (7, .dat (.int .i64)), (8, .dat (.int .i64))], [(100000, .st .readerT)]⟩
noncomputable def sh92s5bd0 : Shape vw := { exits := fun id => match id with | 0 => c66s0e1dl0 | _ => ⟨[], []⟩, rcut := c97s5bd0z }
noncomputable def sig92s5bd0 : Sig vw := { params := [.bp 100000 0, .dat .str], objs := [(100000, .st .readerT)], rcut := c97s5bd0z, rvars := [.tmp 4], keep := [100000] }
noncomputable def n_92s5bd0l2 (v : ByteArray × Int × Int × Reader × Unit) : Option (((Bool × Reader × Unit) ⊕ (Reader × Unit))) :=
 if decide (v.2.2.1 < v.2.1) = true then
  if (0 : Int) ≤ v.2.2.1 ∧ v.2.2.1 ≤ i64.wrap (v.2.2.1 + (1 : Int)) ∧ i64.wrap (v.2.2.1 + (1 : Int)) ≤ (↑v.1.size : Int) then
   n_97s5bd0 (v.1.extract v.2.2.1.toNat (i64.wrap (v.2.2.1 + (1 : Int))).toNat, v.2.2.2.1, ()) >>= fun x1 =>
   if (!x1.1) = true then
    some (Sum.inl (false, x1.2.1, ()))
   else n_92s5bd0l2 (v.1, v.2.1, i64.wrap (v.2.2.1 + (1 : Int)), x1.2.1, ())
  else none
 else some (Sum.inr (v.2.2.2.1, ()))
 partial_fixpoint
noncomputable def n_92s5bd0 (v : ByteArray × Reader × Unit) : Option (Bool × Reader × Unit) :=
 n_92s5bd0l2 (v.1, (↑v.1.size : Int), (0 : Int), v.2.1, ()) >>= fun x1 => match x1 with
  | .inl y1 => some y1
  | .inr y1 => some ((true, y1.1, ()))
noncomputable def call92s5bd0 : Caller vw := fun A fid args S k => match fid with | 97 => callObj prog sig97s5bd0 n_97s5bd0 A args S k | _ => none
noncomputable def x92s5bd0 : Xc vw := { P := prog, n := 20, call := call92s5bd0, sh := sh92s5bd0, loops := fun k => match k with | 2 => some { cut := c92s5bd0l2, alts := [.ret, .exit 0], F := n_92s5bd0l2 } | _ => none }
theorem call92s5bd0_ok : CallerOk prog call92s5bd0 := fun A fid args S dst k r h => by
 unfold call92s5bd0 at h
 split at h
 ·exact callObj_ok (n_97s5bd0_ok) h
 ·cases h
theorem n_92s5bd0l2_ok (C : Ctx) (hP : C.P = prog) (hN : C.N = 20) : LoopOk C (loopNo (bodyOf Tryz.f92) 0) (sh := sh92s5bd0) { cut := c92s5bd0l2, alts := [.ret, .exit 0], F := n_92s5bd0l2 } :=
 n_92s5bd0l2.partial_correctness (motive := fun v out => AWpL C (loopNo (bodyOf Tryz.f92) 0) (encS vw (conc vw c92s5bd0l2 v)) (OutQ sh92s5bd0 [.ret, .exit 0] out)) fun F ih v out h =>
  loop_step (X := x92s5bd0) (b := (loopNo (bodyOf Tryz.f92) 0)) hP hN Ty.mixed call92s5bd0_ok (lok_all (X := x92s5bd0) (c := (loopNo (bodyOf Tryz.f92) 0)) (kcast (by kernel_rfl : True = AllB (LoopsP C (x92s5bd0)) (loopsIn (loopNo (bodyOf Tryz.f92) 0))) trivial)) ih (kcast (by kernel_rfl) h)
theorem n_92s5bd0_ok : SigOk prog 92 sig92s5bd0 n_92s5bd0 := fun v r x h hx =>
 fn_ok (X := x92s5bd0) (sig := sig92s5bd0) rfl Tryz.func92 (c := bodyOf Tryz.f92) (by kernel_rfl) Tryz.ntmps92 (by kernel_rfl) (by kernel_rfl) rfl Ty.mixed call92s5bd0_ok rfl (fun C hP hN => (lok_all (kcast (by kernel_rfl : AllB (LoopsP C (x92s5bd0)) [(loopNo (bodyOf Tryz.f92) 0)] = AllB (LoopsP C (x92s5bd0)) (loopsIn (bodyOf Tryz.f92))) ⟨loop_at (X := x92s5bd0) (b := (loopNo (bodyOf Tryz.f92) 0)) (by kernel_rfl) (n_92s5bd0l2_ok C hP hN), trivial⟩))) (kcast (by kernel_rfl) h) x hx
noncomputable def c93s0e1dl6 : Cut SN := ⟨[(0, .bp 100000 0), (2, .bp 2 0), (4, .dat .bool), (5, .dat (.int .i64))], [(100000, .st .readerT), (2, .st .tagT)]⟩
noncomputable def c93s0e1dj11 : Cut SN := ⟨[(0, .bp 100000 0), (2, .bp 2 0), (5, .dat (.int .i64))], [(100000, .st .readerT), (2, .st .tagT)]⟩
noncomputable def c93s0e1dr5 : Cut SN := ⟨[(0, .bp 100000 0), (2, .bp 2 0), (4, .dat .bool), (5, .dat (.int .i64)), (12, .dat .bool)], [(100000, .st .readerT), (2, .st .tagT)]⟩
noncomputable def c93s0e1dr6 : Cut SN := ⟨[(0, .bp 100000 0), (2, .bp 2 0), (4, .dat .bool), (5, .dat (.int .i64)), (28, .dat .bool)], [(100000, .st .readerT), (2, .st .tagT)]⟩
noncomputable def c93s0e1dz : Cut SN := ⟨[(0, .bp 100000 0), (2, .bp 2 0), (3, .dat .bool)], [(100000, .st .readerT), (2, .st .tagT)]⟩
noncomputable def sh93s0e1d : Shape vw := { exits := fun id => match id with | 1 => c93s0e1dl6 | _ => ⟨[], []⟩, rcut := c93s0e1dz }
noncomputable def sig93s0e1d : Sig vw := { params := [.bp 100000 0], objs := [(100000, .st .readerT)], rcut := c93s0e1dz, rvars := [.cell 2 25, .tmp 3], keep := [100000] }
noncomputable def n_93s0e1dl6 (v : Bool × Int × Reader × Tag × Unit) : Option ((Bool × Int × Reader × Tag × Unit)) :=
 (n_91s0e1d (v.2.2.1, ()) >>= fun x1 =>
   if decide (x1.1 ≥ (48 : Int)) = true then
    n_91s0e1d (x1.2.1, ()) >>= fun x2 =>
    some ((v.1, v.2.1, decide (x2.1 ≤ (57 : Int)), x2.2.1, v.2.2.2.1, ()))
   else some ((v.1, v.2.1, false, x1.2.1, v.2.2.2.1, ()))) >>= fun x1 =>
 if x1.2.2.1 = true then
  n_91s0e1d (x1.2.2.2.1, ()) >>= fun x2 =>
  n_93s0e1dl6 (x1.1, min (i64.wrap (i64.wrap ((10 : Int) * x1.2.1) + i64.wrap (u8.wrap (x2.1 - (48 : Int))))) (576460752303423488 : Int), Reader.mk x2.2.1.s (i64.wrap (x2.2.1.at0 + (1 : Int))), x1.2.2.2.2.1, ())
 else some ((x1.1, x1.2.1, x1.2.2.2.1, x1.2.2.2.2.1, ()))
 partial_fixpoint
noncomputable def n_93s0e1d (v : Reader × Unit) : Option (Bool × Reader × Tag × Unit) :=
 n_97s5bd0 (ByteArray.mk #[45], v.1, ()) >>= fun x1 =>
 (n_97s5bd0 (ByteArray.mk #[48], x1.2.1, ()) >>= fun x2 =>
   if x2.1 = true then
    some (Sum.inl (x1.1, (0 : Int), x2.2.1, Tag.mk (0 : Int) (0 : Int) (ByteArray.mk #[]) [] [], ()))
   else (n_91s0e1d (x2.2.1, ()) >>= fun x3 =>
    if decide (x3.1 ≥ (49 : Int)) = true then
     n_91s0e1d (x3.2.1, ()) >>= fun x4 =>
     some ((x1.1, (0 : Int), decide (x4.1 ≤ (57 : Int)), x4.2.1, Tag.mk (0 : Int) (0 : Int) (ByteArray.mk #[]) [] [], ()))
    else some ((x1.1, (0 : Int), false, x3.2.1, Tag.mk (0 : Int) (0 : Int) (ByteArray.mk #[]) [] [], ()))) >>= fun x3 =>
   if x3.2.2.1 = true then
    n_93s0e1dl6 (x3.1, x3.2.1, x3.2.2.2.1, x3.2.2.2.2.1, ()) >>= fun x4 =>
    some (Sum.inl (x4.1, x4.2.1, x4.2.2.1, x4.2.2.2.1, ()))
   else some (Sum.inr (false, x3.2.2.2.1, Tag.mk (0 : Int) (0 : Int) (ByteArray.mk #[]) [] [], ()))) >>= fun x2 => match x2 with
   | .inl y2 => (if y2.1 = true then
      some ((i64.wrap ((0 : Int) - y2.2.1), y2.2.2.1, y2.2.2.2.1, ()))
     else some ((y2.2.1, y2.2.2.1, y2.2.2.2.1, ()))) >>= fun x3 =>
    some ((true, x3.2.1, Tag.mk (3 : Int) x3.1 (ByteArray.mk #[]) [] [], ()))
   | .inr y2 => some y2
noncomputable def call93s0e1d : Caller vw := fun A fid args S k => match fid with | 91 => callObj prog sig91s0e1d n_91s0e1d A args S k | 97 => callObj prog sig97s5bd0 n_97s5bd0 A args S k | _ => none
noncomputable def x93s0e1d : Xc vw := { P := prog, n := 49, call := call93s0e1d, sh := sh93s0e1d, joins := fun k => match k with | 9 => some (c93s0e1dl6, [.norm, .ret]) | 11 => some (c93s0e1dj11, [.norm]) | _ => none, regs := fun k => match k with | 5 => some c93s0e1dr5 | 6 => some c93s0e1dr6 | _ => none, loops := fun k => match k with | 6 => some { cut := c93s0e1dl6, alts := [.exit 1], F := n_93s0e1dl6 } | _ => none }
theorem call93s0e1d_ok : CallerOk prog call93s0e1d := fun A fid args S dst k r h => by
 unfold call93s0e1d at h
 split at h
 ·exact callObj_ok (n_91s0e1d_ok) h
 ·exact callObj_ok (n_97s5bd0_ok) h
 ·cases h
theorem n_93s0e1dl6_ok (C : Ctx) (hP : C.P = prog) (hN : C.N = 49) : LoopOk C (loopNo (bodyOf Tryz.f93) 0) (sh := sh93s0e1d) { cut := c93s0e1dl6, alts := [.exit 1], F := n_93s0e1dl6 } :=
 n_93s0e1dl6.partial_correctness (motive := fun v out => AWpL C (loopNo (bodyOf Tryz.f93) 0) (encS vw (conc vw c93s0e1dl6 v)) (OutQ sh93s0e1d [.exit 1] out)) fun F ih v out h =>
  loop_step (X := x93s0e1d) (b := (loopNo (bodyOf Tryz.f93) 0)) hP hN Ty.mixed call93s0e1d_ok (lok_all (X := x93s0e1d) (c := (loopNo (bodyOf Tryz.f93) 0)) (kcast (by kernel_rfl : True = AllB (LoopsP C (x93s0e1d)) (loopsIn (loopNo (bodyOf Tryz.f93) 0))) trivial)) ih (kcast (by kernel_rfl) h)
theorem n_93s0e1d_ok : SigOk prog 93 sig93s0e1d n_93s0e1d := fun v r x h hx =>
 fn_ok (X := x93s0e1d) (sig := sig93s0e1d) rfl Tryz.func93 (c := bodyOf Tryz.f93) (by kernel_rfl) Tryz.ntmps93 (by kernel_rfl) (by kernel_rfl) rfl Ty.mixed call93s0e1d_ok rfl (fun C hP hN => (lok_all (kcast (by kernel_rfl : AllB (LoopsP C (x93s0e1d)) [(loopNo (bodyOf Tryz.f93) 0)] = AllB (LoopsP C (x93s0e1d)) (loopsIn (bodyOf Tryz.f93))) ⟨loop_at (X := x93s0e1d) (b := (loopNo (bodyOf Tryz.f93) 0)) (by kernel_rfl) (n_93s0e1dl6_ok C hP hN), trivial⟩))) (kcast (by kernel_rfl) h) x hx
noncomputable def c145s143fz : Cut SN := ⟨[(0, .bp 100000 0)], [(100000, .box (some 93) [.np 100000, .vh 3001]), (3001, .vec 5 (.int .u8))]⟩
noncomputable def sig145s143f : Sig vw := { params := [.bp 100000 0], objs := [(100000, .box (some 93) [.np 100000, .vh 100001]), (100001, .vec 5 (.int .u8))], rcut := c145s143fz, rvars := [], keep := [100000, 3001] }
noncomputable def n_145s143f (v : Bool × (List Int) × Unit) : Option (Bool × (List Int) × Unit) :=
 some (true, v.2.1, ())
theorem n_145s143f_ok : SigOk prog 145 sig145s143f n_145s143f := fun v r x h hx => by
 obtain ⟨bl, xs, u⟩ := v
 cases h; cases hx
 exact kcast (by kernel_rfl) (FnOk.copyCheck (P := prog) (f := 145) (T := 93) (rest := []) (by kernel_rfl)
  (Any.Builder_copyCheck_fresh (P := prog) (ρ := Tryz.lays159_ren) { Tryz.lays159 with } Tryz.Builder_Extra_159.toX72)
  (Any.Builder_copyCheck_used (P := prog) (ρ := Tryz.lays159_ren) { Tryz.lays159 with } Tryz.Builder_Extra_159.toX72)
  (g := 100000) (m := 100001) (c := 3001) (l := xs.length) (bl := bl) (e := 5) (sz := 1) (rows := xs.map fun y => Go.Tx.encR szN encN (.int .u8) y) (by decide) (by decide) (by decide))
noncomputable def c113s555cz : Cut SN := ⟨[(0, .bp 100000 0), (4, .dat (.int .i64)), (5, .nif)], [(100000, .box (some 93) [.np 100000, .vh 3001]), (3001, .vec 5 (.int .u8))]⟩
noncomputable def sh113s555c : Shape vw := { rcut := c113s555cz }
noncomputable def sig113s555c : Sig vw := { params := [.bp 100000 0, .dat .str], objs := [(100000, .box (some 93) [.np 100000, .vh 100001]), (100001, .vec 5 (.int .u8))], rcut := c113s555cz, rvars := [.tmp 4, .tmp 5], keep := [100000, 3001] }
noncomputable def n_113s555c (v : ByteArray × Bool × (List Int) × Unit) : Option (Int × Bool × (List Int) × Unit) :=
 n_145s143f (v.2.1, v.2.2.1, ()) >>= fun x1 =>
 if x1.2.1.length + v.1.size ≤ (4294967296 : Nat) then
  some (((↑v.1.size : Int), x1.1, x1.2.1 ++ Bs.ints v.1, ()))
 else none
noncomputable def call113s555c : Caller vw := fun A fid args S k => match fid with | 145 => callObj prog sig145s143f n_145s143f A args S k | _ => none
noncomputable def x113s555c : Xc vw := { P := prog, n := 19, call := call113s555c, sh := sh113s555c }
theorem call113s555c_ok : CallerOk prog call113s555c := fun A fid args S dst k r h => by
 unfold call113s555c at h
 split at h
 ·exact callObj_ok (n_145s143f_ok) h
 ·cases h
theorem n_113s555c_ok : SigOk prog 113 sig113s555c n_113s555c := fun v r x h hx =>
 fn_ok (X := x113s555c) (sig := sig113s555c) rfl Tryz.func113 (c := bodyOf Tryz.f113) (by kernel_rfl) Tryz.ntmps113 (by kernel_rfl) (by kernel_rfl) rfl Ty.mixed call113s555c_ok rfl (fun C hP hN => (lok_all (kcast (by kernel_rfl) trivial))) (kcast (by kernel_rfl) h) x hx
noncomputable def sig171 : Sig vw := { params := [.dat .str, .dat (.int .u8)], rcut := c117c86z, rvars := [.tmp 4] }
noncomputable def n_171 (v : ByteArray × Int × Unit) : Option (Int × Unit) :=
 some (Lib.indexByte v.1.data.toList v.2.1.toNat.toUInt8, ())
theorem n_171_ok : SigOk prog 171 sig171 n_171 := fun v r x h hx => by
 obtain ⟨s, c, u⟩ := v
 cases h; cases hx
 exact kcast (by kernel_rfl) (FnOk.pure (P := prog) (f := 171) (args := [.d (.v (.string s)), .d (.v (.int .u8 c))]) (r := .d (.v (.int .i64 (Lib.indexByte s.data.toList c.toNat.toUInt8)))) (by kernel_rfl) fun E M w vs _ _ hv => by
  obtain ⟨v1, v2, rfl, h1, h2⟩ := hreps_two hv
  rw [h1.dv, h2.dv]
  exact (Tryz.stringslite_IndexByte s c w).mono fun e w' ⟨he, hw⟩ => ⟨_, he, .d (.v _), hw ▸ Go.RowKit.Below.refl _ _⟩)
noncomputable def sh147 : Shape vw := { rcut := c117c86z }
noncomputable def sig147 : Sig vw := { params := [.dat .str, .dat (.int .u8)], rcut := c117c86z, rvars := [.tmp 4] }
noncomputable def n_147 (v : ByteArray × Int × Unit) : Option (Int × Unit) :=
 n_171 (v.1, v.2.1, ()) >>= fun x1 =>
 some ((x1.1, ()))
noncomputable def call147 : Caller vw := fun A fid args S k => match fid with | 171 => callPure prog sig171 n_171 A args S k | _ => none
noncomputable def x147 : Xc vw := { P := prog, n := 8, call := call147, sh := sh147 }
theorem call147_ok : CallerOk prog call147 := fun A fid args S dst k r h => by
 unfold call147 at h
 split at h
 ·exact callPure_ok (n_171_ok) rfl rfl h
 ·cases h
theorem n_147_ok : SigOk prog 147 sig147 n_147 := fun v r x h hx =>
 fn_ok (X := x147) (sig := sig147) rfl Tryz.func147 (c := bodyOf Tryz.f147) (by kernel_rfl) Tryz.ntmps147 (by kernel_rfl) (by kernel_rfl) rfl Ty.mixed call147_ok rfl (fun C hP hN => (lok_all (kcast (by kernel_rfl) trivial))) (kcast (by kernel_rfl) h) x hx
noncomputable def sig173 : Sig vw := { params := [.dat .str], rcut := c79z, rvars := [.tmp 2] }
noncomputable def n_173 (v : ByteArray × Unit) : Option (ByteArray × Unit) :=
 if v.1.size ≤ 140737488355328 ∧ v.1.data.toList.all (fun b => decide (b.toNat < 128)) = true then some (⟨(Lib.toLowerA v.1.data.toList).toArray⟩, ()) else none
theorem n_173_ok : SigOk prog 173 sig173 n_173 := fun v r x h hx => by
 obtain ⟨s, u⟩ := v
 unfold n_173 at h
 split at h
 ·rename_i hc
  obtain ⟨h0, h1⟩ := hc
  simp only at h0 h1
  cases h; cases hx
  exact kcast (by kernel_rfl) (FnOk.pure (P := prog) (f := 173) (args := [.d (.v (.string s))]) (r := .d (.v (.string ⟨(Lib.toLowerA s.data.toList).toArray⟩))) (by kernel_rfl) fun E M w vs hg hm hv => by
   obtain ⟨v1, rfl, h2⟩ := hreps_one hv
   rw [h2.dv]
   exact (Tryz.strings_ToLower_ascii s w h0 (fun j b hb => of_decide_eq_true (List.all_eq_true.1 h1 b (List.mem_of_getElem? hb)))).mono fun e w' ⟨he, hw⟩ => ⟨_, he, .d (.v _), hw⟩)
 ·cases h
noncomputable def c150sadb0l11 : Cut SN := ⟨[(0, .bp 100000 0), (10, .dat (.int .i32)), (50, .dat (.sl (.int .u8))), (51, .dat (.int .i64)), (52, .dat (.int .i64))], [(100000, .st .readerT)]⟩
noncomputable def c150sadb0j7 : Cut SN := ⟨[(0, .bp 100000 0), (8, .dat (.int .i64)), (9, .dat .str)], [(100000, .st .readerT)]⟩
noncomputable def c150sadb0r7 : Cut SN := ⟨[(0, .bp 100000 0), (8, .dat (.int .i64)), (38, .dat .bool)], [(100000, .st .readerT)]⟩
noncomputable def c150sadb0e1 : Cut SN := ⟨[(0, .bp 100000 0), (10, .dat (.int .i32))], [(100000, .st .readerT)]⟩
noncomputable def c150sadb0z : Cut SN := ⟨[(0, .bp 100000 0), (6, .dat (.int .i32)), (7, .dat .bool)], [(100000, .st .readerT)]⟩
noncomputable def sh150sadb0 : Shape vw := { exits := fun id => match id with | 1 => c150sadb0e1 | _ => ⟨[], []⟩, rcut := c150sadb0z }
noncomputable def sig150sadb0 : Sig vw := { params := [.bp 100000 0, .dat .str, .dat .str], objs := [(100000, .st .readerT)], rcut := c150sadb0z, rvars := [.tmp 6, .tmp 7], keep := [100000] }
noncomputable def n_150sadb0l11 (v : Int × (List Int) × Int × Int × Reader × Unit) : Option ((Int × Reader × Unit)) :=
 if decide (v.2.2.2.1 < v.2.2.1) = true then
  if (0 : Int) ≤ v.2.2.2.1 then
   v.2.1[v.2.2.2.1.toNat]? >>= fun x1 =>
   n_147 (ByteArray.mk #[48, 49, 50, 51, 52, 53, 54, 55, 56, 57, 97, 98, 99, 100, 101, 102, 65, 66, 67, 68, 69, 70], x1, ()) >>= fun x2 =>
   n_150sadb0l11 (i32.wrap (i32.wrap ((16 : Int) * v.1) + i32.wrap x2.1), v.2.1, v.2.2.1, i64.wrap (v.2.2.2.1 + (1 : Int)), v.2.2.2.2.1, ())
  else none
 else some ((v.1, v.2.2.2.2.1, ()))
 partial_fixpoint
noncomputable def n_150sadb0 (v : ByteArray × ByteArray × Reader × Unit) : Option (Int × Bool × Reader × Unit) :=
 (n_97s5bd0 (v.1, v.2.2.1, ()) >>= fun x1 =>
   if x1.1 = true then
    some (Sum.inl (v.2.2.1.at0, ByteArray.mk #[48, 49, 50, 51, 52, 53, 54, 55, 56, 57, 97, 98, 99, 100, 101, 102, 65, 66, 67, 68, 69, 70], x1.2.1, ()))
   else n_97s5bd0 (ByteArray.mk #[100, 68], x1.2.1, ()) >>= fun x2 =>
   if x2.1 = true then
    some (Sum.inl (v.2.2.1.at0, v.2.1, x2.2.1, ()))
   else some (Sum.inr ((0 : Int), false, x2.2.1, ()))) >>= fun x1 => match x1 with
   | .inl y1 => (n_97s5bd0 (y1.2.1, y1.2.2.1, ()) >>= fun x2 =>
     if (!x2.1) = true then
      some ((y1.1, true, x2.2.1, ()))
     else n_97s5bd0 (ByteArray.mk #[48, 49, 50, 51, 52, 53, 54, 55, 56, 57, 97, 98, 99, 100, 101, 102, 65, 66, 67, 68, 69, 70], x2.2.1, ()) >>= fun x3 =>
     if (!x3.1) = true then
      some ((y1.1, true, x3.2.1, ()))
     else n_97s5bd0 (ByteArray.mk #[48, 49, 50, 51, 52, 53, 54, 55, 56, 57, 97, 98, 99, 100, 101, 102, 65, 66, 67, 68, 69, 70], x3.2.1, ()) >>= fun x4 =>
     some ((y1.1, !x4.1, x4.2.1, ()))) >>= fun x2 =>
    if x2.2.1 = true then
     some (((0 : Int), false, x2.2.2.1, ()))
    else if (0 : Int) ≤ x2.1 ∧ x2.1 ≤ x2.2.2.1.at0 ∧ x2.2.2.1.at0 ≤ (↑x2.2.2.1.s.size : Int) then
     n_173 (x2.2.2.1.s.extract x2.1.toNat x2.2.2.1.at0.toNat, ()) >>= fun x3 =>
     n_150sadb0l11 ((0 : Int), Bs.ints x3.1, (↑(Bs.ints x3.1).length : Int), (0 : Int), x2.2.2.1, ()) >>= fun x4 =>
     some ((x4.1, true, x4.2.1, ()))
    else none
   | .inr y1 => some y1
noncomputable def call150sadb0 : Caller vw := fun A fid args S k => match fid with | 97 => callObj prog sig97s5bd0 n_97s5bd0 A args S k | 147 => callPure prog sig147 n_147 A args S k | 173 => callPure prog sig173 n_173 A args S k | _ => none
noncomputable def x150sadb0 : Xc vw := { P := prog, n := 64, call := call150sadb0, sh := sh150sadb0, joins := fun k => match k with | 7 => some (c150sadb0j7, [.norm, .ret]) | _ => none, regs := fun k => match k with | 7 => some c150sadb0r7 | _ => none, loops := fun k => match k with | 11 => some { cut := c150sadb0l11, alts := [.exit 1], F := n_150sadb0l11 } | _ => none }
theorem call150sadb0_ok : CallerOk prog call150sadb0 := fun A fid args S dst k r h => by
 unfold call150sadb0 at h
 split at h
 ·exact callObj_ok (n_97s5bd0_ok) h
 ·exact callPure_ok (n_147_ok) rfl rfl h
 ·exact callPure_ok (n_173_ok) rfl rfl h
 ·cases h
theorem n_150sadb0l11_ok (C : Ctx) (hP : C.P = prog) (hN : C.N = 64) : LoopOk C (loopNo (bodyOf Tryz.f150) 0) (sh := sh150sadb0) { cut := c150sadb0l11, alts := [.exit 1], F := n_150sadb0l11 } :=
 n_150sadb0l11.partial_correctness (motive := fun v out => AWpL C (loopNo (bodyOf Tryz.f150) 0) (encS vw (conc vw c150sadb0l11 v)) (OutQ sh150sadb0 [.exit 1] out)) fun F ih v out h =>
  loop_step (X := x150sadb0) (b := (loopNo (bodyOf Tryz.f150) 0)) hP hN Ty.mixed call150sadb0_ok (lok_all (X := x150sadb0) (c := (loopNo (bodyOf Tryz.f150) 0)) (kcast (by kernel_rfl : True = AllB (LoopsP C (x150sadb0)) (loopsIn (loopNo (bodyOf Tryz.f150) 0))) trivial)) ih (kcast (by kernel_rfl) h)
theorem n_150sadb0_ok : SigOk prog 150 sig150sadb0 n_150sadb0 := fun v r x h hx =>
 fn_ok (X := x150sadb0) (sig := sig150sadb0) rfl Tryz.func150 (c := bodyOf Tryz.f150) (by kernel_rfl) Tryz.ntmps150 (by kernel_rfl) (by kernel_rfl) rfl Ty.mixed call150sadb0_ok rfl (fun C hP hN => (lok_all (kcast (by kernel_rfl : AllB (LoopsP C (x150sadb0)) [(loopNo (bodyOf Tryz.f150) 0)] = AllB (LoopsP C (x150sadb0)) (loopsIn (bodyOf Tryz.f150))) ⟨loop_at (X := x150sadb0) (b := (loopNo (bodyOf Tryz.f150) 0)) (by kernel_rfl) (n_150sadb0l11_ok C hP hN), trivial⟩))) (kcast (by kernel_rfl) h) x hx
noncomputable def c119s0e1dr2 : Cut SN := ⟨[(0, .bp 100000 0), (4, .dat (.int .i64)), (24, .dat .bool)], [(100000, .st .readerT)]⟩
noncomputable def c119s0e1dr8 : Cut SN := ⟨[(0, .bp 100000 0), (5, .dat (.int .i32)), (6, .dat .bool), (52, .dat .bool)], [(100000, .st .readerT)]⟩
noncomputable def c119s0e1dz : Cut SN := ⟨[(0, .bp 100000 0), (2, .dat (.int .i32)), (3, .dat .bool)], [(100000, .st .readerT)]⟩
noncomputable def sh119s0e1d : Shape vw := { rcut := c119s0e1dz }
noncomputable def sig119s0e1d : Sig vw := { params := [.bp 100000 0], objs := [(100000, .st .readerT)], rcut := c119s0e1dz, rvars := [.tmp 2, .tmp 3], keep := [100000] }
noncomputable def n_119s0e1d (v : Reader × Unit) : Option (Int × Bool × Reader × Unit) :=
 n_91s0e1d (v.1, ()) >>= fun x1 =>
 n_147 (ByteArray.mk #[34, 92, 47, 98, 102, 110, 114, 116], x1.1, ()) >>= fun x2 =>
 (if decide (x1.2.1.at0 < (↑x1.2.1.s.size : Int)) = true then
    some ((x2.1, decide (x2.1 ≥ (0 : Int)), x1.2.1, ()))
   else some ((x2.1, false, x1.2.1, ()))) >>= fun x3 =>
 if x3.2.1 = true then
  if (0 : Int) ≤ x3.1 then
   (ByteArray.mk #[34, 92, 47, 8, 12, 10, 13, 9])[x3.1.toNat]? >>= fun x4 =>
   some ((i32.wrap (↑x4.toNat : Int), true, Reader.mk x3.2.2.1.s (i64.wrap (x3.2.2.1.at0 + (1 : Int))), ()))
  else none
 else n_97s5bd0 (ByteArray.mk #[117], x3.2.2.1, ()) >>= fun x4 =>
 if (!x4.1) = true then
  some (((0 : Int), false, x4.2.1, ()))
 else n_150sadb0 (ByteArray.mk #[48, 49, 50, 51, 52, 53, 54, 55, 56, 57, 97, 98, 99, 101, 102, 65, 66, 67, 69, 70], ByteArray.mk #[48, 49, 50, 51, 52, 53, 54, 55, 56, 57, 97, 98, 65, 66], x4.2.1, ()) >>= fun x5 =>
 (if (!x5.2.1) = true then
    some ((x5.1, x5.2.1, true, x5.2.2.1, ()))
   else if decide (x5.1 < (55296 : Int)) = true then
    some ((x5.1, x5.2.1, true, x5.2.2.1, ()))
   else some ((x5.1, x5.2.1, decide (x5.1 ≥ (56320 : Int)), x5.2.2.1, ()))) >>= fun x6 =>
 if x6.2.2.1 = true then
  some ((x6.1, x6.2.1, x6.2.2.2.1, ()))
 else n_92s5bd0 (ByteArray.mk #[92, 117], x6.2.2.2.1, ()) >>= fun x7 =>
 if (!x7.1) = true then
  some (((0 : Int), false, x7.2.1, ()))
 else n_150sadb0 (ByteArray.mk #[], ByteArray.mk #[99, 100, 101, 102, 67, 68, 69, 70], x7.2.1, ()) >>= fun x8 =>
 some ((i32.wrap (i32.wrap (i32.wrap ((65536 : Int) + Bs.ishl i32 (i32.wrap (x6.1 - (55296 : Int))) (10 : Int)) + x8.1) - (56320 : Int)), x8.2.1, x8.2.2.1, ()))
noncomputable def call119s0e1d : Caller vw := fun A fid args S k => match fid with | 91 => callObj prog sig91s0e1d n_91s0e1d A args S k | 92 => callObj prog sig92s5bd0 n_92s5bd0 A args S k | 97 => callObj prog sig97s5bd0 n_97s5bd0 A args S k | 147 => callPure prog sig147 n_147 A args S k | 150 => callObj prog sig150sadb0 n_150sadb0 A args S k | _ => none
noncomputable def x119s0e1d : Xc vw := { P := prog, n := 71, call := call119s0e1d, sh := sh119s0e1d, regs := fun k => match k with | 2 => some c119s0e1dr2 | 8 => some c119s0e1dr8 | _ => none }
theorem call119s0e1d_ok : CallerOk prog call119s0e1d := fun A fid args S dst k r h => by
 unfold call119s0e1d at h
 split at h
 ·exact callObj_ok (n_91s0e1d_ok) h
 ·exact callObj_ok (n_92s5bd0_ok) h
 ·exact callObj_ok (n_97s5bd0_ok) h
 ·exact callPure_ok (n_147_ok) rfl rfl h
 ·exact callObj_ok (n_150sadb0_ok) h
 ·cases h
theorem n_119s0e1d_ok : SigOk prog 119 sig119s0e1d n_119s0e1d := fun v r x h hx =>
 fn_ok (X := x119s0e1d) (sig := sig119s0e1d) rfl Tryz.func119 (c := bodyOf Tryz.f119) (by kernel_rfl) Tryz.ntmps119 (by kernel_rfl) (by kernel_rfl) rfl Ty.mixed call119s0e1d_ok rfl (fun C hP hN => (lok_all (kcast (by kernel_rfl) trivial))) (kcast (by kernel_rfl) h) x hx
noncomputable def c174s43b2j7 : Cut SN := ⟨[(0, .vh 100000), (1, .dat (.int .i32)), (5, .dat (.int .u32)), (25, .dat .bool)], [(100000, .vec 5 (.int .u8))]⟩
noncomputable def c174s43b2r8 : Cut SN := ⟨[(0, .vh 100000), (1, .dat (.int .i32)), (50, .dat .bool)], [(100000, .vec 5 (.int .u8))]⟩
noncomputable def c174s43b2z : Cut SN := ⟨[(4, .vh 2004)], [(2004, .vec 5 (.int .u8))]⟩
noncomputable def sh174s43b2 : Shape vw := { rcut := c174s43b2z }
noncomputable def sig174s43b2 : Sig vw := { params := [.vh 100000, .dat (.int .i32)], objs := [(100000, .vec 5 (.int .u8))], rcut := c174s43b2z, rvars := [.tmp 4], keep := [2004] }
noncomputable def n_174s43b2 (v : Int × (List Int) × Unit) : Option ((List Int) × Unit) :=
 if decide (IntKind.u32.wrap v.1 ≤ (2047 : Int)) = true then
  if v.2.1.length + [Bs.ior u8 (192 : Int) (u8.wrap (Bs.ishr i32 v.1 (6 : Int))), Bs.ior u8 (128 : Int) (Bs.iand u8 (u8.wrap v.1) (63 : Int))].length ≤ (4294967296 : Nat) then
   some ((v.2.1 ++ [Bs.ior u8 (192 : Int) (u8.wrap (Bs.ishr i32 v.1 (6 : Int))), Bs.ior u8 (128 : Int) (Bs.iand u8 (u8.wrap v.1) (63 : Int))], ()))
  else none
 else (if decide (IntKind.u32.wrap v.1 < (55296 : Int)) = true then
   some ((v.1, IntKind.u32.wrap v.1, true, v.2.1, ()))
  else (if decide ((57343 : Int) < IntKind.u32.wrap v.1) = true then
    some ((v.1, IntKind.u32.wrap v.1, decide (IntKind.u32.wrap v.1 ≤ (65535 : Int)), v.2.1, ()))
   else some ((v.1, IntKind.u32.wrap v.1, false, v.2.1, ()))) >>= fun x1 =>
  some ((x1.1, x1.2.1, x1.2.2.1, x1.2.2.2.1, ()))) >>= fun x1 =>
 if x1.2.2.1 = true then
  if x1.2.2.2.1.length + [Bs.ior u8 (224 : Int) (u8.wrap (Bs.ishr i32 x1.1 (12 : Int))), Bs.ior u8 (128 : Int) (Bs.iand u8 (u8.wrap (Bs.ishr i32 x1.1 (6 : Int))) (63 : Int)), Bs.ior u8 (128 : Int) (Bs.iand u8 (u8.wrap x1.1) (63 : Int))].length ≤ (4294967296 : Nat) then
   some ((x1.2.2.2.1 ++ [Bs.ior u8 (224 : Int) (u8.wrap (Bs.ishr i32 x1.1 (12 : Int))), Bs.ior u8 (128 : Int) (Bs.iand u8 (u8.wrap (Bs.ishr i32 x1.1 (6 : Int))) (63 : Int)), Bs.ior u8 (128 : Int) (Bs.iand u8 (u8.wrap x1.1) (63 : Int))], ()))
  else none
 else (if decide (x1.2.1 > (65535 : Int)) = true then
   some ((x1.1, decide (x1.2.1 ≤ (1114111 : Int)), x1.2.2.2.1, ()))
  else some ((x1.1, false, x1.2.2.2.1, ()))) >>= fun x2 =>
 if x2.2.1 = true then
  if x2.2.2.1.length + [Bs.ior u8 (240 : Int) (u8.wrap (Bs.ishr i32 x2.1 (18 : Int))), Bs.ior u8 (128 : Int) (Bs.iand u8 (u8.wrap (Bs.ishr i32 x2.1 (12 : Int))) (63 : Int)), Bs.ior u8 (128 : Int) (Bs.iand u8 (u8.wrap (Bs.ishr i32 x2.1 (6 : Int))) (63 : Int)), Bs.ior u8 (128 : Int) (Bs.iand u8 (u8.wrap x2.1) (63 : Int))].length ≤ (4294967296 : Nat) then
   some ((x2.2.2.1 ++ [Bs.ior u8 (240 : Int) (u8.wrap (Bs.ishr i32 x2.1 (18 : Int))), Bs.ior u8 (128 : Int) (Bs.iand u8 (u8.wrap (Bs.ishr i32 x2.1 (12 : Int))) (63 : Int)), Bs.ior u8 (128 : Int) (Bs.iand u8 (u8.wrap (Bs.ishr i32 x2.1 (6 : Int))) (63 : Int)), Bs.ior u8 (128 : Int) (Bs.iand u8 (u8.wrap x2.1) (63 : Int))], ()))
  else none
 else if x2.2.2.1.length + [(239 : Int), (191 : Int), (189 : Int)].length ≤ (4294967296 : Nat) then
  some ((x2.2.2.1 ++ [(239 : Int), (191 : Int), (189 : Int)], ()))
 else none
noncomputable def call174s43b2 : Caller vw := fun _ _ _ _ _ => none
noncomputable def x174s43b2 : Xc vw := { P := prog, n := 78, call := call174s43b2, sh := sh174s43b2, joins := fun k => match k with | 7 => some (c174s43b2j7, [.norm]) | _ => none, regs := fun k => match k with | 6 => some c174s43b2j7 | 8 => some c174s43b2r8 | _ => none }
theorem call174s43b2_ok : CallerOk prog call174s43b2 := call_none
theorem n_174s43b2_ok : SigOk prog 174 sig174s43b2 n_174s43b2 := fun v r x h hx =>
 fn_ok (X := x174s43b2) (sig := sig174s43b2) rfl Tryz.func174 (c := bodyOf Tryz.f174) (by kernel_rfl) Tryz.ntmps174 (by kernel_rfl) (by kernel_rfl) rfl Ty.mixed call174s43b2_ok rfl (fun C hP hN => (lok_all (kcast (by kernel_rfl) trivial))) (kcast (by kernel_rfl) h) x hx
noncomputable def sh151s43b2 : Shape vw := { rcut := c174s43b2z }
noncomputable def sig151s43b2 : Sig vw := { params := [.vh 100000, .dat (.int .i32)], objs := [(100000, .vec 5 (.int .u8))], rcut := c174s43b2z, rvars := [.tmp 4], keep := [2004] }
noncomputable def n_151s43b2 (v : Int × (List Int) × Unit) : Option ((List Int) × Unit) :=
 if decide (IntKind.u32.wrap v.1 ≤ (127 : Int)) = true then
  if v.2.1.length + [u8.wrap v.1].length ≤ (4294967296 : Nat) then
   some ((v.2.1 ++ [u8.wrap v.1], ()))
  else none
 else n_174s43b2 (v.1, v.2.1, ()) >>= fun x1 =>
 some ((x1.1, ()))
noncomputable def call151s43b2 : Caller vw := fun A fid args S k => match fid with | 174 => callObj prog sig174s43b2 n_174s43b2 A args S k | _ => none
noncomputable def x151s43b2 : Xc vw := { P := prog, n := 16, call := call151s43b2, sh := sh151s43b2 }
theorem call151s43b2_ok : CallerOk prog call151s43b2 := fun A fid args S dst k r h => by
 unfold call151s43b2 at h
 split at h
 ·exact callObj_ok (n_174s43b2_ok) h
 ·cases h
theorem n_151s43b2_ok : SigOk prog 151 sig151s43b2 n_151s43b2 := fun v r x h hx =>
 fn_ok (X := x151s43b2) (sig := sig151s43b2) rfl Tryz.func151 (c := bodyOf Tryz.f151) (by kernel_rfl) Tryz.ntmps151 (by kernel_rfl) (by kernel_rfl) rfl Ty.mixed call151s43b2_ok rfl (fun C hP hN => (lok_all (kcast (by kernel_rfl) trivial))) (kcast (by kernel_rfl) h) x hx
noncomputable def sh120s6702 : Shape vw := { rcut := c113s555cz }
noncomputable def sig120s6702 : Sig vw := { params := [.bp 100000 0, .dat (.int .i32)], objs := [(100000, .box (some 93) [.np 100000, .vh 100001]), (100001, .vec 5 (.int .u8))], rcut := c113s555cz, rvars := [.tmp 4, .tmp 5], keep := [100000, 3001] }
noncomputable def n_120s6702 (v : Int × Bool × (List Int) × Unit) : Option (Int × Bool × (List Int) × Unit) :=
 n_145s143f (v.2.1, v.2.2.1, ()) >>= fun x1 =>
 n_151s43b2 (v.1, x1.2.1, ()) >>= fun x2 =>
 some ((i64.wrap ((↑x2.1.length : Int) - (↑x1.2.1.length : Int)), x1.1, x2.1, ()))
noncomputable def call120s6702 : Caller vw := fun A fid args S k => match fid with | 145 => callObj prog sig145s143f n_145s143f A args S k | 151 => callObj prog sig151s43b2 n_151s43b2 A args S k | _ => none
noncomputable def x120s6702 : Xc vw := { P := prog, n := 30, call := call120s6702, sh := sh120s6702 }
theorem call120s6702_ok : CallerOk prog call120s6702 := fun A fid args S dst k r h => by
 unfold call120s6702 at h
 split at h
 ·exact callObj_ok (n_145s143f_ok) h
 ·exact callObj_ok (n_151s43b2_ok) h
 ·cases h
theorem n_120s6702_ok : SigOk prog 120 sig120s6702 n_120s6702 := fun v r x h hx =>
 fn_ok (X := x120s6702) (sig := sig120s6702) rfl Tryz.func120 (c := bodyOf Tryz.f120) (by kernel_rfl) Tryz.ntmps120 (by kernel_rfl) (by kernel_rfl) rfl Ty.mixed call120s6702_ok rfl (fun C hP hN => (lok_all (kcast (by kernel_rfl) trivial))) (kcast (by kernel_rfl) h) x hx
noncomputable def c152s07d3r1 : Cut SN := ⟨[(0, .bp 100000 0), (42, .dat .bool)], [(100000, .st .readerT)]⟩
noncomputable def c152s07d3z : Cut SN := ⟨[(0, .bp 100000 0), (6, .dat .bool)], [(100000, .st .readerT)]⟩
noncomputable def sh152s07d3 : Shape vw := { rcut := c152s07d3z }
noncomputable def sig152s07d3 : Sig vw := { params := [.bp 100000 0, .dat (.int .u8), .dat (.int .u8)], objs := [(100000, .st .readerT)], rcut := c152s07d3z, rvars := [.tmp 6], keep := [100000] }
noncomputable def n_152s07d3 (v : Int × Int × Reader × Unit) : Option (Bool × Reader × Unit) :=
 (if (v.2.2.1.at0 == (↑v.2.2.1.s.size : Int)) = true then
    some ((true, v.2.2.1, ()))
   else if (0 : Int) ≤ v.2.2.1.at0 then
    v.2.2.1.s[v.2.2.1.at0.toNat]? >>= fun x1 =>
    if decide ((↑x1.toNat : Int) < v.1) = true then
     some ((true, v.2.2.1, ()))
    else if (0 : Int) ≤ v.2.2.1.at0 then
     v.2.2.1.s[v.2.2.1.at0.toNat]? >>= fun x2 =>
     some ((decide ((↑x2.toNat : Int) > v.2.1), v.2.2.1, ()))
    else none
   else none) >>= fun x1 =>
 if x1.1 = true then
  some ((false, x1.2.1, ()))
 else some ((true, Reader.mk x1.2.1.s (i64.wrap (x1.2.1.at0 + (1 : Int))), ()))
noncomputable def call152s07d3 : Caller vw := fun _ _ _ _ _ => none
noncomputable def x152s07d3 : Xc vw := { P := prog, n := 50, call := call152s07d3, sh := sh152s07d3, regs := fun k => match k with | 1 => some c152s07d3r1 | _ => none }
theorem call152s07d3_ok : CallerOk prog call152s07d3 := call_none
theorem n_152s07d3_ok : SigOk prog 152 sig152s07d3 n_152s07d3 := fun v r x h hx =>
 fn_ok (X := x152s07d3) (sig := sig152s07d3) rfl Tryz.func152 (c := bodyOf Tryz.f152) (by kernel_rfl) Tryz.ntmps152 (by kernel_rfl) (by kernel_rfl) rfl Ty.mixed call152s07d3_ok rfl (fun C hP hN => (lok_all (kcast (by kernel_rfl) trivial))) (kcast (by kernel_rfl) h) x hx
noncomputable def c121s0e1dl22 : Cut SN := ⟨[(0, .bp 100000 0), (4, .dat (.int .u8)), (5, .dat (.int .u8)), (48, .dat (.int .i64)), (49, .dat (.int .i64))], [(100000, .st .readerT)]⟩
noncomputable def c121s0e1dj11 : Cut SN := ⟨[(0, .bp 100000 0), (3, .dat (.int .u8)), (4, .dat (.int .u8)), (5, .dat (.int .u8)), (6, .dat (.int .i64))], [(100000, .st .readerT)]⟩
noncomputable def c121s0e1dj20 : Cut SN := ⟨[(0, .bp 100000 0), (4, .dat (.int .u8)), (5, .dat (.int .u8)), (6, .dat (.int .i64))], [(100000, .st .readerT)]⟩
noncomputable def c121s0e1dr5 : Cut SN := ⟨[(0, .bp 100000 0), (3, .dat (.int .u8)), (4, .dat (.int .u8)), (5, .dat (.int .u8)), (19, .dat .bool)], [(100000, .st .readerT)]⟩
noncomputable def c121s0e1dz : Cut SN := ⟨[(0, .bp 100000 0), (2, .dat .bool)], [(100000, .st .readerT)]⟩
noncomputable def sh121s0e1d : Shape vw := { exits := fun id => match id with | 2 => c66s0e1dl0 | _ => ⟨[], []⟩, rcut := c121s0e1dz }
noncomputable def sig121s0e1d : Sig vw := { params := [.bp 100000 0], objs := [(100000, .st .readerT)], rcut := c121s0e1dz, rvars := [.tmp 2], keep := [100000] }
noncomputable def n_121s0e1dl22 (v : Int × Int × Int × Int × Reader × Unit) : Option (((Bool × Reader × Unit) ⊕ (Reader × Unit))) :=
 if decide (v.2.2.2.1 < v.2.2.1) = true then
  n_152s07d3 (v.1, v.2.1, v.2.2.2.2.1, ()) >>= fun x1 =>
  if (!x1.1) = true then
   some (Sum.inl (false, x1.2.1, ()))
  else n_121s0e1dl22 ((128 : Int), (191 : Int), v.2.2.1, i64.wrap (v.2.2.2.1 + (1 : Int)), x1.2.1, ())
 else some (Sum.inr (v.2.2.2.2.1, ()))
 partial_fixpoint
noncomputable def n_121s0e1d (v : Reader × Unit) : Option (Bool × Reader × Unit) :=
 if (0 : Int) ≤ v.1.at0 then
  v.1.s[v.1.at0.toNat]? >>= fun x1 =>
  (if decide ((↑x1.toNat : Int) < (128 : Int)) = true then
     some (Sum.inl ((↑x1.toNat : Int), (128 : Int), (191 : Int), (0 : Int), v.1, ()))
    else (if decide ((↑x1.toNat : Int) < (194 : Int)) = true then
      some (((↑x1.toNat : Int), (128 : Int), (191 : Int), true, v.1, ()))
     else some (((↑x1.toNat : Int), (128 : Int), (191 : Int), decide ((↑x1.toNat : Int) > (244 : Int)), v.1, ()))) >>= fun x2 =>
    if x2.2.2.2.1 = true then
     some (Sum.inr (false, x2.2.2.2.2.1, ()))
    else if decide (x2.1 < (224 : Int)) = true then
     some (Sum.inl (x2.1, x2.2.1, x2.2.2.1, (1 : Int), x2.2.2.2.2.1, ()))
    else if decide (x2.1 < (240 : Int)) = true then
     some (Sum.inl (x2.1, x2.2.1, x2.2.2.1, (2 : Int), x2.2.2.2.2.1, ()))
    else some (Sum.inl (x2.1, x2.2.1, x2.2.2.1, (3 : Int), x2.2.2.2.2.1, ()))) >>= fun x2 => match x2 with
    | .inl y2 => (if (y2.1 == (224 : Int)) = true then
       some (((160 : Int), y2.2.2.1, y2.2.2.2.1, y2.2.2.2.2.1, ()))
      else if (y2.1 == (237 : Int)) = true then
       some ((y2.2.1, (159 : Int), y2.2.2.2.1, y2.2.2.2.2.1, ()))
      else if (y2.1 == (240 : Int)) = true then
       some (((144 : Int), y2.2.2.1, y2.2.2.2.1, y2.2.2.2.2.1, ()))
      else if (y2.1 == (244 : Int)) = true then
       some ((y2.2.1, (143 : Int), y2.2.2.2.1, y2.2.2.2.2.1, ()))
      else some ((y2.2.1, y2.2.2.1, y2.2.2.2.1, y2.2.2.2.2.1, ()))) >>= fun x3 =>
     n_121s0e1dl22 (x3.1, x3.2.1, x3.2.2.1, (0 : Int), Reader.mk x3.2.2.2.1.s (i64.wrap (x3.2.2.2.1.at0 + (1 : Int))), ()) >>= fun x4 => match x4 with
      | .inl y4 => some y4
      | .inr y4 => some ((true, y4.1, ()))
    | .inr y2 => some y2
 else none
noncomputable def call121s0e1d : Caller vw := fun A fid args S k => match fid with | 152 => callObj prog sig152s07d3 n_152s07d3 A args S k | _ => none
noncomputable def x121s0e1d : Xc vw := { P := prog, n := 57, call := call121s0e1d, sh := sh121s0e1d, joins := fun k => match k with | 11 => some (c121s0e1dj11, [.norm, .ret]) | 20 => some (c121s0e1dj20, [.norm]) | _ => none, regs := fun k => match k with | 5 => some c121s0e1dr5 | _ => none, loops := fun k => match k with | 22 => some { cut := c121s0e1dl22, alts := [.ret, .exit 2], F := n_121s0e1dl22 } | _ => none }
theorem call121s0e1d_ok : CallerOk prog call121s0e1d := fun A fid args S dst k r h => by
 unfold call121s0e1d at h
 split at h
 ·exact callObj_ok (n_152s07d3_ok) h
 ·cases h
theorem n_121s0e1dl22_ok (C : Ctx) (hP : C.P = prog) (hN : C.N = 57) : LoopOk C (loopNo (bodyOf Tryz.f121) 0) (sh := sh121s0e1d) { cut := c121s0e1dl22, alts := [.ret, .exit 2], F := n_121s0e1dl22 } :=
 n_121s0e1dl22.partial_correctness (motive := fun v out => AWpL C (loopNo (bodyOf Tryz.f121) 0) (encS vw (conc vw c121s0e1dl22 v)) (OutQ sh121s0e1d [.ret, .exit 2] out)) fun F ih v out h =>
  loop_step (X := x121s0e1d) (b := (loopNo (bodyOf Tryz.f121) 0)) hP hN Ty.mixed call121s0e1d_ok (lok_all (X := x121s0e1d) (c := (loopNo (bodyOf Tryz.f121) 0)) (kcast (by kernel_rfl : True = AllB (LoopsP C (x121s0e1d)) (loopsIn (loopNo (bodyOf Tryz.f121) 0))) trivial)) ih (kcast (by kernel_rfl) h)
theorem n_121s0e1d_ok : SigOk prog 121 sig121s0e1d n_121s0e1d := fun v r x h hx =>
 fn_ok (X := x121s0e1d) (sig := sig121s0e1d) rfl Tryz.func121 (c := bodyOf Tryz.f121) (by kernel_rfl) Tryz.ntmps121 (by kernel_rfl) (by kernel_rfl) rfl Ty.mixed call121s0e1d_ok rfl (fun C hP hN => (lok_all (kcast (by kernel_rfl : AllB (LoopsP C (x121s0e1d)) [(loopNo (bodyOf Tryz.f121) 0)] = AllB (LoopsP C (x121s0e1d)) (loopsIn (bodyOf Tryz.f121))) ⟨loop_at (X := x121s0e1d) (b := (loopNo (bodyOf Tryz.f121) 0)) (by kernel_rfl) (n_121s0e1dl22_ok C hP hN), trivial⟩))) (kcast (by kernel_rfl) h) x hx
noncomputable def sh83s143f : Shape vw := { rcut := c79z }
noncomputable def sig83s143f : Sig vw := { params := [.bp 100000 0], objs := [(100000, .box (some 93) [.np 100000, .vh 100001]), (100001, .vec 5 (.int .u8))], rcut := c79z, rvars := [.tmp 2] }
noncomputable def n_83s143f (v : Bool × (List Int) × Unit) : Option (ByteArray × Unit) :=
 if (↑v.2.1.length : Int) = (↑v.2.1.length : Int) ∧ v.2.1.length ≤ (4294967296 : Nat) then
  some ((Bs.bytes v.2.1, ()))
 else none
noncomputable def call83s143f : Caller vw := fun _ _ _ _ _ => none
noncomputable def x83s143f : Xc vw := { P := prog, n := 14, call := call83s143f, sh := sh83s143f }
theorem call83s143f_ok : CallerOk prog call83s143f := call_none
theorem n_83s143f_ok : SigOk prog 83 sig83s143f n_83s143f := fun v r x h hx =>
 fn_ok (X := x83s143f) (sig := sig83s143f) rfl Tryz.func83 (c := bodyOf Tryz.f83) (by kernel_rfl) Tryz.ntmps83 (by kernel_rfl) (by kernel_rfl) rfl Ty.mixed call83s143f_ok rfl (fun C hP hN => (lok_all (kcast (by kernel_rfl) trivial))) (kcast (by kernel_rfl) h) x hx
noncomputable def c94s0e1dl3 : Cut SN := ⟨[(0, .bp 100000 0), (4, .bp 4 0)], [(100000, .st .readerT), (4, .box (some 93) [.np 4, .vh 3041]), (3041, .vec 5 (.int .u8))]⟩
noncomputable def c94s0e1dz : Cut SN := ⟨[(0, .bp 100000 0), (2, .dat .str), (3, .dat .bool)], [(100000, .st .readerT)]⟩
noncomputable def sh94s0e1d : Shape vw := { rcut := c94s0e1dz }
noncomputable def sig94s0e1d : Sig vw := { params := [.bp 100000 0], objs := [(100000, .st .readerT)], rcut := c94s0e1dz, rvars := [.tmp 2, .tmp 3], keep := [100000] }
noncomputable def n_94s0e1dl3 (v : Reader × Bool × (List Int) × Unit) : Option ((ByteArray × Bool × Reader × Unit)) :=
 n_91s0e1d (v.1, ()) >>= fun x1 =>
 if (x1.1 == (34 : Int)) = true then
  n_83s143f (v.2.1, v.2.2.1, ()) >>= fun x2 =>
  some ((x2.1, true, Reader.mk x1.2.1.s (i64.wrap (x1.2.1.at0 + (1 : Int))), ()))
 else if decide (x1.1 < (32 : Int)) = true then
  some ((ByteArray.mk #[], false, x1.2.1, ()))
 else if (x1.1 == (92 : Int)) = true then
  n_119s0e1d (Reader.mk x1.2.1.s (i64.wrap (x1.2.1.at0 + (1 : Int))), ()) >>= fun x2 =>
  if (!x2.2.1) = true then
   some ((ByteArray.mk #[], false, x2.2.2.1, ()))
  else n_120s6702 (x2.1, v.2.1, v.2.2.1, ()) >>= fun x3 =>
  n_94s0e1dl3 (x2.2.2.1, x3.2.1, x3.2.2.1, ())
 else n_121s0e1d (x1.2.1, ()) >>= fun x2 =>
 if (!x2.1) = true then
  some ((ByteArray.mk #[], false, x2.2.1, ()))
 else if (0 : Int) ≤ x1.2.1.at0 ∧ x1.2.1.at0 ≤ x2.2.1.at0 ∧ x2.2.1.at0 ≤ (↑x2.2.1.s.size : Int) then
  n_113s555c (x2.2.1.s.extract x1.2.1.at0.toNat x2.2.1.at0.toNat, v.2.1, v.2.2.1, ()) >>= fun x3 =>
  n_94s0e1dl3 (x2.2.1, x3.2.1, x3.2.2.1, ())
 else none
 partial_fixpoint
noncomputable def n_94s0e1d (v : Reader × Unit) : Option (ByteArray × Bool × Reader × Unit) :=
 some (v.1, false, [], ()) >>= fun x1 =>
 n_94s0e1dl3 (Reader.mk x1.1.s (i64.wrap (x1.1.at0 + (1 : Int))), x1.2.1, x1.2.2.1, ()) >>= fun x2 =>
 some x2
noncomputable def call94s0e1d : Caller vw := fun A fid args S k => match fid with | 83 => callObj prog sig83s143f n_83s143f A args S k | 91 => callObj prog sig91s0e1d n_91s0e1d A args S k | 113 => callObj prog sig113s555c n_113s555c A args S k | 119 => callObj prog sig119s0e1d n_119s0e1d A args S k | 120 => callObj prog sig120s6702 n_120s6702 A args S k | 121 => callObj prog sig121s0e1d n_121s0e1d A args S k | _ => none
noncomputable def x94s0e1d : Xc vw := { P := prog, n := 69, call := call94s0e1d, sh := sh94s0e1d, regs := fun k => match k with | 1 => some c94s0e1dl3 | _ => none, loops := fun k => match k with | 3 => some { cut := c94s0e1dl3, alts := [.ret], F := n_94s0e1dl3 } | _ => none }
theorem call94s0e1d_ok : CallerOk prog call94s0e1d := fun A fid args S dst k r h => by
 unfold call94s0e1d at h
 split at h
 ·exact callObj_ok (n_83s143f_ok) h
 ·exact callObj_ok (n_91s0e1d_ok) h
 ·exact callObj_ok (n_113s555c_ok) h
 ·exact callObj_ok (n_119s0e1d_ok) h
 ·exact callObj_ok (n_120s6702_ok) h
 ·exact callObj_ok (n_121s0e1d_ok) h
 ·cases h
theorem n_94s0e1dl3_ok (C : Ctx) (hP : C.P = prog) (hN : C.N = 69) : LoopOk C (loopNo (bodyOf Tryz.f94) 0) (sh := sh94s0e1d) { cut := c94s0e1dl3, alts := [.ret], F := n_94s0e1dl3 } :=
 n_94s0e1dl3.partial_correctness (motive := fun v out => AWpL C (loopNo (bodyOf Tryz.f94) 0) (encS vw (conc vw c94s0e1dl3 v)) (OutQ sh94s0e1d [.ret] out)) fun F ih v out h =>
  loop_step (X := x94s0e1d) (b := (loopNo (bodyOf Tryz.f94) 0)) hP hN Ty.mixed call94s0e1d_ok (lok_all (X := x94s0e1d) (c := (loopNo (bodyOf Tryz.f94) 0)) (kcast (by kernel_rfl : True = AllB (LoopsP C (x94s0e1d)) (loopsIn (loopNo (bodyOf Tryz.f94) 0))) trivial)) ih (kcast (by kernel_rfl) h)
theorem n_94s0e1d_ok : SigOk prog 94 sig94s0e1d n_94s0e1d := fun v r x h hx =>
 fn_ok (X := x94s0e1d) (sig := sig94s0e1d) rfl Tryz.func94 (c := bodyOf Tryz.f94) (by kernel_rfl) Tryz.ntmps94 (by kernel_rfl) (by kernel_rfl) rfl Ty.mixed call94s0e1d_ok rfl (fun C hP hN => (lok_all (kcast (by kernel_rfl : AllB (LoopsP C (x94s0e1d)) [(loopNo (bodyOf Tryz.f94) 0)] = AllB (LoopsP C (x94s0e1d)) (loopsIn (bodyOf Tryz.f94))) ⟨loop_at (X := x94s0e1d) (b := (loopNo (bodyOf Tryz.f94) 0)) (by kernel_rfl) (n_94s0e1dl3_ok C hP hN), trivial⟩))) (kcast (by kernel_rfl) h) x hx
noncomputable def c65s0e1dr9 : Cut SN := ⟨[(0, .bp 100000 0), (2, .bp 2 0), (4, .dat (.int .u8)), (29, .dat .bool)], [(100000, .st .readerT), (2, .st .tagT)]⟩
noncomputable def sh65s0e1d : Shape vw := { rcut := c93s0e1dz }
noncomputable def sig65s0e1d : Sig vw := { params := [.bp 100000 0], objs := [(100000, .st .readerT)], rcut := c93s0e1dz, rvars := [.cell 2 25, .tmp 3], keep := [100000] }
noncomputable def c95s0e1dg1 : Cut SN := ⟨[(0, .bp 100000 0), (2, .bp 2 0), (4, .bp 4 0)], [(100000, .st .readerT), (2, .st .tagT), (4, .box none [.dat (.int .i64), .dat (.int .i64), .dat .str, .vh 3043, .vh 3044]), (3043, .vec 9 .str), (3044, .vec 25 (.st .tagT))]⟩
noncomputable def sh95s0e1d : Shape vw := { exits := fun id => match id with | 1000000 => c95s0e1dg1 | _ => ⟨[], []⟩, rcut := c93s0e1dz }
noncomputable def sig95s0e1d : Sig vw := { params := [.bp 100000 0], objs := [(100000, .st .readerT)], rcut := c93s0e1dz, rvars := [.cell 2 25, .tmp 3], keep := [100000] }
noncomputable def sh96s0e1d : Shape vw := { exits := fun id => match id with | 1000000 => c95s0e1dg1 | _ => ⟨[], []⟩, rcut := c93s0e1dz }
noncomputable def sig96s0e1d : Sig vw := { params := [.bp 100000 0], objs := [(100000, .st .readerT)], rcut := c93s0e1dz, rvars := [.cell 2 25, .tmp 3], keep := [100000] }
mutual
noncomputable def n_65s0e1d (v : Reader × Unit) : Option (Bool × Reader × Tag × Unit) :=
 n_66s0e1d (v.1, ()) >>= fun x1 =>
 n_91s0e1d (x1.1, ()) >>= fun x2 =>
 if (x2.1 == (110 : Int)) = true then
  n_92s5bd0 (ByteArray.mk #[110, 117, 108, 108], x2.2.1, ()) >>= fun x3 =>
  some ((x3.1, x3.2.1, Tag.mk (0 : Int) (0 : Int) (ByteArray.mk #[]) [] [], ()))
 else if (x2.1 == (102 : Int)) = true then
  n_92s5bd0 (ByteArray.mk #[102, 97, 108, 115, 101], x2.2.1, ()) >>= fun x3 =>
  some ((x3.1, x3.2.1, Tag.mk (1 : Int) (0 : Int) (ByteArray.mk #[]) [] [], ()))
 else if (x2.1 == (116 : Int)) = true then
  n_92s5bd0 (ByteArray.mk #[116, 114, 117, 101], x2.2.1, ()) >>= fun x3 =>
  some ((x3.1, x3.2.1, Tag.mk (2 : Int) (0 : Int) (ByteArray.mk #[]) [] [], ()))
 else (if (x2.1 == (45 : Int)) = true then
   some ((x2.1, true, x2.2.1, Tag.mk (0 : Int) (0 : Int) (ByteArray.mk #[]) [] [], ()))
  else if decide (x2.1 ≥ (48 : Int)) = true then
   some ((x2.1, decide (x2.1 ≤ (57 : Int)), x2.2.1, Tag.mk (0 : Int) (0 : Int) (ByteArray.mk #[]) [] [], ()))
  else some ((x2.1, false, x2.2.1, Tag.mk (0 : Int) (0 : Int) (ByteArray.mk #[]) [] [], ()))) >>= fun x3 =>
 if x3.2.1 = true then
  n_93s0e1d (x3.2.2.1, ()) >>= fun x4 =>
  some ((x4.1, x4.2.1, x4.2.2.1, ()))
 else if (x3.1 == (34 : Int)) = true then
  n_94s0e1d (x3.2.2.1, ()) >>= fun x4 =>
  some ((x4.2.1, x4.2.2.1, Tag.mk (4 : Int) (0 : Int) x4.1 [] [], ()))
 else if (x3.1 == (91 : Int)) = true then
  n_95s0e1d (x3.2.2.1, ()) >>= fun x4 =>
  some ((x4.1, x4.2.1, x4.2.2.1, ()))
 else if (x3.1 == (123 : Int)) = true then
  n_96s0e1d (x3.2.2.1, ()) >>= fun x4 =>
  some ((x4.1, x4.2.1, x4.2.2.1, ()))
 else some ((false, x3.2.2.1, Tag.mk (0 : Int) (0 : Int) (ByteArray.mk #[]) [] [], ()))
 partial_fixpoint
noncomputable def n_96s0e1d (v : Reader × Unit) : Option (Bool × Reader × Tag × Unit) :=
 some (v.1, Tag.mk (0 : Int) (0 : Int) (ByteArray.mk #[]) [] [], (6 : Int), (0 : Int), ByteArray.mk #[], [], [], ()) >>= fun x1 =>
 n_66s0e1d (Reader.mk x1.1.s (i64.wrap (x1.1.at0 + (1 : Int))), ()) >>= fun x2 =>
 n_97s5bd0 (ByteArray.mk #[125], x2.1, ()) >>= fun x3 =>
 if x3.1 = true then
  some ((true, x3.2.1, Tag.mk x1.2.2.1 x1.2.2.2.1 x1.2.2.2.2.1 x1.2.2.2.2.2.1 x1.2.2.2.2.2.2.1, ()))
 else n_66s0e1d (x3.2.1, ()) >>= fun x4 =>
 n_91s0e1d (x4.1, ()) >>= fun x5 =>
 if (x5.1 != (34 : Int)) = true then
  some ((false, x5.2.1, Tag.mk (0 : Int) (0 : Int) (ByteArray.mk #[]) [] [], ()))
 else n_94s0e1d (x5.2.1, ()) >>= fun x6 =>
 if (!x6.2.1) = true then
  some ((false, x6.2.2.1, Tag.mk (0 : Int) (0 : Int) (ByteArray.mk #[]) [] [], ()))
 else n_66s0e1d (x6.2.2.1, ()) >>= fun x7 =>
 n_97s5bd0 (ByteArray.mk #[58], x7.1, ()) >>= fun x8 =>
 if (!x8.1) = true then
  some ((false, x8.2.1, Tag.mk (0 : Int) (0 : Int) (ByteArray.mk #[]) [] [], ()))
 else n_65s0e1d (x8.2.1, ()) >>= fun x9 =>
 if (!x9.1) = true then
  some ((false, x9.2.1, Tag.mk (0 : Int) (0 : Int) (ByteArray.mk #[]) [] [], ()))
 else if x1.2.2.2.2.2.1.length + [x6.1].length ≤ (4294967296 : Nat) then
  if x1.2.2.2.2.2.2.1.length + [x9.2.2.1].length ≤ (4294967296 : Nat) then
   n_66s0e1d (x9.2.1, ()) >>= fun x10 =>
   n_97s5bd0 (ByteArray.mk #[44], x10.1, ()) >>= fun x11 =>
   if x11.1 = true then
    n_96s0e1dg1 (x11.2.1, x1.2.1, x1.2.2.1, x1.2.2.2.1, x1.2.2.2.2.1, x1.2.2.2.2.2.1 ++ [x6.1], x1.2.2.2.2.2.2.1 ++ [x9.2.2.1], ()) >>= fun x12 =>
    some x12
   else n_97s5bd0 (ByteArray.mk #[125], x11.2.1, ()) >>= fun x12 =>
   some ((x12.1, x12.2.1, Tag.mk x1.2.2.1 x1.2.2.2.1 x1.2.2.2.2.1 (x1.2.2.2.2.2.1 ++ [x6.1]) (x1.2.2.2.2.2.2.1 ++ [x9.2.2.1]), ()))
  else none
 else none
 partial_fixpoint
noncomputable def n_96s0e1dg1 (v : Reader × Tag × Int × Int × ByteArray × (List ByteArray) × (List Tag) × Unit) : Option ((Bool × Reader × Tag × Unit)) :=
 n_66s0e1d (v.1, ()) >>= fun x1 =>
 n_91s0e1d (x1.1, ()) >>= fun x2 =>
 if (x2.1 != (34 : Int)) = true then
  some ((false, x2.2.1, Tag.mk (0 : Int) (0 : Int) (ByteArray.mk #[]) [] [], ()))
 else n_94s0e1d (x2.2.1, ()) >>= fun x3 =>
 if (!x3.2.1) = true then
  some ((false, x3.2.2.1, Tag.mk (0 : Int) (0 : Int) (ByteArray.mk #[]) [] [], ()))
 else n_66s0e1d (x3.2.2.1, ()) >>= fun x4 =>
 n_97s5bd0 (ByteArray.mk #[58], x4.1, ()) >>= fun x5 =>
 if (!x5.1) = true then
  some ((false, x5.2.1, Tag.mk (0 : Int) (0 : Int) (ByteArray.mk #[]) [] [], ()))
 else n_65s0e1d (x5.2.1, ()) >>= fun x6 =>
 if (!x6.1) = true then
  some ((false, x6.2.1, Tag.mk (0 : Int) (0 : Int) (ByteArray.mk #[]) [] [], ()))
 else if v.2.2.2.2.2.1.length + [x3.1].length ≤ (4294967296 : Nat) then
  if v.2.2.2.2.2.2.1.length + [x6.2.2.1].length ≤ (4294967296 : Nat) then
   n_66s0e1d (x6.2.1, ()) >>= fun x7 =>
   n_97s5bd0 (ByteArray.mk #[44], x7.1, ()) >>= fun x8 =>
   if x8.1 = true then
    n_96s0e1dg1 (x8.2.1, v.2.1, v.2.2.1, v.2.2.2.1, v.2.2.2.2.1, v.2.2.2.2.2.1 ++ [x3.1], v.2.2.2.2.2.2.1 ++ [x6.2.2.1], ())
   else n_97s5bd0 (ByteArray.mk #[125], x8.2.1, ()) >>= fun x9 =>
   some ((x9.1, x9.2.1, Tag.mk v.2.2.1 v.2.2.2.1 v.2.2.2.2.1 (v.2.2.2.2.2.1 ++ [x3.1]) (v.2.2.2.2.2.2.1 ++ [x6.2.2.1]), ()))
  else none
 else none
 partial_fixpoint
noncomputable def n_95s0e1d (v : Reader × Unit) : Option (Bool × Reader × Tag × Unit) :=
 some (v.1, Tag.mk (0 : Int) (0 : Int) (ByteArray.mk #[]) [] [], (5 : Int), (0 : Int), ByteArray.mk #[], [], [], ()) >>= fun x1 =>
 n_66s0e1d (Reader.mk x1.1.s (i64.wrap (x1.1.at0 + (1 : Int))), ()) >>= fun x2 =>
 n_97s5bd0 (ByteArray.mk #[93], x2.1, ()) >>= fun x3 =>
 if x3.1 = true then
  some ((true, x3.2.1, Tag.mk x1.2.2.1 x1.2.2.2.1 x1.2.2.2.2.1 x1.2.2.2.2.2.1 x1.2.2.2.2.2.2.1, ()))
 else n_65s0e1d (x3.2.1, ()) >>= fun x4 =>
 if (!x4.1) = true then
  some ((false, x4.2.1, Tag.mk (0 : Int) (0 : Int) (ByteArray.mk #[]) [] [], ()))
 else if x1.2.2.2.2.2.2.1.length + [x4.2.2.1].length ≤ (4294967296 : Nat) then
  n_66s0e1d (x4.2.1, ()) >>= fun x5 =>
  n_97s5bd0 (ByteArray.mk #[44], x5.1, ()) >>= fun x6 =>
  if x6.1 = true then
   n_95s0e1dg1 (x6.2.1, x1.2.1, x1.2.2.1, x1.2.2.2.1, x1.2.2.2.2.1, x1.2.2.2.2.2.1, x1.2.2.2.2.2.2.1 ++ [x4.2.2.1], ()) >>= fun x7 =>
   some x7
  else n_97s5bd0 (ByteArray.mk #[93], x6.2.1, ()) >>= fun x7 =>
  some ((x7.1, x7.2.1, Tag.mk x1.2.2.1 x1.2.2.2.1 x1.2.2.2.2.1 x1.2.2.2.2.2.1 (x1.2.2.2.2.2.2.1 ++ [x4.2.2.1]), ()))
 else none
 partial_fixpoint
noncomputable def n_95s0e1dg1 (v : Reader × Tag × Int × Int × ByteArray × (List ByteArray) × (List Tag) × Unit) : Option ((Bool × Reader × Tag × Unit)) :=
 n_65s0e1d (v.1, ()) >>= fun x1 =>
 if (!x1.1) = true then
  some ((false, x1.2.1, Tag.mk (0 : Int) (0 : Int) (ByteArray.mk #[]) [] [], ()))
 else if v.2.2.2.2.2.2.1.length + [x1.2.2.1].length ≤ (4294967296 : Nat) then
  n_66s0e1d (x1.2.1, ()) >>= fun x2 =>
  n_97s5bd0 (ByteArray.mk #[44], x2.1, ()) >>= fun x3 =>
  if x3.1 = true then
   n_95s0e1dg1 (x3.2.1, v.2.1, v.2.2.1, v.2.2.2.1, v.2.2.2.2.1, v.2.2.2.2.2.1, v.2.2.2.2.2.2.1 ++ [x1.2.2.1], ())
  else n_97s5bd0 (ByteArray.mk #[93], x3.2.1, ()) >>= fun x4 =>
  some ((x4.1, x4.2.1, Tag.mk v.2.2.1 v.2.2.2.1 v.2.2.2.2.1 v.2.2.2.2.2.1 (v.2.2.2.2.2.2.1 ++ [x1.2.2.1]), ()))
 else none
 partial_fixpoint
end
noncomputable def call65s0e1d (n_65s0e1d : Reader × Unit → Option (Bool × Reader × Tag × Unit)) (n_96s0e1d : Reader × Unit → Option (Bool × Reader × Tag × Unit)) (n_96s0e1dg1 : Reader × Tag × Int × Int × ByteArray × (List ByteArray) × (List Tag) × Unit → Option ((Bool × Reader × Tag × Unit))) (n_95s0e1d : Reader × Unit → Option (Bool × Reader × Tag × Unit)) (n_95s0e1dg1 : Reader × Tag × Int × Int × ByteArray × (List ByteArray) × (List Tag) × Unit → Option ((Bool × Reader × Tag × Unit))) : Caller vw := fun A fid args S k => match fid with | 66 => callObj prog sig66s0e1d n_66s0e1d A args S k | 91 => callObj prog sig91s0e1d n_91s0e1d A args S k | 92 => callObj prog sig92s5bd0 n_92s5bd0 A args S k | 93 => callObj prog sig93s0e1d n_93s0e1d A args S k | 94 => callObj prog sig94s0e1d n_94s0e1d A args S k | 95 => callObj prog sig95s0e1d n_95s0e1d A args S k | 96 => callObj prog sig96s0e1d n_96s0e1d A args S k | _ => none
noncomputable def x65s0e1d (n_65s0e1d : Reader × Unit → Option (Bool × Reader × Tag × Unit)) (n_96s0e1d : Reader × Unit → Option (Bool × Reader × Tag × Unit)) (n_96s0e1dg1 : Reader × Tag × Int × Int × ByteArray × (List ByteArray) × (List Tag) × Unit → Option ((Bool × Reader × Tag × Unit))) (n_95s0e1d : Reader × Unit → Option (Bool × Reader × Tag × Unit)) (n_95s0e1dg1 : Reader × Tag × Int × Int × ByteArray × (List ByteArray) × (List Tag) × Unit → Option ((Bool × Reader × Tag × Unit))) : Xc vw := { P := prog, n := 70, call := call65s0e1d n_65s0e1d n_96s0e1d n_96s0e1dg1 n_95s0e1d n_95s0e1dg1, sh := sh65s0e1d, regs := fun k => match k with | 9 => some c65s0e1dr9 | _ => none }
noncomputable def call95s0e1d (n_65s0e1d : Reader × Unit → Option (Bool × Reader × Tag × Unit)) (n_96s0e1d : Reader × Unit → Option (Bool × Reader × Tag × Unit)) (n_96s0e1dg1 : Reader × Tag × Int × Int × ByteArray × (List ByteArray) × (List Tag) × Unit → Option ((Bool × Reader × Tag × Unit))) (n_95s0e1d : Reader × Unit → Option (Bool × Reader × Tag × Unit)) (n_95s0e1dg1 : Reader × Tag × Int × Int × ByteArray × (List ByteArray) × (List Tag) × Unit → Option ((Bool × Reader × Tag × Unit))) : Caller vw := fun A fid args S k => match fid with | 65 => callObj prog sig65s0e1d n_65s0e1d A args S k | 66 => callObj prog sig66s0e1d n_66s0e1d A args S k | 97 => callObj prog sig97s5bd0 n_97s5bd0 A args S k | _ => none
noncomputable def x95s0e1d (n_65s0e1d : Reader × Unit → Option (Bool × Reader × Tag × Unit)) (n_96s0e1d : Reader × Unit → Option (Bool × Reader × Tag × Unit)) (n_96s0e1dg1 : Reader × Tag × Int × Int × ByteArray × (List ByteArray) × (List Tag) × Unit → Option ((Bool × Reader × Tag × Unit))) (n_95s0e1d : Reader × Unit → Option (Bool × Reader × Tag × Unit)) (n_95s0e1dg1 : Reader × Tag × Int × Int × ByteArray × (List ByteArray) × (List Tag) × Unit → Option ((Bool × Reader × Tag × Unit))) : Xc vw := { P := prog, n := 41, nm := fun d => match d with | 7 => 40007 | _ => d, call := call95s0e1d n_65s0e1d n_96s0e1d n_96s0e1dg1 n_95s0e1d n_95s0e1dg1, sh := sh95s0e1d, regs := fun k => match k with | 1 => some c95s0e1dg1 | _ => none, jumps := fun k => match k with | 1 => some (0, { cut := c95s0e1dg1, alts := [.ret], F := n_95s0e1dg1 }) | _ => none }
noncomputable def call96s0e1d (n_65s0e1d : Reader × Unit → Option (Bool × Reader × Tag × Unit)) (n_96s0e1d : Reader × Unit → Option (Bool × Reader × Tag × Unit)) (n_96s0e1dg1 : Reader × Tag × Int × Int × ByteArray × (List ByteArray) × (List Tag) × Unit → Option ((Bool × Reader × Tag × Unit))) (n_95s0e1d : Reader × Unit → Option (Bool × Reader × Tag × Unit)) (n_95s0e1dg1 : Reader × Tag × Int × Int × ByteArray × (List ByteArray) × (List Tag) × Unit → Option ((Bool × Reader × Tag × Unit))) : Caller vw := fun A fid args S k => match fid with | 65 => callObj prog sig65s0e1d n_65s0e1d A args S k | 66 => callObj prog sig66s0e1d n_66s0e1d A args S k | 91 => callObj prog sig91s0e1d n_91s0e1d A args S k | 94 => callObj prog sig94s0e1d n_94s0e1d A args S k | 97 => callObj prog sig97s5bd0 n_97s5bd0 A args S k | _ => none
noncomputable def x96s0e1d (n_65s0e1d : Reader × Unit → Option (Bool × Reader × Tag × Unit)) (n_96s0e1d : Reader × Unit → Option (Bool × Reader × Tag × Unit)) (n_96s0e1dg1 : Reader × Tag × Int × Int × ByteArray × (List ByteArray) × (List Tag) × Unit → Option ((Bool × Reader × Tag × Unit))) (n_95s0e1d : Reader × Unit → Option (Bool × Reader × Tag × Unit)) (n_95s0e1dg1 : Reader × Tag × Int × Int × ByteArray × (List ByteArray) × (List Tag) × Unit → Option ((Bool × Reader × Tag × Unit))) : Xc vw := { P := prog, n := 68, nm := fun d => match d with | 8 => 40008 | _ => d, call := call96s0e1d n_65s0e1d n_96s0e1d n_96s0e1dg1 n_95s0e1d n_95s0e1dg1, sh := sh96s0e1d, regs := fun k => match k with | 1 => some c95s0e1dg1 | _ => none, jumps := fun k => match k with | 1 => some (0, { cut := c95s0e1dg1, alts := [.ret], F := n_96s0e1dg1 }) | _ => none }
abbrev mn_65s0e1d (v : Reader × Unit) (r : Bool × Reader × Tag × Unit) : Prop := (fun v r => ∀ x, resV prog sig65s0e1d r = some x → FnOk prog 65 (encL vw (startS sig65s0e1d v).len (startOs sig65s0e1d v).1) (encOs (startS sig65s0e1d v).len (startS sig65s0e1d v).own) (encV vw (conc vw sig65s0e1d.rcut r).len x) (encOs (conc vw sig65s0e1d.rcut r).len (kept sig65s0e1d r))) v r
abbrev mn_96s0e1d (v : Reader × Unit) (r : Bool × Reader × Tag × Unit) : Prop := (fun v r => ∀ x, resV prog sig96s0e1d r = some x → FnOk prog 96 (encL vw (startS sig96s0e1d v).len (startOs sig96s0e1d v).1) (encOs (startS sig96s0e1d v).len (startS sig96s0e1d v).own) (encV vw (conc vw sig96s0e1d.rcut r).len x) (encOs (conc vw sig96s0e1d.rcut r).len (kept sig96s0e1d r))) v r
abbrev mn_96s0e1dg1 (v : Reader × Tag × Int × Int × ByteArray × (List ByteArray) × (List Tag) × Unit) (r : (Bool × Reader × Tag × Unit)) : Prop := (fun v out => ∀ C : Ctx, C.P = prog → C.N = 68 → AWpJ C (scopeNo (bodyOf Tryz.f96) 0) (restOf (scopeNo (bodyOf Tryz.f96) 0) 0) (encS vw (conc vw c95s0e1dg1 v)) (OutQ sh96s0e1d [.ret] out)) v r
abbrev mn_95s0e1d (v : Reader × Unit) (r : Bool × Reader × Tag × Unit) : Prop := (fun v r => ∀ x, resV prog sig95s0e1d r = some x → FnOk prog 95 (encL vw (startS sig95s0e1d v).len (startOs sig95s0e1d v).1) (encOs (startS sig95s0e1d v).len (startS sig95s0e1d v).own) (encV vw (conc vw sig95s0e1d.rcut r).len x) (encOs (conc vw sig95s0e1d.rcut r).len (kept sig95s0e1d r))) v r
abbrev mn_95s0e1dg1 (v : Reader × Tag × Int × Int × ByteArray × (List ByteArray) × (List Tag) × Unit) (r : (Bool × Reader × Tag × Unit)) : Prop := (fun v out => ∀ C : Ctx, C.P = prog → C.N = 41 → AWpJ C (scopeNo (bodyOf Tryz.f95) 0) (restOf (scopeNo (bodyOf Tryz.f95) 0) 0) (encS vw (conc vw c95s0e1dg1 v)) (OutQ sh95s0e1d [.ret] out)) v r
theorem cn_65s0e1d (f0 : Reader × Unit → Option (Bool × Reader × Tag × Unit)) (f1 : Reader × Unit → Option (Bool × Reader × Tag × Unit)) (h0 : ∀ v r, f0 v = some r → mn_96s0e1d v r) (h1 : ∀ v r, f1 v = some r → mn_95s0e1d v r) : CallerOk prog (x65s0e1d (fun _ => none) f0 (fun _ => none) f1 (fun _ => none)).call := (by
    intro A fid args S dst k r h
    unfold x65s0e1d call65s0e1d at h
    simp only at h
    split at h
    ·exact callObj_ok (n_66s0e1d_ok) h
    ·exact callObj_ok (n_91s0e1d_ok) h
    ·exact callObj_ok (n_92s5bd0_ok) h
    ·exact callObj_ok (n_93s0e1d_ok) h
    ·exact callObj_ok (n_94s0e1d_ok) h
    ·exact callObj_ok ((fun v r x h hx => h1 v r h x hx)) h
    ·exact callObj_ok ((fun v r x h hx => h0 v r h x hx)) h
    ·cases h)
theorem sn_65s0e1d (f0 : Reader × Unit → Option (Bool × Reader × Tag × Unit)) (f1 : Reader × Unit → Option (Bool × Reader × Tag × Unit)) (h0 : ∀ v r, f0 v = some r → mn_96s0e1d v r) (h1 : ∀ v r, f1 v = some r → mn_95s0e1d v r) (v : Reader × Unit) (r : Bool × Reader × Tag × Unit) (h : exF (x65s0e1d (fun _ => none) f0 (fun _ => none) f1 (fun _ => none)) sig65s0e1d rfl (bodyOf Tryz.f65) v = some r) : mn_65s0e1d v r := fun x hx => fn_ok (X := x65s0e1d (fun _ => none) f0 (fun _ => none) f1 (fun _ => none)) (sig := sig65s0e1d) rfl Tryz.func65 (c := bodyOf Tryz.f65) (by kernel_rfl) Tryz.ntmps65 (by kernel_rfl) (by kernel_rfl) rfl Ty.mixed (cn_65s0e1d f0 f1 h0 h1) rfl (fun C hP hN => (lok_all (X := x65s0e1d (fun _ => none) f0 (fun _ => none) f1 (fun _ => none)) (c := (bodyOf Tryz.f65)) (kcast (by kernel_rfl : True = AllB (LoopsP C (x65s0e1d (fun _ => none) f0 (fun _ => none) f1 (fun _ => none))) (loopsIn (bodyOf Tryz.f65))) trivial))) h x hx
theorem cn_96s0e1d (f0 : Reader × Unit → Option (Bool × Reader × Tag × Unit)) (f1 : Reader × Tag × Int × Int × ByteArray × (List ByteArray) × (List Tag) × Unit → Option ((Bool × Reader × Tag × Unit))) (h0 : ∀ v r, f0 v = some r → mn_65s0e1d v r) (h1 : ∀ v r, f1 v = some r → mn_96s0e1dg1 v r) : CallerOk prog (x96s0e1d f0 (fun _ => none) f1 (fun _ => none) (fun _ => none)).call := (by
    intro A fid args S dst k r h
    unfold x96s0e1d call96s0e1d at h
    simp only at h
    split at h
    ·exact callObj_ok ((fun v r x h hx => h0 v r h x hx)) h
    ·exact callObj_ok (n_66s0e1d_ok) h
    ·exact callObj_ok (n_91s0e1d_ok) h
    ·exact callObj_ok (n_94s0e1d_ok) h
    ·exact callObj_ok (n_97s5bd0_ok) h
    ·cases h)
theorem sn_96s0e1d (f0 : Reader × Unit → Option (Bool × Reader × Tag × Unit)) (f1 : Reader × Tag × Int × Int × ByteArray × (List ByteArray) × (List Tag) × Unit → Option ((Bool × Reader × Tag × Unit))) (h0 : ∀ v r, f0 v = some r → mn_65s0e1d v r) (h1 : ∀ v r, f1 v = some r → mn_96s0e1dg1 v r) (v : Reader × Unit) (r : Bool × Reader × Tag × Unit) (h : exF (x96s0e1d f0 (fun _ => none) f1 (fun _ => none) (fun _ => none)) sig96s0e1d rfl (bodyOf Tryz.f96) v = some r) : mn_96s0e1d v r := fun x hx => fn_ok (X := x96s0e1d f0 (fun _ => none) f1 (fun _ => none) (fun _ => none)) (sig := sig96s0e1d) rfl Tryz.func96 (c := bodyOf Tryz.f96) (by kernel_rfl) Tryz.ntmps96 (by kernel_rfl) (by kernel_rfl) rfl Ty.mixed (cn_96s0e1d f0 f1 h0 h1) rfl (fun C hP hN => (lok_all2 (X := x96s0e1d f0 (fun _ => none) f1 (fun _ => none) (fun _ => none)) (c := (bodyOf Tryz.f96)) (kcast (by kernel_rfl : AllB (LoopsP C (x96s0e1d f0 (fun _ => none) f1 (fun _ => none) (fun _ => none))) [] = AllB (LoopsP C (x96s0e1d f0 (fun _ => none) f1 (fun _ => none) (fun _ => none))) (loopsIn (bodyOf Tryz.f96))) trivial) (kcast (by kernel_rfl : AllB (JumpsP C (x96s0e1d f0 (fun _ => none) f1 (fun _ => none) (fun _ => none))) [(scopeNo (bodyOf Tryz.f96) 0)] = AllB (JumpsP C (x96s0e1d f0 (fun _ => none) f1 (fun _ => none) (fun _ => none))) (jumpsIn (bodyOf Tryz.f96))) ⟨jump_at (X := x96s0e1d f0 (fun _ => none) f1 (fun _ => none) (fun _ => none)) (x := (scopeNo (bodyOf Tryz.f96) 0)) (l := 0) (by kernel_rfl) (show JumpOk C (scopeNo (bodyOf Tryz.f96) 0) 0 (sh := sh96s0e1d) { cut := c95s0e1dg1, alts := [.ret], F := f1 } from ⟨(restOf (scopeNo (bodyOf Tryz.f96) 0) 0), by kernel_rfl, fun v out h => h1 v out h C hP hN⟩), trivial⟩))) h x hx
theorem cn_96s0e1dg1 (f0 : Reader × Unit → Option (Bool × Reader × Tag × Unit)) (f1 : Reader × Tag × Int × Int × ByteArray × (List ByteArray) × (List Tag) × Unit → Option ((Bool × Reader × Tag × Unit))) (h0 : ∀ v r, f0 v = some r → mn_65s0e1d v r) (h1 : ∀ v r, f1 v = some r → mn_96s0e1dg1 v r) : CallerOk prog (x96s0e1d f0 (fun _ => none) f1 (fun _ => none) (fun _ => none)).call := (by
    intro A fid args S dst k r h
    unfold x96s0e1d call96s0e1d at h
    simp only at h
    split at h
    ·exact callObj_ok ((fun v r x h hx => h0 v r h x hx)) h
    ·exact callObj_ok (n_66s0e1d_ok) h
    ·exact callObj_ok (n_91s0e1d_ok) h
    ·exact callObj_ok (n_94s0e1d_ok) h
    ·exact callObj_ok (n_97s5bd0_ok) h
    ·cases h)
theorem sn_96s0e1dg1 (f0 : Reader × Unit → Option (Bool × Reader × Tag × Unit)) (f1 : Reader × Tag × Int × Int × ByteArray × (List ByteArray) × (List Tag) × Unit → Option ((Bool × Reader × Tag × Unit))) (h0 : ∀ v r, f0 v = some r → mn_65s0e1d v r) (h1 : ∀ v r, f1 v = some r → mn_96s0e1dg1 v r) (v : Reader × Tag × Int × Int × ByteArray × (List ByteArray) × (List Tag) × Unit) (r : (Bool × Reader × Tag × Unit)) (h : exJ (x96s0e1d f0 (fun _ => none) f1 (fun _ => none) (fun _ => none)) (restOf (scopeNo (bodyOf Tryz.f96) 0) 0) 0 c95s0e1dg1 [.ret] f1 v = some r) : mn_96s0e1dg1 v r := fun C hP hN => jump_step (X := x96s0e1d f0 (fun _ => none) f1 (fun _ => none) (fun _ => none)) (x := (scopeNo (bodyOf Tryz.f96) 0)) (b := (restOf (scopeNo (bodyOf Tryz.f96) 0) 0)) (l := 0) hP hN Ty.mixed (cn_96s0e1dg1 f0 f1 h0 h1) (by kernel_rfl) (lok_all2 (X := x96s0e1d f0 (fun _ => none) f1 (fun _ => none) (fun _ => none)) (c := (restOf (scopeNo (bodyOf Tryz.f96) 0) 0)) (kcast (by kernel_rfl : AllB (LoopsP C (x96s0e1d f0 (fun _ => none) f1 (fun _ => none) (fun _ => none))) [] = AllB (LoopsP C (x96s0e1d f0 (fun _ => none) f1 (fun _ => none) (fun _ => none))) (loopsIn (restOf (scopeNo (bodyOf Tryz.f96) 0) 0))) trivial) (kcast (by kernel_rfl : AllB (JumpsP C (x96s0e1d f0 (fun _ => none) f1 (fun _ => none) (fun _ => none))) [] = AllB (JumpsP C (x96s0e1d f0 (fun _ => none) f1 (fun _ => none) (fun _ => none))) (jumpsIn (restOf (scopeNo (bodyOf Tryz.f96) 0) 0))) trivial)) (cut := c95s0e1dg1) (alts := [.ret]) (F := f1) (fun v out h => h1 v out h C hP hN) h
theorem cn_95s0e1d (f0 : Reader × Unit → Option (Bool × Reader × Tag × Unit)) (f1 : Reader × Tag × Int × Int × ByteArray × (List ByteArray) × (List Tag) × Unit → Option ((Bool × Reader × Tag × Unit))) (h0 : ∀ v r, f0 v = some r → mn_65s0e1d v r) (h1 : ∀ v r, f1 v = some r → mn_95s0e1dg1 v r) : CallerOk prog (x95s0e1d f0 (fun _ => none) (fun _ => none) (fun _ => none) f1).call := (by
    intro A fid args S dst k r h
    unfold x95s0e1d call95s0e1d at h
    simp only at h
    split at h
    ·exact callObj_ok ((fun v r x h hx => h0 v r h x hx)) h
    ·exact callObj_ok (n_66s0e1d_ok) h
    ·exact callObj_ok (n_97s5bd0_ok) h
    ·cases h)
theorem sn_95s0e1d (f0 : Reader × Unit → Option (Bool × Reader × Tag × Unit)) (f1 : Reader × Tag × Int × Int × ByteArray × (List ByteArray) × (List Tag) × Unit → Option ((Bool × Reader × Tag × Unit))) (h0 : ∀ v r, f0 v = some r → mn_65s0e1d v r) (h1 : ∀ v r, f1 v = some r → mn_95s0e1dg1 v r) (v : Reader × Unit) (r : Bool × Reader × Tag × Unit) (h : exF (x95s0e1d f0 (fun _ => none) (fun _ => none) (fun _ => none) f1) sig95s0e1d rfl (bodyOf Tryz.f95) v = some r) : mn_95s0e1d v r := fun x hx => fn_ok (X := x95s0e1d f0 (fun _ => none) (fun _ => none) (fun _ => none) f1) (sig := sig95s0e1d) rfl Tryz.func95 (c := bodyOf Tryz.f95) (by kernel_rfl) Tryz.ntmps95 (by kernel_rfl) (by kernel_rfl) rfl Ty.mixed (cn_95s0e1d f0 f1 h0 h1) rfl (fun C hP hN => (lok_all2 (X := x95s0e1d f0 (fun _ => none) (fun _ => none) (fun _ => none) f1) (c := (bodyOf Tryz.f95)) (kcast (by kernel_rfl : AllB (LoopsP C (x95s0e1d f0 (fun _ => none) (fun _ => none) (fun _ => none) f1)) [] = AllB (LoopsP C (x95s0e1d f0 (fun _ => none) (fun _ => none) (fun _ => none) f1)) (loopsIn (bodyOf Tryz.f95))) trivial) (kcast (by kernel_rfl : AllB (JumpsP C (x95s0e1d f0 (fun _ => none) (fun _ => none) (fun _ => none) f1)) [(scopeNo (bodyOf Tryz.f95) 0)] = AllB (JumpsP C (x95s0e1d f0 (fun _ => none) (fun _ => none) (fun _ => none) f1)) (jumpsIn (bodyOf Tryz.f95))) ⟨jump_at (X := x95s0e1d f0 (fun _ => none) (fun _ => none) (fun _ => none) f1) (x := (scopeNo (bodyOf Tryz.f95) 0)) (l := 0) (by kernel_rfl) (show JumpOk C (scopeNo (bodyOf Tryz.f95) 0) 0 (sh := sh95s0e1d) { cut := c95s0e1dg1, alts := [.ret], F := f1 } from ⟨(restOf (scopeNo (bodyOf Tryz.f95) 0) 0), by kernel_rfl, fun v out h => h1 v out h C hP hN⟩), trivial⟩))) h x hx
theorem cn_95s0e1dg1 (f0 : Reader × Unit → Option (Bool × Reader × Tag × Unit)) (f1 : Reader × Tag × Int × Int × ByteArray × (List ByteArray) × (List Tag) × Unit → Option ((Bool × Reader × Tag × Unit))) (h0 : ∀ v r, f0 v = some r → mn_65s0e1d v r) (h1 : ∀ v r, f1 v = some r → mn_95s0e1dg1 v r) : CallerOk prog (x95s0e1d f0 (fun _ => none) (fun _ => none) (fun _ => none) f1).call := (by
    intro A fid args S dst k r h
    unfold x95s0e1d call95s0e1d at h
    simp only at h
    split at h
    ·exact callObj_ok ((fun v r x h hx => h0 v r h x hx)) h
    ·exact callObj_ok (n_66s0e1d_ok) h
    ·exact callObj_ok (n_97s5bd0_ok) h
    ·cases h)
theorem sn_95s0e1dg1 (f0 : Reader × Unit → Option (Bool × Reader × Tag × Unit)) (f1 : Reader × Tag × Int × Int × ByteArray × (List ByteArray) × (List Tag) × Unit → Option ((Bool × Reader × Tag × Unit))) (h0 : ∀ v r, f0 v = some r → mn_65s0e1d v r) (h1 : ∀ v r, f1 v = some r → mn_95s0e1dg1 v r) (v : Reader × Tag × Int × Int × ByteArray × (List ByteArray) × (List Tag) × Unit) (r : (Bool × Reader × Tag × Unit)) (h : exJ (x95s0e1d f0 (fun _ => none) (fun _ => none) (fun _ => none) f1) (restOf (scopeNo (bodyOf Tryz.f95) 0) 0) 0 c95s0e1dg1 [.ret] f1 v = some r) : mn_95s0e1dg1 v r := fun C hP hN => jump_step (X := x95s0e1d f0 (fun _ => none) (fun _ => none) (fun _ => none) f1) (x := (scopeNo (bodyOf Tryz.f95) 0)) (b := (restOf (scopeNo (bodyOf Tryz.f95) 0) 0)) (l := 0) hP hN Ty.mixed (cn_95s0e1dg1 f0 f1 h0 h1) (by kernel_rfl) (lok_all2 (X := x95s0e1d f0 (fun _ => none) (fun _ => none) (fun _ => none) f1) (c := (restOf (scopeNo (bodyOf Tryz.f95) 0) 0)) (kcast (by kernel_rfl : AllB (LoopsP C (x95s0e1d f0 (fun _ => none) (fun _ => none) (fun _ => none) f1)) [] = AllB (LoopsP C (x95s0e1d f0 (fun _ => none) (fun _ => none) (fun _ => none) f1)) (loopsIn (restOf (scopeNo (bodyOf Tryz.f95) 0) 0))) trivial) (kcast (by kernel_rfl : AllB (JumpsP C (x95s0e1d f0 (fun _ => none) (fun _ => none) (fun _ => none) f1)) [] = AllB (JumpsP C (x95s0e1d f0 (fun _ => none) (fun _ => none) (fun _ => none) f1)) (jumpsIn (restOf (scopeNo (bodyOf Tryz.f95) 0) 0))) trivial)) (cut := c95s0e1dg1) (alts := [.ret]) (F := f1) (fun v out h => h1 v out h C hP hN) h
theorem n_65s0e1d_all : (∀ v r, n_65s0e1d v = some r → mn_65s0e1d v r) ∧ (∀ v r, n_96s0e1d v = some r → mn_96s0e1d v r) ∧ (∀ v r, n_96s0e1dg1 v = some r → mn_96s0e1dg1 v r) ∧ (∀ v r, n_95s0e1d v = some r → mn_95s0e1d v r) ∧ (∀ v r, n_95s0e1dg1 v = some r → mn_95s0e1dg1 v r) := by
 refine n_65s0e1d.mutual_partial_correctness
  (motive_1 := mn_65s0e1d)
  (motive_2 := mn_96s0e1d)
  (motive_3 := mn_96s0e1dg1)
  (motive_4 := mn_95s0e1d)
  (motive_5 := mn_95s0e1dg1)
  ?_ ?_ ?_ ?_ ?_
 ·exact (fun f0 f1 h0 h1 v r h => sn_65s0e1d f0 f1 h0 h1 v r (kcast (by kernel_rfl) h))
 ·exact (fun f0 f1 h0 h1 v r h => sn_96s0e1d f0 f1 h0 h1 v r (kcast (by kernel_rfl) h))
 ·exact (fun f0 f1 h0 h1 v r h => sn_96s0e1dg1 f0 f1 h0 h1 v r (kcast (by kernel_rfl) h))
 ·exact (fun f0 f1 h0 h1 v r h => sn_95s0e1d f0 f1 h0 h1 v r (kcast (by kernel_rfl) h))
 ·exact (fun f0 f1 h0 h1 v r h => sn_95s0e1dg1 f0 f1 h0 h1 v r (kcast (by kernel_rfl) h))
theorem n_65s0e1d_ok : SigOk prog 65 sig65s0e1d n_65s0e1d := fun v r x h hx => n_65s0e1d_all.1 v r h x hx
noncomputable def c31j7 : Cut SN := ⟨[(0, .dat .str), (2, .bp 2 0), (5, .bp 15 0), (6, .bp 6 0), (7, .dat .bool)], [(2, .st .tagT), (15, .st .readerT), (6, .st .tagT)]⟩
noncomputable def c31r7 : Cut SN := ⟨[(0, .dat .str), (2, .bp 2 0), (5, .bp 15 0), (6, .bp 6 0), (34, .dat .bool)], [(2, .st .tagT), (15, .st .readerT), (6, .st .tagT)]⟩
noncomputable def c31z : Cut SN := ⟨[(2, .bp 2 0), (3, .dat (.int .i64)), (4, .dat (.int .i64))], [(2, .st .tagT)]⟩
noncomputable def sh31 : Shape vw := { rcut := c31z }
noncomputable def sig31 : Sig vw := { params := [.dat .str], rcut := c31z, rvars := [.cell 2 25, .tmp 3, .tmp 4] }
noncomputable def n_31 (v : ByteArray × Unit) : Option (Int × Int × Tag × Unit) :=
 if decide ((↑v.1.size : Int) > (65536 : Int)) = true then
  some (((0 : Int), (3 : Int), Tag.mk (0 : Int) (0 : Int) (ByteArray.mk #[]) [] [], ()))
 else n_65s0e1d (Reader.mk v.1 (0 : Int), ()) >>= fun x1 =>
 (if x1.1 = true then
    n_66s0e1d (x1.2.1, ()) >>= fun x2 =>
    some ((v.1, x1.1, Tag.mk (0 : Int) (0 : Int) (ByteArray.mk #[]) [] [], x2.1, x1.2.2.1, ()))
   else some ((v.1, x1.1, Tag.mk (0 : Int) (0 : Int) (ByteArray.mk #[]) [] [], x1.2.1, x1.2.2.1, ()))) >>= fun x2 =>
 (if (!x2.2.1) = true then
    some ((x2.1, true, x2.2.2.1, x2.2.2.2.1, x2.2.2.2.2.1, ()))
   else some ((x2.1, decide (x2.2.2.2.1.at0 < (↑x2.1.size : Int)), x2.2.2.1, x2.2.2.2.1, x2.2.2.2.2.1, ()))) >>= fun x3 =>
 if x3.2.1 = true then
  some ((x3.2.2.2.1.at0, (2 : Int), Tag.mk (0 : Int) (0 : Int) (ByteArray.mk #[]) [] [], ()))
 else n_29 (x3.2.2.2.2.1, ()) >>= fun x4 =>
 if (x4.1 != (0 : Int)) = true then
  some (((0 : Int), x4.1, Tag.mk (0 : Int) (0 : Int) (ByteArray.mk #[]) [] [], ()))
 else some (((↑x3.1.size : Int), (0 : Int), x3.2.2.2.2.1, ()))
noncomputable def call31 : Caller vw := fun A fid args S k => match fid with | 29 => callPure prog sig29 n_29 A args S k | 65 => callObj prog sig65s0e1d n_65s0e1d A args S k | 66 => callObj prog sig66s0e1d n_66s0e1d A args S k | _ => none
noncomputable def x31 : Xc vw := { P := prog, n := 49, call := call31, sh := sh31, joins := fun k => match k with | 7 => some (c31j7, [.norm]) | _ => none, regs := fun k => match k with | 7 => some c31r7 | _ => none }
theorem call31_ok : CallerOk prog call31 := fun A fid args S dst k r h => by
 unfold call31 at h
 split at h
 ·exact callPure_ok (n_29_ok) rfl rfl h
 ·exact callObj_ok (n_65s0e1d_ok) h
 ·exact callObj_ok (n_66s0e1d_ok) h
 ·cases h
theorem n_31_ok : SigOk prog 31 sig31 n_31 := fun v r x h hx =>
 fn_ok (X := x31) (sig := sig31) rfl Tryz.func31 (c := bodyOf Tryz.f31) (by kernel_rfl) Tryz.ntmps31 (by kernel_rfl) (by kernel_rfl) rfl Ty.mixed call31_ok rfl (fun C hP hN => (lok_all (kcast (by kernel_rfl) trivial))) (kcast (by kernel_rfl) h) x hx
noncomputable def c15r4 : Cut SN := ⟨[(0, .dat .bool)], []⟩
noncomputable def sh15 : Shape vw := { rcut := c15r4 }
noncomputable def sig15 : Sig vw := { params := [], rcut := c15r4, rvars := [.tmp 0] }
noncomputable def n_15 (v : Unit) : Option (Bool × Unit) :=
 n_31 (ByteArray.mk #[123, 34, 97, 34, 58, 91, 49, 44, 50, 93, 125], ()) >>= fun x1 =>
 n_16 (x1.2.2.1, [ByteArray.mk #[97], ByteArray.mk #[49]], ()) >>= fun x2 =>
 n_31 (ByteArray.mk #[91, 49, 44, 93], ()) >>= fun x3 =>
 (if (x1.2.1 == (0 : Int)) = true then
    if (x1.1 == (11 : Int)) = true then
     if (x2.2.1 == (0 : Int)) = true then
      if x2.1 = true then
       if (x2.2.2.1.kind == (3 : Int)) = true then
        if (x2.2.2.1.n == (2 : Int)) = true then
         if (x3.2.1 == (2 : Int)) = true then
          some ((x3.1 == (3 : Int), ()))
         else some ((false, ()))
        else some ((false, ()))
       else some ((false, ()))
      else some ((false, ()))
     else some ((false, ()))
    else some ((false, ()))
   else some ((false, ()))) >>= fun x4 =>
 some ((x4.1, ()))
noncomputable def call15 : Caller vw := fun A fid args S k => match fid with | 16 => callPure prog sig16 n_16 A args S k | 31 => callPure prog sig31 n_31 A args S k | _ => none
noncomputable def x15 : Xc vw := { P := prog, n := 58, call := call15, sh := sh15, regs := fun k => match k with | 4 => some c15r4 | _ => none }
theorem call15_ok : CallerOk prog call15 := fun A fid args S dst k r h => by
 unfold call15 at h
 split at h
 ·exact callPure_ok (n_16_ok) rfl rfl h
 ·exact callPure_ok (n_31_ok) rfl rfl h
 ·cases h
theorem n_15_ok : SigOk prog 15 sig15 n_15 := fun v r x h hx =>
 fn_ok (X := x15) (sig := sig15) rfl Tryz.func15 (c := bodyOf Tryz.f15) (by kernel_rfl) Tryz.ntmps15 (by kernel_rfl) (by kernel_rfl) rfl Ty.mixed call15_ok rfl (fun C hP hN => (lok_all (kcast (by kernel_rfl) trivial))) (kcast (by kernel_rfl) h) x hx
noncomputable def c42l4 : Cut SN := ⟨[(0, .dat (.sl .str)), (1, .dat (.sl .str)), (5, .dat (.int .i64))], []⟩
noncomputable def sh42 : Shape vw := { exits := fun id => match id with | 0 => c117c86e0 | _ => ⟨[], []⟩, rcut := c88c86z }
noncomputable def sig42 : Sig vw := { params := [.dat (.sl .str), .dat (.sl .str)], rcut := c88c86z, rvars := [.tmp 4] }
noncomputable def n_42l4 (v : (List ByteArray) × (List ByteArray) × Int × Unit) : Option (((Bool × Unit) ⊕ (Unit))) :=
 if decide (v.2.2.1 < (↑v.1.length : Int)) = true then
  if (0 : Int) ≤ v.2.2.1 then
   v.1[v.2.2.1.toNat]? >>= fun x1 =>
   if (0 : Int) ≤ v.2.2.1 then
    v.2.1[v.2.2.1.toNat]? >>= fun x2 =>
    if (!x1.toList == x2.toList) = true then
     some (Sum.inl (false, ()))
    else n_42l4 (v.1, v.2.1, i64.wrap (v.2.2.1 + (1 : Int)), ())
   else none
  else none
 else some (Sum.inr ())
 partial_fixpoint
noncomputable def n_42 (v : (List ByteArray) × (List ByteArray) × Unit) : Option (Bool × Unit) :=
 if ((↑v.1.length : Int) != (↑v.2.1.length : Int)) = true then
  some ((false, ()))
 else n_42l4 (v.1, v.2.1, (0 : Int), ()) >>= fun x1 => match x1 with
  | .inl y1 => some y1
  | .inr y1 => some ((true, ()))
noncomputable def call42 : Caller vw := fun _ _ _ _ _ => none
noncomputable def x42 : Xc vw := { P := prog, n := 26, call := call42, sh := sh42, loops := fun k => match k with | 4 => some { cut := c42l4, alts := [.ret, .exit 0], F := n_42l4 } | _ => none }
theorem call42_ok : CallerOk prog call42 := call_none
theorem n_42l4_ok (C : Ctx) (hP : C.P = prog) (hN : C.N = 26) : LoopOk C (loopNo (bodyOf Tryz.f42) 0) (sh := sh42) { cut := c42l4, alts := [.ret, .exit 0], F := n_42l4 } :=
 n_42l4.partial_correctness (motive := fun v out => AWpL C (loopNo (bodyOf Tryz.f42) 0) (encS vw (conc vw c42l4 v)) (OutQ sh42 [.ret, .exit 0] out)) fun F ih v out h =>
  loop_step (X := x42) (b := (loopNo (bodyOf Tryz.f42) 0)) hP hN Ty.mixed call42_ok (lok_all (X := x42) (c := (loopNo (bodyOf Tryz.f42) 0)) (kcast (by kernel_rfl : True = AllB (LoopsP C (x42)) (loopsIn (loopNo (bodyOf Tryz.f42) 0))) trivial)) ih (kcast (by kernel_rfl) h)
theorem n_42_ok : SigOk prog 42 sig42 n_42 := fun v r x h hx =>
 fn_ok (X := x42) (sig := sig42) rfl Tryz.func42 (c := bodyOf Tryz.f42) (by kernel_rfl) Tryz.ntmps42 (by kernel_rfl) (by kernel_rfl) rfl Ty.mixed call42_ok rfl (fun C hP hN => (lok_all (kcast (by kernel_rfl : AllB (LoopsP C (x42)) [(loopNo (bodyOf Tryz.f42) 0)] = AllB (LoopsP C (x42)) (loopsIn (bodyOf Tryz.f42))) ⟨loop_at (X := x42) (b := (loopNo (bodyOf Tryz.f42) 0)) (by kernel_rfl) (n_42l4_ok C hP hN), trivial⟩))) (kcast (by kernel_rfl) h) x hx
noncomputable def c18l4 : Cut SN := ⟨[(2, .bp 2 0), (3, .bp 3 0), (5, .dat (.int .i64))], [(2, .st .tagT), (3, .st .tagT)]⟩
noncomputable def c18r1 : Cut SN := ⟨[(2, .bp 2 0), (3, .bp 3 0), (41, .dat .bool)], [(2, .st .tagT), (3, .st .tagT)]⟩
noncomputable def sh18 : Shape vw := { exits := fun id => match id with | 0 => c117c86e0 | _ => ⟨[], []⟩, rcut := c88c86z }
noncomputable def sig18 : Sig vw := { params := [.dat (.st .tagT), .dat (.st .tagT)], rcut := c88c86z, rvars := [.tmp 4] }
mutual
noncomputable def n_18l4 (v : Int × Tag × Tag × Unit) : Option (((Bool × Unit) ⊕ (Unit))) :=
 if decide (v.1 < (↑v.2.1.parts.length : Int)) = true then
  if (0 : Int) ≤ v.1 then
   v.2.1.parts[v.1.toNat]? >>= fun x1 =>
   if (0 : Int) ≤ v.1 then
    v.2.2.1.parts[v.1.toNat]? >>= fun x2 =>
    n_18 (x1, x2, ()) >>= fun x3 =>
    if (!x3.1) = true then
     some (Sum.inl (false, ()))
    else n_18l4 (i64.wrap (v.1 + (1 : Int)), v.2.1, v.2.2.1, ())
   else none
  else none
 else some (Sum.inr ())
 partial_fixpoint
noncomputable def n_18 (v : Tag × Tag × Unit) : Option (Bool × Unit) :=
 (if (v.1.kind != v.2.1.kind) = true then
    some ((true, v.1, v.2.1, ()))
   else if (v.1.n != v.2.1.n) = true then
    some ((true, v.1, v.2.1, ()))
   else if (!v.1.text.toList == v.2.1.text.toList) = true then
    some ((true, v.1, v.2.1, ()))
   else n_42 (v.1.names, v.2.1.names, ()) >>= fun x1 =>
   if (!x1.1) = true then
    some ((true, v.1, v.2.1, ()))
   else some (((↑v.1.parts.length : Int) != (↑v.2.1.parts.length : Int), v.1, v.2.1, ()))) >>= fun x1 =>
 if x1.1 = true then
  some ((false, ()))
 else n_18l4 ((0 : Int), x1.2.1, x1.2.2.1, ()) >>= fun x2 => match x2 with
  | .inl y2 => some y2
  | .inr y2 => some ((true, ()))
 partial_fixpoint
end
noncomputable def call18 (n_18l4 : Int × Tag × Tag × Unit → Option (((Bool × Unit) ⊕ (Unit)))) (n_18 : Tag × Tag × Unit → Option (Bool × Unit)) : Caller vw := fun A fid args S k => match fid with | 18 => callPure prog sig18 n_18 A args S k | 42 => callPure prog sig42 n_42 A args S k | _ => none
noncomputable def x18 (n_18l4 : Int × Tag × Tag × Unit → Option (((Bool × Unit) ⊕ (Unit)))) (n_18 : Tag × Tag × Unit → Option (Bool × Unit)) : Xc vw := { P := prog, n := 61, call := call18 n_18l4 n_18, sh := sh18, regs := fun k => match k with | 1 => some c18r1 | _ => none, loops := fun k => match k with | 4 => some { cut := c18l4, alts := [.ret, .exit 0], F := n_18l4 } | _ => none }
abbrev mn_18l4 (v : Int × Tag × Tag × Unit) (r : ((Bool × Unit) ⊕ (Unit))) : Prop := (fun v out => ∀ C : Ctx, C.P = prog → C.N = 61 → AWpL C (loopNo (bodyOf Tryz.f18) 0) (encS vw (conc vw c18l4 v)) (OutQ sh18 [.ret, .exit 0] out)) v r
abbrev mn_18 (v : Tag × Tag × Unit) (r : Bool × Unit) : Prop := (fun v r => ∀ x, resV prog sig18 r = some x → FnOk prog 18 (encL vw (startS sig18 v).len (startOs sig18 v).1) (encOs (startS sig18 v).len (startS sig18 v).own) (encV vw (conc vw sig18.rcut r).len x) (encOs (conc vw sig18.rcut r).len (kept sig18 r))) v r
theorem cn_18l4 (f0 : Int × Tag × Tag × Unit → Option (((Bool × Unit) ⊕ (Unit)))) (f1 : Tag × Tag × Unit → Option (Bool × Unit)) (h0 : ∀ v r, f0 v = some r → mn_18l4 v r) (h1 : ∀ v r, f1 v = some r → mn_18 v r) : CallerOk prog (x18 f0 f1).call := (by
    intro A fid args S dst k r h
    unfold x18 call18 at h
    simp only at h
    split at h
    ·exact callPure_ok ((fun v r x h hx => h1 v r h x hx)) rfl rfl h
    ·exact callPure_ok (n_42_ok) rfl rfl h
    ·cases h)
theorem sn_18l4 (f0 : Int × Tag × Tag × Unit → Option (((Bool × Unit) ⊕ (Unit)))) (f1 : Tag × Tag × Unit → Option (Bool × Unit)) (h0 : ∀ v r, f0 v = some r → mn_18l4 v r) (h1 : ∀ v r, f1 v = some r → mn_18 v r) (v : Int × Tag × Tag × Unit) (r : ((Bool × Unit) ⊕ (Unit))) (h : exL (x18 f0 f1) (loopNo (bodyOf Tryz.f18) 0) c18l4 [.ret, .exit 0] f0 v = some r) : mn_18l4 v r := fun C hP hN => loop_step (X := x18 f0 f1) (b := (loopNo (bodyOf Tryz.f18) 0)) hP hN Ty.mixed (cn_18l4 f0 f1 h0 h1) (lok_all (X := x18 f0 f1) (c := (loopNo (bodyOf Tryz.f18) 0)) (kcast (by kernel_rfl : True = AllB (LoopsP C (x18 f0 f1)) (loopsIn (loopNo (bodyOf Tryz.f18) 0))) trivial)) (cut := c18l4) (alts := [.ret, .exit 0]) (F := f0) (fun v out h => h0 v out h C hP hN) h
theorem cn_18 (f0 : Int × Tag × Tag × Unit → Option (((Bool × Unit) ⊕ (Unit)))) (h0 : ∀ v r, f0 v = some r → mn_18l4 v r) : CallerOk prog (x18 f0 (fun _ => none)).call := (by
    intro A fid args S dst k r h
    unfold x18 call18 at h
    simp only at h
    split at h
    ·exact callPure_ok ((fun v r x h hx => by cases h)) rfl rfl h
    ·exact callPure_ok (n_42_ok) rfl rfl h
    ·cases h)
theorem sn_18 (f0 : Int × Tag × Tag × Unit → Option (((Bool × Unit) ⊕ (Unit)))) (h0 : ∀ v r, f0 v = some r → mn_18l4 v r) (v : Tag × Tag × Unit) (r : Bool × Unit) (h : exF (x18 f0 (fun _ => none)) sig18 rfl (bodyOf Tryz.f18) v = some r) : mn_18 v r := fun x hx => fn_ok (X := x18 f0 (fun _ => none)) (sig := sig18) rfl Tryz.func18 (c := bodyOf Tryz.f18) (by kernel_rfl) Tryz.ntmps18 (by kernel_rfl) (by kernel_rfl) rfl Ty.mixed (cn_18 f0 h0) rfl (fun C hP hN => (lok_all (X := x18 f0 (fun _ => none)) (c := (bodyOf Tryz.f18)) (kcast (by kernel_rfl : AllB (LoopsP C (x18 f0 (fun _ => none))) [(loopNo (bodyOf Tryz.f18) 0)] = AllB (LoopsP C (x18 f0 (fun _ => none))) (loopsIn (bodyOf Tryz.f18))) ⟨loop_at (X := x18 f0 (fun _ => none)) (b := (loopNo (bodyOf Tryz.f18) 0)) (by kernel_rfl) (show LoopOk C (loopNo (bodyOf Tryz.f18) 0) (sh := sh18) { cut := c18l4, alts := [.ret, .exit 0], F := f0 } from fun v out h => h0 v out h C hP hN), trivial⟩))) h x hx
theorem n_18l4_all : (∀ v r, n_18l4 v = some r → mn_18l4 v r) ∧ (∀ v r, n_18 v = some r → mn_18 v r) := by
 refine n_18l4.mutual_partial_correctness
  (motive_1 := mn_18l4)
  (motive_2 := mn_18)
  ?_ ?_
 ·exact (fun f0 f1 h0 h1 v r h => sn_18l4 f0 f1 h0 h1 v r (kcast (by kernel_rfl) h))
 ·exact (fun f0 h0 v r h => sn_18 f0 h0 v r (kcast (by kernel_rfl) h))
theorem n_18_ok : SigOk prog 18 sig18 n_18 := fun v r x h hx => n_18l4_all.2 v r h x hx
noncomputable def c145s1ccbz : Cut SN := ⟨[(0, .bp 100000 0)], [(100000, .box (some 95) [.np 100000, .vh 3001, .dat .bool, .dat (.int .i64)]), (3001, .vec 5 (.int .u8))]⟩
noncomputable def sig145s1ccb : Sig vw := { params := [.bp 100000 0], objs := [(100000, .box (some 95) [.np 100000, .vh 100001, .dat .bool, .dat (.int .i64)]), (100001, .vec 5 (.int .u8))], rcut := c145s1ccbz, rvars := [], keep := [100000, 3001] }
noncomputable def n_145s1ccb (v : Bool × Bool × Int × (List Int) × Unit) : Option (Bool × Bool × Int × (List Int) × Unit) :=
 some (true, v.2.1, v.2.2.1, v.2.2.2.1, ())
theorem n_145s1ccb_ok : SigOk prog 145 sig145s1ccb n_145s1ccb := fun v r x h hx => by
 obtain ⟨bl, r0, r1, xs, u⟩ := v
 cases h; cases hx
 exact kcast (by kernel_rfl) (FnOk.copyCheck (P := prog) (f := 145) (T := 95) (rest := [.v (.bool r0), .v (.int .i64 r1)]) (by kernel_rfl)
  (copyCheck_part (P := prog) (ρ := Tryz.lays159_ren) { Tryz.lays159 with } Tryz.Builder_Extra_159.toX72 (T := 95) (n := 4) (by kernel_rfl) (by decide))
  (Any.Builder_copyCheck_used (P := prog) (ρ := Tryz.lays159_ren) { Tryz.lays159 with } Tryz.Builder_Extra_159.toX72)
  (g := 100000) (m := 100001) (c := 3001) (l := xs.length) (bl := bl) (e := 5) (sz := 1) (rows := xs.map fun y => Go.Tx.encR szN encN (.int .u8) y) (by decide) (by decide) (by decide))
noncomputable def c113sf4d8z : Cut SN := ⟨[(0, .bp 100000 0), (4, .dat (.int .i64)), (5, .nif)], [(100000, .box (some 95) [.np 100000, .vh 3001, .dat .bool, .dat (.int .i64)]), (3001, .vec 5 (.int .u8))]⟩
noncomputable def sh113sf4d8 : Shape vw := { rcut := c113sf4d8z }
noncomputable def sig113sf4d8 : Sig vw := { params := [.bp 100000 0, .dat .str], objs := [(100000, .box (some 95) [.np 100000, .vh 100001, .dat .bool, .dat (.int .i64)]), (100001, .vec 5 (.int .u8))], rcut := c113sf4d8z, rvars := [.tmp 4, .tmp 5], keep := [100000, 3001] }
noncomputable def n_113sf4d8 (v : ByteArray × Bool × Bool × Int × (List Int) × Unit) : Option (Int × Bool × Bool × Int × (List Int) × Unit) :=
 n_145s1ccb (v.2.1, v.2.2.1, v.2.2.2.1, v.2.2.2.2.1, ()) >>= fun x1 =>
 if x1.2.2.2.1.length + v.1.size ≤ (4294967296 : Nat) then
  some (((↑v.1.size : Int), x1.1, x1.2.1, x1.2.2.1, x1.2.2.2.1 ++ Bs.ints v.1, ()))
 else none
noncomputable def call113sf4d8 : Caller vw := fun A fid args S k => match fid with | 145 => callObj prog sig145s1ccb n_145s1ccb A args S k | _ => none
noncomputable def x113sf4d8 : Xc vw := { P := prog, n := 19, call := call113sf4d8, sh := sh113sf4d8 }
theorem call113sf4d8_ok : CallerOk prog call113sf4d8 := fun A fid args S dst k r h => by
 unfold call113sf4d8 at h
 split at h
 ·exact callObj_ok (n_145s1ccb_ok) h
 ·cases h
theorem n_113sf4d8_ok : SigOk prog 113 sig113sf4d8 n_113sf4d8 := fun v r x h hx =>
 fn_ok (X := x113sf4d8) (sig := sig113sf4d8) rfl Tryz.func113 (c := bodyOf Tryz.f113) (by kernel_rfl) Tryz.ntmps113 (by kernel_rfl) (by kernel_rfl) rfl Ty.mixed call113sf4d8_ok rfl (fun C hP hN => (lok_all (kcast (by kernel_rfl) trivial))) (kcast (by kernel_rfl) h) x hx
noncomputable def c146s8b9ez : Cut SN := ⟨[(0, .bp 100000 0), (4, .nif)], [(100000, .box (some 93) [.np 100000, .vh 3001]), (3001, .vec 5 (.int .u8))]⟩
noncomputable def sh146s8b9e : Shape vw := { rcut := c146s8b9ez }
noncomputable def sig146s8b9e : Sig vw := { params := [.bp 100000 0, .dat (.int .u8)], objs := [(100000, .box (some 93) [.np 100000, .vh 100001]), (100001, .vec 5 (.int .u8))], rcut := c146s8b9ez, rvars := [.tmp 4], keep := [100000, 3001] }
noncomputable def n_146s8b9e (v : Int × Bool × (List Int) × Unit) : Option (Bool × (List Int) × Unit) :=
 n_145s143f (v.2.1, v.2.2.1, ()) >>= fun x1 =>
 if x1.2.1.length + [v.1].length ≤ (4294967296 : Nat) then
  some ((x1.1, x1.2.1 ++ [v.1], ()))
 else none
noncomputable def call146s8b9e : Caller vw := fun A fid args S k => match fid with | 145 => callObj prog sig145s143f n_145s143f A args S k | _ => none
noncomputable def x146s8b9e : Xc vw := { P := prog, n := 17, call := call146s8b9e, sh := sh146s8b9e }
theorem call146s8b9e_ok : CallerOk prog call146s8b9e := fun A fid args S dst k r h => by
 unfold call146s8b9e at h
 split at h
 ·exact callObj_ok (n_145s143f_ok) h
 ·cases h
theorem n_146s8b9e_ok : SigOk prog 146 sig146s8b9e n_146s8b9e := fun v r x h hx =>
 fn_ok (X := x146s8b9e) (sig := sig146s8b9e) rfl Tryz.func146 (c := bodyOf Tryz.f146) (by kernel_rfl) Tryz.ntmps146 (by kernel_rfl) (by kernel_rfl) rfl Ty.mixed call146s8b9e_ok rfl (fun C hP hN => (lok_all (kcast (by kernel_rfl) trivial))) (kcast (by kernel_rfl) h) x hx
noncomputable def c144z : Cut SN := ⟨[(4, .dat .str)], []⟩
noncomputable def sig144 : Sig vw := { params := [.dat (.int .i64), .dat (.int .i64)], rcut := c144z, rvars := [.tmp 4] }
noncomputable def n_144 (v : Int × Int × Unit) : Option (ByteArray × Unit) :=
 if v.2.1 = 16 ∧ 0 ≤ v.1 ∧ v.1 < 16 then some (⟨#[Tryz.hexD.data.getD v.1.toNat 0]⟩, ()) else none
theorem n_144_ok : SigOk prog 144 sig144 n_144 := fun v r x h hx => by
 obtain ⟨n, m, u⟩ := v
 unfold n_144 at h
 split at h
 ·rename_i hc
  obtain ⟨h0, h1, h2⟩ := hc
  simp only at h0 h1 h2
  subst h0
  cases h; cases hx
  obtain ⟨k, rfl⟩ : ∃ k : Nat, n = k := ⟨n.toNat, (Int.toNat_of_nonneg h1).symm⟩
  exact kcast (by kernel_rfl) (FnOk.pure (P := prog) (f := 144) (args := [.d (.v (.int .i64 (k : Int))), .d (.v (.int .i64 16))]) (r := .d (.v (.string ⟨#[Tryz.hexD.data.getD (k : Int).toNat 0]⟩))) (by kernel_rfl) fun E M w vs hg hm hv => by
   obtain ⟨v1, v2, rfl, h3, h4⟩ := hreps_two hv
   rw [h3.dv, h4.dv]
   exact (Tryz.fmt_16 k (by omega) w (tab_bruijn hg hm)).mono fun e w' ⟨he, hw⟩ => ⟨_, he, .d (.v _), hw⟩)
 ·cases h
end Go.Proofs.YtdmggfegkaiaiaaGreatDoor
end
