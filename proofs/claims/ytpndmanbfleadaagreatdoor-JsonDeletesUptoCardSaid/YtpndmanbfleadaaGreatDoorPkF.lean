/-
  Texts of this claim, joined by a program of mine: what the theorem uses.
-/
import Derived.Test.YtpndmanbfleadaaGreatDoorPkE
import Derived.Test.YtpndmanbfleadaaGreatDoorPkC
set_option linter.unusedVariables false
section
namespace Go.Proofs.YtpndmanbfleadaaGreatDoor
open Go.Awp Go.Tx
open IntKind (i32)
open IntKind (u8)
open IntKind (i64)
open Go.Proofs.Tryz (prog)
set_option maxHeartbeats 4000000
set_option maxRecDepth 100000
noncomputable def c120s8e4dz : Cut SN := ⟨[(0, .bp 100000 0)], [(100000, .box (some 108) [.np 100000, .vh 3001]), (3001, .vec 5 (.int .u8))]⟩
noncomputable def sig120s8e4d : Sig vw := { params := [.bp 100000 0], objs := [(100000, .box (some 108) [.np 100000, .vh 100001]), (100001, .vec 5 (.int .u8))], rcut := c120s8e4dz, rvars := [], keep := [100000, 3001] }
noncomputable def n_120s8e4d (v : Bool × (List Int) × Unit) : Option (Bool × (List Int) × Unit) :=
 some (true, v.2.1, ())
theorem n_120s8e4d_ok : SigOk prog 120 sig120s8e4d n_120s8e4d := fun v r x h hx => by
 obtain ⟨bl, xs, u⟩ := v
 cases h; cases hx
 exact kcast (by kernel_rfl) (FnOk.copyCheck (P := prog) (f := 120) (T := 108) (rest := []) (by kernel_rfl)
  (Any.Builder_copyCheck_fresh (P := prog) (ρ := Tryz.lays159_ren) { Tryz.lays159 with } Tryz.Builder_Extra_159.toX72)
  (Any.Builder_copyCheck_used (P := prog) (ρ := Tryz.lays159_ren) { Tryz.lays159 with } Tryz.Builder_Extra_159.toX72)
  (g := 100000) (m := 100001) (c := 3001) (l := xs.length) (bl := bl) (e := 5) (sz := 1) (rows := xs.map fun y => Go.Tx.encR szN encN (.int .u8) y) (by decide) (by decide) (by decide))
noncomputable def c100s52d8z : Cut SN := ⟨[(0, .bp 100000 0), (4, .dat (.int .i64)), (5, .nif)], [(100000, .box (some 108) [.np 100000, .vh 3001]), (3001, .vec 5 (.int .u8))]⟩
noncomputable def sh100s52d8 : Shape vw := { rcut := c100s52d8z }
noncomputable def sig100s52d8 : Sig vw := { params := [.bp 100000 0, .dat .str], objs := [(100000, .box (some 108) [.np 100000, .vh 100001]), (100001, .vec 5 (.int .u8))], rcut := c100s52d8z, rvars := [.tmp 4, .tmp 5], keep := [100000, 3001] }
noncomputable def n_100s52d8 (v : ByteArray × Bool × (List Int) × Unit) : Option (Int × Bool × (List Int) × Unit) :=
 n_120s8e4d (v.2.1, v.2.2.1, ()) >>= fun x1 =>
 if x1.2.1.length + v.1.size ≤ (4294967296 : Nat) then
  some (((↑v.1.size : Int), x1.1, x1.2.1 ++ Bs.ints v.1, ()))
 else none
noncomputable def call100s52d8 : Caller vw := fun A fid args S k => match fid with | 120 => callObj prog sig120s8e4d n_120s8e4d A args S k | _ => none
noncomputable def x100s52d8 : Xc vw := { P := prog, n := 19, call := call100s52d8, sh := sh100s52d8 }
theorem call100s52d8_ok : CallerOk prog call100s52d8 := fun A fid args S dst k r h => by
 unfold call100s52d8 at h
 split at h
 ·exact callObj_ok (n_120s8e4d_ok) h
 ·cases h
theorem n_100s52d8_ok : SigOk prog 100 sig100s52d8 n_100s52d8 := fun v r x h hx =>
 fn_ok (X := x100s52d8) (sig := sig100s52d8) rfl Tryz.func100 (c := bodyOf Tryz.f100) (by kernel_rfl) Tryz.ntmps100 (by kernel_rfl) (by kernel_rfl) rfl Ty.mixed call100s52d8_ok rfl (fun C hP hN => (lok_all (kcast (by kernel_rfl) trivial))) (kcast (by kernel_rfl) h) x hx
noncomputable def c101z : Cut SN := ⟨[(4, .dat .bool)], []⟩
noncomputable def sig101 : Sig vw := { params := [.dat .str, .dat .str], rcut := c101z, rvars := [.tmp 4] }
noncomputable def n_101 (v : ByteArray × ByteArray × Unit) : Option (Bool × Unit) :=
 match v.2.1.data.toList with | [c] => some (decide (0 ≤ Lib.indexByte v.1.data.toList c), ()) | _ => none
theorem n_101_ok : SigOk prog 101 sig101 n_101 := fun v r x h hx => by
 obtain ⟨s, c, u⟩ := v
 unfold n_101 at h
 simp only at h
 split at h
 ·rename_i c0 hc
  obtain rfl : c = ⟨#[c0]⟩ := by
   obtain ⟨⟨l⟩⟩ := c
   simp only at hc
   rw [hc]
  cases h; cases hx
  exact kcast (by kernel_rfl) (FnOk.pure (P := prog) (f := 101) (args := [.d (.v (.string s)), .d (.v (.string ⟨#[c0]⟩))]) (r := .d (.v (.bool (decide (0 ≤ Lib.indexByte s.data.toList c0))))) (by kernel_rfl) fun E M w vs hg hm hv => by
   obtain ⟨v1, v2, rfl, h1, h2⟩ := hreps_two hv
   rw [h1.dv, h2.dv]
   exact (Tryz.strings_Contains_one s c0 w).mono fun e w' ⟨he, hw⟩ => ⟨_, he, .d (.v _), hw ▸ Go.RowKit.Below.refl _ _⟩)
 ·cases h
noncomputable def c76z : Cut SN := ⟨[(2, .dat .bool)], []⟩
noncomputable def sig76 : Sig vw := { params := [.dat .str], rcut := c76z, rvars := [.tmp 2] }
noncomputable def n_76 (v : ByteArray × Unit) : Option (Bool × Unit) :=
 if v.1.size ≤ 9223372036854775807 then some (Lib.validD v.1.data.toList, ()) else none
theorem n_76_ok : SigOk prog 76 sig76 n_76 := fun v r x h hx => by
 obtain ⟨s, u⟩ := v
 unfold n_76 at h
 split at h
 ·rename_i hc
  simp only at hc
  cases h; cases hx
  exact kcast (by kernel_rfl) (FnOk.pure (P := prog) (f := 76) (args := [.d (.v (.string s))]) (r := .d (.v (.bool (Lib.validD s.data.toList)))) (by kernel_rfl) fun E M w vs hg hm hv => by
   obtain ⟨v1, rfl, h1⟩ := hreps_one hv
   rw [h1.dv]
   exact (Tryz.utf8_ValidString s w hc (tabs_utf8 hg hm)).mono fun e w' ⟨he, hw⟩ => ⟨_, he, .d (.v _), hw⟩)
 ·cases h
noncomputable def sh75 : Shape vw := { rcut := c76z }
noncomputable def sig75 : Sig vw := { params := [.dat .str], rcut := c76z, rvars := [.tmp 2] }
noncomputable def n_75 (v : ByteArray × Unit) : Option (Bool × Unit) :=
 n_76 (v.1, ()) >>= fun x1 =>
 some ((!x1.1, ()))
noncomputable def call75 : Caller vw := fun A fid args S k => match fid with | 76 => callPure prog sig76 n_76 A args S k | _ => none
noncomputable def x75 : Xc vw := { P := prog, n := 6, call := call75, sh := sh75 }
theorem call75_ok : CallerOk prog call75 := fun A fid args S dst k r h => by
 unfold call75 at h
 split at h
 ·exact callPure_ok (n_76_ok) rfl rfl h
 ·cases h
theorem n_75_ok : SigOk prog 75 sig75 n_75 := fun v r x h hx =>
 fn_ok (X := x75) (sig := sig75) rfl Tryz.func75 (c := bodyOf Tryz.f75) (by kernel_rfl) Tryz.ntmps75 (by kernel_rfl) (by kernel_rfl) rfl Ty.mixed call75_ok rfl (fun C hP hN => (lok_all (kcast (by kernel_rfl) trivial))) (kcast (by kernel_rfl) h) x hx
noncomputable def c103c75l2 : Cut SN := ⟨[(0, .dat (.sl .str)), (1, .fn 75 [] []), (7, .dat (.int .i64)), (8, .dat (.int .i64))], []⟩
noncomputable def c103c75e0 : Cut SN := ⟨[], []⟩
noncomputable def c103c75z : Cut SN := ⟨[(4, .dat (.int .i64))], []⟩
noncomputable def sh103c75 : Shape vw := { exits := fun id => match id with | 0 => c103c75e0 | _ => ⟨[], []⟩, rcut := c103c75z }
noncomputable def sig103c75 : Sig vw := { params := [.dat (.sl .str), .fn 75 [] []], rcut := c103c75z, rvars := [.tmp 4] }
noncomputable def n_103c75l2 (v : (List ByteArray) × Int × Int × Unit) : Option (((Int × Unit) ⊕ (Unit))) :=
 if decide (v.2.2.1 < v.2.1) = true then
  if (0 : Int) ≤ v.2.2.1 then
   v.1[v.2.2.1.toNat]? >>= fun x1 =>
   n_75 (x1, ()) >>= fun x2 =>
   if x2.1 = true then
    some (Sum.inl (v.2.2.1, ()))
   else n_103c75l2 (v.1, v.2.1, i64.wrap (v.2.2.1 + (1 : Int)), ())
  else none
 else some (Sum.inr ())
 partial_fixpoint
noncomputable def n_103c75 (v : (List ByteArray) × Unit) : Option (Int × Unit) :=
 n_103c75l2 (v.1, (↑v.1.length : Int), (0 : Int), ()) >>= fun x1 => match x1 with
  | .inl y1 => some y1
  | .inr y1 => some (((-1 : Int), ()))
noncomputable def call103c75 : Caller vw := fun A fid args S k => match fid with | 75 => callPure prog sig75 n_75 A args S k | _ => none
noncomputable def x103c75 : Xc vw := { P := prog, n := 19, call := call103c75, sh := sh103c75, loops := fun k => match k with | 2 => some { cut := c103c75l2, alts := [.ret, .exit 0], F := n_103c75l2 } | _ => none }
theorem call103c75_ok : CallerOk prog call103c75 := fun A fid args S dst k r h => by
 unfold call103c75 at h
 split at h
 ·exact callPure_ok (n_75_ok) rfl rfl h
 ·cases h
theorem n_103c75l2_ok (C : Ctx) (hP : C.P = prog) (hN : C.N = 19) : LoopOk C (loopNo (bodyOf Tryz.f103) 0) (sh := sh103c75) { cut := c103c75l2, alts := [.ret, .exit 0], F := n_103c75l2 } :=
 n_103c75l2.partial_correctness (motive := fun v out => AWpL C (loopNo (bodyOf Tryz.f103) 0) (encS vw (conc vw c103c75l2 v)) (OutQ sh103c75 [.ret, .exit 0] out)) fun F ih v out h =>
  loop_step (X := x103c75) (b := (loopNo (bodyOf Tryz.f103) 0)) hP hN Ty.mixed call103c75_ok (lok_all (X := x103c75) (c := (loopNo (bodyOf Tryz.f103) 0)) (kcast (by kernel_rfl : True = AllB (LoopsP C (x103c75)) (loopsIn (loopNo (bodyOf Tryz.f103) 0))) trivial)) ih (kcast (by kernel_rfl) h)
theorem n_103c75_ok : SigOk prog 103 sig103c75 n_103c75 := fun v r x h hx =>
 fn_ok (X := x103c75) (sig := sig103c75) rfl Tryz.func103 (c := bodyOf Tryz.f103) (by kernel_rfl) Tryz.ntmps103 (by kernel_rfl) (by kernel_rfl) rfl Ty.mixed call103c75_ok rfl (fun C hP hN => (lok_all (kcast (by kernel_rfl : AllB (LoopsP C (x103c75)) [(loopNo (bodyOf Tryz.f103) 0)] = AllB (LoopsP C (x103c75)) (loopsIn (bodyOf Tryz.f103))) ⟨loop_at (X := x103c75) (b := (loopNo (bodyOf Tryz.f103) 0)) (by kernel_rfl) (n_103c75l2_ok C hP hN), trivial⟩))) (kcast (by kernel_rfl) h) x hx
noncomputable def c104c52l2 : Cut SN := ⟨[(0, .dat (.sl (.st .tagT))), (1, .fn 52 [] []), (7, .dat (.int .i64)), (8, .dat (.int .i64))], []⟩
noncomputable def sh104c52 : Shape vw := { exits := fun id => match id with | 0 => c103c75e0 | _ => ⟨[], []⟩, rcut := c103c75z }
noncomputable def sig104c52 : Sig vw := { params := [.dat (.sl (.st .tagT)), .fn 52 [] []], rcut := c103c75z, rvars := [.tmp 4] }
noncomputable def c52l3 : Cut SN := ⟨[(1, .bp 1 0), (3, .mp 6), (8, .dat (.sl .str)), (9, .dat (.int .i64)), (10, .dat (.int .i64))], [(1, .st .tagT), (6, .map .str .bool)]⟩
noncomputable def c52e0 : Cut SN := ⟨[(1, .bp 1 0)], [(1, .st .tagT)]⟩
noncomputable def sh52 : Shape vw := { exits := fun id => match id with | 0 => c52e0 | _ => ⟨[], []⟩, rcut := c76z }
noncomputable def sig52 : Sig vw := { params := [.dat (.st .tagT)], rcut := c76z, rvars := [.tmp 2] }
noncomputable def sh78c52 : Shape vw := { rcut := c101z }
noncomputable def sig78c52 : Sig vw := { params := [.dat (.sl (.st .tagT)), .fn 52 [] []], rcut := c101z, rvars := [.tmp 4] }
noncomputable def n_52l3 (v : (List ByteArray) × Int × Int × Tag × (List (ByteArray × Bool)) × Unit) : Option (((Bool × Unit) ⊕ (Tag × Unit))) :=
 if decide (v.2.2.1 < v.2.1) = true then
  if (0 : Int) ≤ v.2.2.1 then
   v.1[v.2.2.1.toNat]? >>= fun x1 =>
   if (Mp.get Mp.seq x1 v.2.2.2.2.1).getD false = true then
    some (Sum.inl (true, ()))
   else n_52l3 (v.1, v.2.1, i64.wrap (v.2.2.1 + (1 : Int)), v.2.2.2.1, Mp.set Mp.seq Mp.slt x1 true v.2.2.2.2.1, ())
  else none
 else some (Sum.inr (v.2.2.2.1, ()))
 partial_fixpoint
mutual
noncomputable def n_104c52l2 (v : (List Tag) × Int × Int × Unit) : Option (((Int × Unit) ⊕ (Unit))) :=
 if decide (v.2.2.1 < v.2.1) = true then
  if (0 : Int) ≤ v.2.2.1 then
   v.1[v.2.2.1.toNat]? >>= fun x1 =>
   n_52 (x1, ()) >>= fun x2 =>
   if x2.1 = true then
    some (Sum.inl (v.2.2.1, ()))
   else n_104c52l2 (v.1, v.2.1, i64.wrap (v.2.2.1 + (1 : Int)), ())
  else none
 else some (Sum.inr ())
 partial_fixpoint
noncomputable def n_52 (v : Tag × Unit) : Option (Bool × Unit) :=
 n_52l3 (v.1.names, (↑v.1.names.length : Int), (0 : Int), v.1, [], ()) >>= fun x1 => match x1 with
  | .inl y1 => some y1
  | .inr y1 => n_78c52 (y1.1.parts, ()) >>= fun x2 =>
   some ((x2.1, ()))
 partial_fixpoint
noncomputable def n_78c52 (v : (List Tag) × Unit) : Option (Bool × Unit) :=
 n_104c52 (v.1, ()) >>= fun x1 =>
 some ((decide (x1.1 ≥ (0 : Int)), ()))
 partial_fixpoint
noncomputable def n_104c52 (v : (List Tag) × Unit) : Option (Int × Unit) :=
 n_104c52l2 (v.1, (↑v.1.length : Int), (0 : Int), ()) >>= fun x1 => match x1 with
  | .inl y1 => some y1
  | .inr y1 => some (((-1 : Int), ()))
 partial_fixpoint
end
noncomputable def call104c52 (n_52l3 : (List ByteArray) × Int × Int × Tag × (List (ByteArray × Bool)) × Unit → Option (((Bool × Unit) ⊕ (Tag × Unit)))) (n_104c52l2 : (List Tag) × Int × Int × Unit → Option (((Int × Unit) ⊕ (Unit)))) (n_52 : Tag × Unit → Option (Bool × Unit)) (n_78c52 : (List Tag) × Unit → Option (Bool × Unit)) (n_104c52 : (List Tag) × Unit → Option (Int × Unit)) : Caller vw := fun A fid args S k => match fid with | 52 => callPure prog sig52 n_52 A args S k | _ => none
noncomputable def x104c52 (n_52l3 : (List ByteArray) × Int × Int × Tag × (List (ByteArray × Bool)) × Unit → Option (((Bool × Unit) ⊕ (Tag × Unit)))) (n_104c52l2 : (List Tag) × Int × Int × Unit → Option (((Int × Unit) ⊕ (Unit)))) (n_52 : Tag × Unit → Option (Bool × Unit)) (n_78c52 : (List Tag) × Unit → Option (Bool × Unit)) (n_104c52 : (List Tag) × Unit → Option (Int × Unit)) : Xc vw := { P := prog, n := 19, call := call104c52 n_52l3 n_104c52l2 n_52 n_78c52 n_104c52, sh := sh104c52, loops := fun k => match k with | 2 => some { cut := c104c52l2, alts := [.ret, .exit 0], F := n_104c52l2 } | _ => none }
noncomputable def call52 (n_52l3 : (List ByteArray) × Int × Int × Tag × (List (ByteArray × Bool)) × Unit → Option (((Bool × Unit) ⊕ (Tag × Unit)))) (n_104c52l2 : (List Tag) × Int × Int × Unit → Option (((Int × Unit) ⊕ (Unit)))) (n_52 : Tag × Unit → Option (Bool × Unit)) (n_78c52 : (List Tag) × Unit → Option (Bool × Unit)) (n_104c52 : (List Tag) × Unit → Option (Int × Unit)) : Caller vw := fun A fid args S k => match fid with | 78 => callPure prog sig78c52 n_78c52 A args S k | _ => none
noncomputable def x52 (n_52l3 : (List ByteArray) × Int × Int × Tag × (List (ByteArray × Bool)) × Unit → Option (((Bool × Unit) ⊕ (Tag × Unit)))) (n_104c52l2 : (List Tag) × Int × Int × Unit → Option (((Int × Unit) ⊕ (Unit)))) (n_52 : Tag × Unit → Option (Bool × Unit)) (n_78c52 : (List Tag) × Unit → Option (Bool × Unit)) (n_104c52 : (List Tag) × Unit → Option (Int × Unit)) : Xc vw := { P := prog, n := 23, call := call52 n_52l3 n_104c52l2 n_52 n_78c52 n_104c52, sh := sh52, loops := fun k => match k with | 3 => some { cut := c52l3, alts := [.ret, .exit 0], F := n_52l3 } | _ => none }
noncomputable def call78c52 (n_52l3 : (List ByteArray) × Int × Int × Tag × (List (ByteArray × Bool)) × Unit → Option (((Bool × Unit) ⊕ (Tag × Unit)))) (n_104c52l2 : (List Tag) × Int × Int × Unit → Option (((Int × Unit) ⊕ (Unit)))) (n_52 : Tag × Unit → Option (Bool × Unit)) (n_78c52 : (List Tag) × Unit → Option (Bool × Unit)) (n_104c52 : (List Tag) × Unit → Option (Int × Unit)) : Caller vw := fun A fid args S k => match fid with | 104 => callPure prog sig104c52 n_104c52 A args S k | _ => none
noncomputable def x78c52 (n_52l3 : (List ByteArray) × Int × Int × Tag × (List (ByteArray × Bool)) × Unit → Option (((Bool × Unit) ⊕ (Tag × Unit)))) (n_104c52l2 : (List Tag) × Int × Int × Unit → Option (((Int × Unit) ⊕ (Unit)))) (n_52 : Tag × Unit → Option (Bool × Unit)) (n_78c52 : (List Tag) × Unit → Option (Bool × Unit)) (n_104c52 : (List Tag) × Unit → Option (Int × Unit)) : Xc vw := { P := prog, n := 9, call := call78c52 n_52l3 n_104c52l2 n_52 n_78c52 n_104c52, sh := sh78c52 }
abbrev mn_52l3 (v : (List ByteArray) × Int × Int × Tag × (List (ByteArray × Bool)) × Unit) (r : ((Bool × Unit) ⊕ (Tag × Unit))) : Prop := (fun v out => ∀ C : Ctx, C.P = prog → C.N = 23 → AWpL C (loopNo (bodyOf Tryz.f52) 0) (encS vw (conc vw c52l3 v)) (OutQ sh52 [.ret, .exit 0] out)) v r
theorem cn_52l3 (f0 : (List ByteArray) × Int × Int × Tag × (List (ByteArray × Bool)) × Unit → Option (((Bool × Unit) ⊕ (Tag × Unit)))) (h0 : ∀ v r, f0 v = some r → mn_52l3 v r) : CallerOk prog (x52 f0 (fun _ => none) (fun _ => none) (fun _ => none) (fun _ => none)).call := (by
    intro A fid args S dst k r h
    unfold x52 call52 at h
    simp only at h
    split at h
    ·exact callPure_ok ((fun v r x h hx => by cases h)) rfl rfl h
    ·cases h)
theorem sn_52l3 (f0 : (List ByteArray) × Int × Int × Tag × (List (ByteArray × Bool)) × Unit → Option (((Bool × Unit) ⊕ (Tag × Unit)))) (h0 : ∀ v r, f0 v = some r → mn_52l3 v r) (v : (List ByteArray) × Int × Int × Tag × (List (ByteArray × Bool)) × Unit) (r : ((Bool × Unit) ⊕ (Tag × Unit))) (h : exL (x52 f0 (fun _ => none) (fun _ => none) (fun _ => none) (fun _ => none)) (loopNo (bodyOf Tryz.f52) 0) c52l3 [.ret, .exit 0] f0 v = some r) : mn_52l3 v r := fun C hP hN => loop_step (X := x52 f0 (fun _ => none) (fun _ => none) (fun _ => none) (fun _ => none)) (b := (loopNo (bodyOf Tryz.f52) 0)) hP hN Ty.mixed (cn_52l3 f0 h0) (lok_all (X := x52 f0 (fun _ => none) (fun _ => none) (fun _ => none) (fun _ => none)) (c := (loopNo (bodyOf Tryz.f52) 0)) (kcast (by kernel_rfl : True = AllB (LoopsP C (x52 f0 (fun _ => none) (fun _ => none) (fun _ => none) (fun _ => none))) (loopsIn (loopNo (bodyOf Tryz.f52) 0))) trivial)) (cut := c52l3) (alts := [.ret, .exit 0]) (F := f0) (fun v out h => h0 v out h C hP hN) h
theorem n_52l3_pc : ∀ v out, n_52l3 v = some out → (fun v out => ∀ C : Ctx, C.P = prog → C.N = 23 → AWpL C (loopNo (bodyOf Tryz.f52) 0) (encS vw (conc vw c52l3 v)) (OutQ sh52 [.ret, .exit 0] out)) v out := (n_52l3.partial_correctness (motive := mn_52l3) (fun f0 h0 v r h => sn_52l3 f0 h0 v r (kcast (by kernel_rfl) h)))
abbrev mn_104c52l2 (v : (List Tag) × Int × Int × Unit) (r : ((Int × Unit) ⊕ (Unit))) : Prop := (fun v out => ∀ C : Ctx, C.P = prog → C.N = 19 → AWpL C (loopNo (bodyOf Tryz.f104) 0) (encS vw (conc vw c104c52l2 v)) (OutQ sh104c52 [.ret, .exit 0] out)) v r
abbrev mn_52 (v : Tag × Unit) (r : Bool × Unit) : Prop := (fun v r => ∀ x, resV prog sig52 r = some x → FnOk prog 52 (encL vw (startS sig52 v).len (startOs sig52 v).1) (encOs (startS sig52 v).len (startS sig52 v).own) (encV vw (conc vw sig52.rcut r).len x) (encOs (conc vw sig52.rcut r).len (kept sig52 r))) v r
abbrev mn_78c52 (v : (List Tag) × Unit) (r : Bool × Unit) : Prop := (fun v r => ∀ x, resV prog sig78c52 r = some x → FnOk prog 78 (encL vw (startS sig78c52 v).len (startOs sig78c52 v).1) (encOs (startS sig78c52 v).len (startS sig78c52 v).own) (encV vw (conc vw sig78c52.rcut r).len x) (encOs (conc vw sig78c52.rcut r).len (kept sig78c52 r))) v r
abbrev mn_104c52 (v : (List Tag) × Unit) (r : Int × Unit) : Prop := (fun v r => ∀ x, resV prog sig104c52 r = some x → FnOk prog 104 (encL vw (startS sig104c52 v).len (startOs sig104c52 v).1) (encOs (startS sig104c52 v).len (startS sig104c52 v).own) (encV vw (conc vw sig104c52.rcut r).len x) (encOs (conc vw sig104c52.rcut r).len (kept sig104c52 r))) v r
theorem cn_104c52l2 (f0 : (List Tag) × Int × Int × Unit → Option (((Int × Unit) ⊕ (Unit)))) (f1 : Tag × Unit → Option (Bool × Unit)) (h0 : ∀ v r, f0 v = some r → mn_104c52l2 v r) (h1 : ∀ v r, f1 v = some r → mn_52 v r) : CallerOk prog (x104c52 (fun _ => none) f0 f1 (fun _ => none) (fun _ => none)).call := (by
    intro A fid args S dst k r h
    unfold x104c52 call104c52 at h
    simp only at h
    split at h
    ·exact callPure_ok ((fun v r x h hx => h1 v r h x hx)) rfl rfl h
    ·cases h)
theorem sn_104c52l2 (f0 : (List Tag) × Int × Int × Unit → Option (((Int × Unit) ⊕ (Unit)))) (f1 : Tag × Unit → Option (Bool × Unit)) (h0 : ∀ v r, f0 v = some r → mn_104c52l2 v r) (h1 : ∀ v r, f1 v = some r → mn_52 v r) (v : (List Tag) × Int × Int × Unit) (r : ((Int × Unit) ⊕ (Unit))) (h : exL (x104c52 (fun _ => none) f0 f1 (fun _ => none) (fun _ => none)) (loopNo (bodyOf Tryz.f104) 0) c104c52l2 [.ret, .exit 0] f0 v = some r) : mn_104c52l2 v r := fun C hP hN => loop_step (X := x104c52 (fun _ => none) f0 f1 (fun _ => none) (fun _ => none)) (b := (loopNo (bodyOf Tryz.f104) 0)) hP hN Ty.mixed (cn_104c52l2 f0 f1 h0 h1) (lok_all (X := x104c52 (fun _ => none) f0 f1 (fun _ => none) (fun _ => none)) (c := (loopNo (bodyOf Tryz.f104) 0)) (kcast (by kernel_rfl : True = AllB (LoopsP C (x104c52 (fun _ => none) f0 f1 (fun _ => none) (fun _ => none))) (loopsIn (loopNo (bodyOf Tryz.f104) 0))) trivial)) (cut := c104c52l2) (alts := [.ret, .exit 0]) (F := f0) (fun v out h => h0 v out h C hP hN) h
theorem cn_52 (f0 : (List Tag) × Unit → Option (Bool × Unit)) (h0 : ∀ v r, f0 v = some r → mn_78c52 v r) : CallerOk prog (x52 n_52l3 (fun _ => none) (fun _ => none) f0 (fun _ => none)).call := (by
    intro A fid args S dst k r h
    unfold x52 call52 at h
    simp only at h
    split at h
    ·exact callPure_ok ((fun v r x h hx => h0 v r h x hx)) rfl rfl h
    ·cases h)
theorem sn_52 (f0 : (List Tag) × Unit → Option (Bool × Unit)) (h0 : ∀ v r, f0 v = some r → mn_78c52 v r) (v : Tag × Unit) (r : Bool × Unit) (h : exF (x52 n_52l3 (fun _ => none) (fun _ => none) f0 (fun _ => none)) sig52 rfl (bodyOf Tryz.f52) v = some r) : mn_52 v r := fun x hx => fn_ok (X := x52 n_52l3 (fun _ => none) (fun _ => none) f0 (fun _ => none)) (sig := sig52) rfl Tryz.func52 (c := bodyOf Tryz.f52) (by kernel_rfl) Tryz.ntmps52 (by kernel_rfl) (by kernel_rfl) rfl Ty.mixed (cn_52 f0 h0) rfl (fun C hP hN => (lok_all (X := x52 n_52l3 (fun _ => none) (fun _ => none) f0 (fun _ => none)) (c := (bodyOf Tryz.f52)) (kcast (by kernel_rfl : AllB (LoopsP C (x52 n_52l3 (fun _ => none) (fun _ => none) f0 (fun _ => none))) [(loopNo (bodyOf Tryz.f52) 0)] = AllB (LoopsP C (x52 n_52l3 (fun _ => none) (fun _ => none) f0 (fun _ => none))) (loopsIn (bodyOf Tryz.f52))) ⟨loop_at (X := x52 n_52l3 (fun _ => none) (fun _ => none) f0 (fun _ => none)) (b := (loopNo (bodyOf Tryz.f52) 0)) (by kernel_rfl) (show LoopOk C (loopNo (bodyOf Tryz.f52) 0) (sh := sh52) { cut := c52l3, alts := [.ret, .exit 0], F := n_52l3 } from fun v out h => n_52l3_pc v out h C hP hN), trivial⟩))) h x hx
theorem cn_78c52 (f0 : (List Tag) × Unit → Option (Int × Unit)) (h0 : ∀ v r, f0 v = some r → mn_104c52 v r) : CallerOk prog (x78c52 (fun _ => none) (fun _ => none) (fun _ => none) (fun _ => none) f0).call := (by
    intro A fid args S dst k r h
    unfold x78c52 call78c52 at h
    simp only at h
    split at h
    ·exact callPure_ok ((fun v r x h hx => h0 v r h x hx)) rfl rfl h
    ·cases h)
theorem sn_78c52 (f0 : (List Tag) × Unit → Option (Int × Unit)) (h0 : ∀ v r, f0 v = some r → mn_104c52 v r) (v : (List Tag) × Unit) (r : Bool × Unit) (h : exF (x78c52 (fun _ => none) (fun _ => none) (fun _ => none) (fun _ => none) f0) sig78c52 rfl (bodyOf Tryz.f78) v = some r) : mn_78c52 v r := fun x hx => fn_ok (X := x78c52 (fun _ => none) (fun _ => none) (fun _ => none) (fun _ => none) f0) (sig := sig78c52) rfl Tryz.func78 (c := bodyOf Tryz.f78) (by kernel_rfl) Tryz.ntmps78 (by kernel_rfl) (by kernel_rfl) rfl Ty.mixed (cn_78c52 f0 h0) rfl (fun C hP hN => (lok_all (X := x78c52 (fun _ => none) (fun _ => none) (fun _ => none) (fun _ => none) f0) (c := (bodyOf Tryz.f78)) (kcast (by kernel_rfl : True = AllB (LoopsP C (x78c52 (fun _ => none) (fun _ => none) (fun _ => none) (fun _ => none) f0)) (loopsIn (bodyOf Tryz.f78))) trivial))) h x hx
theorem cn_104c52 (f0 : (List Tag) × Int × Int × Unit → Option (((Int × Unit) ⊕ (Unit)))) (h0 : ∀ v r, f0 v = some r → mn_104c52l2 v r) : CallerOk prog (x104c52 (fun _ => none) f0 (fun _ => none) (fun _ => none) (fun _ => none)).call := (by
    intro A fid args S dst k r h
    unfold x104c52 call104c52 at h
    simp only at h
    split at h
    ·exact callPure_ok ((fun v r x h hx => by cases h)) rfl rfl h
    ·cases h)
theorem sn_104c52 (f0 : (List Tag) × Int × Int × Unit → Option (((Int × Unit) ⊕ (Unit)))) (h0 : ∀ v r, f0 v = some r → mn_104c52l2 v r) (v : (List Tag) × Unit) (r : Int × Unit) (h : exF (x104c52 (fun _ => none) f0 (fun _ => none) (fun _ => none) (fun _ => none)) sig104c52 rfl (bodyOf Tryz.f104) v = some r) : mn_104c52 v r := fun x hx => fn_ok (X := x104c52 (fun _ => none) f0 (fun _ => none) (fun _ => none) (fun _ => none)) (sig := sig104c52) rfl Tryz.func104 (c := bodyOf Tryz.f104) (by kernel_rfl) Tryz.ntmps104 (by kernel_rfl) (by kernel_rfl) rfl Ty.mixed (cn_104c52 f0 h0) rfl (fun C hP hN => (lok_all (X := x104c52 (fun _ => none) f0 (fun _ => none) (fun _ => none) (fun _ => none)) (c := (bodyOf Tryz.f104)) (kcast (by kernel_rfl : AllB (LoopsP C (x104c52 (fun _ => none) f0 (fun _ => none) (fun _ => none) (fun _ => none))) [(loopNo (bodyOf Tryz.f104) 0)] = AllB (LoopsP C (x104c52 (fun _ => none) f0 (fun _ => none) (fun _ => none) (fun _ => none))) (loopsIn (bodyOf Tryz.f104))) ⟨loop_at (X := x104c52 (fun _ => none) f0 (fun _ => none) (fun _ => none) (fun _ => none)) (b := (loopNo (bodyOf Tryz.f104) 0)) (by kernel_rfl) (show LoopOk C (loopNo (bodyOf Tryz.f104) 0) (sh := sh104c52) { cut := c104c52l2, alts := [.ret, .exit 0], F := f0 } from fun v out h => h0 v out h C hP hN), trivial⟩))) h x hx
theorem n_104c52l2_all : (∀ v r, n_104c52l2 v = some r → mn_104c52l2 v r) ∧ (∀ v r, n_52 v = some r → mn_52 v r) ∧ (∀ v r, n_78c52 v = some r → mn_78c52 v r) ∧ (∀ v r, n_104c52 v = some r → mn_104c52 v r) := by
 refine n_104c52l2.mutual_partial_correctness
  (motive_1 := mn_104c52l2)
  (motive_2 := mn_52)
  (motive_3 := mn_78c52)
  (motive_4 := mn_104c52)
  ?_ ?_ ?_ ?_
 ·exact (fun f0 f1 h0 h1 v r h => sn_104c52l2 f0 f1 h0 h1 v r (kcast (by kernel_rfl) h))
 ·exact (fun f0 h0 v r h => sn_52 f0 h0 v r (kcast (by kernel_rfl) h))
 ·exact (fun f0 h0 v r h => sn_78c52 f0 h0 v r (kcast (by kernel_rfl) h))
 ·exact (fun f0 h0 v r h => sn_104c52 f0 h0 v r (kcast (by kernel_rfl) h))
theorem n_52_ok : SigOk prog 52 sig52 n_52 := fun v r x h hx => n_104c52l2_all.2.1 v r h x hx
noncomputable def sh77c75 : Shape vw := { rcut := c101z }
noncomputable def sig77c75 : Sig vw := { params := [.dat (.sl .str), .fn 75 [] []], rcut := c101z, rvars := [.tmp 4] }
noncomputable def n_77c75 (v : (List ByteArray) × Unit) : Option (Bool × Unit) :=
 n_103c75 (v.1, ()) >>= fun x1 =>
 some ((decide (x1.1 ≥ (0 : Int)), ()))
noncomputable def call77c75 : Caller vw := fun A fid args S k => match fid with | 103 => callPure prog sig103c75 n_103c75 A args S k | _ => none
noncomputable def x77c75 : Xc vw := { P := prog, n := 9, call := call77c75, sh := sh77c75 }
theorem call77c75_ok : CallerOk prog call77c75 := fun A fid args S dst k r h => by
 unfold call77c75 at h
 split at h
 ·exact callPure_ok (n_103c75_ok) rfl rfl h
 ·cases h
theorem n_77c75_ok : SigOk prog 77 sig77c75 n_77c75 := fun v r x h hx =>
 fn_ok (X := x77c75) (sig := sig77c75) rfl Tryz.func77 (c := bodyOf Tryz.f77) (by kernel_rfl) Tryz.ntmps77 (by kernel_rfl) (by kernel_rfl) rfl Ty.mixed call77c75_ok rfl (fun C hP hN => (lok_all (kcast (by kernel_rfl) trivial))) (kcast (by kernel_rfl) h) x hx
noncomputable def c104c79l2 : Cut SN := ⟨[(0, .dat (.sl (.st .tagT))), (1, .fn 79 [] []), (7, .dat (.int .i64)), (8, .dat (.int .i64))], []⟩
noncomputable def sh104c79 : Shape vw := { exits := fun id => match id with | 0 => c103c75e0 | _ => ⟨[], []⟩, rcut := c103c75z }
noncomputable def sig104c79 : Sig vw := { params := [.dat (.sl (.st .tagT)), .fn 79 [] []], rcut := c103c75z, rvars := [.tmp 4] }
noncomputable def c51r1 : Cut SN := ⟨[(1, .bp 1 0), (52, .dat .bool)], [(1, .st .tagT)]⟩
noncomputable def c51r3 : Cut SN := ⟨[(1, .bp 1 0), (75, .dat .bool)], [(1, .st .tagT)]⟩
noncomputable def sh51 : Shape vw := { rcut := c76z }
noncomputable def sig51 : Sig vw := { params := [.dat (.st .tagT)], rcut := c76z, rvars := [.tmp 2] }
noncomputable def sh78c79 : Shape vw := { rcut := c101z }
noncomputable def sig78c79 : Sig vw := { params := [.dat (.sl (.st .tagT)), .fn 79 [] []], rcut := c101z, rvars := [.tmp 4] }
noncomputable def sh79 : Shape vw := { rcut := c76z }
noncomputable def sig79 : Sig vw := { params := [.dat (.st .tagT)], rcut := c76z, rvars := [.tmp 2] }
mutual
noncomputable def n_104c79l2 (v : (List Tag) × Int × Int × Unit) : Option (((Int × Unit) ⊕ (Unit))) :=
 if decide (v.2.2.1 < v.2.1) = true then
  if (0 : Int) ≤ v.2.2.1 then
   v.1[v.2.2.1.toNat]? >>= fun x1 =>
   n_79 (x1, ()) >>= fun x2 =>
   if x2.1 = true then
    some (Sum.inl (v.2.2.1, ()))
   else n_104c79l2 (v.1, v.2.1, i64.wrap (v.2.2.1 + (1 : Int)), ())
  else none
 else some (Sum.inr ())
 partial_fixpoint
noncomputable def n_79 (v : Tag × Unit) : Option (Bool × Unit) :=
 n_51 (v.1, ()) >>= fun x1 =>
 some ((!x1.1, ()))
 partial_fixpoint
noncomputable def n_51 (v : Tag × Unit) : Option (Bool × Unit) :=
 (if decide (v.1.kind < (0 : Int)) = true then
    some ((true, v.1, ()))
   else if decide (v.1.kind > (6 : Int)) = true then
    some ((true, v.1, ()))
   else if (v.1.kind != (3 : Int)) = true then
    if (v.1.n != (0 : Int)) = true then
     some ((true, v.1, ()))
    else if decide (v.1.n < (-9007199254740992 : Int)) = true then
     some ((true, v.1, ()))
    else if decide (v.1.n > (9007199254740992 : Int)) = true then
     some ((true, v.1, ()))
    else if (v.1.kind != (4 : Int)) = true then
     if (!v.1.text.toList == (ByteArray.mk #[]).toList) = true then
      some ((true, v.1, ()))
     else if decide (v.1.kind < (5 : Int)) = true then
      some ((decide ((↑v.1.parts.length : Int) > (0 : Int)), v.1, ()))
     else some ((false, v.1, ()))
    else if decide (v.1.kind < (5 : Int)) = true then
     some ((decide ((↑v.1.parts.length : Int) > (0 : Int)), v.1, ()))
    else some ((false, v.1, ()))
   else if decide (v.1.n < (-9007199254740992 : Int)) = true then
    some ((true, v.1, ()))
   else if decide (v.1.n > (9007199254740992 : Int)) = true then
    some ((true, v.1, ()))
   else if (v.1.kind != (4 : Int)) = true then
    if (!v.1.text.toList == (ByteArray.mk #[]).toList) = true then
     some ((true, v.1, ()))
    else if decide (v.1.kind < (5 : Int)) = true then
     some ((decide ((↑v.1.parts.length : Int) > (0 : Int)), v.1, ()))
    else some ((false, v.1, ()))
   else if decide (v.1.kind < (5 : Int)) = true then
    some ((decide ((↑v.1.parts.length : Int) > (0 : Int)), v.1, ()))
   else some ((false, v.1, ()))) >>= fun x1 =>
 if x1.1 = true then
  some ((false, ()))
 else (if (x1.2.1.kind == (6 : Int)) = true then
   if ((↑x1.2.1.names.length : Int) != (↑x1.2.1.parts.length : Int)) = true then
    some ((true, x1.2.1, ()))
   else if (x1.2.1.kind != (6 : Int)) = true then
    some ((decide ((↑x1.2.1.names.length : Int) > (0 : Int)), x1.2.1, ()))
   else some ((false, x1.2.1, ()))
  else if (x1.2.1.kind != (6 : Int)) = true then
   some ((decide ((↑x1.2.1.names.length : Int) > (0 : Int)), x1.2.1, ()))
  else some ((false, x1.2.1, ()))) >>= fun x2 =>
 if x2.1 = true then
  some ((false, ()))
 else (n_75 (x2.2.1.text, ()) >>= fun x3 =>
  if (!x3.1) = true then
   n_77c75 (x2.2.1.names, ()) >>= fun x4 =>
   if (!x4.1) = true then
    n_78c79 (x2.2.1.parts, ()) >>= fun x5 =>
    some ((!x5.1, ()))
   else some ((false, ()))
  else some ((false, ()))) >>= fun x3 =>
 some ((x3.1, ()))
 partial_fixpoint
noncomputable def n_78c79 (v : (List Tag) × Unit) : Option (Bool × Unit) :=
 n_104c79 (v.1, ()) >>= fun x1 =>
 some ((decide (x1.1 ≥ (0 : Int)), ()))
 partial_fixpoint
noncomputable def n_104c79 (v : (List Tag) × Unit) : Option (Int × Unit) :=
 n_104c79l2 (v.1, (↑v.1.length : Int), (0 : Int), ()) >>= fun x1 => match x1 with
  | .inl y1 => some y1
  | .inr y1 => some (((-1 : Int), ()))
 partial_fixpoint
end
noncomputable def call104c79 (n_104c79l2 : (List Tag) × Int × Int × Unit → Option (((Int × Unit) ⊕ (Unit)))) (n_79 : Tag × Unit → Option (Bool × Unit)) (n_51 : Tag × Unit → Option (Bool × Unit)) (n_78c79 : (List Tag) × Unit → Option (Bool × Unit)) (n_104c79 : (List Tag) × Unit → Option (Int × Unit)) : Caller vw := fun A fid args S k => match fid with | 79 => callPure prog sig79 n_79 A args S k | _ => none
noncomputable def x104c79 (n_104c79l2 : (List Tag) × Int × Int × Unit → Option (((Int × Unit) ⊕ (Unit)))) (n_79 : Tag × Unit → Option (Bool × Unit)) (n_51 : Tag × Unit → Option (Bool × Unit)) (n_78c79 : (List Tag) × Unit → Option (Bool × Unit)) (n_104c79 : (List Tag) × Unit → Option (Int × Unit)) : Xc vw := { P := prog, n := 19, call := call104c79 n_104c79l2 n_79 n_51 n_78c79 n_104c79, sh := sh104c79, loops := fun k => match k with | 2 => some { cut := c104c79l2, alts := [.ret, .exit 0], F := n_104c79l2 } | _ => none }
noncomputable def call51 (n_104c79l2 : (List Tag) × Int × Int × Unit → Option (((Int × Unit) ⊕ (Unit)))) (n_79 : Tag × Unit → Option (Bool × Unit)) (n_51 : Tag × Unit → Option (Bool × Unit)) (n_78c79 : (List Tag) × Unit → Option (Bool × Unit)) (n_104c79 : (List Tag) × Unit → Option (Int × Unit)) : Caller vw := fun A fid args S k => match fid with | 75 => callPure prog sig75 n_75 A args S k | 77 => callPure prog sig77c75 n_77c75 A args S k | 78 => callPure prog sig78c79 n_78c79 A args S k | _ => none
noncomputable def x51 (n_104c79l2 : (List Tag) × Int × Int × Unit → Option (((Int × Unit) ⊕ (Unit)))) (n_79 : Tag × Unit → Option (Bool × Unit)) (n_51 : Tag × Unit → Option (Bool × Unit)) (n_78c79 : (List Tag) × Unit → Option (Bool × Unit)) (n_104c79 : (List Tag) × Unit → Option (Int × Unit)) : Xc vw := { P := prog, n := 94, call := call51 n_104c79l2 n_79 n_51 n_78c79 n_104c79, sh := sh51, regs := fun k => match k with | 1 => some c51r1 | 3 => some c51r3 | 6 => some c76z | _ => none }
noncomputable def call78c79 (n_104c79l2 : (List Tag) × Int × Int × Unit → Option (((Int × Unit) ⊕ (Unit)))) (n_79 : Tag × Unit → Option (Bool × Unit)) (n_51 : Tag × Unit → Option (Bool × Unit)) (n_78c79 : (List Tag) × Unit → Option (Bool × Unit)) (n_104c79 : (List Tag) × Unit → Option (Int × Unit)) : Caller vw := fun A fid args S k => match fid with | 104 => callPure prog sig104c79 n_104c79 A args S k | _ => none
noncomputable def x78c79 (n_104c79l2 : (List Tag) × Int × Int × Unit → Option (((Int × Unit) ⊕ (Unit)))) (n_79 : Tag × Unit → Option (Bool × Unit)) (n_51 : Tag × Unit → Option (Bool × Unit)) (n_78c79 : (List Tag) × Unit → Option (Bool × Unit)) (n_104c79 : (List Tag) × Unit → Option (Int × Unit)) : Xc vw := { P := prog, n := 9, call := call78c79 n_104c79l2 n_79 n_51 n_78c79 n_104c79, sh := sh78c79 }
noncomputable def call79 (n_104c79l2 : (List Tag) × Int × Int × Unit → Option (((Int × Unit) ⊕ (Unit)))) (n_79 : Tag × Unit → Option (Bool × Unit)) (n_51 : Tag × Unit → Option (Bool × Unit)) (n_78c79 : (List Tag) × Unit → Option (Bool × Unit)) (n_104c79 : (List Tag) × Unit → Option (Int × Unit)) : Caller vw := fun A fid args S k => match fid with | 51 => callPure prog sig51 n_51 A args S k | _ => none
noncomputable def x79 (n_104c79l2 : (List Tag) × Int × Int × Unit → Option (((Int × Unit) ⊕ (Unit)))) (n_79 : Tag × Unit → Option (Bool × Unit)) (n_51 : Tag × Unit → Option (Bool × Unit)) (n_78c79 : (List Tag) × Unit → Option (Bool × Unit)) (n_104c79 : (List Tag) × Unit → Option (Int × Unit)) : Xc vw := { P := prog, n := 6, call := call79 n_104c79l2 n_79 n_51 n_78c79 n_104c79, sh := sh79 }
abbrev mn_104c79l2 (v : (List Tag) × Int × Int × Unit) (r : ((Int × Unit) ⊕ (Unit))) : Prop := (fun v out => ∀ C : Ctx, C.P = prog → C.N = 19 → AWpL C (loopNo (bodyOf Tryz.f104) 0) (encS vw (conc vw c104c79l2 v)) (OutQ sh104c79 [.ret, .exit 0] out)) v r
abbrev mn_79 (v : Tag × Unit) (r : Bool × Unit) : Prop := (fun v r => ∀ x, resV prog sig79 r = some x → FnOk prog 79 (encL vw (startS sig79 v).len (startOs sig79 v).1) (encOs (startS sig79 v).len (startS sig79 v).own) (encV vw (conc vw sig79.rcut r).len x) (encOs (conc vw sig79.rcut r).len (kept sig79 r))) v r
abbrev mn_51 (v : Tag × Unit) (r : Bool × Unit) : Prop := (fun v r => ∀ x, resV prog sig51 r = some x → FnOk prog 51 (encL vw (startS sig51 v).len (startOs sig51 v).1) (encOs (startS sig51 v).len (startS sig51 v).own) (encV vw (conc vw sig51.rcut r).len x) (encOs (conc vw sig51.rcut r).len (kept sig51 r))) v r
abbrev mn_78c79 (v : (List Tag) × Unit) (r : Bool × Unit) : Prop := (fun v r => ∀ x, resV prog sig78c79 r = some x → FnOk prog 78 (encL vw (startS sig78c79 v).len (startOs sig78c79 v).1) (encOs (startS sig78c79 v).len (startS sig78c79 v).own) (encV vw (conc vw sig78c79.rcut r).len x) (encOs (conc vw sig78c79.rcut r).len (kept sig78c79 r))) v r
abbrev mn_104c79 (v : (List Tag) × Unit) (r : Int × Unit) : Prop := (fun v r => ∀ x, resV prog sig104c79 r = some x → FnOk prog 104 (encL vw (startS sig104c79 v).len (startOs sig104c79 v).1) (encOs (startS sig104c79 v).len (startS sig104c79 v).own) (encV vw (conc vw sig104c79.rcut r).len x) (encOs (conc vw sig104c79.rcut r).len (kept sig104c79 r))) v r
theorem cn_104c79l2 (f0 : (List Tag) × Int × Int × Unit → Option (((Int × Unit) ⊕ (Unit)))) (f1 : Tag × Unit → Option (Bool × Unit)) (h0 : ∀ v r, f0 v = some r → mn_104c79l2 v r) (h1 : ∀ v r, f1 v = some r → mn_79 v r) : CallerOk prog (x104c79 f0 f1 (fun _ => none) (fun _ => none) (fun _ => none)).call := (by
    intro A fid args S dst k r h
    unfold x104c79 call104c79 at h
    simp only at h
    split at h
    ·exact callPure_ok ((fun v r x h hx => h1 v r h x hx)) rfl rfl h
    ·cases h)
theorem sn_104c79l2 (f0 : (List Tag) × Int × Int × Unit → Option (((Int × Unit) ⊕ (Unit)))) (f1 : Tag × Unit → Option (Bool × Unit)) (h0 : ∀ v r, f0 v = some r → mn_104c79l2 v r) (h1 : ∀ v r, f1 v = some r → mn_79 v r) (v : (List Tag) × Int × Int × Unit) (r : ((Int × Unit) ⊕ (Unit))) (h : exL (x104c79 f0 f1 (fun _ => none) (fun _ => none) (fun _ => none)) (loopNo (bodyOf Tryz.f104) 0) c104c79l2 [.ret, .exit 0] f0 v = some r) : mn_104c79l2 v r := fun C hP hN => loop_step (X := x104c79 f0 f1 (fun _ => none) (fun _ => none) (fun _ => none)) (b := (loopNo (bodyOf Tryz.f104) 0)) hP hN Ty.mixed (cn_104c79l2 f0 f1 h0 h1) (lok_all (X := x104c79 f0 f1 (fun _ => none) (fun _ => none) (fun _ => none)) (c := (loopNo (bodyOf Tryz.f104) 0)) (kcast (by kernel_rfl : True = AllB (LoopsP C (x104c79 f0 f1 (fun _ => none) (fun _ => none) (fun _ => none))) (loopsIn (loopNo (bodyOf Tryz.f104) 0))) trivial)) (cut := c104c79l2) (alts := [.ret, .exit 0]) (F := f0) (fun v out h => h0 v out h C hP hN) h
theorem cn_79 (f0 : Tag × Unit → Option (Bool × Unit)) (h0 : ∀ v r, f0 v = some r → mn_51 v r) : CallerOk prog (x79 (fun _ => none) (fun _ => none) f0 (fun _ => none) (fun _ => none)).call := (by
    intro A fid args S dst k r h
    unfold x79 call79 at h
    simp only at h
    split at h
    ·exact callPure_ok ((fun v r x h hx => h0 v r h x hx)) rfl rfl h
    ·cases h)
theorem sn_79 (f0 : Tag × Unit → Option (Bool × Unit)) (h0 : ∀ v r, f0 v = some r → mn_51 v r) (v : Tag × Unit) (r : Bool × Unit) (h : exF (x79 (fun _ => none) (fun _ => none) f0 (fun _ => none) (fun _ => none)) sig79 rfl (bodyOf Tryz.f79) v = some r) : mn_79 v r := fun x hx => fn_ok (X := x79 (fun _ => none) (fun _ => none) f0 (fun _ => none) (fun _ => none)) (sig := sig79) rfl Tryz.func79 (c := bodyOf Tryz.f79) (by kernel_rfl) Tryz.ntmps79 (by kernel_rfl) (by kernel_rfl) rfl Ty.mixed (cn_79 f0 h0) rfl (fun C hP hN => (lok_all (X := x79 (fun _ => none) (fun _ => none) f0 (fun _ => none) (fun _ => none)) (c := (bodyOf Tryz.f79)) (kcast (by kernel_rfl : True = AllB (LoopsP C (x79 (fun _ => none) (fun _ => none) f0 (fun _ => none) (fun _ => none))) (loopsIn (bodyOf Tryz.f79))) trivial))) h x hx
theorem cn_51 (f0 : (List Tag) × Unit → Option (Bool × Unit)) (h0 : ∀ v r, f0 v = some r → mn_78c79 v r) : CallerOk prog (x51 (fun _ => none) (fun _ => none) (fun _ => none) f0 (fun _ => none)).call := (by
    intro A fid args S dst k r h
    unfold x51 call51 at h
    simp only at h
    split at h
    ·exact callPure_ok (n_75_ok) rfl rfl h
    ·exact callPure_ok (n_77c75_ok) rfl rfl h
    ·exact callPure_ok ((fun v r x h hx => h0 v r h x hx)) rfl rfl h
    ·cases h)
theorem sn_51 (f0 : (List Tag) × Unit → Option (Bool × Unit)) (h0 : ∀ v r, f0 v = some r → mn_78c79 v r) (v : Tag × Unit) (r : Bool × Unit) (h : exF (x51 (fun _ => none) (fun _ => none) (fun _ => none) f0 (fun _ => none)) sig51 rfl (bodyOf Tryz.f51) v = some r) : mn_51 v r := fun x hx => fn_ok (X := x51 (fun _ => none) (fun _ => none) (fun _ => none) f0 (fun _ => none)) (sig := sig51) rfl Tryz.func51 (c := bodyOf Tryz.f51) (by kernel_rfl) Tryz.ntmps51 (by kernel_rfl) (by kernel_rfl) rfl Ty.mixed (cn_51 f0 h0) rfl (fun C hP hN => (lok_all (X := x51 (fun _ => none) (fun _ => none) (fun _ => none) f0 (fun _ => none)) (c := (bodyOf Tryz.f51)) (kcast (by kernel_rfl : True = AllB (LoopsP C (x51 (fun _ => none) (fun _ => none) (fun _ => none) f0 (fun _ => none))) (loopsIn (bodyOf Tryz.f51))) trivial))) h x hx
theorem cn_78c79 (f0 : (List Tag) × Unit → Option (Int × Unit)) (h0 : ∀ v r, f0 v = some r → mn_104c79 v r) : CallerOk prog (x78c79 (fun _ => none) (fun _ => none) (fun _ => none) (fun _ => none) f0).call := (by
    intro A fid args S dst k r h
    unfold x78c79 call78c79 at h
    simp only at h
    split at h
    ·exact callPure_ok ((fun v r x h hx => h0 v r h x hx)) rfl rfl h
    ·cases h)
theorem sn_78c79 (f0 : (List Tag) × Unit → Option (Int × Unit)) (h0 : ∀ v r, f0 v = some r → mn_104c79 v r) (v : (List Tag) × Unit) (r : Bool × Unit) (h : exF (x78c79 (fun _ => none) (fun _ => none) (fun _ => none) (fun _ => none) f0) sig78c79 rfl (bodyOf Tryz.f78) v = some r) : mn_78c79 v r := fun x hx => fn_ok (X := x78c79 (fun _ => none) (fun _ => none) (fun _ => none) (fun _ => none) f0) (sig := sig78c79) rfl Tryz.func78 (c := bodyOf Tryz.f78) (by kernel_rfl) Tryz.ntmps78 (by kernel_rfl) (by kernel_rfl) rfl Ty.mixed (cn_78c79 f0 h0) rfl (fun C hP hN => (lok_all (X := x78c79 (fun _ => none) (fun _ => none) (fun _ => none) (fun _ => none) f0) (c := (bodyOf Tryz.f78)) (kcast (by kernel_rfl : True = AllB (LoopsP C (x78c79 (fun _ => none) (fun _ => none) (fun _ => none) (fun _ => none) f0)) (loopsIn (bodyOf Tryz.f78))) trivial))) h x hx
theorem cn_104c79 (f0 : (List Tag) × Int × Int × Unit → Option (((Int × Unit) ⊕ (Unit)))) (h0 : ∀ v r, f0 v = some r → mn_104c79l2 v r) : CallerOk prog (x104c79 f0 (fun _ => none) (fun _ => none) (fun _ => none) (fun _ => none)).call := (by
    intro A fid args S dst k r h
    unfold x104c79 call104c79 at h
    simp only at h
    split at h
    ·exact callPure_ok ((fun v r x h hx => by cases h)) rfl rfl h
    ·cases h)
theorem sn_104c79 (f0 : (List Tag) × Int × Int × Unit → Option (((Int × Unit) ⊕ (Unit)))) (h0 : ∀ v r, f0 v = some r → mn_104c79l2 v r) (v : (List Tag) × Unit) (r : Int × Unit) (h : exF (x104c79 f0 (fun _ => none) (fun _ => none) (fun _ => none) (fun _ => none)) sig104c79 rfl (bodyOf Tryz.f104) v = some r) : mn_104c79 v r := fun x hx => fn_ok (X := x104c79 f0 (fun _ => none) (fun _ => none) (fun _ => none) (fun _ => none)) (sig := sig104c79) rfl Tryz.func104 (c := bodyOf Tryz.f104) (by kernel_rfl) Tryz.ntmps104 (by kernel_rfl) (by kernel_rfl) rfl Ty.mixed (cn_104c79 f0 h0) rfl (fun C hP hN => (lok_all (X := x104c79 f0 (fun _ => none) (fun _ => none) (fun _ => none) (fun _ => none)) (c := (bodyOf Tryz.f104)) (kcast (by kernel_rfl : AllB (LoopsP C (x104c79 f0 (fun _ => none) (fun _ => none) (fun _ => none) (fun _ => none))) [(loopNo (bodyOf Tryz.f104) 0)] = AllB (LoopsP C (x104c79 f0 (fun _ => none) (fun _ => none) (fun _ => none) (fun _ => none))) (loopsIn (bodyOf Tryz.f104))) ⟨loop_at (X := x104c79 f0 (fun _ => none) (fun _ => none) (fun _ => none) (fun _ => none)) (b := (loopNo (bodyOf Tryz.f104) 0)) (by kernel_rfl) (show LoopOk C (loopNo (bodyOf Tryz.f104) 0) (sh := sh104c79) { cut := c104c79l2, alts := [.ret, .exit 0], F := f0 } from fun v out h => h0 v out h C hP hN), trivial⟩))) h x hx
theorem n_104c79l2_all : (∀ v r, n_104c79l2 v = some r → mn_104c79l2 v r) ∧ (∀ v r, n_79 v = some r → mn_79 v r) ∧ (∀ v r, n_51 v = some r → mn_51 v r) ∧ (∀ v r, n_78c79 v = some r → mn_78c79 v r) ∧ (∀ v r, n_104c79 v = some r → mn_104c79 v r) := by
 refine n_104c79l2.mutual_partial_correctness
  (motive_1 := mn_104c79l2)
  (motive_2 := mn_79)
  (motive_3 := mn_51)
  (motive_4 := mn_78c79)
  (motive_5 := mn_104c79)
  ?_ ?_ ?_ ?_ ?_
 ·exact (fun f0 f1 h0 h1 v r h => sn_104c79l2 f0 f1 h0 h1 v r (kcast (by kernel_rfl) h))
 ·exact (fun f0 h0 v r h => sn_79 f0 h0 v r (kcast (by kernel_rfl) h))
 ·exact (fun f0 h0 v r h => sn_51 f0 h0 v r (kcast (by kernel_rfl) h))
 ·exact (fun f0 h0 v r h => sn_78c79 f0 h0 v r (kcast (by kernel_rfl) h))
 ·exact (fun f0 h0 v r h => sn_104c79 f0 h0 v r (kcast (by kernel_rfl) h))
theorem n_51_ok : SigOk prog 51 sig51 n_51 := fun v r x h hx => n_104c79l2_all.2.2.1 v r h x hx
noncomputable def sig132 : Sig vw := { params := [.dat .str, .dat (.int .u8)], rcut := c103c75z, rvars := [.tmp 4] }
noncomputable def n_132 (v : ByteArray × Int × Unit) : Option (Int × Unit) :=
 some (Lib.indexByte v.1.data.toList v.2.1.toNat.toUInt8, ())
theorem n_132_ok : SigOk prog 132 sig132 n_132 := fun v r x h hx => by
 obtain ⟨s, c, u⟩ := v
 cases h; cases hx
 exact kcast (by kernel_rfl) (FnOk.pure (P := prog) (f := 132) (args := [.d (.v (.string s)), .d (.v (.int .u8 c))]) (r := .d (.v (.int .i64 (Lib.indexByte s.data.toList c.toNat.toUInt8)))) (by kernel_rfl) fun E M w vs _ _ hv => by
  obtain ⟨v1, v2, rfl, h1, h2⟩ := hreps_two hv
  rw [h1.dv, h2.dv]
  exact (Tryz.stringslite_IndexByte s c w).mono fun e w' ⟨he, hw⟩ => ⟨_, he, .d (.v _), hw ▸ Go.RowKit.Below.refl _ _⟩)
noncomputable def sh118 : Shape vw := { rcut := c103c75z }
noncomputable def sig118 : Sig vw := { params := [.dat .str, .dat (.int .u8)], rcut := c103c75z, rvars := [.tmp 4] }
noncomputable def n_118 (v : ByteArray × Int × Unit) : Option (Int × Unit) :=
 n_132 (v.1, v.2.1, ()) >>= fun x1 =>
 some ((x1.1, ()))
noncomputable def call118 : Caller vw := fun A fid args S k => match fid with | 132 => callPure prog sig132 n_132 A args S k | _ => none
noncomputable def x118 : Xc vw := { P := prog, n := 8, call := call118, sh := sh118 }
theorem call118_ok : CallerOk prog call118 := fun A fid args S dst k r h => by
 unfold call118 at h
 split at h
 ·exact callPure_ok (n_132_ok) rfl rfl h
 ·cases h
theorem n_118_ok : SigOk prog 118 sig118 n_118 := fun v r x h hx =>
 fn_ok (X := x118) (sig := sig118) rfl Tryz.func118 (c := bodyOf Tryz.f118) (by kernel_rfl) Tryz.ntmps118 (by kernel_rfl) (by kernel_rfl) rfl Ty.mixed call118_ok rfl (fun C hP hN => (lok_all (kcast (by kernel_rfl) trivial))) (kcast (by kernel_rfl) h) x hx
noncomputable def c133z : Cut SN := ⟨[(2, .dat .str)], []⟩
noncomputable def sig133 : Sig vw := { params := [.dat .str], rcut := c133z, rvars := [.tmp 2] }
noncomputable def n_133 (v : ByteArray × Unit) : Option (ByteArray × Unit) :=
 if v.1.size ≤ 140737488355328 ∧ v.1.data.toList.all (fun b => decide (b.toNat < 128)) = true then some (⟨(Lib.toLowerA v.1.data.toList).toArray⟩, ()) else none
theorem n_133_ok : SigOk prog 133 sig133 n_133 := fun v r x h hx => by
 obtain ⟨s, u⟩ := v
 unfold n_133 at h
 split at h
 ·rename_i hc
  obtain ⟨h0, h1⟩ := hc
  simp only at h0 h1
  cases h; cases hx
  exact kcast (by kernel_rfl) (FnOk.pure (P := prog) (f := 133) (args := [.d (.v (.string s))]) (r := .d (.v (.string ⟨(Lib.toLowerA s.data.toList).toArray⟩))) (by kernel_rfl) fun E M w vs hg hm hv => by
   obtain ⟨v1, rfl, h2⟩ := hreps_one hv
   rw [h2.dv]
   exact (Tryz.strings_ToLower_ascii s w h0 (fun j b hb => of_decide_eq_true (List.all_eq_true.1 h1 b (List.mem_of_getElem? hb)))).mono fun e w' ⟨he, hw⟩ => ⟨_, he, .d (.v _), hw⟩)
 ·cases h
noncomputable def c74s5bd0r1 : Cut SN := ⟨[(0, .bp 100000 0), (33, .dat .bool)], [(100000, .st .readerT)]⟩
noncomputable def c74s5bd0z : Cut SN := ⟨[(0, .bp 100000 0), (4, .dat .bool)], [(100000, .st .readerT)]⟩
noncomputable def sh74s5bd0 : Shape vw := { rcut := c74s5bd0z }
noncomputable def sig74s5bd0 : Sig vw := { params := [.bp 100000 0, .dat .str], objs := [(100000, .st .readerT)], rcut := c74s5bd0z, rvars := [.tmp 4], keep := [100000] }
noncomputable def n_74s5bd0 (v : ByteArray × Reader × Unit) : Option (Bool × Reader × Unit) :=
 (if (v.2.1.at0 == (↑v.2.1.s.size : Int)) = true then
    some ((true, v.2.1, ()))
   else if (0 : Int) ≤ v.2.1.at0 ∧ v.2.1.at0 ≤ i64.wrap (v.2.1.at0 + (1 : Int)) ∧ i64.wrap (v.2.1.at0 + (1 : Int)) ≤ (↑v.2.1.s.size : Int) then
    n_101 (v.1, v.2.1.s.extract v.2.1.at0.toNat (i64.wrap (v.2.1.at0 + (1 : Int))).toNat, ()) >>= fun x1 =>
    some ((!x1.1, v.2.1, ()))
   else none) >>= fun x1 =>
 if x1.1 = true then
  some ((false, x1.2.1, ()))
 else some ((true, Reader.mk x1.2.1.s (i64.wrap (x1.2.1.at0 + (1 : Int))), ()))
noncomputable def call74s5bd0 : Caller vw := fun A fid args S k => match fid with | 101 => callPure prog sig101 n_101 A args S k | _ => none
noncomputable def x74s5bd0 : Xc vw := { P := prog, n := 41, call := call74s5bd0, sh := sh74s5bd0, regs := fun k => match k with | 1 => some c74s5bd0r1 | _ => none }
theorem call74s5bd0_ok : CallerOk prog call74s5bd0 := fun A fid args S dst k r h => by
 unfold call74s5bd0 at h
 split at h
 ·exact callPure_ok (n_101_ok) rfl rfl h
 ·cases h
theorem n_74s5bd0_ok : SigOk prog 74 sig74s5bd0 n_74s5bd0 := fun v r x h hx =>
 fn_ok (X := x74s5bd0) (sig := sig74s5bd0) rfl Tryz.func74 (c := bodyOf Tryz.f74) (by kernel_rfl) Tryz.ntmps74 (by kernel_rfl) (by kernel_rfl) rfl Ty.mixed call74s5bd0_ok rfl (fun C hP hN => (lok_all (kcast (by kernel_rfl) trivial))) (kcast (by kernel_rfl) h) x hx
noncomputable def c119sadb0l11 : Cut SN := ⟨[(0, .bp 100000 0), (10, .dat (.int .i32)), (50, .dat (.sl (.int .u8))), (51, .dat (.int .i64)), (52, .dat (.int .i64))], [(100000, .st .readerT)]⟩
noncomputable def c119sadb0j7 : Cut SN := ⟨[(0, .bp 100000 0), (8, .dat (.int .i64)), (9, .dat .str)], [(100000, .st .readerT)]⟩
noncomputable def c119sadb0r7 : Cut SN := ⟨[(0, .bp 100000 0), (8, .dat (.int .i64)), (38, .dat .bool)], [(100000, .st .readerT)]⟩
noncomputable def c119sadb0e1 : Cut SN := ⟨[(0, .bp 100000 0), (10, .dat (.int .i32))], [(100000, .st .readerT)]⟩
noncomputable def c119sadb0z : Cut SN := ⟨[(0, .bp 100000 0), (6, .dat (.int .i32)), (7, .dat .bool)], [(100000, .st .readerT)]⟩
noncomputable def sh119sadb0 : Shape vw := { exits := fun id => match id with | 1 => c119sadb0e1 | _ => ⟨[], []⟩, rcut := c119sadb0z }
noncomputable def sig119sadb0 : Sig vw := { params := [.bp 100000 0, .dat .str, .dat .str], objs := [(100000, .st .readerT)], rcut := c119sadb0z, rvars := [.tmp 6, .tmp 7], keep := [100000] }
noncomputable def n_119sadb0l11 (v : Int × (List Int) × Int × Int × Reader × Unit) : Option ((Int × Reader × Unit)) :=
 if decide (v.2.2.2.1 < v.2.2.1) = true then
  if (0 : Int) ≤ v.2.2.2.1 then
   v.2.1[v.2.2.2.1.toNat]? >>= fun x1 =>
   n_118 (ByteArray.mk #[48, 49, 50, 51, 52, 53, 54, 55, 56, 57, 97, 98, 99, 100, 101, 102, 65, 66, 67, 68, 69, 70], x1, ()) >>= fun x2 =>
   n_119sadb0l11 (i32.wrap (i32.wrap ((16 : Int) * v.1) + i32.wrap x2.1), v.2.1, v.2.2.1, i64.wrap (v.2.2.2.1 + (1 : Int)), v.2.2.2.2.1, ())
  else none
 else some ((v.1, v.2.2.2.2.1, ()))
 partial_fixpoint
noncomputable def n_119sadb0 (v : ByteArray × ByteArray × Reader × Unit) : Option (Int × Bool × Reader × Unit) :=
 (n_74s5bd0 (v.1, v.2.2.1, ()) >>= fun x1 =>
   if x1.1 = true then
    some (Sum.inl (v.2.2.1.at0, ByteArray.mk #[48, 49, 50, 51, 52, 53, 54, 55, 56, 57, 97, 98, 99, 100, 101, 102, 65, 66, 67, 68, 69, 70], x1.2.1, ()))
   else n_74s5bd0 (ByteArray.mk #[100, 68], x1.2.1, ()) >>= fun x2 =>
   if x2.1 = true then
    some (Sum.inl (v.2.2.1.at0, v.2.1, x2.2.1, ()))
   else some (Sum.inr ((0 : Int), false, x2.2.1, ()))) >>= fun x1 => match x1 with
   | .inl y1 => (n_74s5bd0 (y1.2.1, y1.2.2.1, ()) >>= fun x2 =>
     if (!x2.1) = true then
      some ((y1.1, true, x2.2.1, ()))
     else n_74s5bd0 (ByteArray.mk #[48, 49, 50, 51, 52, 53, 54, 55, 56, 57, 97, 98, 99, 100, 101, 102, 65, 66, 67, 68, 69, 70], x2.2.1, ()) >>= fun x3 =>
     if (!x3.1) = true then
      some ((y1.1, true, x3.2.1, ()))
     else n_74s5bd0 (ByteArray.mk #[48, 49, 50, 51, 52, 53, 54, 55, 56, 57, 97, 98, 99, 100, 101, 102, 65, 66, 67, 68, 69, 70], x3.2.1, ()) >>= fun x4 =>
     some ((y1.1, !x4.1, x4.2.1, ()))) >>= fun x2 =>
    if x2.2.1 = true then
     some (((0 : Int), false, x2.2.2.1, ()))
    else if (0 : Int) ≤ x2.1 ∧ x2.1 ≤ x2.2.2.1.at0 ∧ x2.2.2.1.at0 ≤ (↑x2.2.2.1.s.size : Int) then
     n_133 (x2.2.2.1.s.extract x2.1.toNat x2.2.2.1.at0.toNat, ()) >>= fun x3 =>
     n_119sadb0l11 ((0 : Int), Bs.ints x3.1, (↑(Bs.ints x3.1).length : Int), (0 : Int), x2.2.2.1, ()) >>= fun x4 =>
     some ((x4.1, true, x4.2.1, ()))
    else none
   | .inr y1 => some y1
noncomputable def call119sadb0 : Caller vw := fun A fid args S k => match fid with | 74 => callObj prog sig74s5bd0 n_74s5bd0 A args S k | 118 => callPure prog sig118 n_118 A args S k | 133 => callPure prog sig133 n_133 A args S k | _ => none
noncomputable def x119sadb0 : Xc vw := { P := prog, n := 64, call := call119sadb0, sh := sh119sadb0, joins := fun k => match k with | 7 => some (c119sadb0j7, [.norm, .ret]) | _ => none, regs := fun k => match k with | 7 => some c119sadb0r7 | _ => none, loops := fun k => match k with | 11 => some { cut := c119sadb0l11, alts := [.exit 1], F := n_119sadb0l11 } | _ => none }
theorem call119sadb0_ok : CallerOk prog call119sadb0 := fun A fid args S dst k r h => by
 unfold call119sadb0 at h
 split at h
 ·exact callObj_ok (n_74s5bd0_ok) h
 ·exact callPure_ok (n_118_ok) rfl rfl h
 ·exact callPure_ok (n_133_ok) rfl rfl h
 ·cases h
theorem n_119sadb0l11_ok (C : Ctx) (hP : C.P = prog) (hN : C.N = 64) : LoopOk C (loopNo (bodyOf Tryz.f119) 0) (sh := sh119sadb0) { cut := c119sadb0l11, alts := [.exit 1], F := n_119sadb0l11 } :=
 n_119sadb0l11.partial_correctness (motive := fun v out => AWpL C (loopNo (bodyOf Tryz.f119) 0) (encS vw (conc vw c119sadb0l11 v)) (OutQ sh119sadb0 [.exit 1] out)) fun F ih v out h =>
  loop_step (X := x119sadb0) (b := (loopNo (bodyOf Tryz.f119) 0)) hP hN Ty.mixed call119sadb0_ok (lok_all (X := x119sadb0) (c := (loopNo (bodyOf Tryz.f119) 0)) (kcast (by kernel_rfl : True = AllB (LoopsP C (x119sadb0)) (loopsIn (loopNo (bodyOf Tryz.f119) 0))) trivial)) ih (kcast (by kernel_rfl) h)
theorem n_119sadb0_ok : SigOk prog 119 sig119sadb0 n_119sadb0 := fun v r x h hx =>
 fn_ok (X := x119sadb0) (sig := sig119sadb0) rfl Tryz.func119 (c := bodyOf Tryz.f119) (by kernel_rfl) Tryz.ntmps119 (by kernel_rfl) (by kernel_rfl) rfl Ty.mixed call119sadb0_ok rfl (fun C hP hN => (lok_all (kcast (by kernel_rfl : AllB (LoopsP C (x119sadb0)) [(loopNo (bodyOf Tryz.f119) 0)] = AllB (LoopsP C (x119sadb0)) (loopsIn (bodyOf Tryz.f119))) ⟨loop_at (X := x119sadb0) (b := (loopNo (bodyOf Tryz.f119) 0)) (by kernel_rfl) (n_119sadb0l11_ok C hP hN), trivial⟩))) (kcast (by kernel_rfl) h) x hx
noncomputable def c26l4 : Cut SN := ⟨[(0, .dat (.sl .str)), (1, .dat (.sl .str)), (5, .dat (.int .i64))], []⟩
noncomputable def sh26 : Shape vw := { exits := fun id => match id with | 0 => c103c75e0 | _ => ⟨[], []⟩, rcut := c101z }
noncomputable def sig26 : Sig vw := { params := [.dat (.sl .str), .dat (.sl .str)], rcut := c101z, rvars := [.tmp 4] }
noncomputable def n_26l4 (v : (List ByteArray) × (List ByteArray) × Int × Unit) : Option (((Bool × Unit) ⊕ (Unit))) :=
 if decide (v.2.2.1 < (↑v.1.length : Int)) = true then
  if (0 : Int) ≤ v.2.2.1 then
   v.1[v.2.2.1.toNat]? >>= fun x1 =>
   if (0 : Int) ≤ v.2.2.1 then
    v.2.1[v.2.2.1.toNat]? >>= fun x2 =>
    if (!x1.toList == x2.toList) = true then
     some (Sum.inl (false, ()))
    else n_26l4 (v.1, v.2.1, i64.wrap (v.2.2.1 + (1 : Int)), ())
   else none
  else none
 else some (Sum.inr ())
 partial_fixpoint
noncomputable def n_26 (v : (List ByteArray) × (List ByteArray) × Unit) : Option (Bool × Unit) :=
 if ((↑v.1.length : Int) != (↑v.2.1.length : Int)) = true then
  some ((false, ()))
 else n_26l4 (v.1, v.2.1, (0 : Int), ()) >>= fun x1 => match x1 with
  | .inl y1 => some y1
  | .inr y1 => some ((true, ()))
noncomputable def call26 : Caller vw := fun _ _ _ _ _ => none
noncomputable def x26 : Xc vw := { P := prog, n := 26, call := call26, sh := sh26, loops := fun k => match k with | 4 => some { cut := c26l4, alts := [.ret, .exit 0], F := n_26l4 } | _ => none }
theorem call26_ok : CallerOk prog call26 := call_none
theorem n_26l4_ok (C : Ctx) (hP : C.P = prog) (hN : C.N = 26) : LoopOk C (loopNo (bodyOf Tryz.f26) 0) (sh := sh26) { cut := c26l4, alts := [.ret, .exit 0], F := n_26l4 } :=
 n_26l4.partial_correctness (motive := fun v out => AWpL C (loopNo (bodyOf Tryz.f26) 0) (encS vw (conc vw c26l4 v)) (OutQ sh26 [.ret, .exit 0] out)) fun F ih v out h =>
  loop_step (X := x26) (b := (loopNo (bodyOf Tryz.f26) 0)) hP hN Ty.mixed call26_ok (lok_all (X := x26) (c := (loopNo (bodyOf Tryz.f26) 0)) (kcast (by kernel_rfl : True = AllB (LoopsP C (x26)) (loopsIn (loopNo (bodyOf Tryz.f26) 0))) trivial)) ih (kcast (by kernel_rfl) h)
theorem n_26_ok : SigOk prog 26 sig26 n_26 := fun v r x h hx =>
 fn_ok (X := x26) (sig := sig26) rfl Tryz.func26 (c := bodyOf Tryz.f26) (by kernel_rfl) Tryz.ntmps26 (by kernel_rfl) (by kernel_rfl) rfl Ty.mixed call26_ok rfl (fun C hP hN => (lok_all (kcast (by kernel_rfl : AllB (LoopsP C (x26)) [(loopNo (bodyOf Tryz.f26) 0)] = AllB (LoopsP C (x26)) (loopsIn (bodyOf Tryz.f26))) ⟨loop_at (X := x26) (b := (loopNo (bodyOf Tryz.f26) 0)) (by kernel_rfl) (n_26l4_ok C hP hN), trivial⟩))) (kcast (by kernel_rfl) h) x hx
noncomputable def c12l4 : Cut SN := ⟨[(2, .bp 2 0), (3, .bp 3 0), (5, .dat (.int .i64))], [(2, .st .tagT), (3, .st .tagT)]⟩
noncomputable def c12r1 : Cut SN := ⟨[(2, .bp 2 0), (3, .bp 3 0), (41, .dat .bool)], [(2, .st .tagT), (3, .st .tagT)]⟩
noncomputable def sh12 : Shape vw := { exits := fun id => match id with | 0 => c103c75e0 | _ => ⟨[], []⟩, rcut := c101z }
noncomputable def sig12 : Sig vw := { params := [.dat (.st .tagT), .dat (.st .tagT)], rcut := c101z, rvars := [.tmp 4] }
mutual
noncomputable def n_12l4 (v : Int × Tag × Tag × Unit) : Option (((Bool × Unit) ⊕ (Unit))) :=
 if decide (v.1 < (↑v.2.1.parts.length : Int)) = true then
  if (0 : Int) ≤ v.1 then
   v.2.1.parts[v.1.toNat]? >>= fun x1 =>
   if (0 : Int) ≤ v.1 then
    v.2.2.1.parts[v.1.toNat]? >>= fun x2 =>
    n_12 (x1, x2, ()) >>= fun x3 =>
    if (!x3.1) = true then
     some (Sum.inl (false, ()))
    else n_12l4 (i64.wrap (v.1 + (1 : Int)), v.2.1, v.2.2.1, ())
   else none
  else none
 else some (Sum.inr ())
 partial_fixpoint
noncomputable def n_12 (v : Tag × Tag × Unit) : Option (Bool × Unit) :=
 (if (v.1.kind != v.2.1.kind) = true then
    some ((true, v.1, v.2.1, ()))
   else if (v.1.n != v.2.1.n) = true then
    some ((true, v.1, v.2.1, ()))
   else if (!v.1.text.toList == v.2.1.text.toList) = true then
    some ((true, v.1, v.2.1, ()))
   else n_26 (v.1.names, v.2.1.names, ()) >>= fun x1 =>
   if (!x1.1) = true then
    some ((true, v.1, v.2.1, ()))
   else some (((↑v.1.parts.length : Int) != (↑v.2.1.parts.length : Int), v.1, v.2.1, ()))) >>= fun x1 =>
 if x1.1 = true then
  some ((false, ()))
 else n_12l4 ((0 : Int), x1.2.1, x1.2.2.1, ()) >>= fun x2 => match x2 with
  | .inl y2 => some y2
  | .inr y2 => some ((true, ()))
 partial_fixpoint
end
noncomputable def call12 (n_12l4 : Int × Tag × Tag × Unit → Option (((Bool × Unit) ⊕ (Unit)))) (n_12 : Tag × Tag × Unit → Option (Bool × Unit)) : Caller vw := fun A fid args S k => match fid with | 12 => callPure prog sig12 n_12 A args S k | 26 => callPure prog sig26 n_26 A args S k | _ => none
noncomputable def x12 (n_12l4 : Int × Tag × Tag × Unit → Option (((Bool × Unit) ⊕ (Unit)))) (n_12 : Tag × Tag × Unit → Option (Bool × Unit)) : Xc vw := { P := prog, n := 61, call := call12 n_12l4 n_12, sh := sh12, regs := fun k => match k with | 1 => some c12r1 | _ => none, loops := fun k => match k with | 4 => some { cut := c12l4, alts := [.ret, .exit 0], F := n_12l4 } | _ => none }
abbrev mn_12l4 (v : Int × Tag × Tag × Unit) (r : ((Bool × Unit) ⊕ (Unit))) : Prop := (fun v out => ∀ C : Ctx, C.P = prog → C.N = 61 → AWpL C (loopNo (bodyOf Tryz.f12) 0) (encS vw (conc vw c12l4 v)) (OutQ sh12 [.ret, .exit 0] out)) v r
abbrev mn_12 (v : Tag × Tag × Unit) (r : Bool × Unit) : Prop := (fun v r => ∀ x, resV prog sig12 r = some x → FnOk prog 12 (encL vw (startS sig12 v).len (startOs sig12 v).1) (encOs (startS sig12 v).len (startS sig12 v).own) (encV vw (conc vw sig12.rcut r).len x) (encOs (conc vw sig12.rcut r).len (kept sig12 r))) v r
theorem cn_12l4 (f0 : Int × Tag × Tag × Unit → Option (((Bool × Unit) ⊕ (Unit)))) (f1 : Tag × Tag × Unit → Option (Bool × Unit)) (h0 : ∀ v r, f0 v = some r → mn_12l4 v r) (h1 : ∀ v r, f1 v = some r → mn_12 v r) : CallerOk prog (x12 f0 f1).call := (by
    intro A fid args S dst k r h
    unfold x12 call12 at h
    simp only at h
    split at h
    ·exact callPure_ok ((fun v r x h hx => h1 v r h x hx)) rfl rfl h
    ·exact callPure_ok (n_26_ok) rfl rfl h
    ·cases h)
theorem sn_12l4 (f0 : Int × Tag × Tag × Unit → Option (((Bool × Unit) ⊕ (Unit)))) (f1 : Tag × Tag × Unit → Option (Bool × Unit)) (h0 : ∀ v r, f0 v = some r → mn_12l4 v r) (h1 : ∀ v r, f1 v = some r → mn_12 v r) (v : Int × Tag × Tag × Unit) (r : ((Bool × Unit) ⊕ (Unit))) (h : exL (x12 f0 f1) (loopNo (bodyOf Tryz.f12) 0) c12l4 [.ret, .exit 0] f0 v = some r) : mn_12l4 v r := fun C hP hN => loop_step (X := x12 f0 f1) (b := (loopNo (bodyOf Tryz.f12) 0)) hP hN Ty.mixed (cn_12l4 f0 f1 h0 h1) (lok_all (X := x12 f0 f1) (c := (loopNo (bodyOf Tryz.f12) 0)) (kcast (by kernel_rfl : True = AllB (LoopsP C (x12 f0 f1)) (loopsIn (loopNo (bodyOf Tryz.f12) 0))) trivial)) (cut := c12l4) (alts := [.ret, .exit 0]) (F := f0) (fun v out h => h0 v out h C hP hN) h
theorem cn_12 (f0 : Int × Tag × Tag × Unit → Option (((Bool × Unit) ⊕ (Unit)))) (h0 : ∀ v r, f0 v = some r → mn_12l4 v r) : CallerOk prog (x12 f0 (fun _ => none)).call := (by
    intro A fid args S dst k r h
    unfold x12 call12 at h
    simp only at h
    split at h
    ·exact callPure_ok ((fun v r x h hx => by cases h)) rfl rfl h
    ·exact callPure_ok (n_26_ok) rfl rfl h
    ·cases h)
theorem sn_12 (f0 : Int × Tag × Tag × Unit → Option (((Bool × Unit) ⊕ (Unit)))) (h0 : ∀ v r, f0 v = some r → mn_12l4 v r) (v : Tag × Tag × Unit) (r : Bool × Unit) (h : exF (x12 f0 (fun _ => none)) sig12 rfl (bodyOf Tryz.f12) v = some r) : mn_12 v r := fun x hx => fn_ok (X := x12 f0 (fun _ => none)) (sig := sig12) rfl Tryz.func12 (c := bodyOf Tryz.f12) (by kernel_rfl) Tryz.ntmps12 (by kernel_rfl) (by kernel_rfl) rfl Ty.mixed (cn_12 f0 h0) rfl (fun C hP hN => (lok_all (X := x12 f0 (fun _ => none)) (c := (bodyOf Tryz.f12)) (kcast (by kernel_rfl : AllB (LoopsP C (x12 f0 (fun _ => none))) [(loopNo (bodyOf Tryz.f12) 0)] = AllB (LoopsP C (x12 f0 (fun _ => none))) (loopsIn (bodyOf Tryz.f12))) ⟨loop_at (X := x12 f0 (fun _ => none)) (b := (loopNo (bodyOf Tryz.f12) 0)) (by kernel_rfl) (show LoopOk C (loopNo (bodyOf Tryz.f12) 0) (sh := sh12) { cut := c12l4, alts := [.ret, .exit 0], F := f0 } from fun v out h => h0 v out h C hP hN), trivial⟩))) h x hx
theorem n_12l4_all : (∀ v r, n_12l4 v = some r → mn_12l4 v r) ∧ (∀ v r, n_12 v = some r → mn_12 v r) := by
 refine n_12l4.mutual_partial_correctness
  (motive_1 := mn_12l4)
  (motive_2 := mn_12)
  ?_ ?_
 ·exact (fun f0 f1 h0 h1 v r h => sn_12l4 f0 f1 h0 h1 v r (kcast (by kernel_rfl) h))
 ·exact (fun f0 h0 v r h => sn_12 f0 h0 v r (kcast (by kernel_rfl) h))
theorem n_12_ok : SigOk prog 12 sig12 n_12 := fun v r x h hx => n_12l4_all.2 v r h x hx
noncomputable def c135s43b2j7 : Cut SN := ⟨[(0, .vh 100000), (1, .dat (.int .i32)), (5, .dat (.int .u32)), (25, .dat .bool)], [(100000, .vec 5 (.int .u8))]⟩
noncomputable def c135s43b2r8 : Cut SN := ⟨[(0, .vh 100000), (1, .dat (.int .i32)), (50, .dat .bool)], [(100000, .vec 5 (.int .u8))]⟩
noncomputable def c135s43b2z : Cut SN := ⟨[(4, .vh 2004)], [(2004, .vec 5 (.int .u8))]⟩
noncomputable def sh135s43b2 : Shape vw := { rcut := c135s43b2z }
noncomputable def sig135s43b2 : Sig vw := { params := [.vh 100000, .dat (.int .i32)], objs := [(100000, .vec 5 (.int .u8))], rcut := c135s43b2z, rvars := [.tmp 4], keep := [2004] }
noncomputable def n_135s43b2 (v : Int × (List Int) × Unit) : Option ((List Int) × Unit) :=
 if decide (IntKind.u32.wrap v.1 ≤ (2047 : Int)) = true then
  if v.2.1.length + [Bs.ior u8 (192 : Int) (u8.wrap (Bs.ishr i32 v.1 (6 : Int))), Bs.ior u8 (128 : Int) (Bs.iand u8 (u8.wrap v.1) (63 : Int))].length ≤ (4294967296 : Nat) then
   some ((v.2.1 ++ [Bs.ior u8 (192 : Int) (u8.wrap (Bs.ishr i32 v.1 (6 : Int))), Bs.ior u8 (128 : Int) (Bs.iand u8 (u8.wrap v.1) (63 : Int))], ()))
  else none
 else (if decide (IntKind.u32.wrap v.1 < (55296 : Int)) = true then
   some ((v.1, IntKind.u32.wrap v.1, true, v.2.1, ()))
  else (if decide ((57343 : Int) < IntKind.u32.wrap v.1) = true then
    some ((v.1, IntKind.u32.wrap v.1, decide (IntKind.u32.wrap v.1 ≤ (65535 : Int)), v.2.1, ()))
   else some ((v.1, IntKind.u32.wrap v.1, false, v.2.1, ()))) >>= fun x1 =>
  some ((x1.1, x1.2.1, x1.2.2.1, x1.2.2.2.1, ()))) >>= fun x1 =>
 if x1.2.2.1 = true then
  if x1.2.2.2.1.length + [Bs.ior u8 (224 : Int) (u8.wrap (Bs.ishr i32 x1.1 (12 : Int))), Bs.ior u8 (128 : Int) (Bs.iand u8 (u8.wrap (Bs.ishr i32 x1.1 (6 : Int))) (63 : Int)), Bs.ior u8 (128 : Int) (Bs.iand u8 (u8.wrap x1.1) (63 : Int))].length ≤ (4294967296 : Nat) then
   some ((x1.2.2.2.1 ++ [Bs.ior u8 (224 : Int) (u8.wrap (Bs.ishr i32 x1.1 (12 : Int))), Bs.ior u8 (128 : Int) (Bs.iand u8 (u8.wrap (Bs.ishr i32 x1.1 (6 : Int))) (63 : Int)), Bs.ior u8 (128 : Int) (Bs.iand u8 (u8.wrap x1.1) (63 : Int))], ()))
  else none
 else (if decide (x1.2.1 > (65535 : Int)) = true then
   some ((x1.1, decide (x1.2.1 ≤ (1114111 : Int)), x1.2.2.2.1, ()))
  else some ((x1.1, false, x1.2.2.2.1, ()))) >>= fun x2 =>
 if x2.2.1 = true then
  if x2.2.2.1.length + [Bs.ior u8 (240 : Int) (u8.wrap (Bs.ishr i32 x2.1 (18 : Int))), Bs.ior u8 (128 : Int) (Bs.iand u8 (u8.wrap (Bs.ishr i32 x2.1 (12 : Int))) (63 : Int)), Bs.ior u8 (128 : Int) (Bs.iand u8 (u8.wrap (Bs.ishr i32 x2.1 (6 : Int))) (63 : Int)), Bs.ior u8 (128 : Int) (Bs.iand u8 (u8.wrap x2.1) (63 : Int))].length ≤ (4294967296 : Nat) then
   some ((x2.2.2.1 ++ [Bs.ior u8 (240 : Int) (u8.wrap (Bs.ishr i32 x2.1 (18 : Int))), Bs.ior u8 (128 : Int) (Bs.iand u8 (u8.wrap (Bs.ishr i32 x2.1 (12 : Int))) (63 : Int)), Bs.ior u8 (128 : Int) (Bs.iand u8 (u8.wrap (Bs.ishr i32 x2.1 (6 : Int))) (63 : Int)), Bs.ior u8 (128 : Int) (Bs.iand u8 (u8.wrap x2.1) (63 : Int))], ()))
  else none
 else if x2.2.2.1.length + [(239 : Int), (191 : Int), (189 : Int)].length ≤ (4294967296 : Nat) then
  some ((x2.2.2.1 ++ [(239 : Int), (191 : Int), (189 : Int)], ()))
 else none
noncomputable def call135s43b2 : Caller vw := fun _ _ _ _ _ => none
noncomputable def x135s43b2 : Xc vw := { P := prog, n := 78, call := call135s43b2, sh := sh135s43b2, joins := fun k => match k with | 7 => some (c135s43b2j7, [.norm]) | _ => none, regs := fun k => match k with | 6 => some c135s43b2j7 | 8 => some c135s43b2r8 | _ => none }
theorem call135s43b2_ok : CallerOk prog call135s43b2 := call_none
theorem n_135s43b2_ok : SigOk prog 135 sig135s43b2 n_135s43b2 := fun v r x h hx =>
 fn_ok (X := x135s43b2) (sig := sig135s43b2) rfl Tryz.func135 (c := bodyOf Tryz.f135) (by kernel_rfl) Tryz.ntmps135 (by kernel_rfl) (by kernel_rfl) rfl Ty.mixed call135s43b2_ok rfl (fun C hP hN => (lok_all (kcast (by kernel_rfl) trivial))) (kcast (by kernel_rfl) h) x hx
noncomputable def sh121s43b2 : Shape vw := { rcut := c135s43b2z }
noncomputable def sig121s43b2 : Sig vw := { params := [.vh 100000, .dat (.int .i32)], objs := [(100000, .vec 5 (.int .u8))], rcut := c135s43b2z, rvars := [.tmp 4], keep := [2004] }
noncomputable def n_121s43b2 (v : Int × (List Int) × Unit) : Option ((List Int) × Unit) :=
 if decide (IntKind.u32.wrap v.1 ≤ (127 : Int)) = true then
  if v.2.1.length + [u8.wrap v.1].length ≤ (4294967296 : Nat) then
   some ((v.2.1 ++ [u8.wrap v.1], ()))
  else none
 else n_135s43b2 (v.1, v.2.1, ()) >>= fun x1 =>
 some ((x1.1, ()))
noncomputable def call121s43b2 : Caller vw := fun A fid args S k => match fid with | 135 => callObj prog sig135s43b2 n_135s43b2 A args S k | _ => none
noncomputable def x121s43b2 : Xc vw := { P := prog, n := 16, call := call121s43b2, sh := sh121s43b2 }
theorem call121s43b2_ok : CallerOk prog call121s43b2 := fun A fid args S dst k r h => by
 unfold call121s43b2 at h
 split at h
 ·exact callObj_ok (n_135s43b2_ok) h
 ·cases h
theorem n_121s43b2_ok : SigOk prog 121 sig121s43b2 n_121s43b2 := fun v r x h hx =>
 fn_ok (X := x121s43b2) (sig := sig121s43b2) rfl Tryz.func121 (c := bodyOf Tryz.f121) (by kernel_rfl) Tryz.ntmps121 (by kernel_rfl) (by kernel_rfl) rfl Ty.mixed call121s43b2_ok rfl (fun C hP hN => (lok_all (kcast (by kernel_rfl) trivial))) (kcast (by kernel_rfl) h) x hx
noncomputable def c122s07d3r1 : Cut SN := ⟨[(0, .bp 100000 0), (42, .dat .bool)], [(100000, .st .readerT)]⟩
noncomputable def c122s07d3z : Cut SN := ⟨[(0, .bp 100000 0), (6, .dat .bool)], [(100000, .st .readerT)]⟩
noncomputable def sh122s07d3 : Shape vw := { rcut := c122s07d3z }
noncomputable def sig122s07d3 : Sig vw := { params := [.bp 100000 0, .dat (.int .u8), .dat (.int .u8)], objs := [(100000, .st .readerT)], rcut := c122s07d3z, rvars := [.tmp 6], keep := [100000] }
noncomputable def n_122s07d3 (v : Int × Int × Reader × Unit) : Option (Bool × Reader × Unit) :=
 (if (v.2.2.1.at0 == (↑v.2.2.1.s.size : Int)) = true then
    some ((true, v.2.2.1, ()))
   else if (0 : Int) ≤ v.2.2.1.at0 then
    v.2.2.1.s[v.2.2.1.at0.toNat]? >>= fun x1 =>
    if decide ((↑x1.toNat : Int) < v.1) = true then
     some ((true, v.2.2.1, ()))
    else if (0 : Int) ≤ v.2.2.1.at0 then
     v.2.2.1.s[v.2.2.1.at0.toNat]? >>= fun x2 =>
     some ((decide ((↑x2.toNat : Int) > v.2.1), v.2.2.1, ()))
    else none
   else none) >>= fun x1 =>
 if x1.1 = true then
  some ((false, x1.2.1, ()))
 else some ((true, Reader.mk x1.2.1.s (i64.wrap (x1.2.1.at0 + (1 : Int))), ()))
noncomputable def call122s07d3 : Caller vw := fun _ _ _ _ _ => none
noncomputable def x122s07d3 : Xc vw := { P := prog, n := 50, call := call122s07d3, sh := sh122s07d3, regs := fun k => match k with | 1 => some c122s07d3r1 | _ => none }
theorem call122s07d3_ok : CallerOk prog call122s07d3 := call_none
theorem n_122s07d3_ok : SigOk prog 122 sig122s07d3 n_122s07d3 := fun v r x h hx =>
 fn_ok (X := x122s07d3) (sig := sig122s07d3) rfl Tryz.func122 (c := bodyOf Tryz.f122) (by kernel_rfl) Tryz.ntmps122 (by kernel_rfl) (by kernel_rfl) rfl Ty.mixed call122s07d3_ok rfl (fun C hP hN => (lok_all (kcast (by kernel_rfl) trivial))) (kcast (by kernel_rfl) h) x hx
noncomputable def c42l3 : Cut SN := ⟨[(1, .bp 1 0), (2, .bp 2 0), (3, .bp 3 0), (14, .dat (.sl .str)), (15, .dat (.int .i64)), (16, .dat (.int .i64))], [(1, .st .tagT), (2, .st .sizeT), (3, .st .sizeT)]⟩
noncomputable def c42l8 : Cut SN := ⟨[(2, .bp 2 0), (3, .bp 3 0), (28, .dat (.sl (.st .tagT))), (29, .dat (.int .i64)), (30, .dat (.int .i64))], [(2, .st .sizeT), (3, .st .sizeT)]⟩
noncomputable def c42e0 : Cut SN := ⟨[(1, .bp 1 0), (2, .bp 2 0), (3, .bp 3 0)], [(1, .st .tagT), (2, .st .sizeT), (3, .st .sizeT)]⟩
noncomputable def c42e2 : Cut SN := ⟨[(2, .bp 2 0), (3, .bp 3 0)], [(2, .st .sizeT), (3, .st .sizeT)]⟩
noncomputable def c42z : Cut SN := ⟨[(2, .bp 2 0)], [(2, .st .sizeT)]⟩
noncomputable def sh42 : Shape vw := { exits := fun id => match id with | 0 => c42e0 | 2 => c42e2 | _ => ⟨[], []⟩, rcut := c42z }
noncomputable def sig42 : Sig vw := { params := [.dat (.st .tagT)], rcut := c42z, rvars := [.cell 2 57] }
noncomputable def n_42l3 (v : (List ByteArray) × Int × Int × Tag × Size × Size × Unit) : Option ((Tag × Size × Size × Unit)) :=
 if decide (v.2.2.1 < v.2.1) = true then
  if (0 : Int) ≤ v.2.2.1 then
   v.1[v.2.2.1.toNat]? >>= fun x1 =>
   n_42l3 (v.1, v.2.1, i64.wrap (v.2.2.1 + (1 : Int)), v.2.2.2.1, v.2.2.2.2.1, Size.mk v.2.2.2.2.2.1.depth v.2.2.2.2.2.1.pieces (i64.wrap (v.2.2.2.2.2.1.bytes + (↑x1.size : Int))), ())
  else none
 else some ((v.2.2.2.1, v.2.2.2.2.1, v.2.2.2.2.2.1, ()))
 partial_fixpoint
mutual
noncomputable def n_42l8 (v : (List Tag) × Int × Int × Size × Size × Unit) : Option ((Size × Size × Unit)) :=
 if decide (v.2.2.1 < v.2.1) = true then
  if (0 : Int) ≤ v.2.2.1 then
   v.1[v.2.2.1.toNat]? >>= fun x1 =>
   n_42 (x1, ()) >>= fun x2 =>
   n_42l8 (v.1, v.2.1, i64.wrap (v.2.2.1 + (1 : Int)), v.2.2.2.1, Size.mk (max v.2.2.2.2.1.depth x2.1.depth) (i64.wrap (v.2.2.2.2.1.pieces + x2.1.pieces)) (i64.wrap (v.2.2.2.2.1.bytes + x2.1.bytes)), ())
  else none
 else some ((v.2.2.2.1, v.2.2.2.2.1, ()))
 partial_fixpoint
noncomputable def n_42 (v : Tag × Unit) : Option (Size × Unit) :=
 n_42l3 (v.1.names, (↑v.1.names.length : Int), (0 : Int), v.1, Size.mk (0 : Int) (0 : Int) (0 : Int), Size.mk (0 : Int) (1 : Int) (↑v.1.text.size : Int), ()) >>= fun x1 =>
 n_42l8 (x1.1.parts, (↑x1.1.parts.length : Int), (0 : Int), x1.2.1, x1.2.2.1, ()) >>= fun x2 =>
 some ((Size.mk (i64.wrap (x2.2.1.depth + (1 : Int))) x2.2.1.pieces x2.2.1.bytes, ()))
 partial_fixpoint
end
noncomputable def call42 (n_42l3 : (List ByteArray) × Int × Int × Tag × Size × Size × Unit → Option ((Tag × Size × Size × Unit))) (n_42l8 : (List Tag) × Int × Int × Size × Size × Unit → Option ((Size × Size × Unit))) (n_42 : Tag × Unit → Option (Size × Unit)) : Caller vw := fun A fid args S k => match fid with | 42 => callPure prog sig42 n_42 A args S k | _ => none
noncomputable def x42 (n_42l3 : (List ByteArray) × Int × Int × Tag × Size × Size × Unit → Option ((Tag × Size × Size × Unit))) (n_42l8 : (List Tag) × Int × Int × Size × Size × Unit → Option ((Size × Size × Unit))) (n_42 : Tag × Unit → Option (Size × Unit)) : Xc vw := { P := prog, n := 58, call := call42 n_42l3 n_42l8 n_42, sh := sh42, loops := fun k => match k with | 3 => some { cut := c42l3, alts := [.exit 0], F := n_42l3 } | 8 => some { cut := c42l8, alts := [.exit 2], F := n_42l8 } | _ => none }
abbrev mn_42l3 (v : (List ByteArray) × Int × Int × Tag × Size × Size × Unit) (r : (Tag × Size × Size × Unit)) : Prop := (fun v out => ∀ C : Ctx, C.P = prog → C.N = 58 → AWpL C (loopNo (bodyOf Tryz.f42) 0) (encS vw (conc vw c42l3 v)) (OutQ sh42 [.exit 0] out)) v r
theorem cn_42l3 (f0 : (List ByteArray) × Int × Int × Tag × Size × Size × Unit → Option ((Tag × Size × Size × Unit))) (h0 : ∀ v r, f0 v = some r → mn_42l3 v r) : CallerOk prog (x42 f0 (fun _ => none) (fun _ => none)).call := (by
    intro A fid args S dst k r h
    unfold x42 call42 at h
    simp only at h
    split at h
    ·exact callPure_ok ((fun v r x h hx => by cases h)) rfl rfl h
    ·cases h)
theorem sn_42l3 (f0 : (List ByteArray) × Int × Int × Tag × Size × Size × Unit → Option ((Tag × Size × Size × Unit))) (h0 : ∀ v r, f0 v = some r → mn_42l3 v r) (v : (List ByteArray) × Int × Int × Tag × Size × Size × Unit) (r : (Tag × Size × Size × Unit)) (h : exL (x42 f0 (fun _ => none) (fun _ => none)) (loopNo (bodyOf Tryz.f42) 0) c42l3 [.exit 0] f0 v = some r) : mn_42l3 v r := fun C hP hN => loop_step (X := x42 f0 (fun _ => none) (fun _ => none)) (b := (loopNo (bodyOf Tryz.f42) 0)) hP hN Ty.mixed (cn_42l3 f0 h0) (lok_all (X := x42 f0 (fun _ => none) (fun _ => none)) (c := (loopNo (bodyOf Tryz.f42) 0)) (kcast (by kernel_rfl : True = AllB (LoopsP C (x42 f0 (fun _ => none) (fun _ => none))) (loopsIn (loopNo (bodyOf Tryz.f42) 0))) trivial)) (cut := c42l3) (alts := [.exit 0]) (F := f0) (fun v out h => h0 v out h C hP hN) h
theorem n_42l3_pc : ∀ v out, n_42l3 v = some out → (fun v out => ∀ C : Ctx, C.P = prog → C.N = 58 → AWpL C (loopNo (bodyOf Tryz.f42) 0) (encS vw (conc vw c42l3 v)) (OutQ sh42 [.exit 0] out)) v out := (n_42l3.partial_correctness (motive := mn_42l3) (fun f0 h0 v r h => sn_42l3 f0 h0 v r (kcast (by kernel_rfl) h)))
abbrev mn_42l8 (v : (List Tag) × Int × Int × Size × Size × Unit) (r : (Size × Size × Unit)) : Prop := (fun v out => ∀ C : Ctx, C.P = prog → C.N = 58 → AWpL C (loopNo (bodyOf Tryz.f42) 1) (encS vw (conc vw c42l8 v)) (OutQ sh42 [.exit 2] out)) v r
abbrev mn_42 (v : Tag × Unit) (r : Size × Unit) : Prop := (fun v r => ∀ x, resV prog sig42 r = some x → FnOk prog 42 (encL vw (startS sig42 v).len (startOs sig42 v).1) (encOs (startS sig42 v).len (startS sig42 v).own) (encV vw (conc vw sig42.rcut r).len x) (encOs (conc vw sig42.rcut r).len (kept sig42 r))) v r
theorem cn_42l8 (f0 : (List Tag) × Int × Int × Size × Size × Unit → Option ((Size × Size × Unit))) (f1 : Tag × Unit → Option (Size × Unit)) (h0 : ∀ v r, f0 v = some r → mn_42l8 v r) (h1 : ∀ v r, f1 v = some r → mn_42 v r) : CallerOk prog (x42 (fun _ => none) f0 f1).call := (by
    intro A fid args S dst k r h
    unfold x42 call42 at h
    simp only at h
    split at h
    ·exact callPure_ok ((fun v r x h hx => h1 v r h x hx)) rfl rfl h
    ·cases h)
theorem sn_42l8 (f0 : (List Tag) × Int × Int × Size × Size × Unit → Option ((Size × Size × Unit))) (f1 : Tag × Unit → Option (Size × Unit)) (h0 : ∀ v r, f0 v = some r → mn_42l8 v r) (h1 : ∀ v r, f1 v = some r → mn_42 v r) (v : (List Tag) × Int × Int × Size × Size × Unit) (r : (Size × Size × Unit)) (h : exL (x42 (fun _ => none) f0 f1) (loopNo (bodyOf Tryz.f42) 1) c42l8 [.exit 2] f0 v = some r) : mn_42l8 v r := fun C hP hN => loop_step (X := x42 (fun _ => none) f0 f1) (b := (loopNo (bodyOf Tryz.f42) 1)) hP hN Ty.mixed (cn_42l8 f0 f1 h0 h1) (lok_all (X := x42 (fun _ => none) f0 f1) (c := (loopNo (bodyOf Tryz.f42) 1)) (kcast (by kernel_rfl : True = AllB (LoopsP C (x42 (fun _ => none) f0 f1)) (loopsIn (loopNo (bodyOf Tryz.f42) 1))) trivial)) (cut := c42l8) (alts := [.exit 2]) (F := f0) (fun v out h => h0 v out h C hP hN) h
theorem cn_42 (f0 : (List Tag) × Int × Int × Size × Size × Unit → Option ((Size × Size × Unit))) (h0 : ∀ v r, f0 v = some r → mn_42l8 v r) : CallerOk prog (x42 n_42l3 f0 (fun _ => none)).call := (by
    intro A fid args S dst k r h
    unfold x42 call42 at h
    simp only at h
    split at h
    ·exact callPure_ok ((fun v r x h hx => by cases h)) rfl rfl h
    ·cases h)
theorem sn_42 (f0 : (List Tag) × Int × Int × Size × Size × Unit → Option ((Size × Size × Unit))) (h0 : ∀ v r, f0 v = some r → mn_42l8 v r) (v : Tag × Unit) (r : Size × Unit) (h : exF (x42 n_42l3 f0 (fun _ => none)) sig42 rfl (bodyOf Tryz.f42) v = some r) : mn_42 v r := fun x hx => fn_ok (X := x42 n_42l3 f0 (fun _ => none)) (sig := sig42) rfl Tryz.func42 (c := bodyOf Tryz.f42) (by kernel_rfl) Tryz.ntmps42 (by kernel_rfl) (by kernel_rfl) rfl Ty.mixed (cn_42 f0 h0) rfl (fun C hP hN => (lok_all (X := x42 n_42l3 f0 (fun _ => none)) (c := (bodyOf Tryz.f42)) (kcast (by kernel_rfl : AllB (LoopsP C (x42 n_42l3 f0 (fun _ => none))) [(loopNo (bodyOf Tryz.f42) 0), (loopNo (bodyOf Tryz.f42) 1)] = AllB (LoopsP C (x42 n_42l3 f0 (fun _ => none))) (loopsIn (bodyOf Tryz.f42))) ⟨loop_at (X := x42 n_42l3 f0 (fun _ => none)) (b := (loopNo (bodyOf Tryz.f42) 0)) (by kernel_rfl) (show LoopOk C (loopNo (bodyOf Tryz.f42) 0) (sh := sh42) { cut := c42l3, alts := [.exit 0], F := n_42l3 } from fun v out h => n_42l3_pc v out h C hP hN), loop_at (X := x42 n_42l3 f0 (fun _ => none)) (b := (loopNo (bodyOf Tryz.f42) 1)) (by kernel_rfl) (show LoopOk C (loopNo (bodyOf Tryz.f42) 1) (sh := sh42) { cut := c42l8, alts := [.exit 2], F := f0 } from fun v out h => h0 v out h C hP hN), trivial⟩))) h x hx
theorem n_42l8_all : (∀ v r, n_42l8 v = some r → mn_42l8 v r) ∧ (∀ v r, n_42 v = some r → mn_42 v r) := by
 refine n_42l8.mutual_partial_correctness
  (motive_1 := mn_42l8)
  (motive_2 := mn_42)
  ?_ ?_
 ·exact (fun f0 f1 h0 h1 v r h => sn_42l8 f0 f1 h0 h1 v r (kcast (by kernel_rfl) h))
 ·exact (fun f0 h0 v r h => sn_42 f0 h0 v r (kcast (by kernel_rfl) h))
theorem n_42_ok : SigOk prog 42 sig42 n_42 := fun v r x h hx => n_42l8_all.2 v r h x hx
noncomputable def c29r2 : Cut SN := ⟨[(1, .bp 1 0), (6, .dat .bool)], [(1, .st .tagT)]⟩
noncomputable def c29z : Cut SN := ⟨[(2, .dat (.int .i64))], []⟩
noncomputable def sh29 : Shape vw := { rcut := c29z }
noncomputable def sig29 : Sig vw := { params := [.dat (.st .tagT)], rcut := c29z, rvars := [.tmp 2] }
noncomputable def n_29 (v : Tag × Unit) : Option (Int × Unit) :=
 n_42 (v.1, ()) >>= fun x1 =>
 (if decide (x1.1.depth > (20 : Int)) = true then
    some ((true, v.1, ()))
   else if decide (x1.1.pieces > (500 : Int)) = true then
    some ((true, v.1, ()))
   else some ((decide (x1.1.bytes > (4096 : Int)), v.1, ()))) >>= fun x2 =>
 if x2.1 = true then
  some (((3 : Int), ()))
 else n_51 (x2.2.1, ()) >>= fun x3 =>
 if (!x3.1) = true then
  some (((1 : Int), ()))
 else n_52 (x2.2.1, ()) >>= fun x4 =>
 if x4.1 = true then
  some (((5 : Int), ()))
 else some (((0 : Int), ()))
noncomputable def call29 : Caller vw := fun A fid args S k => match fid with | 42 => callPure prog sig42 n_42 A args S k | 51 => callPure prog sig51 n_51 A args S k | 52 => callPure prog sig52 n_52 A args S k | _ => none
noncomputable def x29 : Xc vw := { P := prog, n := 27, call := call29, sh := sh29, regs := fun k => match k with | 2 => some c29r2 | _ => none }
theorem call29_ok : CallerOk prog call29 := fun A fid args S dst k r h => by
 unfold call29 at h
 split at h
 ·exact callPure_ok (n_42_ok) rfl rfl h
 ·exact callPure_ok (n_51_ok) rfl rfl h
 ·exact callPure_ok (n_52_ok) rfl rfl h
 ·cases h
theorem n_29_ok : SigOk prog 29 sig29 n_29 := fun v r x h hx =>
 fn_ok (X := x29) (sig := sig29) rfl Tryz.func29 (c := bodyOf Tryz.f29) (by kernel_rfl) Tryz.ntmps29 (by kernel_rfl) (by kernel_rfl) rfl Ty.mixed call29_ok rfl (fun C hP hN => (lok_all (kcast (by kernel_rfl) trivial))) (kcast (by kernel_rfl) h) x hx
noncomputable def c53s5172z : Cut SN := ⟨[(2, .vh 2002)], [(2002, .vec 9 .str)]⟩
noncomputable def sh53s5172 : Shape vw := { rcut := c53s5172z }
noncomputable def sig53s5172 : Sig vw := { params := [.dat (.sl .str)], rcut := c53s5172z, rvars := [.tmp 2], keep := [2002] }
noncomputable def n_53s5172 (v : (List ByteArray) × Unit) : Option ((List ByteArray) × Unit) :=
 if v.1.length ≤ 4294967296 then some (v.1, ()) else none
noncomputable def call53s5172 : Caller vw := fun _ _ _ _ _ => none
noncomputable def x53s5172 : Xc vw := { P := prog, n := 8, nm := fun d => match d with | 5 => 40005 | _ => d, call := call53s5172, sh := sh53s5172 }
theorem call53s5172_ok : CallerOk prog call53s5172 := call_none
theorem n_53s5172_ok : SigOk prog 53 sig53s5172 n_53s5172 := fun v r x h hx => by
 unfold n_53s5172 at h
 split at h
 ·rename_i hlen
  cases h; cases hx
  refine kcast (by kernel_rfl) (fn_split (P := prog) (f := 53) (sz := 1) (rows := (v.1.map fun y => Go.Tx.encR szN encN .str y)) (r := .vh 2002 v.1.length) (own' := [(2002, .vec 9 1 (v.1.map fun y => Go.Tx.encR szN encN .str y))]) (fun hne => ?_) (fun he => ?_) (fun he a cap => ?_))
  ·obtain ⟨l, u⟩ := v
   cases l with
   | nil => simp at hne
   | cons y ys =>
    have e : exF x53s5172 sig53s5172 rfl (bodyOf Tryz.f53) (y :: ys, ()) = if ([] : (List ByteArray)).length + (y :: ys).length ≤ most then some ([] ++ (y :: ys), ()) else none := by kernel_rfl
    rw [if_pos (by simp only [List.length_nil, Nat.zero_add]; exact hlen)] at e
    exact kcast (by kernel_rfl) (fn_ok (X := x53s5172) (sig := sig53s5172) rfl Tryz.func53 (c := bodyOf Tryz.f53) (by kernel_rfl) Tryz.ntmps53 (by kernel_rfl) (by kernel_rfl) rfl Ty.mixed call53s5172_ok rfl (fun C hP hN => (lok_all (kcast (by kernel_rfl) trivial))) (v := (y :: ys, ())) e (.vh 2002) rfl)
  ·have hv : v.1 = [] := by simpa using he
   obtain ⟨l, u⟩ := v
   cases hv
   exact kcast (by kernel_rfl) (fn_okS (X := x53s5172) (sig := sig53s5172) rfl Tryz.func53 (c := bodyOf Tryz.f53) (by kernel_rfl) Tryz.ntmps53 (by kernel_rfl) (by kernel_rfl) Ty.mixed call53s5172_ok rfl (fun C hP hN => (lok_all (kcast (by kernel_rfl) trivial))) (xs := [.raw (.slice none 0 0)]) (by kernel_rfl) (r := ([], ())) (by kernel_rfl) (.vh 2002) rfl)
  ·have hv : v.1 = [] := by simpa using he
   obtain ⟨l, u⟩ := v
   cases hv
   exact kcast (by kernel_rfl) (fn_okS (X := x53s5172) (sig := sig53s5172) rfl Tryz.func53 (c := bodyOf Tryz.f53) (by kernel_rfl) Tryz.ntmps53 (by kernel_rfl) (by kernel_rfl) Ty.mixed call53s5172_ok rfl (fun C hP hN => (lok_all (kcast (by kernel_rfl) trivial))) (xs := [.raw (.slice (some a) 0 cap)]) (by kernel_rfl) (r := ([], ())) (by kernel_rfl) (.vh 2002) rfl)
 ·cases h
noncomputable def c31s06c9l4 : Cut SN := ⟨[(1, .bp 1 0), (2, .bp 2 0), (3, .vh 1003), (11, .dat (.sl (.st .tagT))), (12, .dat (.int .i64)), (13, .dat (.int .i64))], [(1, .box none [.dat (.int .i64), .dat (.int .i64), .dat .str, .vh 3013, .dat (.sl (.st .tagT))]), (2, .st .tagT), (1003, .dvec 25 (.st .tagT) false), (3013, .vec 9 .str)]⟩
noncomputable def c31s06c9e0 : Cut SN := ⟨[(1, .bp 1 0), (2, .bp 2 0), (3, .vh 1003)], [(1, .box none [.dat (.int .i64), .dat (.int .i64), .dat .str, .vh 3013, .dat (.sl (.st .tagT))]), (2, .st .tagT), (1003, .dvec 25 (.st .tagT) false), (3013, .vec 9 .str)]⟩
noncomputable def c31s06c9z : Cut SN := ⟨[(2, .bp 2 0)], [(2, .box none [.dat (.int .i64), .dat (.int .i64), .dat .str, .vh 6023, .vh 6024]), (6023, .vec 9 .str), (6024, .dvec 25 (.st .tagT) false)]⟩
noncomputable def sh31s06c9 : Shape vw := { exits := fun id => match id with | 0 => c31s06c9e0 | _ => ⟨[], []⟩, rcut := c31s06c9z }
noncomputable def sig31s06c9 : Sig vw := { params := [.dat (.st .tagT)], rcut := c31s06c9z, rvars := [.cell 2 25], keep := [6023, 6024] }
mutual
noncomputable def n_31s06c9l4 (v : (List Tag) × Int × Int × Int × Int × ByteArray × (List Tag) × Tag × (List Tag) × (List ByteArray) × Unit) : Option ((Int × Int × ByteArray × (List Tag) × Tag × (List Tag) × (List ByteArray) × Unit)) :=
 if decide (v.2.2.1 < v.2.1) = true then
  if (0 : Int) ≤ v.2.2.1 then
   v.1[v.2.2.1.toNat]? >>= fun x1 =>
   n_31s06c9 (x1, ()) >>= fun x2 =>
   if v.2.2.2.2.2.2.2.2.1.length + [Tag.mk x2.1 x2.2.1 x2.2.2.1 x2.2.2.2.1 x2.2.2.2.2.1].length ≤ (4294967296 : Nat) then
    n_31s06c9l4 (v.1, v.2.1, i64.wrap (v.2.2.1 + (1 : Int)), v.2.2.2.1, v.2.2.2.2.1, v.2.2.2.2.2.1, v.2.2.2.2.2.2.1, v.2.2.2.2.2.2.2.1, v.2.2.2.2.2.2.2.2.1 ++ [Tag.mk x2.1 x2.2.1 x2.2.2.1 x2.2.2.2.1 x2.2.2.2.2.1], v.2.2.2.2.2.2.2.2.2.1, ())
   else none
  else none
 else some ((v.2.2.2.1, v.2.2.2.2.1, v.2.2.2.2.2.1, v.2.2.2.2.2.2.1, v.2.2.2.2.2.2.2.1, v.2.2.2.2.2.2.2.2.1, v.2.2.2.2.2.2.2.2.2.1, ()))
 partial_fixpoint
noncomputable def n_31s06c9 (v : Tag × Unit) : Option (Int × Int × ByteArray × (List ByteArray) × (List Tag) × Unit) :=
 n_53s5172 (v.1.names, ()) >>= fun x1 =>
 n_31s06c9l4 (v.1.parts, (↑v.1.parts.length : Int), (0 : Int), v.1.kind, v.1.n, v.1.text, v.1.parts, Tag.mk (0 : Int) (0 : Int) (ByteArray.mk #[]) [] [], [], x1.1, ()) >>= fun x2 =>
 some ((x2.1, x2.2.1, x2.2.2.1, x2.2.2.2.2.2.2.1, x2.2.2.2.2.2.1, ()))
 partial_fixpoint
end
noncomputable def call31s06c9 (n_31s06c9l4 : (List Tag) × Int × Int × Int × Int × ByteArray × (List Tag) × Tag × (List Tag) × (List ByteArray) × Unit → Option ((Int × Int × ByteArray × (List Tag) × Tag × (List Tag) × (List ByteArray) × Unit))) (n_31s06c9 : Tag × Unit → Option (Int × Int × ByteArray × (List ByteArray) × (List Tag) × Unit)) : Caller vw := fun A fid args S k => match fid with | 31 => callObj prog sig31s06c9 n_31s06c9 A args S k | 53 => callObj prog sig53s5172 n_53s5172 A args S k | _ => none
noncomputable def x31s06c9 (n_31s06c9l4 : (List Tag) × Int × Int × Int × Int × ByteArray × (List Tag) × Tag × (List Tag) × (List ByteArray) × Unit → Option ((Int × Int × ByteArray × (List Tag) × Tag × (List Tag) × (List ByteArray) × Unit))) (n_31s06c9 : Tag × Unit → Option (Int × Int × ByteArray × (List ByteArray) × (List Tag) × Unit)) : Xc vw := { P := prog, n := 26, call := call31s06c9 n_31s06c9l4 n_31s06c9, pre := fun k => match k with | 1000020 => true | _ => false, sh := sh31s06c9, loops := fun k => match k with | 4 => some { cut := c31s06c9l4, alts := [.exit 0], F := n_31s06c9l4 } | _ => none }
abbrev mn_31s06c9l4 (v : (List Tag) × Int × Int × Int × Int × ByteArray × (List Tag) × Tag × (List Tag) × (List ByteArray) × Unit) (r : (Int × Int × ByteArray × (List Tag) × Tag × (List Tag) × (List ByteArray) × Unit)) : Prop := (fun v out => ∀ C : Ctx, C.P = prog → C.N = 26 → AWpL C (loopNo (bodyOf Tryz.f31) 0) (encS vw (conc vw c31s06c9l4 v)) (OutQ sh31s06c9 [.exit 0] out)) v r
abbrev mn_31s06c9 (v : Tag × Unit) (r : Int × Int × ByteArray × (List ByteArray) × (List Tag) × Unit) : Prop := (fun v r => ∀ x, resV prog sig31s06c9 r = some x → FnOk prog 31 (encL vw (startS sig31s06c9 v).len (startOs sig31s06c9 v).1) (encOs (startS sig31s06c9 v).len (startS sig31s06c9 v).own) (encV vw (conc vw sig31s06c9.rcut r).len x) (encOs (conc vw sig31s06c9.rcut r).len (kept sig31s06c9 r))) v r
theorem cn_31s06c9l4 (f0 : (List Tag) × Int × Int × Int × Int × ByteArray × (List Tag) × Tag × (List Tag) × (List ByteArray) × Unit → Option ((Int × Int × ByteArray × (List Tag) × Tag × (List Tag) × (List ByteArray) × Unit))) (f1 : Tag × Unit → Option (Int × Int × ByteArray × (List ByteArray) × (List Tag) × Unit)) (h0 : ∀ v r, f0 v = some r → mn_31s06c9l4 v r) (h1 : ∀ v r, f1 v = some r → mn_31s06c9 v r) : CallerOk prog (x31s06c9 f0 f1).call := (by
    intro A fid args S dst k r h
    unfold x31s06c9 call31s06c9 at h
    simp only at h
    split at h
    ·exact callObj_ok ((fun v r x h hx => h1 v r h x hx)) h
    ·exact callObj_ok (n_53s5172_ok) h
    ·cases h)
theorem sn_31s06c9l4 (f0 : (List Tag) × Int × Int × Int × Int × ByteArray × (List Tag) × Tag × (List Tag) × (List ByteArray) × Unit → Option ((Int × Int × ByteArray × (List Tag) × Tag × (List Tag) × (List ByteArray) × Unit))) (f1 : Tag × Unit → Option (Int × Int × ByteArray × (List ByteArray) × (List Tag) × Unit)) (h0 : ∀ v r, f0 v = some r → mn_31s06c9l4 v r) (h1 : ∀ v r, f1 v = some r → mn_31s06c9 v r) (v : (List Tag) × Int × Int × Int × Int × ByteArray × (List Tag) × Tag × (List Tag) × (List ByteArray) × Unit) (r : (Int × Int × ByteArray × (List Tag) × Tag × (List Tag) × (List ByteArray) × Unit)) (h : exL (x31s06c9 f0 f1) (loopNo (bodyOf Tryz.f31) 0) c31s06c9l4 [.exit 0] f0 v = some r) : mn_31s06c9l4 v r := fun C hP hN => loop_step (X := x31s06c9 f0 f1) (b := (loopNo (bodyOf Tryz.f31) 0)) hP hN Ty.mixed (cn_31s06c9l4 f0 f1 h0 h1) (lok_all (X := x31s06c9 f0 f1) (c := (loopNo (bodyOf Tryz.f31) 0)) (kcast (by kernel_rfl : True = AllB (LoopsP C (x31s06c9 f0 f1)) (loopsIn (loopNo (bodyOf Tryz.f31) 0))) trivial)) (cut := c31s06c9l4) (alts := [.exit 0]) (F := f0) (fun v out h => h0 v out h C hP hN) h
theorem cn_31s06c9 (f0 : (List Tag) × Int × Int × Int × Int × ByteArray × (List Tag) × Tag × (List Tag) × (List ByteArray) × Unit → Option ((Int × Int × ByteArray × (List Tag) × Tag × (List Tag) × (List ByteArray) × Unit))) (h0 : ∀ v r, f0 v = some r → mn_31s06c9l4 v r) : CallerOk prog (x31s06c9 f0 (fun _ => none)).call := (by
    intro A fid args S dst k r h
    unfold x31s06c9 call31s06c9 at h
    simp only at h
    split at h
    ·exact callObj_ok ((fun v r x h hx => by cases h)) h
    ·exact callObj_ok (n_53s5172_ok) h
    ·cases h)
theorem sn_31s06c9 (f0 : (List Tag) × Int × Int × Int × Int × ByteArray × (List Tag) × Tag × (List Tag) × (List ByteArray) × Unit → Option ((Int × Int × ByteArray × (List Tag) × Tag × (List Tag) × (List ByteArray) × Unit))) (h0 : ∀ v r, f0 v = some r → mn_31s06c9l4 v r) (v : Tag × Unit) (r : Int × Int × ByteArray × (List ByteArray) × (List Tag) × Unit) (h : exF (x31s06c9 f0 (fun _ => none)) sig31s06c9 rfl (bodyOf Tryz.f31) v = some r) : mn_31s06c9 v r := fun x hx => fn_ok (X := x31s06c9 f0 (fun _ => none)) (sig := sig31s06c9) rfl Tryz.func31 (c := bodyOf Tryz.f31) (by kernel_rfl) Tryz.ntmps31 (by kernel_rfl) (by kernel_rfl) rfl Ty.mixed (cn_31s06c9 f0 h0) rfl (fun C hP hN => (lok_all (X := x31s06c9 f0 (fun _ => none)) (c := (bodyOf Tryz.f31)) (kcast (by kernel_rfl : AllB (LoopsP C (x31s06c9 f0 (fun _ => none))) [(loopNo (bodyOf Tryz.f31) 0)] = AllB (LoopsP C (x31s06c9 f0 (fun _ => none))) (loopsIn (bodyOf Tryz.f31))) ⟨loop_at (X := x31s06c9 f0 (fun _ => none)) (b := (loopNo (bodyOf Tryz.f31) 0)) (by kernel_rfl) (show LoopOk C (loopNo (bodyOf Tryz.f31) 0) (sh := sh31s06c9) { cut := c31s06c9l4, alts := [.exit 0], F := f0 } from fun v out h => h0 v out h C hP hN), trivial⟩))) h x hx
theorem n_31s06c9l4_all : (∀ v r, n_31s06c9l4 v = some r → mn_31s06c9l4 v r) ∧ (∀ v r, n_31s06c9 v = some r → mn_31s06c9 v r) := by
 refine n_31s06c9l4.mutual_partial_correctness
  (motive_1 := mn_31s06c9l4)
  (motive_2 := mn_31s06c9)
  ?_ ?_
 ·exact (fun f0 f1 h0 h1 v r h => sn_31s06c9l4 f0 f1 h0 h1 v r (kcast (by kernel_rfl) h))
 ·exact (fun f0 h0 v r h => sn_31s06c9 f0 h0 v r (kcast (by kernel_rfl) h))
theorem n_31s06c9_ok : SigOk prog 31 sig31s06c9 n_31s06c9 := fun v r x h hx => n_31s06c9l4_all.2 v r h x hx
noncomputable def c58l2 : Cut SN := ⟨[(0, .dat (.sl .str)), (1, .dat .str), (7, .dat (.int .i64)), (8, .dat (.int .i64))], []⟩
noncomputable def sh58 : Shape vw := { exits := fun id => match id with | 0 => c103c75e0 | _ => ⟨[], []⟩, rcut := c103c75z }
noncomputable def sig58 : Sig vw := { params := [.dat (.sl .str), .dat .str], rcut := c103c75z, rvars := [.tmp 4] }
noncomputable def n_58l2 (v : (List ByteArray) × ByteArray × Int × Int × Unit) : Option (((Int × Unit) ⊕ (Unit))) :=
 if decide (v.2.2.2.1 < v.2.2.1) = true then
  if (0 : Int) ≤ v.2.2.2.1 then
   v.1[v.2.2.2.1.toNat]? >>= fun x1 =>
   if (v.2.1.toList == x1.toList) = true then
    some (Sum.inl (v.2.2.2.1, ()))
   else n_58l2 (v.1, v.2.1, v.2.2.1, i64.wrap (v.2.2.2.1 + (1 : Int)), ())
  else none
 else some (Sum.inr ())
 partial_fixpoint
noncomputable def n_58 (v : (List ByteArray) × ByteArray × Unit) : Option (Int × Unit) :=
 n_58l2 (v.1, v.2.1, (↑v.1.length : Int), (0 : Int), ()) >>= fun x1 => match x1 with
  | .inl y1 => some y1
  | .inr y1 => some (((-1 : Int), ()))
noncomputable def call58 : Caller vw := fun _ _ _ _ _ => none
noncomputable def x58 : Xc vw := { P := prog, n := 19, call := call58, sh := sh58, loops := fun k => match k with | 2 => some { cut := c58l2, alts := [.ret, .exit 0], F := n_58l2 } | _ => none }
theorem call58_ok : CallerOk prog call58 := call_none
theorem n_58l2_ok (C : Ctx) (hP : C.P = prog) (hN : C.N = 19) : LoopOk C (loopNo (bodyOf Tryz.f58) 0) (sh := sh58) { cut := c58l2, alts := [.ret, .exit 0], F := n_58l2 } :=
 n_58l2.partial_correctness (motive := fun v out => AWpL C (loopNo (bodyOf Tryz.f58) 0) (encS vw (conc vw c58l2 v)) (OutQ sh58 [.ret, .exit 0] out)) fun F ih v out h =>
  loop_step (X := x58) (b := (loopNo (bodyOf Tryz.f58) 0)) hP hN Ty.mixed call58_ok (lok_all (X := x58) (c := (loopNo (bodyOf Tryz.f58) 0)) (kcast (by kernel_rfl : True = AllB (LoopsP C (x58)) (loopsIn (loopNo (bodyOf Tryz.f58) 0))) trivial)) ih (kcast (by kernel_rfl) h)
theorem n_58_ok : SigOk prog 58 sig58 n_58 := fun v r x h hx =>
 fn_ok (X := x58) (sig := sig58) rfl Tryz.func58 (c := bodyOf Tryz.f58) (by kernel_rfl) Tryz.ntmps58 (by kernel_rfl) (by kernel_rfl) rfl Ty.mixed call58_ok rfl (fun C hP hN => (lok_all (kcast (by kernel_rfl : AllB (LoopsP C (x58)) [(loopNo (bodyOf Tryz.f58) 0)] = AllB (LoopsP C (x58)) (loopsIn (bodyOf Tryz.f58))) ⟨loop_at (X := x58) (b := (loopNo (bodyOf Tryz.f58) 0)) (by kernel_rfl) (n_58l2_ok C hP hN), trivial⟩))) (kcast (by kernel_rfl) h) x hx
noncomputable def c59z : Cut SN := ⟨[(2, .dat (.int .i64)), (3, .dat .er)], []⟩
noncomputable def sig59 : Sig vw := { params := [.dat .str], rcut := c59z, rvars := [.tmp 2, .tmp 3] }
noncomputable def n_59 (v : ByteArray × Unit) : Option (Int × Bool × Unit) :=
 if v.1.size ≤ 1000000000000 then (match Lib.atoiAll v.1.data.toList with | .ok n => some (n, false, ()) | .range => some (Lib.atoiSat v.1.data.toList, true, ()) | _ => some (0, true, ())) else none
theorem n_59_ok : SigOk prog 59 sig59 n_59 := fun v r x h hx => by
 obtain ⟨s, u⟩ := v
 unfold n_59 at h
 split at h
 ·rename_i hc
  simp only at hc h
  cases hq : Lib.atoiAll s.data.toList with
  | ok n =>
   simp only [hq] at h
   cases h; cases hx
   exact kcast (by kernel_rfl) (FnOk.pure (P := prog) (f := 59) (args := [.d (.v (.string s))]) (r := .tup [.d (.v (.int .i64 n)), .d (.er false)]) (by kernel_rfl) fun E M w vs hg hm hv => by
    obtain ⟨v1, rfl, h1⟩ := hreps_one hv
    rw [h1.dv]
    exact (Tryz.strconv_Atoi_ok s (by omega) n hq w).mono fun e w' ⟨he, hw⟩ => ⟨_, he, hrep_er .ern, below_bytes hw⟩)
  | range =>
   simp only [hq] at h
   cases h; cases hx
   exact kcast (by kernel_rfl) (FnOk.pure (P := prog) (f := 59) (args := [.d (.v (.string s))]) (r := .tup [.d (.v (.int .i64 (Lib.atoiSat s.data.toList))), .d (.er true)]) (by kernel_rfl) fun E M w vs hg hm hv => by
    obtain ⟨v1, rfl, h1⟩ := hreps_one hv
    rw [h1.dv]
    obtain ⟨te, pe, hev⟩ := gm_range hg hm
    exact (Tryz.strconv_Atoi_range s (by omega) hq _ w hev (.inr ⟨te, pe, rfl⟩)).mono fun e w' ⟨N, he, _, _, hw⟩ => ⟨_, he, hrep_er (.ere _ _), hw⟩)
  | _ =>
   simp only [hq] at h
   cases h; cases hx
   exact kcast (by kernel_rfl) (FnOk.pure (P := prog) (f := 59) (args := [.d (.v (.string s))]) (r := .tup [.d (.v (.int .i64 0)), .d (.er true)]) (by kernel_rfl) fun E M w vs hg hm hv => by
    obtain ⟨v1, rfl, h1⟩ := hreps_one hv
    rw [h1.dv]
    obtain ⟨te, pe, hev⟩ := gm_syntax hg hm
    exact (Tryz.strconv_Atoi_syntax s (by omega) ⟨fun n hn => (by rw [hq] at hn; cases hn), fun hn => (by rw [hq] at hn; cases hn)⟩ _ w hev (.inr ⟨te, pe, rfl⟩)).mono fun e w' ⟨N, he, _, _, hw⟩ => ⟨_, he, hrep_er (.ere _ _), hw⟩)
 ·cases h
noncomputable def sig60 : Sig vw := { params := [.dat (.int .i64)], rcut := c133z, rvars := [.tmp 2] }
noncomputable def n_60 (v : Int × Unit) : Option (ByteArray × Unit) :=
 if -9223372036854775808 ≤ v.1 ∧ v.1 ≤ 9223372036854775807 then some (⟨(Lib.itoa v.1).toArray⟩, ()) else none
theorem n_60_ok : SigOk prog 60 sig60 n_60 := fun v r x h hx => by
 obtain ⟨n, u⟩ := v
 unfold n_60 at h
 split at h
 ·rename_i hc
  obtain ⟨h0, h1⟩ := hc
  simp only at h0 h1
  cases h; cases hx
  exact kcast (by kernel_rfl) (FnOk.pure (P := prog) (f := 60) (args := [.d (.v (.int .i64 n))]) (r := .d (.v (.string ⟨(Lib.itoa n).toArray⟩))) (by kernel_rfl) fun E M w vs hg hm hv => by
   obtain ⟨v1, rfl, h2⟩ := hreps_one hv
   rw [h2.dv]
   exact (Tryz.strconv_Itoa n h0 h1 w (tab_pow10 hg hm)).mono fun e w' ⟨he, k, os, hw⟩ => ⟨_, he, .d (.v _), hw ▸ Lib.below_grow _ w (Nat.le_refl _) k os⟩)
 ·cases h
noncomputable def c39r4 : Cut SN := ⟨[(5, .dat (.int .i64)), (42, .dat .bool)], []⟩
noncomputable def sh39 : Shape vw := { rcut := c103c75z }
noncomputable def sig39 : Sig vw := { params := [.dat (.st .tagT), .dat .str], rcut := c103c75z, rvars := [.tmp 4] }
noncomputable def n_39 (v : Tag × ByteArray × Unit) : Option (Int × Unit) :=
 if (v.1.kind == (6 : Int)) = true then
  n_58 (v.1.names, v.2.1, ()) >>= fun x1 =>
  some ((x1.1, ()))
 else n_59 (v.2.1, ()) >>= fun x1 =>
 (if (v.1.kind != (5 : Int)) = true then
    some ((x1.1, true, ()))
   else if x1.2.1 = true then
    some ((x1.1, true, ()))
   else if decide (x1.1 < (0 : Int)) = true then
    some ((x1.1, true, ()))
   else if decide (x1.1 > (↑v.1.parts.length : Int)) = true then
    some ((x1.1, true, ()))
   else n_60 (x1.1, ()) >>= fun x2 =>
   some ((x1.1, !x2.1.toList == v.2.1.toList, ()))) >>= fun x2 =>
 if x2.2.1 = true then
  some (((-1 : Int), ()))
 else some ((x2.1, ()))
noncomputable def call39 : Caller vw := fun A fid args S k => match fid with | 58 => callPure prog sig58 n_58 A args S k | 59 => callPure prog sig59 n_59 A args S k | 60 => callPure prog sig60 n_60 A args S k | _ => none
noncomputable def x39 : Xc vw := { P := prog, n := 44, call := call39, sh := sh39, regs := fun k => match k with | 4 => some c39r4 | _ => none }
theorem call39_ok : CallerOk prog call39 := fun A fid args S dst k r h => by
 unfold call39 at h
 split at h
 ·exact callPure_ok (n_58_ok) rfl rfl h
 ·exact callPure_ok (n_59_ok) rfl rfl h
 ·exact callPure_ok (n_60_ok) rfl rfl h
 ·cases h
theorem n_39_ok : SigOk prog 39 sig39 n_39 := fun v r x h hx =>
 fn_ok (X := x39) (sig := sig39) rfl Tryz.func39 (c := bodyOf Tryz.f39) (by kernel_rfl) Tryz.ntmps39 (by kernel_rfl) (by kernel_rfl) rfl Ty.mixed call39_ok rfl (fun C hP hN => (lok_all (kcast (by kernel_rfl) trivial))) (kcast (by kernel_rfl) h) x hx
noncomputable def c36l2 : Cut SN := ⟨[(2, .bp 2 0), (4, .bp 4 0), (9, .dat (.sl .str)), (10, .dat (.int .i64)), (11, .dat (.int .i64))], [(2, .st .tagT), (4, .st .tagT)]⟩
noncomputable def c36r5 : Cut SN := ⟨[(2, .bp 2 0), (4, .bp 4 0), (8, .dat (.int .i64)), (9, .dat (.sl .str)), (10, .dat (.int .i64)), (11, .dat (.int .i64)), (26, .dat .bool)], [(2, .st .tagT), (4, .st .tagT)]⟩
noncomputable def c36e0 : Cut SN := ⟨[(2, .bp 2 0), (4, .bp 4 0)], [(2, .st .tagT), (4, .st .tagT)]⟩
noncomputable def c36z : Cut SN := ⟨[(4, .bp 4 0), (5, .dat .bool)], [(4, .st .tagT)]⟩
noncomputable def sh36 : Shape vw := { exits := fun id => match id with | 0 => c36e0 | _ => ⟨[], []⟩, rcut := c36z }
noncomputable def sig36 : Sig vw := { params := [.dat (.st .tagT), .dat (.sl .str)], rcut := c36z, rvars := [.cell 4 25, .tmp 5] }
noncomputable def n_36l2 (v : (List ByteArray) × Int × Int × Tag × Tag × Unit) : Option (((Bool × Tag × Unit) ⊕ (Tag × Tag × Unit))) :=
 if decide (v.2.2.1 < v.2.1) = true then
  if (0 : Int) ≤ v.2.2.1 then
   v.1[v.2.2.1.toNat]? >>= fun x1 =>
   n_39 (v.2.2.2.1, x1, ()) >>= fun x2 =>
   (if decide (x2.1 < (0 : Int)) = true then
      some ((x2.1, v.1, v.2.1, v.2.2.1, true, v.2.2.2.1, v.2.2.2.2.1, ()))
     else some ((x2.1, v.1, v.2.1, v.2.2.1, decide (x2.1 ≥ (↑v.2.2.2.1.parts.length : Int)), v.2.2.2.1, v.2.2.2.2.1, ()))) >>= fun x3 =>
   if x3.2.2.2.2.1 = true then
    some (Sum.inl (false, Tag.mk (0 : Int) (0 : Int) (ByteArray.mk #[]) [] [], ()))
   else if (0 : Int) ≤ x3.1 then
    x3.2.2.2.2.2.1.parts[x3.1.toNat]? >>= fun x4 =>
    n_36l2 (x3.2.1, x3.2.2.1, i64.wrap (x3.2.2.2.1 + (1 : Int)), x4, x3.2.2.2.2.2.2.1, ())
   else none
  else none
 else some (Sum.inr (v.2.2.2.1, v.2.2.2.2.1, ()))
 partial_fixpoint
noncomputable def n_36 (v : Tag × (List ByteArray) × Unit) : Option (Bool × Tag × Unit) :=
 n_36l2 (v.2.1, (↑v.2.1.length : Int), (0 : Int), v.1, Tag.mk (0 : Int) (0 : Int) (ByteArray.mk #[]) [] [], ()) >>= fun x1 => match x1 with
  | .inl y1 => some y1
  | .inr y1 => some ((true, y1.1, ()))
noncomputable def call36 : Caller vw := fun A fid args S k => match fid with | 39 => callPure prog sig39 n_39 A args S k | _ => none
noncomputable def x36 : Xc vw := { P := prog, n := 35, call := call36, sh := sh36, regs := fun k => match k with | 5 => some c36r5 | _ => none, loops := fun k => match k with | 2 => some { cut := c36l2, alts := [.ret, .exit 0], F := n_36l2 } | _ => none }
theorem call36_ok : CallerOk prog call36 := fun A fid args S dst k r h => by
 unfold call36 at h
 split at h
 ·exact callPure_ok (n_39_ok) rfl rfl h
 ·cases h
theorem n_36l2_ok (C : Ctx) (hP : C.P = prog) (hN : C.N = 35) : LoopOk C (loopNo (bodyOf Tryz.f36) 0) (sh := sh36) { cut := c36l2, alts := [.ret, .exit 0], F := n_36l2 } :=
 n_36l2.partial_correctness (motive := fun v out => AWpL C (loopNo (bodyOf Tryz.f36) 0) (encS vw (conc vw c36l2 v)) (OutQ sh36 [.ret, .exit 0] out)) fun F ih v out h =>
  loop_step (X := x36) (b := (loopNo (bodyOf Tryz.f36) 0)) hP hN Ty.mixed call36_ok (lok_all (X := x36) (c := (loopNo (bodyOf Tryz.f36) 0)) (kcast (by kernel_rfl : True = AllB (LoopsP C (x36)) (loopsIn (loopNo (bodyOf Tryz.f36) 0))) trivial)) ih (kcast (by kernel_rfl) h)
theorem n_36_ok : SigOk prog 36 sig36 n_36 := fun v r x h hx =>
 fn_ok (X := x36) (sig := sig36) rfl Tryz.func36 (c := bodyOf Tryz.f36) (by kernel_rfl) Tryz.ntmps36 (by kernel_rfl) (by kernel_rfl) rfl Ty.mixed call36_ok rfl (fun C hP hN => (lok_all (kcast (by kernel_rfl : AllB (LoopsP C (x36)) [(loopNo (bodyOf Tryz.f36) 0)] = AllB (LoopsP C (x36)) (loopsIn (bodyOf Tryz.f36))) ⟨loop_at (X := x36) (b := (loopNo (bodyOf Tryz.f36) 0)) (by kernel_rfl) (n_36l2_ok C hP hN), trivial⟩))) (kcast (by kernel_rfl) h) x hx
noncomputable def c13z : Cut SN := ⟨[(4, .bp 4 0), (5, .dat .bool), (6, .dat (.int .i64))], [(4, .st .tagT)]⟩
noncomputable def sh13 : Shape vw := { rcut := c13z }
noncomputable def sig13 : Sig vw := { params := [.dat (.st .tagT), .dat (.sl .str)], rcut := c13z, rvars := [.cell 4 25, .tmp 5, .tmp 6] }
noncomputable def n_13 (v : Tag × (List ByteArray) × Unit) : Option (Bool × Int × Tag × Unit) :=
 n_29 (v.1, ()) >>= fun x1 =>
 if (x1.1 != (0 : Int)) = true then
  some ((false, x1.1, Tag.mk (0 : Int) (0 : Int) (ByteArray.mk #[]) [] [], ()))
 else n_36 (v.1, v.2.1, ()) >>= fun x2 =>
 n_31s06c9 (x2.2.1, ()) >>= fun x3 =>
 some ((x2.1, (0 : Int), Tag.mk x3.1 x3.2.1 x3.2.2.1 x3.2.2.2.1 x3.2.2.2.2.1, ()))
noncomputable def call13 : Caller vw := fun A fid args S k => match fid with | 29 => callPure prog sig29 n_29 A args S k | 31 => callObj prog sig31s06c9 n_31s06c9 A args S k | 36 => callPure prog sig36 n_36 A args S k | _ => none
noncomputable def x13 : Xc vw := { P := prog, n := 25, call := call13, sh := sh13 }
theorem call13_ok : CallerOk prog call13 := fun A fid args S dst k r h => by
 unfold call13 at h
 split at h
 ·exact callPure_ok (n_29_ok) rfl rfl h
 ·exact callObj_ok (n_31s06c9_ok) h
 ·exact callPure_ok (n_36_ok) rfl rfl h
 ·cases h
theorem n_13_ok : SigOk prog 13 sig13 n_13 := fun v r x h hx =>
 fn_ok (X := x13) (sig := sig13) rfl Tryz.func13 (c := bodyOf Tryz.f13) (by kernel_rfl) Tryz.ntmps13 (by kernel_rfl) (by kernel_rfl) rfl Ty.mixed call13_ok rfl (fun C hP hN => (lok_all (kcast (by kernel_rfl) trivial))) (kcast (by kernel_rfl) h) x hx
noncomputable def c30se487j12 : Cut SN := ⟨[(3, .bp 3 0), (5, .bp 5 0), (6, .bp 6 0)], [(3, .box none [.dat (.int .i64), .dat (.int .i64), .dat .str, .vh 3033, .vh 3034]), (5, .box none [.dat (.int .i64), .dat (.int .i64), .dat .str, .vh 3053, .vh 3054]), (6, .st .tagT), (3033, .vec 9 .str), (3034, .dvec 25 (.st .tagT) false), (3053, .vec 9 .str), (3054, .dvec 25 (.st .tagT) false)]⟩
noncomputable def c30se487r4 : Cut SN := ⟨[(1, .dat (.sl .str)), (3, .bp 3 0), (5, .bp 5 0), (6, .bp 6 0), (8, .dat (.int .i64)), (28, .dat .bool)], [(3, .box none [.dat (.int .i64), .dat (.int .i64), .dat .str, .vh 3033, .vh 3034]), (5, .box none [.dat (.int .i64), .dat (.int .i64), .dat .str, .vh 3053, .vh 3054]), (6, .st .tagT), (3033, .vec 9 .str), (3034, .dvec 25 (.st .tagT) false), (3053, .vec 9 .str), (3054, .dvec 25 (.st .tagT) false)]⟩
noncomputable def c30se487r8 : Cut SN := ⟨[(1, .dat (.sl .str)), (3, .bp 3 0), (5, .bp 5 0), (6, .bp 6 0), (59, .dat .bool)], [(3, .box none [.dat (.int .i64), .dat (.int .i64), .dat .str, .vh 3033, .vh 3034]), (5, .box none [.dat (.int .i64), .dat (.int .i64), .dat .str, .vh 3053, .vh 3054]), (6, .st .tagT), (3033, .vec 9 .str), (3034, .dvec 25 (.st .tagT) false), (3053, .vec 9 .str), (3054, .dvec 25 (.st .tagT) false)]⟩
noncomputable def c30se487z : Cut SN := ⟨[(6, .bp 6 0), (7, .dat .bool)], [(6, .box none [.dat (.int .i64), .dat (.int .i64), .dat .str, .vh 6063, .vh 6064]), (6063, .vec 9 .str), (6064, .dvec 25 (.st .tagT) false)]⟩
noncomputable def sh30se487 : Shape vw := { rcut := c30se487z }
noncomputable def sig30se487 : Sig vw := { params := [.ag [.inl (.int .i64), .inl (.int .i64), .inl .str, .inr 100000, .inr 100001], .dat (.sl .str), .ag [.inl (.int .i64), .inl (.int .i64), .inl .str, .inr 100002, .inr 100003]], objs := [(100000, .vec 9 .str), (100001, .dvec 25 (.st .tagT) false), (100002, .vec 9 .str), (100003, .dvec 25 (.st .tagT) false)], rcut := c30se487z, rvars := [.cell 6 25, .tmp 7], keep := [6063, 6064] }
noncomputable def n_30se487 (v : Int × Int × ByteArray × (List ByteArray) × Int × Int × ByteArray × (List ByteArray) × (List Tag) × (List ByteArray) × (List Tag) × Unit) : Option (Bool × Int × Int × ByteArray × (List ByteArray) × (List Tag) × Unit) :=
 if ((↑v.2.2.2.1.length : Int) == (0 : Int)) = true then
  some ((true, v.2.2.2.2.1, v.2.2.2.2.2.1, v.2.2.2.2.2.2.1, v.2.2.2.2.2.2.2.2.2.1, v.2.2.2.2.2.2.2.2.2.2.1, ()))
 else v.2.2.2.1[Int.toNat (0 : Int)]? >>= fun x1 =>
 n_39 (Tag.mk v.1 v.2.1 v.2.2.1 v.2.2.2.2.2.2.2.1 v.2.2.2.2.2.2.2.2.1, x1, ()) >>= fun x2 =>
 (if decide (x2.1 ≥ (0 : Int)) = true then
    some ((v.2.2.2.1, x2.1, decide (x2.1 < (↑v.2.2.2.2.2.2.2.2.1.length : Int)), v.1, v.2.1, v.2.2.1, v.2.2.2.2.1, v.2.2.2.2.2.1, v.2.2.2.2.2.2.1, Tag.mk (0 : Int) (0 : Int) (ByteArray.mk #[]) [] [], v.2.2.2.2.2.2.2.1, v.2.2.2.2.2.2.2.2.1, v.2.2.2.2.2.2.2.2.2.1, v.2.2.2.2.2.2.2.2.2.2.1, ()))
   else some ((v.2.2.2.1, x2.1, false, v.1, v.2.1, v.2.2.1, v.2.2.2.2.1, v.2.2.2.2.2.1, v.2.2.2.2.2.2.1, Tag.mk (0 : Int) (0 : Int) (ByteArray.mk #[]) [] [], v.2.2.2.2.2.2.2.1, v.2.2.2.2.2.2.2.2.1, v.2.2.2.2.2.2.2.2.2.1, v.2.2.2.2.2.2.2.2.2.2.1, ()))) >>= fun x3 =>
 if x3.2.2.1 = true then
  if (0 : Int) ≤ x3.2.1 ∧ x3.2.1 < (↑x3.2.2.2.2.2.2.2.2.2.2.2.1.length : Int) then
   x3.2.2.2.2.2.2.2.2.2.2.2.1[x3.2.1.toNat]? >>= fun x4 =>
   if (0 : Int) ≤ (1 : Int) ∧ (1 : Int) ≤ (↑x3.1.length : Int) ∧ (↑x3.1.length : Int) ≤ (↑x3.1.length : Int) then
    n_30se487 (x4.kind, x4.n, x4.text, List.drop (Int.toNat (1 : Int)) (List.take (↑x3.1.length : Int).toNat x3.1), x3.2.2.2.2.2.2.1, x3.2.2.2.2.2.2.2.1, x3.2.2.2.2.2.2.2.2.1, x4.names, x4.parts, x3.2.2.2.2.2.2.2.2.2.2.2.2.1, x3.2.2.2.2.2.2.2.2.2.2.2.2.2.1, ()) >>= fun x5 =>
    if (0 : Int) ≤ x3.2.1 ∧ x3.2.1 < (↑((List.map some x3.2.2.2.2.2.2.2.2.2.2.2.1).set x3.2.1.toNat none).length : Int) then
     ((List.map some x3.2.2.2.2.2.2.2.2.2.2.2.1).set x3.2.1.toNat none)[x3.2.1.toNat]? >>= fun x6 =>
     allS (((List.map some x3.2.2.2.2.2.2.2.2.2.2.2.1).set x3.2.1.toNat none).set x3.2.1.toNat (some (Tag.mk x5.2.1 x5.2.2.1 x5.2.2.2.1 x5.2.2.2.2.1 x5.2.2.2.2.2.1))) >>= fun x7 =>
     some ((x5.1, x3.2.2.2.1, x3.2.2.2.2.1, x3.2.2.2.2.2.1, x3.2.2.2.2.2.2.2.2.2.2.1, x7, ()))
    else none
   else none
  else none
 else (if decide ((↑x3.1.length : Int) > (1 : Int)) = true then
   some ((x3.1, true, x3.2.2.2.1, x3.2.2.2.2.1, x3.2.2.2.2.2.1, x3.2.2.2.2.2.2.1, x3.2.2.2.2.2.2.2.1, x3.2.2.2.2.2.2.2.2.1, x3.2.2.2.2.2.2.2.2.2.1, x3.2.2.2.2.2.2.2.2.2.2.1, x3.2.2.2.2.2.2.2.2.2.2.2.1, x3.2.2.2.2.2.2.2.2.2.2.2.2.1, x3.2.2.2.2.2.2.2.2.2.2.2.2.2.1, ()))
  else if decide (x3.2.1 < (0 : Int)) = true then
   some ((x3.1, x3.2.2.2.1 != (6 : Int), x3.2.2.2.1, x3.2.2.2.2.1, x3.2.2.2.2.2.1, x3.2.2.2.2.2.2.1, x3.2.2.2.2.2.2.2.1, x3.2.2.2.2.2.2.2.2.1, x3.2.2.2.2.2.2.2.2.2.1, x3.2.2.2.2.2.2.2.2.2.2.1, x3.2.2.2.2.2.2.2.2.2.2.2.1, x3.2.2.2.2.2.2.2.2.2.2.2.2.1, x3.2.2.2.2.2.2.2.2.2.2.2.2.2.1, ()))
  else some ((x3.1, false, x3.2.2.2.1, x3.2.2.2.2.1, x3.2.2.2.2.2.1, x3.2.2.2.2.2.2.1, x3.2.2.2.2.2.2.2.1, x3.2.2.2.2.2.2.2.2.1, x3.2.2.2.2.2.2.2.2.2.1, x3.2.2.2.2.2.2.2.2.2.2.1, x3.2.2.2.2.2.2.2.2.2.2.2.1, x3.2.2.2.2.2.2.2.2.2.2.2.2.1, x3.2.2.2.2.2.2.2.2.2.2.2.2.2.1, ()))) >>= fun x4 =>
 if x4.2.1 = true then
  some ((false, x4.2.2.1, x4.2.2.2.1, x4.2.2.2.2.1, x4.2.2.2.2.2.2.2.2.2.1, x4.2.2.2.2.2.2.2.2.2.2.1, ()))
 else (if (x4.2.2.1 == (6 : Int)) = true then
   x4.1[Int.toNat (0 : Int)]? >>= fun x5 =>
   if x4.2.2.2.2.2.2.2.2.2.1.length + [x5].length ≤ (4294967296 : Nat) then
    some ((x4.2.2.1, x4.2.2.2.1, x4.2.2.2.2.1, x4.2.2.2.2.2.1, x4.2.2.2.2.2.2.1, x4.2.2.2.2.2.2.2.1, x4.2.2.2.2.2.2.2.2.1, x4.2.2.2.2.2.2.2.2.2.1 ++ [x5], x4.2.2.2.2.2.2.2.2.2.2.1, x4.2.2.2.2.2.2.2.2.2.2.2.1, x4.2.2.2.2.2.2.2.2.2.2.2.2.1, ()))
   else none
  else some ((x4.2.2.1, x4.2.2.2.1, x4.2.2.2.2.1, x4.2.2.2.2.2.1, x4.2.2.2.2.2.2.1, x4.2.2.2.2.2.2.2.1, x4.2.2.2.2.2.2.2.2.1, x4.2.2.2.2.2.2.2.2.2.1, x4.2.2.2.2.2.2.2.2.2.2.1, x4.2.2.2.2.2.2.2.2.2.2.2.1, x4.2.2.2.2.2.2.2.2.2.2.2.2.1, ()))) >>= fun x5 =>
 if x5.2.2.2.2.2.2.2.2.1.length + [Tag.mk x5.2.2.2.1 x5.2.2.2.2.1 x5.2.2.2.2.2.1 x5.2.2.2.2.2.2.2.2.2.1 x5.2.2.2.2.2.2.2.2.2.2.1].length ≤ (4294967296 : Nat) then
  some ((true, x5.1, x5.2.1, x5.2.2.1, x5.2.2.2.2.2.2.2.1, x5.2.2.2.2.2.2.2.2.1 ++ [Tag.mk x5.2.2.2.1 x5.2.2.2.2.1 x5.2.2.2.2.2.1 x5.2.2.2.2.2.2.2.2.2.1 x5.2.2.2.2.2.2.2.2.2.2.1], ()))
 else none
 partial_fixpoint
noncomputable def call30se487 (n_30se487 : Int × Int × ByteArray × (List ByteArray) × Int × Int × ByteArray × (List ByteArray) × (List Tag) × (List ByteArray) × (List Tag) × Unit → Option (Bool × Int × Int × ByteArray × (List ByteArray) × (List Tag) × Unit)) : Caller vw := fun A fid args S k => match fid with | 30 => callObj prog sig30se487 n_30se487 A args S k | 39 => callPure prog sig39 n_39 A args S k | _ => none
noncomputable def x30se487 (n_30se487 : Int × Int × ByteArray × (List ByteArray) × Int × Int × ByteArray × (List ByteArray) × (List Tag) × (List ByteArray) × (List Tag) × Unit → Option (Bool × Int × Int × ByteArray × (List ByteArray) × (List Tag) × Unit)) : Xc vw := { P := prog, n := 79, call := call30se487 n_30se487, pre := fun k => match k with | 1000075 => true | 2000030 => true | _ => false, sh := sh30se487, joins := fun k => match k with | 12 => some (c30se487j12, [.norm]) | _ => none, regs := fun k => match k with | 4 => some c30se487r4 | 8 => some c30se487r8 | _ => none }
abbrev mn_30se487 (v : Int × Int × ByteArray × (List ByteArray) × Int × Int × ByteArray × (List ByteArray) × (List Tag) × (List ByteArray) × (List Tag) × Unit) (r : Bool × Int × Int × ByteArray × (List ByteArray) × (List Tag) × Unit) : Prop := (fun v r => ∀ x, resV prog sig30se487 r = some x → FnOk prog 30 (encL vw (startS sig30se487 v).len (startOs sig30se487 v).1) (encOs (startS sig30se487 v).len (startS sig30se487 v).own) (encV vw (conc vw sig30se487.rcut r).len x) (encOs (conc vw sig30se487.rcut r).len (kept sig30se487 r))) v r
theorem cn_30se487 (f0 : Int × Int × ByteArray × (List ByteArray) × Int × Int × ByteArray × (List ByteArray) × (List Tag) × (List ByteArray) × (List Tag) × Unit → Option (Bool × Int × Int × ByteArray × (List ByteArray) × (List Tag) × Unit)) (h0 : ∀ v r, f0 v = some r → mn_30se487 v r) : CallerOk prog (x30se487 f0).call := (by
    intro A fid args S dst k r h
    unfold x30se487 call30se487 at h
    simp only at h
    split at h
    ·exact callObj_ok ((fun v r x h hx => h0 v r h x hx)) h
    ·exact callPure_ok (n_39_ok) rfl rfl h
    ·cases h)
theorem sn_30se487 (f0 : Int × Int × ByteArray × (List ByteArray) × Int × Int × ByteArray × (List ByteArray) × (List Tag) × (List ByteArray) × (List Tag) × Unit → Option (Bool × Int × Int × ByteArray × (List ByteArray) × (List Tag) × Unit)) (h0 : ∀ v r, f0 v = some r → mn_30se487 v r) (v : Int × Int × ByteArray × (List ByteArray) × Int × Int × ByteArray × (List ByteArray) × (List Tag) × (List ByteArray) × (List Tag) × Unit) (r : Bool × Int × Int × ByteArray × (List ByteArray) × (List Tag) × Unit) (h : exF (x30se487 f0) sig30se487 rfl (bodyOf Tryz.f30) v = some r) : mn_30se487 v r := fun x hx => fn_ok (X := x30se487 f0) (sig := sig30se487) rfl Tryz.func30 (c := bodyOf Tryz.f30) (by kernel_rfl) Tryz.ntmps30 (by kernel_rfl) (by kernel_rfl) rfl Ty.mixed (cn_30se487 f0 h0) rfl (fun C hP hN => (lok_all (X := x30se487 f0) (c := (bodyOf Tryz.f30)) (kcast (by kernel_rfl : True = AllB (LoopsP C (x30se487 f0)) (loopsIn (bodyOf Tryz.f30))) trivial))) h x hx
theorem n_30se487_ok : SigOk prog 30 sig30se487 n_30se487 := fun v r x h hx => (n_30se487.partial_correctness (motive := mn_30se487) (fun f0 h0 v r h => sn_30se487 f0 h0 v r (kcast (by kernel_rfl) h))) v r h x hx
noncomputable def c61s434cz : Cut SN := ⟨[(6, .vh 2006)], [(2006, .vec 9 .str)]⟩
noncomputable def sig61s434c : Sig vw := { params := [.vh 100000, .dat (.int .i64), .dat (.int .i64)], objs := [(100000, .vec 9 .str)], rcut := c61s434cz, rvars := [.tmp 6], keep := [2006] }
noncomputable def n_61s434c (v : Int × Int × (List ByteArray) × Unit) : Option ((List ByteArray) × Unit) :=
 if 0 ≤ v.1 ∧ v.2.1 = v.1 + 1 ∧ v.1.toNat < v.2.2.1.length then some (v.2.2.1.eraseIdx v.1.toNat, ()) else none
theorem n_61s434c_ok : SigOk prog 61 sig61s434c n_61s434c := fun v r x h hx => by
 obtain ⟨i, j, xs, u⟩ := v
 unfold n_61s434c at h
 split at h
 ·rename_i hc
  obtain ⟨h0, h1, h2⟩ := hc
  simp only at h0 h1 h2
  obtain ⟨k, rfl⟩ : ∃ k : Nat, i = k := ⟨i.toNat, (Int.toNat_of_nonneg h0).symm⟩
  have hj : j = ((k + 1 : Nat) : Int) := h1
  subst hj
  cases h; cases hx
  exact kcast (by kernel_rfl) (delTV (V := vw) (e := .str) (a := 100000) (c := 2006) (fun _ => rfl) (k := k) (xs := xs) Tryz.rawDel61 (by kernel_rfl) (by decide) h2)
 ·cases h
noncomputable def c62s58edz : Cut SN := ⟨[(6, .vh 2006)], [(2006, .dvec 25 (.st .tagT) false)]⟩
noncomputable def sig62s58ed : Sig vw := { params := [.vh 100000, .dat (.int .i64), .dat (.int .i64)], objs := [(100000, .dvec 25 (.st .tagT) false)], rcut := c62s58edz, rvars := [.tmp 6], keep := [2006] }
noncomputable def n_62s58ed (v : Int × Int × (List Tag) × Unit) : Option ((List Tag) × Unit) :=
 if 0 ≤ v.1 ∧ v.2.1 = v.1 + 1 ∧ v.1.toNat < v.2.2.1.length then some (v.2.2.1.eraseIdx v.1.toNat, ()) else none
theorem n_62s58ed_ok : SigOk prog 62 sig62s58ed n_62s58ed := fun v r x h hx => by
 obtain ⟨i, j, xs, u⟩ := v
 unfold n_62s58ed at h
 split at h
 ·rename_i hc
  obtain ⟨h0, h1, h2⟩ := hc
  simp only at h0 h1 h2
  obtain ⟨k, rfl⟩ : ∃ k : Nat, i = k := ⟨i.toNat, (Int.toNat_of_nonneg h0).symm⟩
  have hj : j = ((k + 1 : Nat) : Int) := h1
  subst hj
  cases h; cases hx
  exact kcast (by kernel_rfl) (delT (V := vw) (e := (.st .tagT)) (a := 100000) (c := 2006) (k := k) (xs := xs) Tryz.rawDel62 (by kernel_rfl) (by decide) h2)
 ·cases h
noncomputable def c40sf890j3 : Cut SN := ⟨[(1, .dat (.int .i64)), (2, .bp 2 0), (4, .bp 4 0)], [(2, .box none [.dat (.int .i64), .dat (.int .i64), .dat .str, .vh 3023, .vh 3024]), (4, .st .tagT), (3023, .vec 9 .str), (3024, .dvec 25 (.st .tagT) false)]⟩
noncomputable def c40sf890z : Cut SN := ⟨[(4, .bp 4 0)], [(4, .box none [.dat (.int .i64), .dat (.int .i64), .dat .str, .vh 6043, .vh 6044]), (6043, .vec 9 .str), (6044, .dvec 25 (.st .tagT) false)]⟩
noncomputable def sh40sf890 : Shape vw := { rcut := c40sf890z }
noncomputable def sig40sf890 : Sig vw := { params := [.ag [.inl (.int .i64), .inl (.int .i64), .inl .str, .inr 100000, .inr 100001], .dat (.int .i64)], objs := [(100000, .vec 9 .str), (100001, .dvec 25 (.st .tagT) false)], rcut := c40sf890z, rvars := [.cell 4 25], keep := [6043, 6044] }
noncomputable def n_40sf890 (v : Int × Int × ByteArray × Int × (List ByteArray) × (List Tag) × Unit) : Option (Int × Int × ByteArray × (List ByteArray) × (List Tag) × Unit) :=
 (if (v.1 == (6 : Int)) = true then
    n_61s434c (v.2.2.2.1, i64.wrap (v.2.2.2.1 + (1 : Int)), v.2.2.2.2.1, ()) >>= fun x1 =>
    some ((v.2.2.2.1, v.1, v.2.1, v.2.2.1, Tag.mk (0 : Int) (0 : Int) (ByteArray.mk #[]) [] [], x1.1, v.2.2.2.2.2.1, ()))
   else some ((v.2.2.2.1, v.1, v.2.1, v.2.2.1, Tag.mk (0 : Int) (0 : Int) (ByteArray.mk #[]) [] [], v.2.2.2.2.1, v.2.2.2.2.2.1, ()))) >>= fun x1 =>
 n_62s58ed (x1.1, i64.wrap (x1.1 + (1 : Int)), x1.2.2.2.2.2.2.1, ()) >>= fun x2 =>
 some ((x1.2.1, x1.2.2.1, x1.2.2.2.1, x1.2.2.2.2.2.1, x2.1, ()))
noncomputable def call40sf890 : Caller vw := fun A fid args S k => match fid with | 61 => callObj prog sig61s434c n_61s434c A args S k | 62 => callObj prog sig62s58ed n_62s58ed A args S k | _ => none
noncomputable def x40sf890 : Xc vw := { P := prog, n := 23, call := call40sf890, sh := sh40sf890, joins := fun k => match k with | 3 => some (c40sf890j3, [.norm]) | _ => none }
theorem call40sf890_ok : CallerOk prog call40sf890 := fun A fid args S dst k r h => by
 unfold call40sf890 at h
 split at h
 ·exact callObj_ok (n_61s434c_ok) h
 ·exact callObj_ok (n_62s58ed_ok) h
 ·cases h
theorem n_40sf890_ok : SigOk prog 40 sig40sf890 n_40sf890 := fun v r x h hx =>
 fn_ok (X := x40sf890) (sig := sig40sf890) rfl Tryz.func40 (c := bodyOf Tryz.f40) (by kernel_rfl) Tryz.ntmps40 (by kernel_rfl) (by kernel_rfl) rfl Ty.mixed call40sf890_ok rfl (fun C hP hN => (lok_all (kcast (by kernel_rfl) trivial))) (kcast (by kernel_rfl) h) x hx
noncomputable def c16r11 : Cut SN := ⟨[(1, .dat (.sl .str)), (2, .bp 2 0), (4, .bp 4 0), (8, .dat (.int .i64)), (9, .bp 9 0), (11, .dat (.int .i64)), (52, .dat .bool)], [(2, .st .tagT), (4, .st .tagT), (9, .st .tagT)]⟩
noncomputable def sh16 : Shape vw := { rcut := c13z }
noncomputable def sig16 : Sig vw := { params := [.dat (.st .tagT), .dat (.sl .str)], rcut := c13z, rvars := [.cell 4 25, .tmp 5, .tmp 6] }
noncomputable def n_16 (v : Tag × (List ByteArray) × Unit) : Option (Bool × Int × Tag × Unit) :=
 n_29 (v.1, ()) >>= fun x1 =>
 if (x1.1 != (0 : Int)) = true then
  some ((false, x1.1, Tag.mk (0 : Int) (0 : Int) (ByteArray.mk #[]) [] [], ()))
 else if ((↑v.2.1.length : Int) == (0 : Int)) = true then
  some ((false, (1 : Int), Tag.mk (0 : Int) (0 : Int) (ByteArray.mk #[]) [] [], ()))
 else if (0 : Int) ≤ (0 : Int) ∧ (0 : Int) ≤ i64.wrap ((↑v.2.1.length : Int) - (1 : Int)) ∧ i64.wrap ((↑v.2.1.length : Int) - (1 : Int)) ≤ (↑v.2.1.length : Int) then
  n_36 (v.1, List.take (i64.wrap ((↑v.2.1.length : Int) - (1 : Int))).toNat v.2.1, ()) >>= fun x2 =>
  if (!x2.1) = true then
   some ((false, (0 : Int), Tag.mk (0 : Int) (0 : Int) (ByteArray.mk #[]) [] [], ()))
  else if (0 : Int) ≤ i64.wrap ((↑v.2.1.length : Int) - (1 : Int)) then
   v.2.1[(i64.wrap ((↑v.2.1.length : Int) - (1 : Int))).toNat]? >>= fun x3 =>
   n_39 (x2.2.1, x3, ()) >>= fun x4 =>
   (if decide (x4.1 < (0 : Int)) = true then
      some ((v.2.1, i64.wrap ((↑v.2.1.length : Int) - (1 : Int)), x4.1, true, v.1, Tag.mk (0 : Int) (0 : Int) (ByteArray.mk #[]) [] [], x2.2.1, ()))
     else some ((v.2.1, i64.wrap ((↑v.2.1.length : Int) - (1 : Int)), x4.1, decide (x4.1 ≥ (↑x2.2.1.parts.length : Int)), v.1, Tag.mk (0 : Int) (0 : Int) (ByteArray.mk #[]) [] [], x2.2.1, ()))) >>= fun x5 =>
   if x5.2.2.2.1 = true then
    some ((false, (0 : Int), Tag.mk (0 : Int) (0 : Int) (ByteArray.mk #[]) [] [], ()))
   else n_31s06c9 (x5.2.2.2.2.1, ()) >>= fun x6 =>
   if (0 : Int) ≤ (0 : Int) ∧ (0 : Int) ≤ x5.2.1 ∧ x5.2.1 ≤ (↑x5.1.length : Int) then
    n_31s06c9 (x5.2.2.2.2.2.2.1, ()) >>= fun x7 =>
    n_40sf890 (x7.1, x7.2.1, x7.2.2.1, x5.2.2.1, x7.2.2.2.1, x7.2.2.2.2.1, ()) >>= fun x8 =>
    n_30se487 (x6.1, x6.2.1, x6.2.2.1, List.take x5.2.1.toNat x5.1, x8.1, x8.2.1, x8.2.2.1, x6.2.2.2.1, x6.2.2.2.2.1, x8.2.2.2.1, x8.2.2.2.2.1, ()) >>= fun x9 =>
    some ((true, (0 : Int), Tag.mk x9.2.1 x9.2.2.1 x9.2.2.2.1 x9.2.2.2.2.1 x9.2.2.2.2.2.1, ()))
   else none
  else none
 else none
noncomputable def call16 : Caller vw := fun A fid args S k => match fid with | 29 => callPure prog sig29 n_29 A args S k | 30 => callObj prog sig30se487 n_30se487 A args S k | 31 => callObj prog sig31s06c9 n_31s06c9 A args S k | 36 => callPure prog sig36 n_36 A args S k | 39 => callPure prog sig39 n_39 A args S k | 40 => callObj prog sig40sf890 n_40sf890 A args S k | _ => none
noncomputable def x16 : Xc vw := { P := prog, n := 68, call := call16, pre := fun k => match k with | 2000030 => true | 2000040 => true | _ => false, sh := sh16, regs := fun k => match k with | 11 => some c16r11 | _ => none }
theorem call16_ok : CallerOk prog call16 := fun A fid args S dst k r h => by
 unfold call16 at h
 split at h
 ·exact callPure_ok (n_29_ok) rfl rfl h
 ·exact callObj_ok (n_30se487_ok) h
 ·exact callObj_ok (n_31s06c9_ok) h
 ·exact callPure_ok (n_36_ok) rfl rfl h
 ·exact callPure_ok (n_39_ok) rfl rfl h
 ·exact callObj_ok (n_40sf890_ok) h
 ·cases h
theorem n_16_ok : SigOk prog 16 sig16 n_16 := fun v r x h hx =>
 fn_ok (X := x16) (sig := sig16) rfl Tryz.func16 (c := bodyOf Tryz.f16) (by kernel_rfl) Tryz.ntmps16 (by kernel_rfl) (by kernel_rfl) rfl Ty.mixed call16_ok rfl (fun C hP hN => (lok_all (kcast (by kernel_rfl) trivial))) (kcast (by kernel_rfl) h) x hx
noncomputable def c27l3 : Cut SN := ⟨[(1, .bp 1 0), (5, .dat (.int .i64)), (6, .dat (.int .i64)), (7, .dat (.int .i64)), (8, .dat (.int .i64))], [(1, .st .tagT)]⟩
noncomputable def c27l7 : Cut SN := ⟨[(1, .bp 1 0), (5, .dat (.int .i64)), (6, .dat (.int .i64)), (7, .dat (.int .i64)), (9, .dat (.int .i64))], [(1, .st .tagT)]⟩
noncomputable def c27e0 : Cut SN := ⟨[(1, .bp 1 0), (5, .dat (.int .i64)), (6, .dat (.int .i64)), (7, .dat (.int .i64))], [(1, .st .tagT)]⟩
noncomputable def c27e2 : Cut SN := ⟨[(5, .dat (.int .i64)), (6, .dat (.int .i64)), (7, .dat (.int .i64))], []⟩
noncomputable def c27z : Cut SN := ⟨[(2, .dat (.int .i64)), (3, .dat (.int .i64)), (4, .dat (.int .i64))], []⟩
noncomputable def sh27 : Shape vw := { exits := fun id => match id with | 0 => c27e0 | 2 => c27e2 | _ => ⟨[], []⟩, rcut := c27z }
noncomputable def sig27 : Sig vw := { params := [.dat (.st .tagT)], rcut := c27z, rvars := [.tmp 2, .tmp 3, .tmp 4] }
noncomputable def n_27l3 (v : Int × Int × Int × Int × Tag × Unit) : Option ((Int × Int × Int × Tag × Unit)) :=
 if decide (v.2.2.2.1 < (↑v.2.2.2.2.1.names.length : Int)) = true then
  if (0 : Int) ≤ v.2.2.2.1 then
   v.2.2.2.2.1.names[v.2.2.2.1.toNat]? >>= fun x1 =>
   n_27l3 (v.1, v.2.1, i64.wrap (v.2.2.1 + (↑x1.size : Int)), i64.wrap (v.2.2.2.1 + (1 : Int)), v.2.2.2.2.1, ())
  else none
 else some ((v.1, v.2.1, v.2.2.1, v.2.2.2.2.1, ()))
 partial_fixpoint
mutual
noncomputable def n_27l7 (v : Int × Int × Int × Int × Tag × Unit) : Option ((Int × Int × Int × Unit)) :=
 if decide (v.2.2.2.1 < (↑v.2.2.2.2.1.parts.length : Int)) = true then
  if (0 : Int) ≤ v.2.2.2.1 then
   v.2.2.2.2.1.parts[v.2.2.2.1.toNat]? >>= fun x1 =>
   n_27 (x1, ()) >>= fun x2 =>
   n_27l7 (i64.wrap (v.1 + x2.1), max v.2.1 x2.2.1, i64.wrap (v.2.2.1 + x2.2.2.1), i64.wrap (v.2.2.2.1 + (1 : Int)), v.2.2.2.2.1, ())
  else none
 else some ((v.1, v.2.1, v.2.2.1, ()))
 partial_fixpoint
noncomputable def n_27 (v : Tag × Unit) : Option (Int × Int × Int × Unit) :=
 n_27l3 ((1 : Int), (0 : Int), (↑v.1.text.size : Int), (0 : Int), v.1, ()) >>= fun x1 =>
 n_27l7 (x1.1, x1.2.1, x1.2.2.1, (0 : Int), x1.2.2.2.1, ()) >>= fun x2 =>
 some ((x2.1, i64.wrap (x2.2.1 + (1 : Int)), x2.2.2.1, ()))
 partial_fixpoint
end
noncomputable def call27 (n_27l3 : Int × Int × Int × Int × Tag × Unit → Option ((Int × Int × Int × Tag × Unit))) (n_27l7 : Int × Int × Int × Int × Tag × Unit → Option ((Int × Int × Int × Unit))) (n_27 : Tag × Unit → Option (Int × Int × Int × Unit)) : Caller vw := fun A fid args S k => match fid with | 27 => callPure prog sig27 n_27 A args S k | _ => none
noncomputable def x27 (n_27l3 : Int × Int × Int × Int × Tag × Unit → Option ((Int × Int × Int × Tag × Unit))) (n_27l7 : Int × Int × Int × Int × Tag × Unit → Option ((Int × Int × Int × Unit))) (n_27 : Tag × Unit → Option (Int × Int × Int × Unit)) : Xc vw := { P := prog, n := 61, call := call27 n_27l3 n_27l7 n_27, sh := sh27, loops := fun k => match k with | 3 => some { cut := c27l3, alts := [.exit 0], F := n_27l3 } | 7 => some { cut := c27l7, alts := [.exit 2], F := n_27l7 } | _ => none }
abbrev mn_27l3 (v : Int × Int × Int × Int × Tag × Unit) (r : (Int × Int × Int × Tag × Unit)) : Prop := (fun v out => ∀ C : Ctx, C.P = prog → C.N = 61 → AWpL C (loopNo (bodyOf Tryz.f27) 0) (encS vw (conc vw c27l3 v)) (OutQ sh27 [.exit 0] out)) v r
theorem cn_27l3 (f0 : Int × Int × Int × Int × Tag × Unit → Option ((Int × Int × Int × Tag × Unit))) (h0 : ∀ v r, f0 v = some r → mn_27l3 v r) : CallerOk prog (x27 f0 (fun _ => none) (fun _ => none)).call := (by
    intro A fid args S dst k r h
    unfold x27 call27 at h
    simp only at h
    split at h
    ·exact callPure_ok ((fun v r x h hx => by cases h)) rfl rfl h
    ·cases h)
theorem sn_27l3 (f0 : Int × Int × Int × Int × Tag × Unit → Option ((Int × Int × Int × Tag × Unit))) (h0 : ∀ v r, f0 v = some r → mn_27l3 v r) (v : Int × Int × Int × Int × Tag × Unit) (r : (Int × Int × Int × Tag × Unit)) (h : exL (x27 f0 (fun _ => none) (fun _ => none)) (loopNo (bodyOf Tryz.f27) 0) c27l3 [.exit 0] f0 v = some r) : mn_27l3 v r := fun C hP hN => loop_step (X := x27 f0 (fun _ => none) (fun _ => none)) (b := (loopNo (bodyOf Tryz.f27) 0)) hP hN Ty.mixed (cn_27l3 f0 h0) (lok_all (X := x27 f0 (fun _ => none) (fun _ => none)) (c := (loopNo (bodyOf Tryz.f27) 0)) (kcast (by kernel_rfl : True = AllB (LoopsP C (x27 f0 (fun _ => none) (fun _ => none))) (loopsIn (loopNo (bodyOf Tryz.f27) 0))) trivial)) (cut := c27l3) (alts := [.exit 0]) (F := f0) (fun v out h => h0 v out h C hP hN) h
theorem n_27l3_pc : ∀ v out, n_27l3 v = some out → (fun v out => ∀ C : Ctx, C.P = prog → C.N = 61 → AWpL C (loopNo (bodyOf Tryz.f27) 0) (encS vw (conc vw c27l3 v)) (OutQ sh27 [.exit 0] out)) v out := (n_27l3.partial_correctness (motive := mn_27l3) (fun f0 h0 v r h => sn_27l3 f0 h0 v r (kcast (by kernel_rfl) h)))
abbrev mn_27l7 (v : Int × Int × Int × Int × Tag × Unit) (r : (Int × Int × Int × Unit)) : Prop := (fun v out => ∀ C : Ctx, C.P = prog → C.N = 61 → AWpL C (loopNo (bodyOf Tryz.f27) 1) (encS vw (conc vw c27l7 v)) (OutQ sh27 [.exit 2] out)) v r
abbrev mn_27 (v : Tag × Unit) (r : Int × Int × Int × Unit) : Prop := (fun v r => ∀ x, resV prog sig27 r = some x → FnOk prog 27 (encL vw (startS sig27 v).len (startOs sig27 v).1) (encOs (startS sig27 v).len (startS sig27 v).own) (encV vw (conc vw sig27.rcut r).len x) (encOs (conc vw sig27.rcut r).len (kept sig27 r))) v r
theorem cn_27l7 (f0 : Int × Int × Int × Int × Tag × Unit → Option ((Int × Int × Int × Unit))) (f1 : Tag × Unit → Option (Int × Int × Int × Unit)) (h0 : ∀ v r, f0 v = some r → mn_27l7 v r) (h1 : ∀ v r, f1 v = some r → mn_27 v r) : CallerOk prog (x27 (fun _ => none) f0 f1).call := (by
    intro A fid args S dst k r h
    unfold x27 call27 at h
    simp only at h
    split at h
    ·exact callPure_ok ((fun v r x h hx => h1 v r h x hx)) rfl rfl h
    ·cases h)
theorem sn_27l7 (f0 : Int × Int × Int × Int × Tag × Unit → Option ((Int × Int × Int × Unit))) (f1 : Tag × Unit → Option (Int × Int × Int × Unit)) (h0 : ∀ v r, f0 v = some r → mn_27l7 v r) (h1 : ∀ v r, f1 v = some r → mn_27 v r) (v : Int × Int × Int × Int × Tag × Unit) (r : (Int × Int × Int × Unit)) (h : exL (x27 (fun _ => none) f0 f1) (loopNo (bodyOf Tryz.f27) 1) c27l7 [.exit 2] f0 v = some r) : mn_27l7 v r := fun C hP hN => loop_step (X := x27 (fun _ => none) f0 f1) (b := (loopNo (bodyOf Tryz.f27) 1)) hP hN Ty.mixed (cn_27l7 f0 f1 h0 h1) (lok_all (X := x27 (fun _ => none) f0 f1) (c := (loopNo (bodyOf Tryz.f27) 1)) (kcast (by kernel_rfl : True = AllB (LoopsP C (x27 (fun _ => none) f0 f1)) (loopsIn (loopNo (bodyOf Tryz.f27) 1))) trivial)) (cut := c27l7) (alts := [.exit 2]) (F := f0) (fun v out h => h0 v out h C hP hN) h
theorem cn_27 (f0 : Int × Int × Int × Int × Tag × Unit → Option ((Int × Int × Int × Unit))) (h0 : ∀ v r, f0 v = some r → mn_27l7 v r) : CallerOk prog (x27 n_27l3 f0 (fun _ => none)).call := (by
    intro A fid args S dst k r h
    unfold x27 call27 at h
    simp only at h
    split at h
    ·exact callPure_ok ((fun v r x h hx => by cases h)) rfl rfl h
    ·cases h)
theorem sn_27 (f0 : Int × Int × Int × Int × Tag × Unit → Option ((Int × Int × Int × Unit))) (h0 : ∀ v r, f0 v = some r → mn_27l7 v r) (v : Tag × Unit) (r : Int × Int × Int × Unit) (h : exF (x27 n_27l3 f0 (fun _ => none)) sig27 rfl (bodyOf Tryz.f27) v = some r) : mn_27 v r := fun x hx => fn_ok (X := x27 n_27l3 f0 (fun _ => none)) (sig := sig27) rfl Tryz.func27 (c := bodyOf Tryz.f27) (by kernel_rfl) Tryz.ntmps27 (by kernel_rfl) (by kernel_rfl) rfl Ty.mixed (cn_27 f0 h0) rfl (fun C hP hN => (lok_all (X := x27 n_27l3 f0 (fun _ => none)) (c := (bodyOf Tryz.f27)) (kcast (by kernel_rfl : AllB (LoopsP C (x27 n_27l3 f0 (fun _ => none))) [(loopNo (bodyOf Tryz.f27) 0), (loopNo (bodyOf Tryz.f27) 1)] = AllB (LoopsP C (x27 n_27l3 f0 (fun _ => none))) (loopsIn (bodyOf Tryz.f27))) ⟨loop_at (X := x27 n_27l3 f0 (fun _ => none)) (b := (loopNo (bodyOf Tryz.f27) 0)) (by kernel_rfl) (show LoopOk C (loopNo (bodyOf Tryz.f27) 0) (sh := sh27) { cut := c27l3, alts := [.exit 0], F := n_27l3 } from fun v out h => n_27l3_pc v out h C hP hN), loop_at (X := x27 n_27l3 f0 (fun _ => none)) (b := (loopNo (bodyOf Tryz.f27) 1)) (by kernel_rfl) (show LoopOk C (loopNo (bodyOf Tryz.f27) 1) (sh := sh27) { cut := c27l7, alts := [.exit 2], F := f0 } from fun v out h => h0 v out h C hP hN), trivial⟩))) h x hx
theorem n_27l7_all : (∀ v r, n_27l7 v = some r → mn_27l7 v r) ∧ (∀ v r, n_27 v = some r → mn_27 v r) := by
 refine n_27l7.mutual_partial_correctness
  (motive_1 := mn_27l7)
  (motive_2 := mn_27)
  ?_ ?_
 ·exact (fun f0 f1 h0 h1 v r h => sn_27l7 f0 f1 h0 h1 v r (kcast (by kernel_rfl) h))
 ·exact (fun f0 h0 v r h => sn_27 f0 h0 v r (kcast (by kernel_rfl) h))
theorem n_27_ok : SigOk prog 27 sig27 n_27 := fun v r x h hx => n_27l7_all.2 v r h x hx
noncomputable def c54l6 : Cut SN := ⟨[(1, .bp 1 0), (3, .dat (.int .i64))], [(1, .st .tagT)]⟩
noncomputable def c54l11 : Cut SN := ⟨[(1, .bp 1 0), (4, .dat (.int .i64))], [(1, .st .tagT)]⟩
noncomputable def c54r1 : Cut SN := ⟨[(1, .bp 1 0), (54, .dat .bool)], [(1, .st .tagT)]⟩
noncomputable def c54r3 : Cut SN := ⟨[(1, .bp 1 0), (82, .dat .bool)], [(1, .st .tagT)]⟩
noncomputable def sh54 : Shape vw := { exits := fun id => match id with | 0 => c52e0 | 2 => c103c75e0 | _ => ⟨[], []⟩, rcut := c76z }
noncomputable def sig54 : Sig vw := { params := [.dat (.st .tagT)], rcut := c76z, rvars := [.tmp 2] }
noncomputable def n_54l6 (v : Int × Tag × Unit) : Option (((Bool × Unit) ⊕ (Tag × Unit))) :=
 if decide (v.1 < (↑v.2.1.names.length : Int)) = true then
  if (0 : Int) ≤ v.1 then
   v.2.1.names[v.1.toNat]? >>= fun x1 =>
   n_76 (x1, ()) >>= fun x2 =>
   if (!x2.1) = true then
    some (Sum.inl (false, ()))
   else n_54l6 (i64.wrap (v.1 + (1 : Int)), v.2.1, ())
  else none
 else some (Sum.inr (v.2.1, ()))
 partial_fixpoint
mutual
noncomputable def n_54l11 (v : Int × Tag × Unit) : Option (((Bool × Unit) ⊕ (Unit))) :=
 if decide (v.1 < (↑v.2.1.parts.length : Int)) = true then
  if (0 : Int) ≤ v.1 then
   v.2.1.parts[v.1.toNat]? >>= fun x1 =>
   n_54 (x1, ()) >>= fun x2 =>
   if (!x2.1) = true then
    some (Sum.inl (false, ()))
   else n_54l11 (i64.wrap (v.1 + (1 : Int)), v.2.1, ())
  else none
 else some (Sum.inr ())
 partial_fixpoint
noncomputable def n_54 (v : Tag × Unit) : Option (Bool × Unit) :=
 (if decide (v.1.kind < (0 : Int)) = true then
    some ((true, v.1, ()))
   else if decide (v.1.kind > (6 : Int)) = true then
    some ((true, v.1, ()))
   else if (v.1.kind != (3 : Int)) = true then
    if (v.1.n != (0 : Int)) = true then
     some ((true, v.1, ()))
    else if (v.1.kind != (4 : Int)) = true then
     if (!v.1.text.toList == (ByteArray.mk #[]).toList) = true then
      some ((true, v.1, ()))
     else if (v.1.kind != (6 : Int)) = true then
      if decide ((↑v.1.names.length : Int) > (0 : Int)) = true then
       some ((true, v.1, ()))
      else if decide (v.1.kind < (5 : Int)) = true then
       some ((decide ((↑v.1.parts.length : Int) > (0 : Int)), v.1, ()))
      else some ((false, v.1, ()))
     else if decide (v.1.kind < (5 : Int)) = true then
      some ((decide ((↑v.1.parts.length : Int) > (0 : Int)), v.1, ()))
     else some ((false, v.1, ()))
    else if (v.1.kind != (6 : Int)) = true then
     if decide ((↑v.1.names.length : Int) > (0 : Int)) = true then
      some ((true, v.1, ()))
     else if decide (v.1.kind < (5 : Int)) = true then
      some ((decide ((↑v.1.parts.length : Int) > (0 : Int)), v.1, ()))
     else some ((false, v.1, ()))
    else if decide (v.1.kind < (5 : Int)) = true then
     some ((decide ((↑v.1.parts.length : Int) > (0 : Int)), v.1, ()))
    else some ((false, v.1, ()))
   else if (v.1.kind != (4 : Int)) = true then
    if (!v.1.text.toList == (ByteArray.mk #[]).toList) = true then
     some ((true, v.1, ()))
    else if (v.1.kind != (6 : Int)) = true then
     if decide ((↑v.1.names.length : Int) > (0 : Int)) = true then
      some ((true, v.1, ()))
     else if decide (v.1.kind < (5 : Int)) = true then
      some ((decide ((↑v.1.parts.length : Int) > (0 : Int)), v.1, ()))
     else some ((false, v.1, ()))
    else if decide (v.1.kind < (5 : Int)) = true then
     some ((decide ((↑v.1.parts.length : Int) > (0 : Int)), v.1, ()))
    else some ((false, v.1, ()))
   else if (v.1.kind != (6 : Int)) = true then
    if decide ((↑v.1.names.length : Int) > (0 : Int)) = true then
     some ((true, v.1, ()))
    else if decide (v.1.kind < (5 : Int)) = true then
     some ((decide ((↑v.1.parts.length : Int) > (0 : Int)), v.1, ()))
    else some ((false, v.1, ()))
   else if decide (v.1.kind < (5 : Int)) = true then
    some ((decide ((↑v.1.parts.length : Int) > (0 : Int)), v.1, ()))
   else some ((false, v.1, ()))) >>= fun x1 =>
 if x1.1 = true then
  some ((false, ()))
 else (if decide (x1.2.1.n < (-9007199254740992 : Int)) = true then
   some ((true, x1.2.1, ()))
  else if decide (x1.2.1.n > (9007199254740992 : Int)) = true then
   some ((true, x1.2.1, ()))
  else n_76 (x1.2.1.text, ()) >>= fun x2 =>
  if (!x2.1) = true then
   some ((true, x1.2.1, ()))
  else if (x1.2.1.kind == (6 : Int)) = true then
   some (((↑x1.2.1.names.length : Int) != (↑x1.2.1.parts.length : Int), x1.2.1, ()))
  else some ((false, x1.2.1, ()))) >>= fun x2 =>
 if x2.1 = true then
  some ((false, ()))
 else n_54l6 ((0 : Int), x2.2.1, ()) >>= fun x3 => match x3 with
  | .inl y3 => some y3
  | .inr y3 => n_54l11 ((0 : Int), y3.1, ()) >>= fun x4 => match x4 with
    | .inl y4 => some y4
    | .inr y4 => some ((true, ()))
 partial_fixpoint
end
noncomputable def call54 (n_54l6 : Int × Tag × Unit → Option (((Bool × Unit) ⊕ (Tag × Unit)))) (n_54l11 : Int × Tag × Unit → Option (((Bool × Unit) ⊕ (Unit)))) (n_54 : Tag × Unit → Option (Bool × Unit)) : Caller vw := fun A fid args S k => match fid with | 54 => callPure prog sig54 n_54 A args S k | 76 => callPure prog sig76 n_76 A args S k | _ => none
noncomputable def x54 (n_54l6 : Int × Tag × Unit → Option (((Bool × Unit) ⊕ (Tag × Unit)))) (n_54l11 : Int × Tag × Unit → Option (((Bool × Unit) ⊕ (Unit)))) (n_54 : Tag × Unit → Option (Bool × Unit)) : Xc vw := { P := prog, n := 111, call := call54 n_54l6 n_54l11 n_54, sh := sh54, regs := fun k => match k with | 1 => some c54r1 | 3 => some c54r3 | _ => none, loops := fun k => match k with | 6 => some { cut := c54l6, alts := [.ret, .exit 0], F := n_54l6 } | 11 => some { cut := c54l11, alts := [.ret, .exit 2], F := n_54l11 } | _ => none }
abbrev mn_54l6 (v : Int × Tag × Unit) (r : ((Bool × Unit) ⊕ (Tag × Unit))) : Prop := (fun v out => ∀ C : Ctx, C.P = prog → C.N = 111 → AWpL C (loopNo (bodyOf Tryz.f54) 0) (encS vw (conc vw c54l6 v)) (OutQ sh54 [.ret, .exit 0] out)) v r
theorem cn_54l6 (f0 : Int × Tag × Unit → Option (((Bool × Unit) ⊕ (Tag × Unit)))) (h0 : ∀ v r, f0 v = some r → mn_54l6 v r) : CallerOk prog (x54 f0 (fun _ => none) (fun _ => none)).call := (by
    intro A fid args S dst k r h
    unfold x54 call54 at h
    simp only at h
    split at h
    ·exact callPure_ok ((fun v r x h hx => by cases h)) rfl rfl h
    ·exact callPure_ok (n_76_ok) rfl rfl h
    ·cases h)
theorem sn_54l6 (f0 : Int × Tag × Unit → Option (((Bool × Unit) ⊕ (Tag × Unit)))) (h0 : ∀ v r, f0 v = some r → mn_54l6 v r) (v : Int × Tag × Unit) (r : ((Bool × Unit) ⊕ (Tag × Unit))) (h : exL (x54 f0 (fun _ => none) (fun _ => none)) (loopNo (bodyOf Tryz.f54) 0) c54l6 [.ret, .exit 0] f0 v = some r) : mn_54l6 v r := fun C hP hN => loop_step (X := x54 f0 (fun _ => none) (fun _ => none)) (b := (loopNo (bodyOf Tryz.f54) 0)) hP hN Ty.mixed (cn_54l6 f0 h0) (lok_all (X := x54 f0 (fun _ => none) (fun _ => none)) (c := (loopNo (bodyOf Tryz.f54) 0)) (kcast (by kernel_rfl : True = AllB (LoopsP C (x54 f0 (fun _ => none) (fun _ => none))) (loopsIn (loopNo (bodyOf Tryz.f54) 0))) trivial)) (cut := c54l6) (alts := [.ret, .exit 0]) (F := f0) (fun v out h => h0 v out h C hP hN) h
theorem n_54l6_pc : ∀ v out, n_54l6 v = some out → (fun v out => ∀ C : Ctx, C.P = prog → C.N = 111 → AWpL C (loopNo (bodyOf Tryz.f54) 0) (encS vw (conc vw c54l6 v)) (OutQ sh54 [.ret, .exit 0] out)) v out := (n_54l6.partial_correctness (motive := mn_54l6) (fun f0 h0 v r h => sn_54l6 f0 h0 v r (kcast (by kernel_rfl) h)))
abbrev mn_54l11 (v : Int × Tag × Unit) (r : ((Bool × Unit) ⊕ (Unit))) : Prop := (fun v out => ∀ C : Ctx, C.P = prog → C.N = 111 → AWpL C (loopNo (bodyOf Tryz.f54) 1) (encS vw (conc vw c54l11 v)) (OutQ sh54 [.ret, .exit 2] out)) v r
abbrev mn_54 (v : Tag × Unit) (r : Bool × Unit) : Prop := (fun v r => ∀ x, resV prog sig54 r = some x → FnOk prog 54 (encL vw (startS sig54 v).len (startOs sig54 v).1) (encOs (startS sig54 v).len (startS sig54 v).own) (encV vw (conc vw sig54.rcut r).len x) (encOs (conc vw sig54.rcut r).len (kept sig54 r))) v r
theorem cn_54l11 (f0 : Int × Tag × Unit → Option (((Bool × Unit) ⊕ (Unit)))) (f1 : Tag × Unit → Option (Bool × Unit)) (h0 : ∀ v r, f0 v = some r → mn_54l11 v r) (h1 : ∀ v r, f1 v = some r → mn_54 v r) : CallerOk prog (x54 (fun _ => none) f0 f1).call := (by
    intro A fid args S dst k r h
    unfold x54 call54 at h
    simp only at h
    split at h
    ·exact callPure_ok ((fun v r x h hx => h1 v r h x hx)) rfl rfl h
    ·exact callPure_ok (n_76_ok) rfl rfl h
    ·cases h)
theorem sn_54l11 (f0 : Int × Tag × Unit → Option (((Bool × Unit) ⊕ (Unit)))) (f1 : Tag × Unit → Option (Bool × Unit)) (h0 : ∀ v r, f0 v = some r → mn_54l11 v r) (h1 : ∀ v r, f1 v = some r → mn_54 v r) (v : Int × Tag × Unit) (r : ((Bool × Unit) ⊕ (Unit))) (h : exL (x54 (fun _ => none) f0 f1) (loopNo (bodyOf Tryz.f54) 1) c54l11 [.ret, .exit 2] f0 v = some r) : mn_54l11 v r := fun C hP hN => loop_step (X := x54 (fun _ => none) f0 f1) (b := (loopNo (bodyOf Tryz.f54) 1)) hP hN Ty.mixed (cn_54l11 f0 f1 h0 h1) (lok_all (X := x54 (fun _ => none) f0 f1) (c := (loopNo (bodyOf Tryz.f54) 1)) (kcast (by kernel_rfl : True = AllB (LoopsP C (x54 (fun _ => none) f0 f1)) (loopsIn (loopNo (bodyOf Tryz.f54) 1))) trivial)) (cut := c54l11) (alts := [.ret, .exit 2]) (F := f0) (fun v out h => h0 v out h C hP hN) h
theorem cn_54 (f0 : Int × Tag × Unit → Option (((Bool × Unit) ⊕ (Unit)))) (h0 : ∀ v r, f0 v = some r → mn_54l11 v r) : CallerOk prog (x54 n_54l6 f0 (fun _ => none)).call := (by
    intro A fid args S dst k r h
    unfold x54 call54 at h
    simp only at h
    split at h
    ·exact callPure_ok ((fun v r x h hx => by cases h)) rfl rfl h
    ·exact callPure_ok (n_76_ok) rfl rfl h
    ·cases h)
theorem sn_54 (f0 : Int × Tag × Unit → Option (((Bool × Unit) ⊕ (Unit)))) (h0 : ∀ v r, f0 v = some r → mn_54l11 v r) (v : Tag × Unit) (r : Bool × Unit) (h : exF (x54 n_54l6 f0 (fun _ => none)) sig54 rfl (bodyOf Tryz.f54) v = some r) : mn_54 v r := fun x hx => fn_ok (X := x54 n_54l6 f0 (fun _ => none)) (sig := sig54) rfl Tryz.func54 (c := bodyOf Tryz.f54) (by kernel_rfl) Tryz.ntmps54 (by kernel_rfl) (by kernel_rfl) rfl Ty.mixed (cn_54 f0 h0) rfl (fun C hP hN => (lok_all (X := x54 n_54l6 f0 (fun _ => none)) (c := (bodyOf Tryz.f54)) (kcast (by kernel_rfl : AllB (LoopsP C (x54 n_54l6 f0 (fun _ => none))) [(loopNo (bodyOf Tryz.f54) 0), (loopNo (bodyOf Tryz.f54) 1)] = AllB (LoopsP C (x54 n_54l6 f0 (fun _ => none))) (loopsIn (bodyOf Tryz.f54))) ⟨loop_at (X := x54 n_54l6 f0 (fun _ => none)) (b := (loopNo (bodyOf Tryz.f54) 0)) (by kernel_rfl) (show LoopOk C (loopNo (bodyOf Tryz.f54) 0) (sh := sh54) { cut := c54l6, alts := [.ret, .exit 0], F := n_54l6 } from fun v out h => n_54l6_pc v out h C hP hN), loop_at (X := x54 n_54l6 f0 (fun _ => none)) (b := (loopNo (bodyOf Tryz.f54) 1)) (by kernel_rfl) (show LoopOk C (loopNo (bodyOf Tryz.f54) 1) (sh := sh54) { cut := c54l11, alts := [.ret, .exit 2], F := f0 } from fun v out h => h0 v out h C hP hN), trivial⟩))) h x hx
theorem n_54l11_all : (∀ v r, n_54l11 v = some r → mn_54l11 v r) ∧ (∀ v r, n_54 v = some r → mn_54 v r) := by
 refine n_54l11.mutual_partial_correctness
  (motive_1 := mn_54l11)
  (motive_2 := mn_54)
  ?_ ?_
 ·exact (fun f0 f1 h0 h1 v r h => sn_54l11 f0 f1 h0 h1 v r (kcast (by kernel_rfl) h))
 ·exact (fun f0 h0 v r h => sn_54 f0 h0 v r (kcast (by kernel_rfl) h))
theorem n_54_ok : SigOk prog 54 sig54 n_54 := fun v r x h hx => n_54l11_all.2 v r h x hx
noncomputable def c55l5 : Cut SN := ⟨[(1, .bp 1 0), (3, .dat (.int .i64)), (4, .dat (.int .i64))], [(1, .st .tagT)]⟩
noncomputable def c55l10 : Cut SN := ⟨[(1, .bp 1 0), (5, .dat (.int .i64))], [(1, .st .tagT)]⟩
noncomputable def sh55 : Shape vw := { exits := fun id => match id with | 0 => c52e0 | 2 => c54l6 | 4 => c103c75e0 | _ => ⟨[], []⟩, rcut := c76z }
noncomputable def sig55 : Sig vw := { params := [.dat (.st .tagT)], rcut := c76z, rvars := [.tmp 2] }
noncomputable def n_55l5 (v : Int × Int × Tag × Unit) : Option (((Bool × Unit) ⊕ (Int × Tag × Unit))) :=
 if decide (v.2.1 < v.1) = true then
  if (0 : Int) ≤ v.1 then
   v.2.2.1.names[v.1.toNat]? >>= fun x1 =>
   if (0 : Int) ≤ v.2.1 then
    v.2.2.1.names[v.2.1.toNat]? >>= fun x2 =>
    if (x1.toList == x2.toList) = true then
     some (Sum.inl (true, ()))
    else n_55l5 (v.1, i64.wrap (v.2.1 + (1 : Int)), v.2.2.1, ())
   else none
  else none
 else some (Sum.inr (v.1, v.2.2.1, ()))
 partial_fixpoint
noncomputable def n_55l2 (v : Int × Tag × Unit) : Option (((Bool × Unit) ⊕ (Tag × Unit))) :=
 if decide (v.1 < (↑v.2.1.names.length : Int)) = true then
  n_55l5 (v.1, (0 : Int), v.2.1, ()) >>= fun x1 => match x1 with
   | .inl y1 => some (Sum.inl y1)
   | .inr y1 => n_55l2 (i64.wrap (y1.1 + (1 : Int)), y1.2.1, ())
 else some (Sum.inr (v.2.1, ()))
 partial_fixpoint
mutual
noncomputable def n_55l10 (v : Int × Tag × Unit) : Option (((Bool × Unit) ⊕ (Unit))) :=
 if decide (v.1 < (↑v.2.1.parts.length : Int)) = true then
  if (0 : Int) ≤ v.1 then
   v.2.1.parts[v.1.toNat]? >>= fun x1 =>
   n_55 (x1, ()) >>= fun x2 =>
   if x2.1 = true then
    some (Sum.inl (true, ()))
   else n_55l10 (i64.wrap (v.1 + (1 : Int)), v.2.1, ())
  else none
 else some (Sum.inr ())
 partial_fixpoint
noncomputable def n_55 (v : Tag × Unit) : Option (Bool × Unit) :=
 n_55l2 ((0 : Int), v.1, ()) >>= fun x1 => match x1 with
  | .inl y1 => some y1
  | .inr y1 => n_55l10 ((0 : Int), y1.1, ()) >>= fun x2 => match x2 with
    | .inl y2 => some y2
    | .inr y2 => some ((false, ()))
 partial_fixpoint
end
noncomputable def call55 (n_55l5 : Int × Int × Tag × Unit → Option (((Bool × Unit) ⊕ (Int × Tag × Unit)))) (n_55l2 : Int × Tag × Unit → Option (((Bool × Unit) ⊕ (Tag × Unit)))) (n_55l10 : Int × Tag × Unit → Option (((Bool × Unit) ⊕ (Unit)))) (n_55 : Tag × Unit → Option (Bool × Unit)) : Caller vw := fun A fid args S k => match fid with | 55 => callPure prog sig55 n_55 A args S k | _ => none
noncomputable def x55 (n_55l5 : Int × Int × Tag × Unit → Option (((Bool × Unit) ⊕ (Int × Tag × Unit)))) (n_55l2 : Int × Tag × Unit → Option (((Bool × Unit) ⊕ (Tag × Unit)))) (n_55l10 : Int × Tag × Unit → Option (((Bool × Unit) ⊕ (Unit)))) (n_55 : Tag × Unit → Option (Bool × Unit)) : Xc vw := { P := prog, n := 42, call := call55 n_55l5 n_55l2 n_55l10 n_55, sh := sh55, loops := fun k => match k with | 2 => some { cut := c54l6, alts := [.ret, .exit 0], F := n_55l2 } | 5 => some { cut := c55l5, alts := [.ret, .exit 2], F := n_55l5 } | 10 => some { cut := c55l10, alts := [.ret, .exit 4], F := n_55l10 } | _ => none }
abbrev mn_55l5 (v : Int × Int × Tag × Unit) (r : ((Bool × Unit) ⊕ (Int × Tag × Unit))) : Prop := (fun v out => ∀ C : Ctx, C.P = prog → C.N = 42 → AWpL C (loopNo (loopNo (bodyOf Tryz.f55) 0) 0) (encS vw (conc vw c55l5 v)) (OutQ sh55 [.ret, .exit 2] out)) v r
theorem cn_55l5 (f0 : Int × Int × Tag × Unit → Option (((Bool × Unit) ⊕ (Int × Tag × Unit)))) (h0 : ∀ v r, f0 v = some r → mn_55l5 v r) : CallerOk prog (x55 f0 (fun _ => none) (fun _ => none) (fun _ => none)).call := (by
    intro A fid args S dst k r h
    unfold x55 call55 at h
    simp only at h
    split at h
    ·exact callPure_ok ((fun v r x h hx => by cases h)) rfl rfl h
    ·cases h)
theorem sn_55l5 (f0 : Int × Int × Tag × Unit → Option (((Bool × Unit) ⊕ (Int × Tag × Unit)))) (h0 : ∀ v r, f0 v = some r → mn_55l5 v r) (v : Int × Int × Tag × Unit) (r : ((Bool × Unit) ⊕ (Int × Tag × Unit))) (h : exL (x55 f0 (fun _ => none) (fun _ => none) (fun _ => none)) (loopNo (loopNo (bodyOf Tryz.f55) 0) 0) c55l5 [.ret, .exit 2] f0 v = some r) : mn_55l5 v r := fun C hP hN => loop_step (X := x55 f0 (fun _ => none) (fun _ => none) (fun _ => none)) (b := (loopNo (loopNo (bodyOf Tryz.f55) 0) 0)) hP hN Ty.mixed (cn_55l5 f0 h0) (lok_all (X := x55 f0 (fun _ => none) (fun _ => none) (fun _ => none)) (c := (loopNo (loopNo (bodyOf Tryz.f55) 0) 0)) (kcast (by kernel_rfl : True = AllB (LoopsP C (x55 f0 (fun _ => none) (fun _ => none) (fun _ => none))) (loopsIn (loopNo (loopNo (bodyOf Tryz.f55) 0) 0))) trivial)) (cut := c55l5) (alts := [.ret, .exit 2]) (F := f0) (fun v out h => h0 v out h C hP hN) h
theorem n_55l5_pc : ∀ v out, n_55l5 v = some out → (fun v out => ∀ C : Ctx, C.P = prog → C.N = 42 → AWpL C (loopNo (loopNo (bodyOf Tryz.f55) 0) 0) (encS vw (conc vw c55l5 v)) (OutQ sh55 [.ret, .exit 2] out)) v out := (n_55l5.partial_correctness (motive := mn_55l5) (fun f0 h0 v r h => sn_55l5 f0 h0 v r (kcast (by kernel_rfl) h)))
abbrev mn_55l2 (v : Int × Tag × Unit) (r : ((Bool × Unit) ⊕ (Tag × Unit))) : Prop := (fun v out => ∀ C : Ctx, C.P = prog → C.N = 42 → AWpL C (loopNo (bodyOf Tryz.f55) 0) (encS vw (conc vw c54l6 v)) (OutQ sh55 [.ret, .exit 0] out)) v r
theorem cn_55l2 (f0 : Int × Tag × Unit → Option (((Bool × Unit) ⊕ (Tag × Unit)))) (h0 : ∀ v r, f0 v = some r → mn_55l2 v r) : CallerOk prog (x55 n_55l5 f0 (fun _ => none) (fun _ => none)).call := (by
    intro A fid args S dst k r h
    unfold x55 call55 at h
    simp only at h
    split at h
    ·exact callPure_ok ((fun v r x h hx => by cases h)) rfl rfl h
    ·cases h)
theorem sn_55l2 (f0 : Int × Tag × Unit → Option (((Bool × Unit) ⊕ (Tag × Unit)))) (h0 : ∀ v r, f0 v = some r → mn_55l2 v r) (v : Int × Tag × Unit) (r : ((Bool × Unit) ⊕ (Tag × Unit))) (h : exL (x55 n_55l5 f0 (fun _ => none) (fun _ => none)) (loopNo (bodyOf Tryz.f55) 0) c54l6 [.ret, .exit 0] f0 v = some r) : mn_55l2 v r := fun C hP hN => loop_step (X := x55 n_55l5 f0 (fun _ => none) (fun _ => none)) (b := (loopNo (bodyOf Tryz.f55) 0)) hP hN Ty.mixed (cn_55l2 f0 h0) (lok_all (X := x55 n_55l5 f0 (fun _ => none) (fun _ => none)) (c := (loopNo (bodyOf Tryz.f55) 0)) (kcast (by kernel_rfl : AllB (LoopsP C (x55 n_55l5 f0 (fun _ => none) (fun _ => none))) [(loopNo (loopNo (bodyOf Tryz.f55) 0) 0)] = AllB (LoopsP C (x55 n_55l5 f0 (fun _ => none) (fun _ => none))) (loopsIn (loopNo (bodyOf Tryz.f55) 0))) ⟨loop_at (X := x55 n_55l5 f0 (fun _ => none) (fun _ => none)) (b := (loopNo (loopNo (bodyOf Tryz.f55) 0) 0)) (by kernel_rfl) (show LoopOk C (loopNo (loopNo (bodyOf Tryz.f55) 0) 0) (sh := sh55) { cut := c55l5, alts := [.ret, .exit 2], F := n_55l5 } from fun v out h => n_55l5_pc v out h C hP hN), trivial⟩)) (cut := c54l6) (alts := [.ret, .exit 0]) (F := f0) (fun v out h => h0 v out h C hP hN) h
theorem n_55l2_pc : ∀ v out, n_55l2 v = some out → (fun v out => ∀ C : Ctx, C.P = prog → C.N = 42 → AWpL C (loopNo (bodyOf Tryz.f55) 0) (encS vw (conc vw c54l6 v)) (OutQ sh55 [.ret, .exit 0] out)) v out := (n_55l2.partial_correctness (motive := mn_55l2) (fun f0 h0 v r h => sn_55l2 f0 h0 v r (kcast (by kernel_rfl) h)))
abbrev mn_55l10 (v : Int × Tag × Unit) (r : ((Bool × Unit) ⊕ (Unit))) : Prop := (fun v out => ∀ C : Ctx, C.P = prog → C.N = 42 → AWpL C (loopNo (bodyOf Tryz.f55) 1) (encS vw (conc vw c55l10 v)) (OutQ sh55 [.ret, .exit 4] out)) v r
abbrev mn_55 (v : Tag × Unit) (r : Bool × Unit) : Prop := (fun v r => ∀ x, resV prog sig55 r = some x → FnOk prog 55 (encL vw (startS sig55 v).len (startOs sig55 v).1) (encOs (startS sig55 v).len (startS sig55 v).own) (encV vw (conc vw sig55.rcut r).len x) (encOs (conc vw sig55.rcut r).len (kept sig55 r))) v r
theorem cn_55l10 (f0 : Int × Tag × Unit → Option (((Bool × Unit) ⊕ (Unit)))) (f1 : Tag × Unit → Option (Bool × Unit)) (h0 : ∀ v r, f0 v = some r → mn_55l10 v r) (h1 : ∀ v r, f1 v = some r → mn_55 v r) : CallerOk prog (x55 (fun _ => none) (fun _ => none) f0 f1).call := (by
    intro A fid args S dst k r h
    unfold x55 call55 at h
    simp only at h
    split at h
    ·exact callPure_ok ((fun v r x h hx => h1 v r h x hx)) rfl rfl h
    ·cases h)
theorem sn_55l10 (f0 : Int × Tag × Unit → Option (((Bool × Unit) ⊕ (Unit)))) (f1 : Tag × Unit → Option (Bool × Unit)) (h0 : ∀ v r, f0 v = some r → mn_55l10 v r) (h1 : ∀ v r, f1 v = some r → mn_55 v r) (v : Int × Tag × Unit) (r : ((Bool × Unit) ⊕ (Unit))) (h : exL (x55 (fun _ => none) (fun _ => none) f0 f1) (loopNo (bodyOf Tryz.f55) 1) c55l10 [.ret, .exit 4] f0 v = some r) : mn_55l10 v r := fun C hP hN => loop_step (X := x55 (fun _ => none) (fun _ => none) f0 f1) (b := (loopNo (bodyOf Tryz.f55) 1)) hP hN Ty.mixed (cn_55l10 f0 f1 h0 h1) (lok_all (X := x55 (fun _ => none) (fun _ => none) f0 f1) (c := (loopNo (bodyOf Tryz.f55) 1)) (kcast (by kernel_rfl : True = AllB (LoopsP C (x55 (fun _ => none) (fun _ => none) f0 f1)) (loopsIn (loopNo (bodyOf Tryz.f55) 1))) trivial)) (cut := c55l10) (alts := [.ret, .exit 4]) (F := f0) (fun v out h => h0 v out h C hP hN) h
theorem cn_55 (f0 : Int × Tag × Unit → Option (((Bool × Unit) ⊕ (Unit)))) (h0 : ∀ v r, f0 v = some r → mn_55l10 v r) : CallerOk prog (x55 (fun _ => none) n_55l2 f0 (fun _ => none)).call := (by
    intro A fid args S dst k r h
    unfold x55 call55 at h
    simp only at h
    split at h
    ·exact callPure_ok ((fun v r x h hx => by cases h)) rfl rfl h
    ·cases h)
theorem sn_55 (f0 : Int × Tag × Unit → Option (((Bool × Unit) ⊕ (Unit)))) (h0 : ∀ v r, f0 v = some r → mn_55l10 v r) (v : Tag × Unit) (r : Bool × Unit) (h : exF (x55 (fun _ => none) n_55l2 f0 (fun _ => none)) sig55 rfl (bodyOf Tryz.f55) v = some r) : mn_55 v r := fun x hx => fn_ok (X := x55 (fun _ => none) n_55l2 f0 (fun _ => none)) (sig := sig55) rfl Tryz.func55 (c := bodyOf Tryz.f55) (by kernel_rfl) Tryz.ntmps55 (by kernel_rfl) (by kernel_rfl) rfl Ty.mixed (cn_55 f0 h0) rfl (fun C hP hN => (lok_all (X := x55 (fun _ => none) n_55l2 f0 (fun _ => none)) (c := (bodyOf Tryz.f55)) (kcast (by kernel_rfl : AllB (LoopsP C (x55 (fun _ => none) n_55l2 f0 (fun _ => none))) [(loopNo (bodyOf Tryz.f55) 0), (loopNo (bodyOf Tryz.f55) 1)] = AllB (LoopsP C (x55 (fun _ => none) n_55l2 f0 (fun _ => none))) (loopsIn (bodyOf Tryz.f55))) ⟨loop_at (X := x55 (fun _ => none) n_55l2 f0 (fun _ => none)) (b := (loopNo (bodyOf Tryz.f55) 0)) (by kernel_rfl) (show LoopOk C (loopNo (bodyOf Tryz.f55) 0) (sh := sh55) { cut := c54l6, alts := [.ret, .exit 0], F := n_55l2 } from fun v out h => n_55l2_pc v out h C hP hN), loop_at (X := x55 (fun _ => none) n_55l2 f0 (fun _ => none)) (b := (loopNo (bodyOf Tryz.f55) 1)) (by kernel_rfl) (show LoopOk C (loopNo (bodyOf Tryz.f55) 1) (sh := sh55) { cut := c55l10, alts := [.ret, .exit 4], F := f0 } from fun v out h => h0 v out h C hP hN), trivial⟩))) h x hx
theorem n_55l10_all : (∀ v r, n_55l10 v = some r → mn_55l10 v r) ∧ (∀ v r, n_55 v = some r → mn_55 v r) := by
 refine n_55l10.mutual_partial_correctness
  (motive_1 := mn_55l10)
  (motive_2 := mn_55)
  ?_ ?_
 ·exact (fun f0 f1 h0 h1 v r h => sn_55l10 f0 f1 h0 h1 v r (kcast (by kernel_rfl) h))
 ·exact (fun f0 h0 v r h => sn_55 f0 h0 v r (kcast (by kernel_rfl) h))
theorem n_55_ok : SigOk prog 55 sig55 n_55 := fun v r x h hx => n_55l10_all.2 v r h x hx
noncomputable def c33r2 : Cut SN := ⟨[(1, .bp 1 0), (21, .dat .bool)], [(1, .st .tagT)]⟩
noncomputable def sh33 : Shape vw := { rcut := c29z }
noncomputable def sig33 : Sig vw := { params := [.dat (.st .tagT)], rcut := c29z, rvars := [.tmp 2] }
noncomputable def n_33 (v : Tag × Unit) : Option (Int × Unit) :=
 n_27 (v.1, ()) >>= fun x1 =>
 (if decide (x1.1 > (500 : Int)) = true then
    some ((true, v.1, ()))
   else if decide (x1.2.1 > (20 : Int)) = true then
    some ((true, v.1, ()))
   else some ((decide (x1.2.2.1 > (4096 : Int)), v.1, ()))) >>= fun x2 =>
 if x2.1 = true then
  some (((3 : Int), ()))
 else n_54 (x2.2.1, ()) >>= fun x3 =>
 if (!x3.1) = true then
  some (((1 : Int), ()))
 else n_55 (x2.2.1, ()) >>= fun x4 =>
 if x4.1 = true then
  some (((5 : Int), ()))
 else some (((0 : Int), ()))
noncomputable def call33 : Caller vw := fun A fid args S k => match fid with | 27 => callPure prog sig27 n_27 A args S k | 54 => callPure prog sig54 n_54 A args S k | 55 => callPure prog sig55 n_55 A args S k | _ => none
noncomputable def x33 : Xc vw := { P := prog, n := 27, call := call33, sh := sh33, regs := fun k => match k with | 2 => some c33r2 | _ => none }
theorem call33_ok : CallerOk prog call33 := fun A fid args S dst k r h => by
 unfold call33 at h
 split at h
 ·exact callPure_ok (n_27_ok) rfl rfl h
 ·exact callPure_ok (n_54_ok) rfl rfl h
 ·exact callPure_ok (n_55_ok) rfl rfl h
 ·cases h
theorem n_33_ok : SigOk prog 33 sig33 n_33 := fun v r x h hx =>
 fn_ok (X := x33) (sig := sig33) rfl Tryz.func33 (c := bodyOf Tryz.f33) (by kernel_rfl) Tryz.ntmps33 (by kernel_rfl) (by kernel_rfl) rfl Ty.mixed call33_ok rfl (fun C hP hN => (lok_all (kcast (by kernel_rfl) trivial))) (kcast (by kernel_rfl) h) x hx
noncomputable def c57r2 : Cut SN := ⟨[(4, .dat (.int .i64)), (18, .dat .bool)], []⟩
noncomputable def c57z : Cut SN := ⟨[(2, .dat (.int .i64)), (3, .dat .bool)], []⟩
noncomputable def sh57 : Shape vw := { rcut := c57z }
noncomputable def sig57 : Sig vw := { params := [.dat .str], rcut := c57z, rvars := [.tmp 2, .tmp 3] }
noncomputable def n_57 (v : ByteArray × Unit) : Option (Int × Bool × Unit) :=
 n_59 (v.1, ()) >>= fun x1 =>
 (if decide (x1.1 < (0 : Int)) = true then
    some ((x1.1, true, ()))
   else n_60 (x1.1, ()) >>= fun x2 =>
   some ((x1.1, !x2.1.toList == v.1.toList, ()))) >>= fun x2 =>
 if x2.2.1 = true then
  some (((0 : Int), false, ()))
 else some ((x2.1, true, ()))
noncomputable def call57 : Caller vw := fun A fid args S k => match fid with | 59 => callPure prog sig59 n_59 A args S k | 60 => callPure prog sig60 n_60 A args S k | _ => none
noncomputable def x57 : Xc vw := { P := prog, n := 20, call := call57, sh := sh57, regs := fun k => match k with | 2 => some c57r2 | _ => none }
theorem call57_ok : CallerOk prog call57 := fun A fid args S dst k r h => by
 unfold call57 at h
 split at h
 ·exact callPure_ok (n_59_ok) rfl rfl h
 ·exact callPure_ok (n_60_ok) rfl rfl h
 ·cases h
theorem n_57_ok : SigOk prog 57 sig57 n_57 := fun v r x h hx =>
 fn_ok (X := x57) (sig := sig57) rfl Tryz.func57 (c := bodyOf Tryz.f57) (by kernel_rfl) Tryz.ntmps57 (by kernel_rfl) (by kernel_rfl) rfl Ty.mixed call57_ok rfl (fun C hP hN => (lok_all (kcast (by kernel_rfl) trivial))) (kcast (by kernel_rfl) h) x hx
noncomputable def c56l7 : Cut SN := ⟨[(1, .dat .str), (2, .bp 2 0), (7, .dat (.int .i64))], [(2, .st .tagT)]⟩
noncomputable def c56r3 : Cut SN := ⟨[(5, .dat (.int .i64)), (23, .dat .bool)], []⟩
noncomputable def sh56 : Shape vw := { exits := fun id => match id with | 0 => c103c75e0 | _ => ⟨[], []⟩, rcut := c103c75z }
noncomputable def sig56 : Sig vw := { params := [.dat (.st .tagT), .dat .str], rcut := c103c75z, rvars := [.tmp 4] }
noncomputable def n_56l7 (v : ByteArray × Int × Tag × Unit) : Option (((Int × Unit) ⊕ (Unit))) :=
 if decide (v.2.1 < (↑v.2.2.1.names.length : Int)) = true then
  if (0 : Int) ≤ v.2.1 then
   v.2.2.1.names[v.2.1.toNat]? >>= fun x1 =>
   if (x1.toList == v.1.toList) = true then
    some (Sum.inl (v.2.1, ()))
   else n_56l7 (v.1, i64.wrap (v.2.1 + (1 : Int)), v.2.2.1, ())
  else none
 else some (Sum.inr ())
 partial_fixpoint
noncomputable def n_56 (v : Tag × ByteArray × Unit) : Option (Int × Unit) :=
 if (v.1.kind == (5 : Int)) = true then
  n_57 (v.2.1, ()) >>= fun x1 =>
  (if x1.2.1 = true then
     some ((x1.1, decide (x1.1 < (↑v.1.parts.length : Int)), ()))
    else some ((x1.1, false, ()))) >>= fun x2 =>
  if x2.2.1 = true then
   some ((x2.1, ()))
  else some (((-1 : Int), ()))
 else n_56l7 (v.2.1, (0 : Int), v.1, ()) >>= fun x1 => match x1 with
  | .inl y1 => some y1
  | .inr y1 => some (((-1 : Int), ()))
noncomputable def call56 : Caller vw := fun A fid args S k => match fid with | 57 => callPure prog sig57 n_57 A args S k | _ => none
noncomputable def x56 : Xc vw := { P := prog, n := 40, call := call56, sh := sh56, regs := fun k => match k with | 3 => some c56r3 | _ => none, loops := fun k => match k with | 7 => some { cut := c56l7, alts := [.ret, .exit 0], F := n_56l7 } | _ => none }
theorem call56_ok : CallerOk prog call56 := fun A fid args S dst k r h => by
 unfold call56 at h
 split at h
 ·exact callPure_ok (n_57_ok) rfl rfl h
 ·cases h
theorem n_56l7_ok (C : Ctx) (hP : C.P = prog) (hN : C.N = 40) : LoopOk C (loopNo (bodyOf Tryz.f56) 0) (sh := sh56) { cut := c56l7, alts := [.ret, .exit 0], F := n_56l7 } :=
 n_56l7.partial_correctness (motive := fun v out => AWpL C (loopNo (bodyOf Tryz.f56) 0) (encS vw (conc vw c56l7 v)) (OutQ sh56 [.ret, .exit 0] out)) fun F ih v out h =>
  loop_step (X := x56) (b := (loopNo (bodyOf Tryz.f56) 0)) hP hN Ty.mixed call56_ok (lok_all (X := x56) (c := (loopNo (bodyOf Tryz.f56) 0)) (kcast (by kernel_rfl : True = AllB (LoopsP C (x56)) (loopsIn (loopNo (bodyOf Tryz.f56) 0))) trivial)) ih (kcast (by kernel_rfl) h)
theorem n_56_ok : SigOk prog 56 sig56 n_56 := fun v r x h hx =>
 fn_ok (X := x56) (sig := sig56) rfl Tryz.func56 (c := bodyOf Tryz.f56) (by kernel_rfl) Tryz.ntmps56 (by kernel_rfl) (by kernel_rfl) rfl Ty.mixed call56_ok rfl (fun C hP hN => (lok_all (kcast (by kernel_rfl : AllB (LoopsP C (x56)) [(loopNo (bodyOf Tryz.f56) 0)] = AllB (LoopsP C (x56)) (loopsIn (bodyOf Tryz.f56))) ⟨loop_at (X := x56) (b := (loopNo (bodyOf Tryz.f56) 0)) (by kernel_rfl) (n_56l7_ok C hP hN), trivial⟩))) (kcast (by kernel_rfl) h) x hx
noncomputable def c41j14 : Cut SN := ⟨[(2, .bp 2 0), (4, .bp 4 0), (7, .vh 1007), (8, .vh 1008)], [(2, .st .tagT), (4, .st .tagT), (1007, .vec 9 .str), (1008, .vec 25 (.st .tagT))]⟩
noncomputable def sh41 : Shape vw := { rcut := c36z }
noncomputable def sig41 : Sig vw := { params := [.dat (.st .tagT), .dat (.sl .str)], rcut := c36z, rvars := [.cell 4 25, .tmp 5] }
noncomputable def n_41 (v : Tag × (List ByteArray) × Unit) : Option (Bool × Tag × Unit) :=
 v.2.1[Int.toNat (0 : Int)]? >>= fun x1 =>
 n_56 (v.1, x1, ()) >>= fun x2 =>
 if decide (x2.1 < (0 : Int)) = true then
  some ((false, Tag.mk (0 : Int) (0 : Int) (ByteArray.mk #[]) [] [], ()))
 else if 0 + v.1.names.length ≤ (4294967296 : Nat) then
  if 0 + v.1.parts.length ≤ (4294967296 : Nat) then
   (if decide ((↑v.2.1.length : Int) > (1 : Int)) = true then
      if (0 : Int) ≤ x2.1 ∧ x2.1 < (↑([] ++ v.1.parts).length : Int) then
       ([] ++ v.1.parts)[x2.1.toNat]? >>= fun x3 =>
       if (0 : Int) ≤ (1 : Int) ∧ (1 : Int) ≤ (↑v.2.1.length : Int) ∧ (↑v.2.1.length : Int) ≤ (↑v.2.1.length : Int) then
        n_41 (x3, List.drop (Int.toNat (1 : Int)) (List.take (↑v.2.1.length : Int).toNat v.2.1), ()) >>= fun x4 =>
        if (!x4.1) = true then
         some (Sum.inr (false, Tag.mk (0 : Int) (0 : Int) (ByteArray.mk #[]) [] [], ()))
        else if (0 : Int) ≤ x2.1 ∧ x2.1 < (↑([] ++ v.1.parts).length : Int) then
         ([] ++ v.1.parts)[x2.1.toNat]? >>= fun x5 =>
         some (Sum.inl (v.1, Tag.mk (0 : Int) (0 : Int) (ByteArray.mk #[]) [] [], [] ++ v.1.names, ([] ++ v.1.parts).set x2.1.toNat (Tag.mk x4.2.1.kind x4.2.1.n x4.2.1.text x4.2.1.names x4.2.1.parts), ()))
        else none
       else none
      else none
     else if (prog.types[(25 : Nat)].size = (5 : Nat) ∧ (0 : Nat) < ([] ++ v.1.parts).length) ∧ (0 : Int) ≤ (0 : Int) ∧ (0 : Int) ≤ x2.1 ∧ x2.1 ≤ (↑([] ++ v.1.parts).length : Int) then
      if (prog.types[(25 : Nat)].size = (5 : Nat) ∧ (0 : Nat) < ([] ++ v.1.parts).length) ∧ (0 : Int) ≤ i64.wrap (x2.1 + (1 : Int)) ∧ i64.wrap (x2.1 + (1 : Int)) ≤ (↑([] ++ v.1.parts).length : Int) ∧ (↑([] ++ v.1.parts).length : Int) ≤ (↑([] ++ v.1.parts).length : Int) then
       if (((23 : Nat) = (23 : Nat) ∧ (25 : Nat) = (25 : Nat)) ∧ (prog.types[(25 : Nat)].size = (5 : Nat) ∧ (5 : Nat) = prog.types[(25 : Nat)].size) ∧ (5 : Nat) = prog.types[(25 : Nat)].size ∧ (26 : Nat) = (26 : Nat)) ∧ (Int.toNat (0 : Int) = (0 : Nat) ∧ (↑([] ++ v.1.parts).length : Int).toNat - (i64.wrap (x2.1 + (1 : Int))).toNat = ([] ++ v.1.parts).length - (i64.wrap (x2.1 + (1 : Int))).toNat) ∧ x2.1.toNat - Int.toNat (0 : Int) ≤ (i64.wrap (x2.1 + (1 : Int))).toNat ∧ (i64.wrap (x2.1 + (1 : Int))).toNat ≤ ([] ++ v.1.parts).length then
        if (v.1.kind == (6 : Int)) = true then
         if (prog.types[(9 : Nat)].size = (1 : Nat) ∧ (0 : Nat) < ([] ++ v.1.names).length) ∧ (0 : Int) ≤ (0 : Int) ∧ (0 : Int) ≤ x2.1 ∧ x2.1 ≤ (↑([] ++ v.1.names).length : Int) then
          if (prog.types[(9 : Nat)].size = (1 : Nat) ∧ (0 : Nat) < ([] ++ v.1.names).length) ∧ (0 : Int) ≤ i64.wrap (x2.1 + (1 : Int)) ∧ i64.wrap (x2.1 + (1 : Int)) ≤ (↑([] ++ v.1.names).length : Int) ∧ (↑([] ++ v.1.names).length : Int) ≤ (↑([] ++ v.1.names).length : Int) then
           if (((22 : Nat) = (22 : Nat) ∧ (9 : Nat) = (9 : Nat)) ∧ (prog.types[(9 : Nat)].size = (1 : Nat) ∧ (1 : Nat) = prog.types[(9 : Nat)].size) ∧ (1 : Nat) = prog.types[(9 : Nat)].size ∧ (22 : Nat) = (22 : Nat)) ∧ (Int.toNat (0 : Int) = (0 : Nat) ∧ (↑([] ++ v.1.names).length : Int).toNat - (i64.wrap (x2.1 + (1 : Int))).toNat = ([] ++ v.1.names).length - (i64.wrap (x2.1 + (1 : Int))).toNat) ∧ x2.1.toNat - Int.toNat (0 : Int) ≤ (i64.wrap (x2.1 + (1 : Int))).toNat ∧ (i64.wrap (x2.1 + (1 : Int))).toNat ≤ ([] ++ v.1.names).length then
            some (Sum.inl (v.1, Tag.mk (0 : Int) (0 : Int) (ByteArray.mk #[]) [] [], List.take (x2.1.toNat - Int.toNat (0 : Int)) ([] ++ v.1.names) ++ List.drop (i64.wrap (x2.1 + (1 : Int))).toNat ([] ++ v.1.names), List.take (x2.1.toNat - Int.toNat (0 : Int)) ([] ++ v.1.parts) ++ List.drop (i64.wrap (x2.1 + (1 : Int))).toNat ([] ++ v.1.parts), ()))
           else none
          else none
         else none
        else some (Sum.inl (v.1, Tag.mk (0 : Int) (0 : Int) (ByteArray.mk #[]) [] [], [] ++ v.1.names, List.take (x2.1.toNat - Int.toNat (0 : Int)) ([] ++ v.1.parts) ++ List.drop (i64.wrap (x2.1 + (1 : Int))).toNat ([] ++ v.1.parts), ()))
       else none
      else none
     else none) >>= fun x3 => match x3 with
     | .inl y3 => some ((true, Tag.mk y3.1.kind y3.1.n y3.1.text y3.2.2.1 y3.2.2.2.1, ()))
     | .inr y3 => some y3
  else none
 else none
 partial_fixpoint
noncomputable def call41 (n_41 : Tag × (List ByteArray) × Unit → Option (Bool × Tag × Unit)) : Caller vw := fun A fid args S k => match fid with | 41 => callPure prog sig41 n_41 A args S k | 56 => callPure prog sig56 n_56 A args S k | _ => none
noncomputable def x41 (n_41 : Tag × (List ByteArray) × Unit → Option (Bool × Tag × Unit)) : Xc vw := { P := prog, n := 71, nm := fun d => match d with | 19 => 40019 | 23 => 40023 | _ => d, call := call41 n_41, pre := fun k => match k with | 3000049 => true | 3000053 => true | 3000060 => true | 3000064 => true | _ => false, sh := sh41, joins := fun k => match k with | 14 => some (c41j14, [.norm, .ret]) | _ => none }
abbrev mn_41 (v : Tag × (List ByteArray) × Unit) (r : Bool × Tag × Unit) : Prop := (fun v r => ∀ x, resV prog sig41 r = some x → FnOk prog 41 (encL vw (startS sig41 v).len (startOs sig41 v).1) (encOs (startS sig41 v).len (startS sig41 v).own) (encV vw (conc vw sig41.rcut r).len x) (encOs (conc vw sig41.rcut r).len (kept sig41 r))) v r
theorem cn_41 (f0 : Tag × (List ByteArray) × Unit → Option (Bool × Tag × Unit)) (h0 : ∀ v r, f0 v = some r → mn_41 v r) : CallerOk prog (x41 f0).call := (by
    intro A fid args S dst k r h
    unfold x41 call41 at h
    simp only at h
    split at h
    ·exact callPure_ok ((fun v r x h hx => h0 v r h x hx)) rfl rfl h
    ·exact callPure_ok (n_56_ok) rfl rfl h
    ·cases h)
theorem sn_41 (f0 : Tag × (List ByteArray) × Unit → Option (Bool × Tag × Unit)) (h0 : ∀ v r, f0 v = some r → mn_41 v r) (v : Tag × (List ByteArray) × Unit) (r : Bool × Tag × Unit) (h : exF (x41 f0) sig41 rfl (bodyOf Tryz.f41) v = some r) : mn_41 v r := fun x hx => fn_ok (X := x41 f0) (sig := sig41) rfl Tryz.func41 (c := bodyOf Tryz.f41) (by kernel_rfl) Tryz.ntmps41 (by kernel_rfl) (by kernel_rfl) rfl Ty.mixed (cn_41 f0 h0) rfl (fun C hP hN => (lok_all (X := x41 f0) (c := (bodyOf Tryz.f41)) (kcast (by kernel_rfl : True = AllB (LoopsP C (x41 f0)) (loopsIn (bodyOf Tryz.f41))) trivial))) h x hx
theorem n_41_ok : SigOk prog 41 sig41 n_41 := fun v r x h hx => (n_41.partial_correctness (motive := mn_41) (fun f0 h0 v r h => sn_41 f0 h0 v r (kcast (by kernel_rfl) h))) v r h x hx
noncomputable def sh17 : Shape vw := { rcut := c13z }
noncomputable def sig17 : Sig vw := { params := [.dat (.st .tagT), .dat (.sl .str)], rcut := c13z, rvars := [.cell 4 25, .tmp 5, .tmp 6] }
noncomputable def n_17 (v : Tag × (List ByteArray) × Unit) : Option (Bool × Int × Tag × Unit) :=
 n_33 (v.1, ()) >>= fun x1 =>
 if (x1.1 != (0 : Int)) = true then
  some ((false, x1.1, Tag.mk (0 : Int) (0 : Int) (ByteArray.mk #[]) [] [], ()))
 else if ((↑v.2.1.length : Int) == (0 : Int)) = true then
  some ((false, (1 : Int), Tag.mk (0 : Int) (0 : Int) (ByteArray.mk #[]) [] [], ()))
 else n_41 (v.1, v.2.1, ()) >>= fun x2 =>
 some ((x2.1, (0 : Int), x2.2.1, ()))
noncomputable def call17 : Caller vw := fun A fid args S k => match fid with | 33 => callPure prog sig33 n_33 A args S k | 41 => callPure prog sig41 n_41 A args S k | _ => none
noncomputable def x17 : Xc vw := { P := prog, n := 28, call := call17, sh := sh17 }
theorem call17_ok : CallerOk prog call17 := fun A fid args S dst k r h => by
 unfold call17 at h
 split at h
 ·exact callPure_ok (n_33_ok) rfl rfl h
 ·exact callPure_ok (n_41_ok) rfl rfl h
 ·cases h
theorem n_17_ok : SigOk prog 17 sig17 n_17 := fun v r x h hx =>
 fn_ok (X := x17) (sig := sig17) rfl Tryz.func17 (c := bodyOf Tryz.f17) (by kernel_rfl) Tryz.ntmps17 (by kernel_rfl) (by kernel_rfl) rfl Ty.mixed call17_ok rfl (fun C hP hN => (lok_all (kcast (by kernel_rfl) trivial))) (kcast (by kernel_rfl) h) x hx
noncomputable def c18z : Cut SN := ⟨[(2, .dat (.int .i64)), (3, .dat (.int .i64))], []⟩
noncomputable def sh18 : Shape vw := { rcut := c18z }
noncomputable def sig18 : Sig vw := { params := [.dat (.st .tagT)], rcut := c18z, rvars := [.tmp 2, .tmp 3] }
noncomputable def n_18 (v : Tag × Unit) : Option (Int × Int × Unit) :=
 n_29 (v.1, ()) >>= fun x1 =>
 if (x1.1 != (0 : Int)) = true then
  some (((0 : Int), x1.1, ()))
 else n_42 (v.1, ()) >>= fun x2 =>
 some ((x2.1.pieces, (0 : Int), ()))
noncomputable def call18 : Caller vw := fun A fid args S k => match fid with | 29 => callPure prog sig29 n_29 A args S k | 42 => callPure prog sig42 n_42 A args S k | _ => none
noncomputable def x18 : Xc vw := { P := prog, n := 13, call := call18, sh := sh18 }
theorem call18_ok : CallerOk prog call18 := fun A fid args S dst k r h => by
 unfold call18 at h
 split at h
 ·exact callPure_ok (n_29_ok) rfl rfl h
 ·exact callPure_ok (n_42_ok) rfl rfl h
 ·cases h
theorem n_18_ok : SigOk prog 18 sig18 n_18 := fun v r x h hx =>
 fn_ok (X := x18) (sig := sig18) rfl Tryz.func18 (c := bodyOf Tryz.f18) (by kernel_rfl) Tryz.ntmps18 (by kernel_rfl) (by kernel_rfl) rfl Ty.mixed call18_ok rfl (fun C hP hN => (lok_all (kcast (by kernel_rfl) trivial))) (kcast (by kernel_rfl) h) x hx
end Go.Proofs.YtpndmanbfleadaaGreatDoor
end
section
namespace Go.Proofs.YtpndmanbfleadaaGreatDoor
open Go.Awp Go.Tx
open IntKind (i32)
open IntKind (i64)
open Go.Proofs.Tryz (prog)
set_option maxHeartbeats 4000000
set_option maxRecDepth 100000
noncomputable def c50s0e1dl0 : Cut SN := ⟨[(0, .bp 100000 0)], [(100000, .st .readerT)]⟩
noncomputable def sh50s0e1d : Shape vw := { exits := fun id => match id with | 0 => c50s0e1dl0 | _ => ⟨[], []⟩, rcut := c50s0e1dl0 }
noncomputable def sig50s0e1d : Sig vw := { params := [.bp 100000 0], objs := [(100000, .st .readerT)], rcut := c50s0e1dl0, rvars := [], keep := [100000] }
noncomputable def n_50s0e1dl0 (v : Reader × Unit) : Option ((Reader × Unit)) :=
 n_74s5bd0 (ByteArray.mk #[32, 10, 9, 13], v.1, ()) >>= fun x1 =>
 if x1.1 = true then
  n_50s0e1dl0 (x1.2.1, ())
 else some ((x1.2.1, ()))
 partial_fixpoint
noncomputable def n_50s0e1d (v : Reader × Unit) : Option (Reader × Unit) :=
 n_50s0e1dl0 (v.1, ()) >>= fun x1 =>
 some ((x1.1, ()))
noncomputable def call50s0e1d : Caller vw := fun A fid args S k => match fid with | 74 => callObj prog sig74s5bd0 n_74s5bd0 A args S k | _ => none
noncomputable def x50s0e1d : Xc vw := { P := prog, n := 4, call := call50s0e1d, sh := sh50s0e1d, loops := fun k => match k with | 0 => some { cut := c50s0e1dl0, alts := [.exit 0], F := n_50s0e1dl0 } | _ => none }
theorem call50s0e1d_ok : CallerOk prog call50s0e1d := fun A fid args S dst k r h => by
 unfold call50s0e1d at h
 split at h
 ·exact callObj_ok (n_74s5bd0_ok) h
 ·cases h
theorem n_50s0e1dl0_ok (C : Ctx) (hP : C.P = prog) (hN : C.N = 4) : LoopOk C (loopNo (bodyOf Tryz.f50) 0) (sh := sh50s0e1d) { cut := c50s0e1dl0, alts := [.exit 0], F := n_50s0e1dl0 } :=
 n_50s0e1dl0.partial_correctness (motive := fun v out => AWpL C (loopNo (bodyOf Tryz.f50) 0) (encS vw (conc vw c50s0e1dl0 v)) (OutQ sh50s0e1d [.exit 0] out)) fun F ih v out h =>
  loop_step (X := x50s0e1d) (b := (loopNo (bodyOf Tryz.f50) 0)) hP hN Ty.mixed call50s0e1d_ok (lok_all (X := x50s0e1d) (c := (loopNo (bodyOf Tryz.f50) 0)) (kcast (by kernel_rfl : True = AllB (LoopsP C (x50s0e1d)) (loopsIn (loopNo (bodyOf Tryz.f50) 0))) trivial)) ih (kcast (by kernel_rfl) h)
theorem n_50s0e1d_ok : SigOk prog 50 sig50s0e1d n_50s0e1d := fun v r x h hx =>
 fn_ok (X := x50s0e1d) (sig := sig50s0e1d) rfl Tryz.func50 (c := bodyOf Tryz.f50) (by kernel_rfl) Tryz.ntmps50 (by kernel_rfl) (by kernel_rfl) rfl Ty.mixed call50s0e1d_ok rfl (fun C hP hN => (lok_all (kcast (by kernel_rfl : AllB (LoopsP C (x50s0e1d)) [(loopNo (bodyOf Tryz.f50) 0)] = AllB (LoopsP C (x50s0e1d)) (loopsIn (bodyOf Tryz.f50))) ⟨loop_at (X := x50s0e1d) (b := (loopNo (bodyOf Tryz.f50) 0)) (by kernel_rfl) (n_50s0e1dl0_ok C hP hN), trivial⟩))) (kcast (by kernel_rfl) h) x hx
noncomputable def c68s0e1dz : Cut SN := ⟨[(0, .bp 100000 0), (2, .dat (.int .u8))], [(100000, .st .readerT)]⟩
noncomputable def sh68s0e1d : Shape vw := { rcut := c68s0e1dz }
noncomputable def sig68s0e1d : Sig vw := { params := [.bp 100000 0], objs := [(100000, .st .readerT)], rcut := c68s0e1dz, rvars := [.tmp 2], keep := [100000] }
noncomputable def n_68s0e1d (v : Reader × Unit) : Option (Int × Reader × Unit) :=
 if (v.1.at0 == (↑v.1.s.size : Int)) = true then
  some (((0 : Int), v.1, ()))
 else if (0 : Int) ≤ v.1.at0 then
  v.1.s[v.1.at0.toNat]? >>= fun x1 =>
  some (((↑x1.toNat : Int), v.1, ()))
 else none
noncomputable def call68s0e1d : Caller vw := fun _ _ _ _ _ => none
noncomputable def x68s0e1d : Xc vw := { P := prog, n := 22, call := call68s0e1d, sh := sh68s0e1d }
theorem call68s0e1d_ok : CallerOk prog call68s0e1d := call_none
theorem n_68s0e1d_ok : SigOk prog 68 sig68s0e1d n_68s0e1d := fun v r x h hx =>
 fn_ok (X := x68s0e1d) (sig := sig68s0e1d) rfl Tryz.func68 (c := bodyOf Tryz.f68) (by kernel_rfl) Tryz.ntmps68 (by kernel_rfl) (by kernel_rfl) rfl Ty.mixed call68s0e1d_ok rfl (fun C hP hN => (lok_all (kcast (by kernel_rfl) trivial))) (kcast (by kernel_rfl) h) x hx
noncomputable def c69s5bd0l2 : Cut SN := ⟨[(0, .bp 100000 0), (1, .dat .str), (7, .dat (.int .i64)), (8, .dat (.int .i64))], [(100000, .st .readerT)]⟩
noncomputable def sh69s5bd0 : Shape vw := { exits := fun id => match id with | 0 => c50s0e1dl0 | _ => ⟨[], []⟩, rcut := c74s5bd0z }
noncomputable def sig69s5bd0 : Sig vw := { params := [.bp 100000 0, .dat .str], objs := [(100000, .st .readerT)], rcut := c74s5bd0z, rvars := [.tmp 4], keep := [100000] }
noncomputable def n_69s5bd0l2 (v : ByteArray × Int × Int × Reader × Unit) : Option (((Bool × Reader × Unit) ⊕ (Reader × Unit))) :=
 if decide (v.2.2.1 < v.2.1) = true then
  if (0 : Int) ≤ v.2.2.1 ∧ v.2.2.1 ≤ i64.wrap (v.2.2.1 + (1 : Int)) ∧ i64.wrap (v.2.2.1 + (1 : Int)) ≤ (↑v.1.size : Int) then
   n_74s5bd0 (v.1.extract v.2.2.1.toNat (i64.wrap (v.2.2.1 + (1 : Int))).toNat, v.2.2.2.1, ()) >>= fun x1 =>
   if (!x1.1) = true then
    some (Sum.inl (false, x1.2.1, ()))
   else n_69s5bd0l2 (v.1, v.2.1, i64.wrap (v.2.2.1 + (1 : Int)), x1.2.1, ())
  else none
 else some (Sum.inr (v.2.2.2.1, ()))
 partial_fixpoint
noncomputable def n_69s5bd0 (v : ByteArray × Reader × Unit) : Option (Bool × Reader × Unit) :=
 n_69s5bd0l2 (v.1, (↑v.1.size : Int), (0 : Int), v.2.1, ()) >>= fun x1 => match x1 with
  | .inl y1 => some y1
  | .inr y1 => some ((true, y1.1, ()))
noncomputable def call69s5bd0 : Caller vw := fun A fid args S k => match fid with | 74 => callObj prog sig74s5bd0 n_74s5bd0 A args S k | _ => none
noncomputable def x69s5bd0 : Xc vw := { P := prog, n := 20, call := call69s5bd0, sh := sh69s5bd0, loops := fun k => match k with | 2 => some { cut := c69s5bd0l2, alts := [.ret, .exit 0], F := n_69s5bd0l2 } | _ => none }
theorem call69s5bd0_ok : CallerOk prog call69s5bd0 := fun A fid args S dst k r h => by
 unfold call69s5bd0 at h
 split at h
 ·exact callObj_ok (n_74s5bd0_ok) h
 ·cases h
theorem n_69s5bd0l2_ok (C : Ctx) (hP : C.P = prog) (hN : C.N = 20) : LoopOk C (loopNo (bodyOf Tryz.f69) 0) (sh := sh69s5bd0) { cut := c69s5bd0l2, alts := [.ret, .exit 0], F := n_69s5bd0l2 } :=
 n_69s5bd0l2.partial_correctness (motive := fun v out => AWpL C (loopNo (bodyOf Tryz.f69) 0) (encS vw (conc vw c69s5bd0l2 v)) (OutQ sh69s5bd0 [.ret, .exit 0] out)) fun F ih v out h =>
  loop_step (X := x69s5bd0) (b := (loopNo (bodyOf Tryz.f69) 0)) hP hN Ty.mixed call69s5bd0_ok (lok_all (X := x69s5bd0) (c := (loopNo (bodyOf Tryz.f69) 0)) (kcast (by kernel_rfl : True = AllB (LoopsP C (x69s5bd0)) (loopsIn (loopNo (bodyOf Tryz.f69) 0))) trivial)) ih (kcast (by kernel_rfl) h)
theorem n_69s5bd0_ok : SigOk prog 69 sig69s5bd0 n_69s5bd0 := fun v r x h hx =>
 fn_ok (X := x69s5bd0) (sig := sig69s5bd0) rfl Tryz.func69 (c := bodyOf Tryz.f69) (by kernel_rfl) Tryz.ntmps69 (by kernel_rfl) (by kernel_rfl) rfl Ty.mixed call69s5bd0_ok rfl (fun C hP hN => (lok_all (kcast (by kernel_rfl : AllB (LoopsP C (x69s5bd0)) [(loopNo (bodyOf Tryz.f69) 0)] = AllB (LoopsP C (x69s5bd0)) (loopsIn (bodyOf Tryz.f69))) ⟨loop_at (X := x69s5bd0) (b := (loopNo (bodyOf Tryz.f69) 0)) (by kernel_rfl) (n_69s5bd0l2_ok C hP hN), trivial⟩))) (kcast (by kernel_rfl) h) x hx
noncomputable def c70s0e1dl6 : Cut SN := ⟨[(0, .bp 100000 0), (2, .bp 2 0), (4, .dat .bool), (5, .dat (.int .i64))], [(100000, .st .readerT), (2, .st .tagT)]⟩
noncomputable def c70s0e1dj11 : Cut SN := ⟨[(0, .bp 100000 0), (2, .bp 2 0), (5, .dat (.int .i64))], [(100000, .st .readerT), (2, .st .tagT)]⟩
noncomputable def c70s0e1dr5 : Cut SN := ⟨[(0, .bp 100000 0), (2, .bp 2 0), (4, .dat .bool), (5, .dat (.int .i64)), (12, .dat .bool)], [(100000, .st .readerT), (2, .st .tagT)]⟩
noncomputable def c70s0e1dr6 : Cut SN := ⟨[(0, .bp 100000 0), (2, .bp 2 0), (4, .dat .bool), (5, .dat (.int .i64)), (28, .dat .bool)], [(100000, .st .readerT), (2, .st .tagT)]⟩
noncomputable def c70s0e1dz : Cut SN := ⟨[(0, .bp 100000 0), (2, .bp 2 0), (3, .dat .bool)], [(100000, .st .readerT), (2, .st .tagT)]⟩
noncomputable def sh70s0e1d : Shape vw := { exits := fun id => match id with | 1 => c70s0e1dl6 | _ => ⟨[], []⟩, rcut := c70s0e1dz }
noncomputable def sig70s0e1d : Sig vw := { params := [.bp 100000 0], objs := [(100000, .st .readerT)], rcut := c70s0e1dz, rvars := [.cell 2 25, .tmp 3], keep := [100000] }
noncomputable def n_70s0e1dl6 (v : Bool × Int × Reader × Tag × Unit) : Option ((Bool × Int × Reader × Tag × Unit)) :=
 (n_68s0e1d (v.2.2.1, ()) >>= fun x1 =>
   if decide (x1.1 ≥ (48 : Int)) = true then
    n_68s0e1d (x1.2.1, ()) >>= fun x2 =>
    some ((v.1, v.2.1, decide (x2.1 ≤ (57 : Int)), x2.2.1, v.2.2.2.1, ()))
   else some ((v.1, v.2.1, false, x1.2.1, v.2.2.2.1, ()))) >>= fun x1 =>
 if x1.2.2.1 = true then
  n_68s0e1d (x1.2.2.2.1, ()) >>= fun x2 =>
  n_70s0e1dl6 (x1.1, min (i64.wrap (i64.wrap ((10 : Int) * x1.2.1) + i64.wrap (IntKind.u8.wrap (x2.1 - (48 : Int))))) (576460752303423488 : Int), Reader.mk x2.2.1.s (i64.wrap (x2.2.1.at0 + (1 : Int))), x1.2.2.2.2.1, ())
 else some ((x1.1, x1.2.1, x1.2.2.2.1, x1.2.2.2.2.1, ()))
 partial_fixpoint
noncomputable def n_70s0e1d (v : Reader × Unit) : Option (Bool × Reader × Tag × Unit) :=
 n_74s5bd0 (ByteArray.mk #[45], v.1, ()) >>= fun x1 =>
 (n_74s5bd0 (ByteArray.mk #[48], x1.2.1, ()) >>= fun x2 =>
   if x2.1 = true then
    some (Sum.inl (x1.1, (0 : Int), x2.2.1, Tag.mk (0 : Int) (0 : Int) (ByteArray.mk #[]) [] [], ()))
   else (n_68s0e1d (x2.2.1, ()) >>= fun x3 =>
    if decide (x3.1 ≥ (49 : Int)) = true then
     n_68s0e1d (x3.2.1, ()) >>= fun x4 =>
     some ((x1.1, (0 : Int), decide (x4.1 ≤ (57 : Int)), x4.2.1, Tag.mk (0 : Int) (0 : Int) (ByteArray.mk #[]) [] [], ()))
    else some ((x1.1, (0 : Int), false, x3.2.1, Tag.mk (0 : Int) (0 : Int) (ByteArray.mk #[]) [] [], ()))) >>= fun x3 =>
   if x3.2.2.1 = true then
    n_70s0e1dl6 (x3.1, x3.2.1, x3.2.2.2.1, x3.2.2.2.2.1, ()) >>= fun x4 =>
    some (Sum.inl (x4.1, x4.2.1, x4.2.2.1, x4.2.2.2.1, ()))
   else some (Sum.inr (false, x3.2.2.2.1, Tag.mk (0 : Int) (0 : Int) (ByteArray.mk #[]) [] [], ()))) >>= fun x2 => match x2 with
   | .inl y2 => (if y2.1 = true then
      some ((i64.wrap ((0 : Int) - y2.2.1), y2.2.2.1, y2.2.2.2.1, ()))
     else some ((y2.2.1, y2.2.2.1, y2.2.2.2.1, ()))) >>= fun x3 =>
    some ((true, x3.2.1, Tag.mk (3 : Int) x3.1 (ByteArray.mk #[]) [] [], ()))
   | .inr y2 => some y2
noncomputable def call70s0e1d : Caller vw := fun A fid args S k => match fid with | 68 => callObj prog sig68s0e1d n_68s0e1d A args S k | 74 => callObj prog sig74s5bd0 n_74s5bd0 A args S k | _ => none
noncomputable def x70s0e1d : Xc vw := { P := prog, n := 49, call := call70s0e1d, sh := sh70s0e1d, joins := fun k => match k with | 9 => some (c70s0e1dl6, [.norm, .ret]) | 11 => some (c70s0e1dj11, [.norm]) | _ => none, regs := fun k => match k with | 5 => some c70s0e1dr5 | 6 => some c70s0e1dr6 | _ => none, loops := fun k => match k with | 6 => some { cut := c70s0e1dl6, alts := [.exit 1], F := n_70s0e1dl6 } | _ => none }
theorem call70s0e1d_ok : CallerOk prog call70s0e1d := fun A fid args S dst k r h => by
 unfold call70s0e1d at h
 split at h
 ·exact callObj_ok (n_68s0e1d_ok) h
 ·exact callObj_ok (n_74s5bd0_ok) h
 ·cases h
theorem n_70s0e1dl6_ok (C : Ctx) (hP : C.P = prog) (hN : C.N = 49) : LoopOk C (loopNo (bodyOf Tryz.f70) 0) (sh := sh70s0e1d) { cut := c70s0e1dl6, alts := [.exit 1], F := n_70s0e1dl6 } :=
 n_70s0e1dl6.partial_correctness (motive := fun v out => AWpL C (loopNo (bodyOf Tryz.f70) 0) (encS vw (conc vw c70s0e1dl6 v)) (OutQ sh70s0e1d [.exit 1] out)) fun F ih v out h =>
  loop_step (X := x70s0e1d) (b := (loopNo (bodyOf Tryz.f70) 0)) hP hN Ty.mixed call70s0e1d_ok (lok_all (X := x70s0e1d) (c := (loopNo (bodyOf Tryz.f70) 0)) (kcast (by kernel_rfl : True = AllB (LoopsP C (x70s0e1d)) (loopsIn (loopNo (bodyOf Tryz.f70) 0))) trivial)) ih (kcast (by kernel_rfl) h)
theorem n_70s0e1d_ok : SigOk prog 70 sig70s0e1d n_70s0e1d := fun v r x h hx =>
 fn_ok (X := x70s0e1d) (sig := sig70s0e1d) rfl Tryz.func70 (c := bodyOf Tryz.f70) (by kernel_rfl) Tryz.ntmps70 (by kernel_rfl) (by kernel_rfl) rfl Ty.mixed call70s0e1d_ok rfl (fun C hP hN => (lok_all (kcast (by kernel_rfl : AllB (LoopsP C (x70s0e1d)) [(loopNo (bodyOf Tryz.f70) 0)] = AllB (LoopsP C (x70s0e1d)) (loopsIn (bodyOf Tryz.f70))) ⟨loop_at (X := x70s0e1d) (b := (loopNo (bodyOf Tryz.f70) 0)) (by kernel_rfl) (n_70s0e1dl6_ok C hP hN), trivial⟩))) (kcast (by kernel_rfl) h) x hx
noncomputable def sh96s8e4d : Shape vw := { rcut := c133z }
noncomputable def sig96s8e4d : Sig vw := { params := [.bp 100000 0], objs := [(100000, .box (some 108) [.np 100000, .vh 100001]), (100001, .vec 5 (.int .u8))], rcut := c133z, rvars := [.tmp 2] }
noncomputable def n_96s8e4d (v : Bool × (List Int) × Unit) : Option (ByteArray × Unit) :=
 if (↑v.2.1.length : Int) = (↑v.2.1.length : Int) ∧ v.2.1.length ≤ (4294967296 : Nat) then
  some ((Bs.bytes v.2.1, ()))
 else none
noncomputable def call96s8e4d : Caller vw := fun _ _ _ _ _ => none
noncomputable def x96s8e4d : Xc vw := { P := prog, n := 14, call := call96s8e4d, sh := sh96s8e4d }
theorem call96s8e4d_ok : CallerOk prog call96s8e4d := call_none
theorem n_96s8e4d_ok : SigOk prog 96 sig96s8e4d n_96s8e4d := fun v r x h hx =>
 fn_ok (X := x96s8e4d) (sig := sig96s8e4d) rfl Tryz.func96 (c := bodyOf Tryz.f96) (by kernel_rfl) Tryz.ntmps96 (by kernel_rfl) (by kernel_rfl) rfl Ty.mixed call96s8e4d_ok rfl (fun C hP hN => (lok_all (kcast (by kernel_rfl) trivial))) (kcast (by kernel_rfl) h) x hx
noncomputable def c97s0e1dr2 : Cut SN := ⟨[(0, .bp 100000 0), (4, .dat (.int .i64)), (24, .dat .bool)], [(100000, .st .readerT)]⟩
noncomputable def c97s0e1dr8 : Cut SN := ⟨[(0, .bp 100000 0), (5, .dat (.int .i32)), (6, .dat .bool), (52, .dat .bool)], [(100000, .st .readerT)]⟩
noncomputable def c97s0e1dz : Cut SN := ⟨[(0, .bp 100000 0), (2, .dat (.int .i32)), (3, .dat .bool)], [(100000, .st .readerT)]⟩
noncomputable def sh97s0e1d : Shape vw := { rcut := c97s0e1dz }
noncomputable def sig97s0e1d : Sig vw := { params := [.bp 100000 0], objs := [(100000, .st .readerT)], rcut := c97s0e1dz, rvars := [.tmp 2, .tmp 3], keep := [100000] }
noncomputable def n_97s0e1d (v : Reader × Unit) : Option (Int × Bool × Reader × Unit) :=
 n_68s0e1d (v.1, ()) >>= fun x1 =>
 n_118 (ByteArray.mk #[34, 92, 47, 98, 102, 110, 114, 116], x1.1, ()) >>= fun x2 =>
 (if decide (x1.2.1.at0 < (↑x1.2.1.s.size : Int)) = true then
    some ((x2.1, decide (x2.1 ≥ (0 : Int)), x1.2.1, ()))
   else some ((x2.1, false, x1.2.1, ()))) >>= fun x3 =>
 if x3.2.1 = true then
  if (0 : Int) ≤ x3.1 then
   (ByteArray.mk #[34, 92, 47, 8, 12, 10, 13, 9])[x3.1.toNat]? >>= fun x4 =>
   some ((i32.wrap (↑x4.toNat : Int), true, Reader.mk x3.2.2.1.s (i64.wrap (x3.2.2.1.at0 + (1 : Int))), ()))
  else none
 else n_74s5bd0 (ByteArray.mk #[117], x3.2.2.1, ()) >>= fun x4 =>
 if (!x4.1) = true then
  some (((0 : Int), false, x4.2.1, ()))
 else n_119sadb0 (ByteArray.mk #[48, 49, 50, 51, 52, 53, 54, 55, 56, 57, 97, 98, 99, 101, 102, 65, 66, 67, 69, 70], ByteArray.mk #[48, 49, 50, 51, 52, 53, 54, 55, 56, 57, 97, 98, 65, 66], x4.2.1, ()) >>= fun x5 =>
 (if (!x5.2.1) = true then
    some ((x5.1, x5.2.1, true, x5.2.2.1, ()))
   else if decide (x5.1 < (55296 : Int)) = true then
    some ((x5.1, x5.2.1, true, x5.2.2.1, ()))
   else some ((x5.1, x5.2.1, decide (x5.1 ≥ (56320 : Int)), x5.2.2.1, ()))) >>= fun x6 =>
 if x6.2.2.1 = true then
  some ((x6.1, x6.2.1, x6.2.2.2.1, ()))
 else n_69s5bd0 (ByteArray.mk #[92, 117], x6.2.2.2.1, ()) >>= fun x7 =>
 if (!x7.1) = true then
  some (((0 : Int), false, x7.2.1, ()))
 else n_119sadb0 (ByteArray.mk #[], ByteArray.mk #[99, 100, 101, 102, 67, 68, 69, 70], x7.2.1, ()) >>= fun x8 =>
 some ((i32.wrap (i32.wrap (i32.wrap ((65536 : Int) + Bs.ishl i32 (i32.wrap (x6.1 - (55296 : Int))) (10 : Int)) + x8.1) - (56320 : Int)), x8.2.1, x8.2.2.1, ()))
noncomputable def call97s0e1d : Caller vw := fun A fid args S k => match fid with | 68 => callObj prog sig68s0e1d n_68s0e1d A args S k | 69 => callObj prog sig69s5bd0 n_69s5bd0 A args S k | 74 => callObj prog sig74s5bd0 n_74s5bd0 A args S k | 118 => callPure prog sig118 n_118 A args S k | 119 => callObj prog sig119sadb0 n_119sadb0 A args S k | _ => none
noncomputable def x97s0e1d : Xc vw := { P := prog, n := 71, call := call97s0e1d, sh := sh97s0e1d, regs := fun k => match k with | 2 => some c97s0e1dr2 | 8 => some c97s0e1dr8 | _ => none }
theorem call97s0e1d_ok : CallerOk prog call97s0e1d := fun A fid args S dst k r h => by
 unfold call97s0e1d at h
 split at h
 ·exact callObj_ok (n_68s0e1d_ok) h
 ·exact callObj_ok (n_69s5bd0_ok) h
 ·exact callObj_ok (n_74s5bd0_ok) h
 ·exact callPure_ok (n_118_ok) rfl rfl h
 ·exact callObj_ok (n_119sadb0_ok) h
 ·cases h
theorem n_97s0e1d_ok : SigOk prog 97 sig97s0e1d n_97s0e1d := fun v r x h hx =>
 fn_ok (X := x97s0e1d) (sig := sig97s0e1d) rfl Tryz.func97 (c := bodyOf Tryz.f97) (by kernel_rfl) Tryz.ntmps97 (by kernel_rfl) (by kernel_rfl) rfl Ty.mixed call97s0e1d_ok rfl (fun C hP hN => (lok_all (kcast (by kernel_rfl) trivial))) (kcast (by kernel_rfl) h) x hx
noncomputable def sh98se46d : Shape vw := { rcut := c100s52d8z }
noncomputable def sig98se46d : Sig vw := { params := [.bp 100000 0, .dat (.int .i32)], objs := [(100000, .box (some 108) [.np 100000, .vh 100001]), (100001, .vec 5 (.int .u8))], rcut := c100s52d8z, rvars := [.tmp 4, .tmp 5], keep := [100000, 3001] }
noncomputable def n_98se46d (v : Int × Bool × (List Int) × Unit) : Option (Int × Bool × (List Int) × Unit) :=
 n_120s8e4d (v.2.1, v.2.2.1, ()) >>= fun x1 =>
 n_121s43b2 (v.1, x1.2.1, ()) >>= fun x2 =>
 some ((i64.wrap ((↑x2.1.length : Int) - (↑x1.2.1.length : Int)), x1.1, x2.1, ()))
noncomputable def call98se46d : Caller vw := fun A fid args S k => match fid with | 120 => callObj prog sig120s8e4d n_120s8e4d A args S k | 121 => callObj prog sig121s43b2 n_121s43b2 A args S k | _ => none
noncomputable def x98se46d : Xc vw := { P := prog, n := 30, call := call98se46d, sh := sh98se46d }
theorem call98se46d_ok : CallerOk prog call98se46d := fun A fid args S dst k r h => by
 unfold call98se46d at h
 split at h
 ·exact callObj_ok (n_120s8e4d_ok) h
 ·exact callObj_ok (n_121s43b2_ok) h
 ·cases h
theorem n_98se46d_ok : SigOk prog 98 sig98se46d n_98se46d := fun v r x h hx =>
 fn_ok (X := x98se46d) (sig := sig98se46d) rfl Tryz.func98 (c := bodyOf Tryz.f98) (by kernel_rfl) Tryz.ntmps98 (by kernel_rfl) (by kernel_rfl) rfl Ty.mixed call98se46d_ok rfl (fun C hP hN => (lok_all (kcast (by kernel_rfl) trivial))) (kcast (by kernel_rfl) h) x hx
noncomputable def c99s0e1dl22 : Cut SN := ⟨[(0, .bp 100000 0), (4, .dat (.int .u8)), (5, .dat (.int .u8)), (48, .dat (.int .i64)), (49, .dat (.int .i64))], [(100000, .st .readerT)]⟩
noncomputable def c99s0e1dj11 : Cut SN := ⟨[(0, .bp 100000 0), (3, .dat (.int .u8)), (4, .dat (.int .u8)), (5, .dat (.int .u8)), (6, .dat (.int .i64))], [(100000, .st .readerT)]⟩
noncomputable def c99s0e1dj20 : Cut SN := ⟨[(0, .bp 100000 0), (4, .dat (.int .u8)), (5, .dat (.int .u8)), (6, .dat (.int .i64))], [(100000, .st .readerT)]⟩
noncomputable def c99s0e1dr5 : Cut SN := ⟨[(0, .bp 100000 0), (3, .dat (.int .u8)), (4, .dat (.int .u8)), (5, .dat (.int .u8)), (19, .dat .bool)], [(100000, .st .readerT)]⟩
noncomputable def c99s0e1dz : Cut SN := ⟨[(0, .bp 100000 0), (2, .dat .bool)], [(100000, .st .readerT)]⟩
noncomputable def sh99s0e1d : Shape vw := { exits := fun id => match id with | 2 => c50s0e1dl0 | _ => ⟨[], []⟩, rcut := c99s0e1dz }
noncomputable def sig99s0e1d : Sig vw := { params := [.bp 100000 0], objs := [(100000, .st .readerT)], rcut := c99s0e1dz, rvars := [.tmp 2], keep := [100000] }
noncomputable def n_99s0e1dl22 (v : Int × Int × Int × Int × Reader × Unit) : Option (((Bool × Reader × Unit) ⊕ (Reader × Unit))) :=
 if decide (v.2.2.2.1 < v.2.2.1) = true then
  n_122s07d3 (v.1, v.2.1, v.2.2.2.2.1, ()) >>= fun x1 =>
  if (!x1.1) = true then
   some (Sum.inl (false, x1.2.1, ()))
  else n_99s0e1dl22 ((128 : Int), (191 : Int), v.2.2.1, i64.wrap (v.2.2.2.1 + (1 : Int)), x1.2.1, ())
 else some (Sum.inr (v.2.2.2.2.1, ()))
 partial_fixpoint
noncomputable def n_99s0e1d (v : Reader × Unit) : Option (Bool × Reader × Unit) :=
 if (0 : Int) ≤ v.1.at0 then
  v.1.s[v.1.at0.toNat]? >>= fun x1 =>
  (if decide ((↑x1.toNat : Int) < (128 : Int)) = true then
     some (Sum.inl ((↑x1.toNat : Int), (128 : Int), (191 : Int), (0 : Int), v.1, ()))
    else (if decide ((↑x1.toNat : Int) < (194 : Int)) = true then
      some (((↑x1.toNat : Int), (128 : Int), (191 : Int), true, v.1, ()))
     else some (((↑x1.toNat : Int), (128 : Int), (191 : Int), decide ((↑x1.toNat : Int) > (244 : Int)), v.1, ()))) >>= fun x2 =>
    if x2.2.2.2.1 = true then
     some (Sum.inr (false, x2.2.2.2.2.1, ()))
    else if decide (x2.1 < (224 : Int)) = true then
     some (Sum.inl (x2.1, x2.2.1, x2.2.2.1, (1 : Int), x2.2.2.2.2.1, ()))
    else if decide (x2.1 < (240 : Int)) = true then
     some (Sum.inl (x2.1, x2.2.1, x2.2.2.1, (2 : Int), x2.2.2.2.2.1, ()))
    else some (Sum.inl (x2.1, x2.2.1, x2.2.2.1, (3 : Int), x2.2.2.2.2.1, ()))) >>= fun x2 => match x2 with
    | .inl y2 => (if (y2.1 == (224 : Int)) = true then
       some (((160 : Int), y2.2.2.1, y2.2.2.2.1, y2.2.2.2.2.1, ()))
      else if (y2.1 == (237 : Int)) = true then
       some ((y2.2.1, (159 : Int), y2.2.2.2.1, y2.2.2.2.2.1, ()))
      else if (y2.1 == (240 : Int)) = true then
       some (((144 : Int), y2.2.2.1, y2.2.2.2.1, y2.2.2.2.2.1, ()))
      else if (y2.1 == (244 : Int)) = true then
       some ((y2.2.1, (143 : Int), y2.2.2.2.1, y2.2.2.2.2.1, ()))
      else some ((y2.2.1, y2.2.2.1, y2.2.2.2.1, y2.2.2.2.2.1, ()))) >>= fun x3 =>
     n_99s0e1dl22 (x3.1, x3.2.1, x3.2.2.1, (0 : Int), Reader.mk x3.2.2.2.1.s (i64.wrap (x3.2.2.2.1.at0 + (1 : Int))), ()) >>= fun x4 => match x4 with
      | .inl y4 => some y4
      | .inr y4 => some ((true, y4.1, ()))
    | .inr y2 => some y2
 else none
noncomputable def call99s0e1d : Caller vw := fun A fid args S k => match fid with | 122 => callObj prog sig122s07d3 n_122s07d3 A args S k | _ => none
noncomputable def x99s0e1d : Xc vw := { P := prog, n := 57, call := call99s0e1d, sh := sh99s0e1d, joins := fun k => match k with | 11 => some (c99s0e1dj11, [.norm, .ret]) | 20 => some (c99s0e1dj20, [.norm]) | _ => none, regs := fun k => match k with | 5 => some c99s0e1dr5 | _ => none, loops := fun k => match k with | 22 => some { cut := c99s0e1dl22, alts := [.ret, .exit 2], F := n_99s0e1dl22 } | _ => none }
theorem call99s0e1d_ok : CallerOk prog call99s0e1d := fun A fid args S dst k r h => by
 unfold call99s0e1d at h
 split at h
 ·exact callObj_ok (n_122s07d3_ok) h
 ·cases h
theorem n_99s0e1dl22_ok (C : Ctx) (hP : C.P = prog) (hN : C.N = 57) : LoopOk C (loopNo (bodyOf Tryz.f99) 0) (sh := sh99s0e1d) { cut := c99s0e1dl22, alts := [.ret, .exit 2], F := n_99s0e1dl22 } :=
 n_99s0e1dl22.partial_correctness (motive := fun v out => AWpL C (loopNo (bodyOf Tryz.f99) 0) (encS vw (conc vw c99s0e1dl22 v)) (OutQ sh99s0e1d [.ret, .exit 2] out)) fun F ih v out h =>
  loop_step (X := x99s0e1d) (b := (loopNo (bodyOf Tryz.f99) 0)) hP hN Ty.mixed call99s0e1d_ok (lok_all (X := x99s0e1d) (c := (loopNo (bodyOf Tryz.f99) 0)) (kcast (by kernel_rfl : True = AllB (LoopsP C (x99s0e1d)) (loopsIn (loopNo (bodyOf Tryz.f99) 0))) trivial)) ih (kcast (by kernel_rfl) h)
theorem n_99s0e1d_ok : SigOk prog 99 sig99s0e1d n_99s0e1d := fun v r x h hx =>
 fn_ok (X := x99s0e1d) (sig := sig99s0e1d) rfl Tryz.func99 (c := bodyOf Tryz.f99) (by kernel_rfl) Tryz.ntmps99 (by kernel_rfl) (by kernel_rfl) rfl Ty.mixed call99s0e1d_ok rfl (fun C hP hN => (lok_all (kcast (by kernel_rfl : AllB (LoopsP C (x99s0e1d)) [(loopNo (bodyOf Tryz.f99) 0)] = AllB (LoopsP C (x99s0e1d)) (loopsIn (bodyOf Tryz.f99))) ⟨loop_at (X := x99s0e1d) (b := (loopNo (bodyOf Tryz.f99) 0)) (by kernel_rfl) (n_99s0e1dl22_ok C hP hN), trivial⟩))) (kcast (by kernel_rfl) h) x hx
noncomputable def c71s0e1dl3 : Cut SN := ⟨[(0, .bp 100000 0), (4, .bp 4 0)], [(100000, .st .readerT), (4, .box (some 108) [.np 4, .vh 3041]), (3041, .vec 5 (.int .u8))]⟩
noncomputable def c71s0e1dz : Cut SN := ⟨[(0, .bp 100000 0), (2, .dat .str), (3, .dat .bool)], [(100000, .st .readerT)]⟩
noncomputable def sh71s0e1d : Shape vw := { rcut := c71s0e1dz }
noncomputable def sig71s0e1d : Sig vw := { params := [.bp 100000 0], objs := [(100000, .st .readerT)], rcut := c71s0e1dz, rvars := [.tmp 2, .tmp 3], keep := [100000] }
noncomputable def n_71s0e1dl3 (v : Reader × Bool × (List Int) × Unit) : Option ((ByteArray × Bool × Reader × Unit)) :=
 n_68s0e1d (v.1, ()) >>= fun x1 =>
 if (x1.1 == (34 : Int)) = true then
  n_96s8e4d (v.2.1, v.2.2.1, ()) >>= fun x2 =>
  some ((x2.1, true, Reader.mk x1.2.1.s (i64.wrap (x1.2.1.at0 + (1 : Int))), ()))
 else if decide (x1.1 < (32 : Int)) = true then
  some ((ByteArray.mk #[], false, x1.2.1, ()))
 else if (x1.1 == (92 : Int)) = true then
  n_97s0e1d (Reader.mk x1.2.1.s (i64.wrap (x1.2.1.at0 + (1 : Int))), ()) >>= fun x2 =>
  if (!x2.2.1) = true then
   some ((ByteArray.mk #[], false, x2.2.2.1, ()))
  else n_98se46d (x2.1, v.2.1, v.2.2.1, ()) >>= fun x3 =>
  n_71s0e1dl3 (x2.2.2.1, x3.2.1, x3.2.2.1, ())
 else n_99s0e1d (x1.2.1, ()) >>= fun x2 =>
 if (!x2.1) = true then
  some ((ByteArray.mk #[], false, x2.2.1, ()))
 else if (0 : Int) ≤ x1.2.1.at0 ∧ x1.2.1.at0 ≤ x2.2.1.at0 ∧ x2.2.1.at0 ≤ (↑x2.2.1.s.size : Int) then
  n_100s52d8 (x2.2.1.s.extract x1.2.1.at0.toNat x2.2.1.at0.toNat, v.2.1, v.2.2.1, ()) >>= fun x3 =>
  n_71s0e1dl3 (x2.2.1, x3.2.1, x3.2.2.1, ())
 else none
 partial_fixpoint
noncomputable def n_71s0e1d (v : Reader × Unit) : Option (ByteArray × Bool × Reader × Unit) :=
 some (v.1, false, [], ()) >>= fun x1 =>
 n_71s0e1dl3 (Reader.mk x1.1.s (i64.wrap (x1.1.at0 + (1 : Int))), x1.2.1, x1.2.2.1, ()) >>= fun x2 =>
 some x2
noncomputable def call71s0e1d : Caller vw := fun A fid args S k => match fid with | 68 => callObj prog sig68s0e1d n_68s0e1d A args S k | 96 => callObj prog sig96s8e4d n_96s8e4d A args S k | 97 => callObj prog sig97s0e1d n_97s0e1d A args S k | 98 => callObj prog sig98se46d n_98se46d A args S k | 99 => callObj prog sig99s0e1d n_99s0e1d A args S k | 100 => callObj prog sig100s52d8 n_100s52d8 A args S k | _ => none
noncomputable def x71s0e1d : Xc vw := { P := prog, n := 69, call := call71s0e1d, sh := sh71s0e1d, regs := fun k => match k with | 1 => some c71s0e1dl3 | _ => none, loops := fun k => match k with | 3 => some { cut := c71s0e1dl3, alts := [.ret], F := n_71s0e1dl3 } | _ => none }
theorem call71s0e1d_ok : CallerOk prog call71s0e1d := fun A fid args S dst k r h => by
 unfold call71s0e1d at h
 split at h
 ·exact callObj_ok (n_68s0e1d_ok) h
 ·exact callObj_ok (n_96s8e4d_ok) h
 ·exact callObj_ok (n_97s0e1d_ok) h
 ·exact callObj_ok (n_98se46d_ok) h
 ·exact callObj_ok (n_99s0e1d_ok) h
 ·exact callObj_ok (n_100s52d8_ok) h
 ·cases h
theorem n_71s0e1dl3_ok (C : Ctx) (hP : C.P = prog) (hN : C.N = 69) : LoopOk C (loopNo (bodyOf Tryz.f71) 0) (sh := sh71s0e1d) { cut := c71s0e1dl3, alts := [.ret], F := n_71s0e1dl3 } :=
 n_71s0e1dl3.partial_correctness (motive := fun v out => AWpL C (loopNo (bodyOf Tryz.f71) 0) (encS vw (conc vw c71s0e1dl3 v)) (OutQ sh71s0e1d [.ret] out)) fun F ih v out h =>
  loop_step (X := x71s0e1d) (b := (loopNo (bodyOf Tryz.f71) 0)) hP hN Ty.mixed call71s0e1d_ok (lok_all (X := x71s0e1d) (c := (loopNo (bodyOf Tryz.f71) 0)) (kcast (by kernel_rfl : True = AllB (LoopsP C (x71s0e1d)) (loopsIn (loopNo (bodyOf Tryz.f71) 0))) trivial)) ih (kcast (by kernel_rfl) h)
theorem n_71s0e1d_ok : SigOk prog 71 sig71s0e1d n_71s0e1d := fun v r x h hx =>
 fn_ok (X := x71s0e1d) (sig := sig71s0e1d) rfl Tryz.func71 (c := bodyOf Tryz.f71) (by kernel_rfl) Tryz.ntmps71 (by kernel_rfl) (by kernel_rfl) rfl Ty.mixed call71s0e1d_ok rfl (fun C hP hN => (lok_all (kcast (by kernel_rfl : AllB (LoopsP C (x71s0e1d)) [(loopNo (bodyOf Tryz.f71) 0)] = AllB (LoopsP C (x71s0e1d)) (loopsIn (bodyOf Tryz.f71))) ⟨loop_at (X := x71s0e1d) (b := (loopNo (bodyOf Tryz.f71) 0)) (by kernel_rfl) (n_71s0e1dl3_ok C hP hN), trivial⟩))) (kcast (by kernel_rfl) h) x hx
noncomputable def c49s0e1dr9 : Cut SN := ⟨[(0, .bp 100000 0), (2, .bp 2 0), (4, .dat (.int .u8)), (29, .dat .bool)], [(100000, .st .readerT), (2, .st .tagT)]⟩
noncomputable def sh49s0e1d : Shape vw := { rcut := c70s0e1dz }
noncomputable def sig49s0e1d : Sig vw := { params := [.bp 100000 0], objs := [(100000, .st .readerT)], rcut := c70s0e1dz, rvars := [.cell 2 25, .tmp 3], keep := [100000] }
noncomputable def c72s0e1dg1 : Cut SN := ⟨[(0, .bp 100000 0), (2, .bp 2 0), (4, .bp 4 0)], [(100000, .st .readerT), (2, .st .tagT), (4, .box none [.dat (.int .i64), .dat (.int .i64), .dat .str, .vh 3043, .vh 3044]), (3043, .vec 9 .str), (3044, .vec 25 (.st .tagT))]⟩
noncomputable def sh72s0e1d : Shape vw := { exits := fun id => match id with | 1000000 => c72s0e1dg1 | _ => ⟨[], []⟩, rcut := c70s0e1dz }
noncomputable def sig72s0e1d : Sig vw := { params := [.bp 100000 0], objs := [(100000, .st .readerT)], rcut := c70s0e1dz, rvars := [.cell 2 25, .tmp 3], keep := [100000] }
noncomputable def sh73s0e1d : Shape vw := { exits := fun id => match id with | 1000000 => c72s0e1dg1 | _ => ⟨[], []⟩, rcut := c70s0e1dz }
noncomputable def sig73s0e1d : Sig vw := { params := [.bp 100000 0], objs := [(100000, .st .readerT)], rcut := c70s0e1dz, rvars := [.cell 2 25, .tmp 3], keep := [100000] }
mutual
noncomputable def n_49s0e1d (v : Reader × Unit) : Option (Bool × Reader × Tag × Unit) :=
 n_50s0e1d (v.1, ()) >>= fun x1 =>
 n_68s0e1d (x1.1, ()) >>= fun x2 =>
 if (x2.1 == (110 : Int)) = true then
  n_69s5bd0 (ByteArray.mk #[110, 117, 108, 108], x2.2.1, ()) >>= fun x3 =>
  some ((x3.1, x3.2.1, Tag.mk (0 : Int) (0 : Int) (ByteArray.mk #[]) [] [], ()))
 else if (x2.1 == (102 : Int)) = true then
  n_69s5bd0 (ByteArray.mk #[102, 97, 108, 115, 101], x2.2.1, ()) >>= fun x3 =>
  some ((x3.1, x3.2.1, Tag.mk (1 : Int) (0 : Int) (ByteArray.mk #[]) [] [], ()))
 else if (x2.1 == (116 : Int)) = true then
  n_69s5bd0 (ByteArray.mk #[116, 114, 117, 101], x2.2.1, ()) >>= fun x3 =>
  some ((x3.1, x3.2.1, Tag.mk (2 : Int) (0 : Int) (ByteArray.mk #[]) [] [], ()))
 else (if (x2.1 == (45 : Int)) = true then
   some ((x2.1, true, x2.2.1, Tag.mk (0 : Int) (0 : Int) (ByteArray.mk #[]) [] [], ()))
  else if decide (x2.1 ≥ (48 : Int)) = true then
   some ((x2.1, decide (x2.1 ≤ (57 : Int)), x2.2.1, Tag.mk (0 : Int) (0 : Int) (ByteArray.mk #[]) [] [], ()))
  else some ((x2.1, false, x2.2.1, Tag.mk (0 : Int) (0 : Int) (ByteArray.mk #[]) [] [], ()))) >>= fun x3 =>
 if x3.2.1 = true then
  n_70s0e1d (x3.2.2.1, ()) >>= fun x4 =>
  some ((x4.1, x4.2.1, x4.2.2.1, ()))
 else if (x3.1 == (34 : Int)) = true then
  n_71s0e1d (x3.2.2.1, ()) >>= fun x4 =>
  some ((x4.2.1, x4.2.2.1, Tag.mk (4 : Int) (0 : Int) x4.1 [] [], ()))
 else if (x3.1 == (91 : Int)) = true then
  n_72s0e1d (x3.2.2.1, ()) >>= fun x4 =>
  some ((x4.1, x4.2.1, x4.2.2.1, ()))
 else if (x3.1 == (123 : Int)) = true then
  n_73s0e1d (x3.2.2.1, ()) >>= fun x4 =>
  some ((x4.1, x4.2.1, x4.2.2.1, ()))
 else some ((false, x3.2.2.1, Tag.mk (0 : Int) (0 : Int) (ByteArray.mk #[]) [] [], ()))
 partial_fixpoint
noncomputable def n_73s0e1d (v : Reader × Unit) : Option (Bool × Reader × Tag × Unit) :=
 some (v.1, Tag.mk (0 : Int) (0 : Int) (ByteArray.mk #[]) [] [], (6 : Int), (0 : Int), ByteArray.mk #[], [], [], ()) >>= fun x1 =>
 n_50s0e1d (Reader.mk x1.1.s (i64.wrap (x1.1.at0 + (1 : Int))), ()) >>= fun x2 =>
 n_74s5bd0 (ByteArray.mk #[125], x2.1, ()) >>= fun x3 =>
 if x3.1 = true then
  some ((true, x3.2.1, Tag.mk x1.2.2.1 x1.2.2.2.1 x1.2.2.2.2.1 x1.2.2.2.2.2.1 x1.2.2.2.2.2.2.1, ()))
 else n_50s0e1d (x3.2.1, ()) >>= fun x4 =>
 n_68s0e1d (x4.1, ()) >>= fun x5 =>
 if (x5.1 != (34 : Int)) = true then
  some ((false, x5.2.1, Tag.mk (0 : Int) (0 : Int) (ByteArray.mk #[]) [] [], ()))
 else n_71s0e1d (x5.2.1, ()) >>= fun x6 =>
 if (!x6.2.1) = true then
  some ((false, x6.2.2.1, Tag.mk (0 : Int) (0 : Int) (ByteArray.mk #[]) [] [], ()))
 else n_50s0e1d (x6.2.2.1, ()) >>= fun x7 =>
 n_74s5bd0 (ByteArray.mk #[58], x7.1, ()) >>= fun x8 =>
 if (!x8.1) = true then
  some ((false, x8.2.1, Tag.mk (0 : Int) (0 : Int) (ByteArray.mk #[]) [] [], ()))
 else n_49s0e1d (x8.2.1, ()) >>= fun x9 =>
 if (!x9.1) = true then
  some ((false, x9.2.1, Tag.mk (0 : Int) (0 : Int) (ByteArray.mk #[]) [] [], ()))
 else if x1.2.2.2.2.2.1.length + [x6.1].length ≤ (4294967296 : Nat) then
  if x1.2.2.2.2.2.2.1.length + [x9.2.2.1].length ≤ (4294967296 : Nat) then
   n_50s0e1d (x9.2.1, ()) >>= fun x10 =>
   n_74s5bd0 (ByteArray.mk #[44], x10.1, ()) >>= fun x11 =>
   if x11.1 = true then
    n_73s0e1dg1 (x11.2.1, x1.2.1, x1.2.2.1, x1.2.2.2.1, x1.2.2.2.2.1, x1.2.2.2.2.2.1 ++ [x6.1], x1.2.2.2.2.2.2.1 ++ [x9.2.2.1], ()) >>= fun x12 =>
    some x12
   else n_74s5bd0 (ByteArray.mk #[125], x11.2.1, ()) >>= fun x12 =>
   some ((x12.1, x12.2.1, Tag.mk x1.2.2.1 x1.2.2.2.1 x1.2.2.2.2.1 (x1.2.2.2.2.2.1 ++ [x6.1]) (x1.2.2.2.2.2.2.1 ++ [x9.2.2.1]), ()))
  else none
 else none
 partial_fixpoint
noncomputable def n_73s0e1dg1 (v : Reader × Tag × Int × Int × ByteArray × (List ByteArray) × (List Tag) × Unit) : Option ((Bool × Reader × Tag × Unit)) :=
 n_50s0e1d (v.1, ()) >>= fun x1 =>
 n_68s0e1d (x1.1, ()) >>= fun x2 =>
 if (x2.1 != (34 : Int)) = true then
  some ((false, x2.2.1, Tag.mk (0 : Int) (0 : Int) (ByteArray.mk #[]) [] [], ()))
 else n_71s0e1d (x2.2.1, ()) >>= fun x3 =>
 if (!x3.2.1) = true then
  some ((false, x3.2.2.1, Tag.mk (0 : Int) (0 : Int) (ByteArray.mk #[]) [] [], ()))
 else n_50s0e1d (x3.2.2.1, ()) >>= fun x4 =>
 n_74s5bd0 (ByteArray.mk #[58], x4.1, ()) >>= fun x5 =>
 if (!x5.1) = true then
  some ((false, x5.2.1, Tag.mk (0 : Int) (0 : Int) (ByteArray.mk #[]) [] [], ()))
 else n_49s0e1d (x5.2.1, ()) >>= fun x6 =>
 if (!x6.1) = true then
  some ((false, x6.2.1, Tag.mk (0 : Int) (0 : Int) (ByteArray.mk #[]) [] [], ()))
 else if v.2.2.2.2.2.1.length + [x3.1].length ≤ (4294967296 : Nat) then
  if v.2.2.2.2.2.2.1.length + [x6.2.2.1].length ≤ (4294967296 : Nat) then
   n_50s0e1d (x6.2.1, ()) >>= fun x7 =>
   n_74s5bd0 (ByteArray.mk #[44], x7.1, ()) >>= fun x8 =>
   if x8.1 = true then
    n_73s0e1dg1 (x8.2.1, v.2.1, v.2.2.1, v.2.2.2.1, v.2.2.2.2.1, v.2.2.2.2.2.1 ++ [x3.1], v.2.2.2.2.2.2.1 ++ [x6.2.2.1], ())
   else n_74s5bd0 (ByteArray.mk #[125], x8.2.1, ()) >>= fun x9 =>
   some ((x9.1, x9.2.1, Tag.mk v.2.2.1 v.2.2.2.1 v.2.2.2.2.1 (v.2.2.2.2.2.1 ++ [x3.1]) (v.2.2.2.2.2.2.1 ++ [x6.2.2.1]), ()))
  else none
 else none
 partial_fixpoint
noncomputable def n_72s0e1d (v : Reader × Unit) : Option (Bool × Reader × Tag × Unit) :=
 some (v.1, Tag.mk (0 : Int) (0 : Int) (ByteArray.mk #[]) [] [], (5 : Int), (0 : Int), ByteArray.mk #[], [], [], ()) >>= fun x1 =>
 n_50s0e1d (Reader.mk x1.1.s (i64.wrap (x1.1.at0 + (1 : Int))), ()) >>= fun x2 =>
 n_74s5bd0 (ByteArray.mk #[93], x2.1, ()) >>= fun x3 =>
 if x3.1 = true then
  some ((true, x3.2.1, Tag.mk x1.2.2.1 x1.2.2.2.1 x1.2.2.2.2.1 x1.2.2.2.2.2.1 x1.2.2.2.2.2.2.1, ()))
 else n_49s0e1d (x3.2.1, ()) >>= fun x4 =>
 if (!x4.1) = true then
  some ((false, x4.2.1, Tag.mk (0 : Int) (0 : Int) (ByteArray.mk #[]) [] [], ()))
 else if x1.2.2.2.2.2.2.1.length + [x4.2.2.1].length ≤ (4294967296 : Nat) then
  n_50s0e1d (x4.2.1, ()) >>= fun x5 =>
  n_74s5bd0 (ByteArray.mk #[44], x5.1, ()) >>= fun x6 =>
  if x6.1 = true then
   n_72s0e1dg1 (x6.2.1, x1.2.1, x1.2.2.1, x1.2.2.2.1, x1.2.2.2.2.1, x1.2.2.2.2.2.1, x1.2.2.2.2.2.2.1 ++ [x4.2.2.1], ()) >>= fun x7 =>
   some x7
  else n_74s5bd0 (ByteArray.mk #[93], x6.2.1, ()) >>= fun x7 =>
  some ((x7.1, x7.2.1, Tag.mk x1.2.2.1 x1.2.2.2.1 x1.2.2.2.2.1 x1.2.2.2.2.2.1 (x1.2.2.2.2.2.2.1 ++ [x4.2.2.1]), ()))
 else none
 partial_fixpoint
noncomputable def n_72s0e1dg1 (v : Reader × Tag × Int × Int × ByteArray × (List ByteArray) × (List Tag) × Unit) : Option ((Bool × Reader × Tag × Unit)) :=
 n_49s0e1d (v.1, ()) >>= fun x1 =>
 if (!x1.1) = true then
  some ((false, x1.2.1, Tag.mk (0 : Int) (0 : Int) (ByteArray.mk #[]) [] [], ()))
 else if v.2.2.2.2.2.2.1.length + [x1.2.2.1].length ≤ (4294967296 : Nat) then
  n_50s0e1d (x1.2.1, ()) >>= fun x2 =>
  n_74s5bd0 (ByteArray.mk #[44], x2.1, ()) >>= fun x3 =>
  if x3.1 = true then
   n_72s0e1dg1 (x3.2.1, v.2.1, v.2.2.1, v.2.2.2.1, v.2.2.2.2.1, v.2.2.2.2.2.1, v.2.2.2.2.2.2.1 ++ [x1.2.2.1], ())
  else n_74s5bd0 (ByteArray.mk #[93], x3.2.1, ()) >>= fun x4 =>
  some ((x4.1, x4.2.1, Tag.mk v.2.2.1 v.2.2.2.1 v.2.2.2.2.1 v.2.2.2.2.2.1 (v.2.2.2.2.2.2.1 ++ [x1.2.2.1]), ()))
 else none
 partial_fixpoint
end
noncomputable def call49s0e1d (n_49s0e1d : Reader × Unit → Option (Bool × Reader × Tag × Unit)) (n_73s0e1d : Reader × Unit → Option (Bool × Reader × Tag × Unit)) (n_73s0e1dg1 : Reader × Tag × Int × Int × ByteArray × (List ByteArray) × (List Tag) × Unit → Option ((Bool × Reader × Tag × Unit))) (n_72s0e1d : Reader × Unit → Option (Bool × Reader × Tag × Unit)) (n_72s0e1dg1 : Reader × Tag × Int × Int × ByteArray × (List ByteArray) × (List Tag) × Unit → Option ((Bool × Reader × Tag × Unit))) : Caller vw := fun A fid args S k => match fid with | 50 => callObj prog sig50s0e1d n_50s0e1d A args S k | 68 => callObj prog sig68s0e1d n_68s0e1d A args S k | 69 => callObj prog sig69s5bd0 n_69s5bd0 A args S k | 70 => callObj prog sig70s0e1d n_70s0e1d A args S k | 71 => callObj prog sig71s0e1d n_71s0e1d A args S k | 72 => callObj prog sig72s0e1d n_72s0e1d A args S k | 73 => callObj prog sig73s0e1d n_73s0e1d A args S k | _ => none
noncomputable def x49s0e1d (n_49s0e1d : Reader × Unit → Option (Bool × Reader × Tag × Unit)) (n_73s0e1d : Reader × Unit → Option (Bool × Reader × Tag × Unit)) (n_73s0e1dg1 : Reader × Tag × Int × Int × ByteArray × (List ByteArray) × (List Tag) × Unit → Option ((Bool × Reader × Tag × Unit))) (n_72s0e1d : Reader × Unit → Option (Bool × Reader × Tag × Unit)) (n_72s0e1dg1 : Reader × Tag × Int × Int × ByteArray × (List ByteArray) × (List Tag) × Unit → Option ((Bool × Reader × Tag × Unit))) : Xc vw := { P := prog, n := 70, call := call49s0e1d n_49s0e1d n_73s0e1d n_73s0e1dg1 n_72s0e1d n_72s0e1dg1, sh := sh49s0e1d, regs := fun k => match k with | 9 => some c49s0e1dr9 | _ => none }
noncomputable def call72s0e1d (n_49s0e1d : Reader × Unit → Option (Bool × Reader × Tag × Unit)) (n_73s0e1d : Reader × Unit → Option (Bool × Reader × Tag × Unit)) (n_73s0e1dg1 : Reader × Tag × Int × Int × ByteArray × (List ByteArray) × (List Tag) × Unit → Option ((Bool × Reader × Tag × Unit))) (n_72s0e1d : Reader × Unit → Option (Bool × Reader × Tag × Unit)) (n_72s0e1dg1 : Reader × Tag × Int × Int × ByteArray × (List ByteArray) × (List Tag) × Unit → Option ((Bool × Reader × Tag × Unit))) : Caller vw := fun A fid args S k => match fid with | 49 => callObj prog sig49s0e1d n_49s0e1d A args S k | 50 => callObj prog sig50s0e1d n_50s0e1d A args S k | 74 => callObj prog sig74s5bd0 n_74s5bd0 A args S k | _ => none
noncomputable def x72s0e1d (n_49s0e1d : Reader × Unit → Option (Bool × Reader × Tag × Unit)) (n_73s0e1d : Reader × Unit → Option (Bool × Reader × Tag × Unit)) (n_73s0e1dg1 : Reader × Tag × Int × Int × ByteArray × (List ByteArray) × (List Tag) × Unit → Option ((Bool × Reader × Tag × Unit))) (n_72s0e1d : Reader × Unit → Option (Bool × Reader × Tag × Unit)) (n_72s0e1dg1 : Reader × Tag × Int × Int × ByteArray × (List ByteArray) × (List Tag) × Unit → Option ((Bool × Reader × Tag × Unit))) : Xc vw := { P := prog, n := 41, nm := fun d => match d with | 7 => 40007 | _ => d, call := call72s0e1d n_49s0e1d n_73s0e1d n_73s0e1dg1 n_72s0e1d n_72s0e1dg1, sh := sh72s0e1d, regs := fun k => match k with | 1 => some c72s0e1dg1 | _ => none, jumps := fun k => match k with | 1 => some (0, { cut := c72s0e1dg1, alts := [.ret], F := n_72s0e1dg1 }) | _ => none }
noncomputable def call73s0e1d (n_49s0e1d : Reader × Unit → Option (Bool × Reader × Tag × Unit)) (n_73s0e1d : Reader × Unit → Option (Bool × Reader × Tag × Unit)) (n_73s0e1dg1 : Reader × Tag × Int × Int × ByteArray × (List ByteArray) × (List Tag) × Unit → Option ((Bool × Reader × Tag × Unit))) (n_72s0e1d : Reader × Unit → Option (Bool × Reader × Tag × Unit)) (n_72s0e1dg1 : Reader × Tag × Int × Int × ByteArray × (List ByteArray) × (List Tag) × Unit → Option ((Bool × Reader × Tag × Unit))) : Caller vw := fun A fid args S k => match fid with | 49 => callObj prog sig49s0e1d n_49s0e1d A args S k | 50 => callObj prog sig50s0e1d n_50s0e1d A args S k | 68 => callObj prog sig68s0e1d n_68s0e1d A args S k | 71 => callObj prog sig71s0e1d n_71s0e1d A args S k | 74 => callObj prog sig74s5bd0 n_74s5bd0 A args S k | _ => none
noncomputable def x73s0e1d (n_49s0e1d : Reader × Unit → Option (Bool × Reader × Tag × Unit)) (n_73s0e1d : Reader × Unit → Option (Bool × Reader × Tag × Unit)) (n_73s0e1dg1 : Reader × Tag × Int × Int × ByteArray × (List ByteArray) × (List Tag) × Unit → Option ((Bool × Reader × Tag × Unit))) (n_72s0e1d : Reader × Unit → Option (Bool × Reader × Tag × Unit)) (n_72s0e1dg1 : Reader × Tag × Int × Int × ByteArray × (List ByteArray) × (List Tag) × Unit → Option ((Bool × Reader × Tag × Unit))) : Xc vw := { P := prog, n := 68, nm := fun d => match d with | 8 => 40008 | _ => d, call := call73s0e1d n_49s0e1d n_73s0e1d n_73s0e1dg1 n_72s0e1d n_72s0e1dg1, sh := sh73s0e1d, regs := fun k => match k with | 1 => some c72s0e1dg1 | _ => none, jumps := fun k => match k with | 1 => some (0, { cut := c72s0e1dg1, alts := [.ret], F := n_73s0e1dg1 }) | _ => none }
abbrev mn_49s0e1d (v : Reader × Unit) (r : Bool × Reader × Tag × Unit) : Prop := (fun v r => ∀ x, resV prog sig49s0e1d r = some x → FnOk prog 49 (encL vw (startS sig49s0e1d v).len (startOs sig49s0e1d v).1) (encOs (startS sig49s0e1d v).len (startS sig49s0e1d v).own) (encV vw (conc vw sig49s0e1d.rcut r).len x) (encOs (conc vw sig49s0e1d.rcut r).len (kept sig49s0e1d r))) v r
abbrev mn_73s0e1d (v : Reader × Unit) (r : Bool × Reader × Tag × Unit) : Prop := (fun v r => ∀ x, resV prog sig73s0e1d r = some x → FnOk prog 73 (encL vw (startS sig73s0e1d v).len (startOs sig73s0e1d v).1) (encOs (startS sig73s0e1d v).len (startS sig73s0e1d v).own) (encV vw (conc vw sig73s0e1d.rcut r).len x) (encOs (conc vw sig73s0e1d.rcut r).len (kept sig73s0e1d r))) v r
abbrev mn_73s0e1dg1 (v : Reader × Tag × Int × Int × ByteArray × (List ByteArray) × (List Tag) × Unit) (r : (Bool × Reader × Tag × Unit)) : Prop := (fun v out => ∀ C : Ctx, C.P = prog → C.N = 68 → AWpJ C (scopeNo (bodyOf Tryz.f73) 0) (restOf (scopeNo (bodyOf Tryz.f73) 0) 0) (encS vw (conc vw c72s0e1dg1 v)) (OutQ sh73s0e1d [.ret] out)) v r
abbrev mn_72s0e1d (v : Reader × Unit) (r : Bool × Reader × Tag × Unit) : Prop := (fun v r => ∀ x, resV prog sig72s0e1d r = some x → FnOk prog 72 (encL vw (startS sig72s0e1d v).len (startOs sig72s0e1d v).1) (encOs (startS sig72s0e1d v).len (startS sig72s0e1d v).own) (encV vw (conc vw sig72s0e1d.rcut r).len x) (encOs (conc vw sig72s0e1d.rcut r).len (kept sig72s0e1d r))) v r
abbrev mn_72s0e1dg1 (v : Reader × Tag × Int × Int × ByteArray × (List ByteArray) × (List Tag) × Unit) (r : (Bool × Reader × Tag × Unit)) : Prop := (fun v out => ∀ C : Ctx, C.P = prog → C.N = 41 → AWpJ C (scopeNo (bodyOf Tryz.f72) 0) (restOf (scopeNo (bodyOf Tryz.f72) 0) 0) (encS vw (conc vw c72s0e1dg1 v)) (OutQ sh72s0e1d [.ret] out)) v r
theorem cn_49s0e1d (f0 : Reader × Unit → Option (Bool × Reader × Tag × Unit)) (f1 : Reader × Unit → Option (Bool × Reader × Tag × Unit)) (h0 : ∀ v r, f0 v = some r → mn_73s0e1d v r) (h1 : ∀ v r, f1 v = some r → mn_72s0e1d v r) : CallerOk prog (x49s0e1d (fun _ => none) f0 (fun _ => none) f1 (fun _ => none)).call := (by
    intro A fid args S dst k r h
    unfold x49s0e1d call49s0e1d at h
    simp only at h
    split at h
    ·exact callObj_ok (n_50s0e1d_ok) h
    ·exact callObj_ok (n_68s0e1d_ok) h
    ·exact callObj_ok (n_69s5bd0_ok) h
    ·exact callObj_ok (n_70s0e1d_ok) h
    ·exact callObj_ok (n_71s0e1d_ok) h
    ·exact callObj_ok ((fun v r x h hx => h1 v r h x hx)) h
    ·exact callObj_ok ((fun v r x h hx => h0 v r h x hx)) h
    ·cases h)
theorem sn_49s0e1d (f0 : Reader × Unit → Option (Bool × Reader × Tag × Unit)) (f1 : Reader × Unit → Option (Bool × Reader × Tag × Unit)) (h0 : ∀ v r, f0 v = some r → mn_73s0e1d v r) (h1 : ∀ v r, f1 v = some r → mn_72s0e1d v r) (v : Reader × Unit) (r : Bool × Reader × Tag × Unit) (h : exF (x49s0e1d (fun _ => none) f0 (fun _ => none) f1 (fun _ => none)) sig49s0e1d rfl (bodyOf Tryz.f49) v = some r) : mn_49s0e1d v r := fun x hx => fn_ok (X := x49s0e1d (fun _ => none) f0 (fun _ => none) f1 (fun _ => none)) (sig := sig49s0e1d) rfl Tryz.func49 (c := bodyOf Tryz.f49) (by kernel_rfl) Tryz.ntmps49 (by kernel_rfl) (by kernel_rfl) rfl Ty.mixed (cn_49s0e1d f0 f1 h0 h1) rfl (fun C hP hN => (lok_all (X := x49s0e1d (fun _ => none) f0 (fun _ => none) f1 (fun _ => none)) (c := (bodyOf Tryz.f49)) (kcast (by kernel_rfl : True = AllB (LoopsP C (x49s0e1d (fun _ => none) f0 (fun _ => none) f1 (fun _ => none))) (loopsIn (bodyOf Tryz.f49))) trivial))) h x hx
theorem cn_73s0e1d (f0 : Reader × Unit → Option (Bool × Reader × Tag × Unit)) (f1 : Reader × Tag × Int × Int × ByteArray × (List ByteArray) × (List Tag) × Unit → Option ((Bool × Reader × Tag × Unit))) (h0 : ∀ v r, f0 v = some r → mn_49s0e1d v r) (h1 : ∀ v r, f1 v = some r → mn_73s0e1dg1 v r) : CallerOk prog (x73s0e1d f0 (fun _ => none) f1 (fun _ => none) (fun _ => none)).call := (by
    intro A fid args S dst k r h
    unfold x73s0e1d call73s0e1d at h
    simp only at h
    split at h
    ·exact callObj_ok ((fun v r x h hx => h0 v r h x hx)) h
    ·exact callObj_ok (n_50s0e1d_ok) h
    ·exact callObj_ok (n_68s0e1d_ok) h
    ·exact callObj_ok (n_71s0e1d_ok) h
    ·exact callObj_ok (n_74s5bd0_ok) h
    ·cases h)
theorem sn_73s0e1d (f0 : Reader × Unit → Option (Bool × Reader × Tag × Unit)) (f1 : Reader × Tag × Int × Int × ByteArray × (List ByteArray) × (List Tag) × Unit → Option ((Bool × Reader × Tag × Unit))) (h0 : ∀ v r, f0 v = some r → mn_49s0e1d v r) (h1 : ∀ v r, f1 v = some r → mn_73s0e1dg1 v r) (v : Reader × Unit) (r : Bool × Reader × Tag × Unit) (h : exF (x73s0e1d f0 (fun _ => none) f1 (fun _ => none) (fun _ => none)) sig73s0e1d rfl (bodyOf Tryz.f73) v = some r) : mn_73s0e1d v r := fun x hx => fn_ok (X := x73s0e1d f0 (fun _ => none) f1 (fun _ => none) (fun _ => none)) (sig := sig73s0e1d) rfl Tryz.func73 (c := bodyOf Tryz.f73) (by kernel_rfl) Tryz.ntmps73 (by kernel_rfl) (by kernel_rfl) rfl Ty.mixed (cn_73s0e1d f0 f1 h0 h1) rfl (fun C hP hN => (lok_all2 (X := x73s0e1d f0 (fun _ => none) f1 (fun _ => none) (fun _ => none)) (c := (bodyOf Tryz.f73)) (kcast (by kernel_rfl : AllB (LoopsP C (x73s0e1d f0 (fun _ => none) f1 (fun _ => none) (fun _ => none))) [] = AllB (LoopsP C (x73s0e1d f0 (fun _ => none) f1 (fun _ => none) (fun _ => none))) (loopsIn (bodyOf Tryz.f73))) trivial) (kcast (by kernel_rfl : AllB (JumpsP C (x73s0e1d f0 (fun _ => none) f1 (fun _ => none) (fun _ => none))) [(scopeNo (bodyOf Tryz.f73) 0)] = AllB (JumpsP C (x73s0e1d f0 (fun _ => none) f1 (fun _ => none) (fun _ => none))) (jumpsIn (bodyOf Tryz.f73))) ⟨jump_at (X := x73s0e1d f0 (fun _ => none) f1 (fun _ => none) (fun _ => none)) (x := (scopeNo (bodyOf Tryz.f73) 0)) (l := 0) (by kernel_rfl) (show JumpOk C (scopeNo (bodyOf Tryz.f73) 0) 0 (sh := sh73s0e1d) { cut := c72s0e1dg1, alts := [.ret], F := f1 } from ⟨(restOf (scopeNo (bodyOf Tryz.f73) 0) 0), by kernel_rfl, fun v out h => h1 v out h C hP hN⟩), trivial⟩))) h x hx
theorem cn_73s0e1dg1 (f0 : Reader × Unit → Option (Bool × Reader × Tag × Unit)) (f1 : Reader × Tag × Int × Int × ByteArray × (List ByteArray) × (List Tag) × Unit → Option ((Bool × Reader × Tag × Unit))) (h0 : ∀ v r, f0 v = some r → mn_49s0e1d v r) (h1 : ∀ v r, f1 v = some r → mn_73s0e1dg1 v r) : CallerOk prog (x73s0e1d f0 (fun _ => none) f1 (fun _ => none) (fun _ => none)).call := (by
    intro A fid args S dst k r h
    unfold x73s0e1d call73s0e1d at h
    simp only at h
    split at h
    ·exact callObj_ok ((fun v r x h hx => h0 v r h x hx)) h
    ·exact callObj_ok (n_50s0e1d_ok) h
    ·exact callObj_ok (n_68s0e1d_ok) h
    ·exact callObj_ok (n_71s0e1d_ok) h
    ·exact callObj_ok (n_74s5bd0_ok) h
    ·cases h)
theorem sn_73s0e1dg1 (f0 : Reader × Unit → Option (Bool × Reader × Tag × Unit)) (f1 : Reader × Tag × Int × Int × ByteArray × (List ByteArray) × (List Tag) × Unit → Option ((Bool × Reader × Tag × Unit))) (h0 : ∀ v r, f0 v = some r → mn_49s0e1d v r) (h1 : ∀ v r, f1 v = some r → mn_73s0e1dg1 v r) (v : Reader × Tag × Int × Int × ByteArray × (List ByteArray) × (List Tag) × Unit) (r : (Bool × Reader × Tag × Unit)) (h : exJ (x73s0e1d f0 (fun _ => none) f1 (fun _ => none) (fun _ => none)) (restOf (scopeNo (bodyOf Tryz.f73) 0) 0) 0 c72s0e1dg1 [.ret] f1 v = some r) : mn_73s0e1dg1 v r := fun C hP hN => jump_step (X := x73s0e1d f0 (fun _ => none) f1 (fun _ => none) (fun _ => none)) (x := (scopeNo (bodyOf Tryz.f73) 0)) (b := (restOf (scopeNo (bodyOf Tryz.f73) 0) 0)) (l := 0) hP hN Ty.mixed (cn_73s0e1dg1 f0 f1 h0 h1) (by kernel_rfl) (lok_all2 (X := x73s0e1d f0 (fun _ => none) f1 (fun _ => none) (fun _ => none)) (c := (restOf (scopeNo (bodyOf Tryz.f73) 0) 0)) (kcast (by kernel_rfl : AllB (LoopsP C (x73s0e1d f0 (fun _ => none) f1 (fun _ => none) (fun _ => none))) [] = AllB (LoopsP C (x73s0e1d f0 (fun _ => none) f1 (fun _ => none) (fun _ => none))) (loopsIn (restOf (scopeNo (bodyOf Tryz.f73) 0) 0))) trivial) (kcast (by kernel_rfl : AllB (JumpsP C (x73s0e1d f0 (fun _ => none) f1 (fun _ => none) (fun _ => none))) [] = AllB (JumpsP C (x73s0e1d f0 (fun _ => none) f1 (fun _ => none) (fun _ => none))) (jumpsIn (restOf (scopeNo (bodyOf Tryz.f73) 0) 0))) trivial)) (cut := c72s0e1dg1) (alts := [.ret]) (F := f1) (fun v out h => h1 v out h C hP hN) h
theorem cn_72s0e1d (f0 : Reader × Unit → Option (Bool × Reader × Tag × Unit)) (f1 : Reader × Tag × Int × Int × ByteArray × (List ByteArray) × (List Tag) × Unit → Option ((Bool × Reader × Tag × Unit))) (h0 : ∀ v r, f0 v = some r → mn_49s0e1d v r) (h1 : ∀ v r, f1 v = some r → mn_72s0e1dg1 v r) : CallerOk prog (x72s0e1d f0 (fun _ => none) (fun _ => none) (fun _ => none) f1).call := (by
    intro A fid args S dst k r h
    unfold x72s0e1d call72s0e1d at h
    simp only at h
    split at h
    ·exact callObj_ok ((fun v r x h hx => h0 v r h x hx)) h
    ·exact callObj_ok (n_50s0e1d_ok) h
    ·exact callObj_ok (n_74s5bd0_ok) h
    ·cases h)
theorem sn_72s0e1d (f0 : Reader × Unit → Option (Bool × Reader × Tag × Unit)) (f1 : Reader × Tag × Int × Int × ByteArray × (List ByteArray) × (List Tag) × Unit → Option ((Bool × Reader × Tag × Unit))) (h0 : ∀ v r, f0 v = some r → mn_49s0e1d v r) (h1 : ∀ v r, f1 v = some r → mn_72s0e1dg1 v r) (v : Reader × Unit) (r : Bool × Reader × Tag × Unit) (h : exF (x72s0e1d f0 (fun _ => none) (fun _ => none) (fun _ => none) f1) sig72s0e1d rfl (bodyOf Tryz.f72) v = some r) : mn_72s0e1d v r := fun x hx => fn_ok (X := x72s0e1d f0 (fun _ => none) (fun _ => none) (fun _ => none) f1) (sig := sig72s0e1d) rfl Tryz.func72 (c := bodyOf Tryz.f72) (by kernel_rfl) Tryz.ntmps72 (by kernel_rfl) (by kernel_rfl) rfl Ty.mixed (cn_72s0e1d f0 f1 h0 h1) rfl (fun C hP hN => (lok_all2 (X := x72s0e1d f0 (fun _ => none) (fun _ => none) (fun _ => none) f1) (c := (bodyOf Tryz.f72)) (kcast (by kernel_rfl : AllB (LoopsP C (x72s0e1d f0 (fun _ => none) (fun _ => none) (fun _ => none) f1)) [] = AllB (LoopsP C (x72s0e1d f0 (fun _ => none) (fun _ => none) (fun _ => none) f1)) (loopsIn (bodyOf Tryz.f72))) trivial) (kcast (by kernel_rfl : AllB (JumpsP C (x72s0e1d f0 (fun _ => none) (fun _ => none) (fun _ => none) f1)) [(scopeNo (bodyOf Tryz.f72) 0)] = AllB (JumpsP C (x72s0e1d f0 (fun _ => none) (fun _ => none) (fun _ => none) f1)) (jumpsIn (bodyOf Tryz.f72))) ⟨jump_at (X := x72s0e1d f0 (fun _ => none) (fun _ => none) (fun _ => none) f1) (x := (scopeNo (bodyOf Tryz.f72) 0)) (l := 0) (by kernel_rfl) (show JumpOk C (scopeNo (bodyOf Tryz.f72) 0) 0 (sh := sh72s0e1d) { cut := c72s0e1dg1, alts := [.ret], F := f1 } from ⟨(restOf (scopeNo (bodyOf Tryz.f72) 0) 0), by kernel_rfl, fun v out h => h1 v out h C hP hN⟩), trivial⟩))) h x hx
theorem cn_72s0e1dg1 (f0 : Reader × Unit → Option (Bool × Reader × Tag × Unit)) (f1 : Reader × Tag × Int × Int × ByteArray × (List ByteArray) × (List Tag) × Unit → Option ((Bool × Reader × Tag × Unit))) (h0 : ∀ v r, f0 v = some r → mn_49s0e1d v r) (h1 : ∀ v r, f1 v = some r → mn_72s0e1dg1 v r) : CallerOk prog (x72s0e1d f0 (fun _ => none) (fun _ => none) (fun _ => none) f1).call := (by
    intro A fid args S dst k r h
    unfold x72s0e1d call72s0e1d at h
    simp only at h
    split at h
    ·exact callObj_ok ((fun v r x h hx => h0 v r h x hx)) h
    ·exact callObj_ok (n_50s0e1d_ok) h
    ·exact callObj_ok (n_74s5bd0_ok) h
    ·cases h)
theorem sn_72s0e1dg1 (f0 : Reader × Unit → Option (Bool × Reader × Tag × Unit)) (f1 : Reader × Tag × Int × Int × ByteArray × (List ByteArray) × (List Tag) × Unit → Option ((Bool × Reader × Tag × Unit))) (h0 : ∀ v r, f0 v = some r → mn_49s0e1d v r) (h1 : ∀ v r, f1 v = some r → mn_72s0e1dg1 v r) (v : Reader × Tag × Int × Int × ByteArray × (List ByteArray) × (List Tag) × Unit) (r : (Bool × Reader × Tag × Unit)) (h : exJ (x72s0e1d f0 (fun _ => none) (fun _ => none) (fun _ => none) f1) (restOf (scopeNo (bodyOf Tryz.f72) 0) 0) 0 c72s0e1dg1 [.ret] f1 v = some r) : mn_72s0e1dg1 v r := fun C hP hN => jump_step (X := x72s0e1d f0 (fun _ => none) (fun _ => none) (fun _ => none) f1) (x := (scopeNo (bodyOf Tryz.f72) 0)) (b := (restOf (scopeNo (bodyOf Tryz.f72) 0) 0)) (l := 0) hP hN Ty.mixed (cn_72s0e1dg1 f0 f1 h0 h1) (by kernel_rfl) (lok_all2 (X := x72s0e1d f0 (fun _ => none) (fun _ => none) (fun _ => none) f1) (c := (restOf (scopeNo (bodyOf Tryz.f72) 0) 0)) (kcast (by kernel_rfl : AllB (LoopsP C (x72s0e1d f0 (fun _ => none) (fun _ => none) (fun _ => none) f1)) [] = AllB (LoopsP C (x72s0e1d f0 (fun _ => none) (fun _ => none) (fun _ => none) f1)) (loopsIn (restOf (scopeNo (bodyOf Tryz.f72) 0) 0))) trivial) (kcast (by kernel_rfl : AllB (JumpsP C (x72s0e1d f0 (fun _ => none) (fun _ => none) (fun _ => none) f1)) [] = AllB (JumpsP C (x72s0e1d f0 (fun _ => none) (fun _ => none) (fun _ => none) f1)) (jumpsIn (restOf (scopeNo (bodyOf Tryz.f72) 0) 0))) trivial)) (cut := c72s0e1dg1) (alts := [.ret]) (F := f1) (fun v out h => h1 v out h C hP hN) h
theorem n_49s0e1d_all : (∀ v r, n_49s0e1d v = some r → mn_49s0e1d v r) ∧ (∀ v r, n_73s0e1d v = some r → mn_73s0e1d v r) ∧ (∀ v r, n_73s0e1dg1 v = some r → mn_73s0e1dg1 v r) ∧ (∀ v r, n_72s0e1d v = some r → mn_72s0e1d v r) ∧ (∀ v r, n_72s0e1dg1 v = some r → mn_72s0e1dg1 v r) := by
 refine n_49s0e1d.mutual_partial_correctness
  (motive_1 := mn_49s0e1d)
  (motive_2 := mn_73s0e1d)
  (motive_3 := mn_73s0e1dg1)
  (motive_4 := mn_72s0e1d)
  (motive_5 := mn_72s0e1dg1)
  ?_ ?_ ?_ ?_ ?_
 ·exact (fun f0 f1 h0 h1 v r h => sn_49s0e1d f0 f1 h0 h1 v r (kcast (by kernel_rfl) h))
 ·exact (fun f0 f1 h0 h1 v r h => sn_73s0e1d f0 f1 h0 h1 v r (kcast (by kernel_rfl) h))
 ·exact (fun f0 f1 h0 h1 v r h => sn_73s0e1dg1 f0 f1 h0 h1 v r (kcast (by kernel_rfl) h))
 ·exact (fun f0 f1 h0 h1 v r h => sn_72s0e1d f0 f1 h0 h1 v r (kcast (by kernel_rfl) h))
 ·exact (fun f0 f1 h0 h1 v r h => sn_72s0e1dg1 f0 f1 h0 h1 v r (kcast (by kernel_rfl) h))
theorem n_49s0e1d_ok : SigOk prog 49 sig49s0e1d n_49s0e1d := fun v r x h hx => n_49s0e1d_all.1 v r h x hx
noncomputable def c28j7 : Cut SN := ⟨[(0, .dat .str), (2, .bp 2 0), (5, .bp 15 0), (6, .bp 6 0), (7, .dat .bool)], [(2, .st .tagT), (15, .st .readerT), (6, .st .tagT)]⟩
noncomputable def c28r7 : Cut SN := ⟨[(0, .dat .str), (2, .bp 2 0), (5, .bp 15 0), (6, .bp 6 0), (34, .dat .bool)], [(2, .st .tagT), (15, .st .readerT), (6, .st .tagT)]⟩
noncomputable def c28z : Cut SN := ⟨[(2, .bp 2 0), (3, .dat (.int .i64)), (4, .dat (.int .i64))], [(2, .st .tagT)]⟩
noncomputable def sh28 : Shape vw := { rcut := c28z }
noncomputable def sig28 : Sig vw := { params := [.dat .str], rcut := c28z, rvars := [.cell 2 25, .tmp 3, .tmp 4] }
noncomputable def n_28 (v : ByteArray × Unit) : Option (Int × Int × Tag × Unit) :=
 if decide ((↑v.1.size : Int) > (65536 : Int)) = true then
  some (((0 : Int), (3 : Int), Tag.mk (0 : Int) (0 : Int) (ByteArray.mk #[]) [] [], ()))
 else n_49s0e1d (Reader.mk v.1 (0 : Int), ()) >>= fun x1 =>
 (if x1.1 = true then
    n_50s0e1d (x1.2.1, ()) >>= fun x2 =>
    some ((v.1, x1.1, Tag.mk (0 : Int) (0 : Int) (ByteArray.mk #[]) [] [], x2.1, x1.2.2.1, ()))
   else some ((v.1, x1.1, Tag.mk (0 : Int) (0 : Int) (ByteArray.mk #[]) [] [], x1.2.1, x1.2.2.1, ()))) >>= fun x2 =>
 (if (!x2.2.1) = true then
    some ((x2.1, true, x2.2.2.1, x2.2.2.2.1, x2.2.2.2.2.1, ()))
   else some ((x2.1, decide (x2.2.2.2.1.at0 < (↑x2.1.size : Int)), x2.2.2.1, x2.2.2.2.1, x2.2.2.2.2.1, ()))) >>= fun x3 =>
 if x3.2.1 = true then
  some ((x3.2.2.2.1.at0, (2 : Int), Tag.mk (0 : Int) (0 : Int) (ByteArray.mk #[]) [] [], ()))
 else n_29 (x3.2.2.2.2.1, ()) >>= fun x4 =>
 if (x4.1 != (0 : Int)) = true then
  some (((0 : Int), x4.1, Tag.mk (0 : Int) (0 : Int) (ByteArray.mk #[]) [] [], ()))
 else some (((↑x3.1.size : Int), (0 : Int), x3.2.2.2.2.1, ()))
noncomputable def call28 : Caller vw := fun A fid args S k => match fid with | 29 => callPure prog sig29 n_29 A args S k | 49 => callObj prog sig49s0e1d n_49s0e1d A args S k | 50 => callObj prog sig50s0e1d n_50s0e1d A args S k | _ => none
noncomputable def x28 : Xc vw := { P := prog, n := 49, call := call28, sh := sh28, joins := fun k => match k with | 7 => some (c28j7, [.norm]) | _ => none, regs := fun k => match k with | 7 => some c28r7 | _ => none }
theorem call28_ok : CallerOk prog call28 := fun A fid args S dst k r h => by
 unfold call28 at h
 split at h
 ·exact callPure_ok (n_29_ok) rfl rfl h
 ·exact callObj_ok (n_49s0e1d_ok) h
 ·exact callObj_ok (n_50s0e1d_ok) h
 ·cases h
theorem n_28_ok : SigOk prog 28 sig28 n_28 := fun v r x h hx =>
 fn_ok (X := x28) (sig := sig28) rfl Tryz.func28 (c := bodyOf Tryz.f28) (by kernel_rfl) Tryz.ntmps28 (by kernel_rfl) (by kernel_rfl) rfl Ty.mixed call28_ok rfl (fun C hP hN => (lok_all (kcast (by kernel_rfl) trivial))) (kcast (by kernel_rfl) h) x hx
noncomputable def sh7 : Shape vw := { rcut := c76z }
noncomputable def sig7 : Sig vw := { params := [.dat (.st .tagT)], rcut := c76z, rvars := [.tmp 2] }
noncomputable def n_7 (v : Tag × Unit) : Option (Bool × Unit) :=
 n_27 (v.1, ()) >>= fun x1 =>
 (if decide (x1.1 > (2000 : Int)) = true then
    some ((true, ()))
   else if decide (x1.2.1 > (100 : Int)) = true then
    some ((true, ()))
   else some ((decide (x1.2.2.1 > (20000 : Int)), ()))) >>= fun x2 =>
 some ((x2.1, ()))
noncomputable def call7 : Caller vw := fun A fid args S k => match fid with | 27 => callPure prog sig27 n_27 A args S k | _ => none
noncomputable def x7 : Xc vw := { P := prog, n := 22, call := call7, sh := sh7, regs := fun k => match k with | 2 => some c76z | _ => none }
theorem call7_ok : CallerOk prog call7 := fun A fid args S dst k r h => by
 unfold call7 at h
 split at h
 ·exact callPure_ok (n_27_ok) rfl rfl h
 ·cases h
theorem n_7_ok : SigOk prog 7 sig7 n_7 := fun v r x h hx =>
 fn_ok (X := x7) (sig := sig7) rfl Tryz.func7 (c := bodyOf Tryz.f7) (by kernel_rfl) Tryz.ntmps7 (by kernel_rfl) (by kernel_rfl) rfl Ty.mixed call7_ok rfl (fun C hP hN => (lok_all (kcast (by kernel_rfl) trivial))) (kcast (by kernel_rfl) h) x hx
noncomputable def c8l2 : Cut SN := ⟨[(0, .dat (.sl .str)), (3, .dat (.int .i64))], []⟩
noncomputable def c8e0 : Cut SN := ⟨[(0, .dat (.sl .str))], []⟩
noncomputable def sh8 : Shape vw := { exits := fun id => match id with | 0 => c8e0 | _ => ⟨[], []⟩, rcut := c76z }
noncomputable def sig8 : Sig vw := { params := [.dat (.sl .str)], rcut := c76z, rvars := [.tmp 2] }
noncomputable def n_8l2 (v : (List ByteArray) × Int × Unit) : Option (((Bool × Unit) ⊕ ((List ByteArray) × Unit))) :=
 if decide (v.2.1 < (↑v.1.length : Int)) = true then
  if (0 : Int) ≤ v.2.1 then
   v.1[v.2.1.toNat]? >>= fun x1 =>
   if decide ((↑x1.size : Int) > (5000 : Int)) = true then
    some (Sum.inl (true, ()))
   else n_8l2 (v.1, i64.wrap (v.2.1 + (1 : Int)), ())
  else none
 else some (Sum.inr (v.1, ()))
 partial_fixpoint
noncomputable def n_8 (v : (List ByteArray) × Unit) : Option (Bool × Unit) :=
 n_8l2 (v.1, (0 : Int), ()) >>= fun x1 => match x1 with
  | .inl y1 => some y1
  | .inr y1 => some ((decide ((↑y1.1.length : Int) > (50 : Int)), ()))
noncomputable def call8 : Caller vw := fun _ _ _ _ _ => none
noncomputable def x8 : Xc vw := { P := prog, n := 19, call := call8, sh := sh8, loops := fun k => match k with | 2 => some { cut := c8l2, alts := [.ret, .exit 0], F := n_8l2 } | _ => none }
theorem call8_ok : CallerOk prog call8 := call_none
theorem n_8l2_ok (C : Ctx) (hP : C.P = prog) (hN : C.N = 19) : LoopOk C (loopNo (bodyOf Tryz.f8) 0) (sh := sh8) { cut := c8l2, alts := [.ret, .exit 0], F := n_8l2 } :=
 n_8l2.partial_correctness (motive := fun v out => AWpL C (loopNo (bodyOf Tryz.f8) 0) (encS vw (conc vw c8l2 v)) (OutQ sh8 [.ret, .exit 0] out)) fun F ih v out h =>
  loop_step (X := x8) (b := (loopNo (bodyOf Tryz.f8) 0)) hP hN Ty.mixed call8_ok (lok_all (X := x8) (c := (loopNo (bodyOf Tryz.f8) 0)) (kcast (by kernel_rfl : True = AllB (LoopsP C (x8)) (loopsIn (loopNo (bodyOf Tryz.f8) 0))) trivial)) ih (kcast (by kernel_rfl) h)
theorem n_8_ok : SigOk prog 8 sig8 n_8 := fun v r x h hx =>
 fn_ok (X := x8) (sig := sig8) rfl Tryz.func8 (c := bodyOf Tryz.f8) (by kernel_rfl) Tryz.ntmps8 (by kernel_rfl) (by kernel_rfl) rfl Ty.mixed call8_ok rfl (fun C hP hN => (lok_all (kcast (by kernel_rfl : AllB (LoopsP C (x8)) [(loopNo (bodyOf Tryz.f8) 0)] = AllB (LoopsP C (x8)) (loopsIn (bodyOf Tryz.f8))) ⟨loop_at (X := x8) (b := (loopNo (bodyOf Tryz.f8) 0)) (by kernel_rfl) (n_8l2_ok C hP hN), trivial⟩))) (kcast (by kernel_rfl) h) x hx
noncomputable def c9r4 : Cut SN := ⟨[(0, .dat .bool)], []⟩
noncomputable def sh9 : Shape vw := { rcut := c9r4 }
noncomputable def sig9 : Sig vw := { params := [], rcut := c9r4, rvars := [.tmp 0] }
noncomputable def n_9 (v : Unit) : Option (Bool × Unit) :=
 n_28 (ByteArray.mk #[123, 34, 97, 34, 58, 91, 49, 44, 50, 93, 125], ()) >>= fun x1 =>
 n_13 (x1.2.2.1, [ByteArray.mk #[97], ByteArray.mk #[49]], ()) >>= fun x2 =>
 n_28 (ByteArray.mk #[91, 49, 44, 93], ()) >>= fun x3 =>
 (if (x1.2.1 == (0 : Int)) = true then
    if (x1.1 == (11 : Int)) = true then
     if (x2.2.1 == (0 : Int)) = true then
      if x2.1 = true then
       if (x2.2.2.1.kind == (3 : Int)) = true then
        if (x2.2.2.1.n == (2 : Int)) = true then
         if (x3.2.1 == (2 : Int)) = true then
          some ((x3.1 == (3 : Int), ()))
         else some ((false, ()))
        else some ((false, ()))
       else some ((false, ()))
      else some ((false, ()))
     else some ((false, ()))
    else some ((false, ()))
   else some ((false, ()))) >>= fun x4 =>
 some ((x4.1, ()))
noncomputable def call9 : Caller vw := fun A fid args S k => match fid with | 13 => callPure prog sig13 n_13 A args S k | 28 => callPure prog sig28 n_28 A args S k | _ => none
noncomputable def x9 : Xc vw := { P := prog, n := 58, call := call9, sh := sh9, regs := fun k => match k with | 4 => some c9r4 | _ => none }
theorem call9_ok : CallerOk prog call9 := fun A fid args S dst k r h => by
 unfold call9 at h
 split at h
 ·exact callPure_ok (n_13_ok) rfl rfl h
 ·exact callPure_ok (n_28_ok) rfl rfl h
 ·cases h
theorem n_9_ok : SigOk prog 9 sig9 n_9 := fun v r x h hx =>
 fn_ok (X := x9) (sig := sig9) rfl Tryz.func9 (c := bodyOf Tryz.f9) (by kernel_rfl) Tryz.ntmps9 (by kernel_rfl) (by kernel_rfl) rfl Ty.mixed call9_ok rfl (fun C hP hN => (lok_all (kcast (by kernel_rfl) trivial))) (kcast (by kernel_rfl) h) x hx
noncomputable def c5r1 : Cut SN := ⟨[(1, .dat (.sl .str)), (2, .bp 2 0), (20, .dat .bool)], [(2, .st .tagT)]⟩
noncomputable def c5r5 : Cut SN := ⟨[(2, .bp 2 0), (5, .bp 5 0), (6, .dat .bool), (49, .dat .bool)], [(2, .st .tagT), (5, .st .tagT)]⟩
noncomputable def sh5 : Shape vw := { rcut := c101z }
noncomputable def sig5 : Sig vw := { params := [.dat (.st .tagT), .dat (.sl .str)], rcut := c101z, rvars := [.tmp 4] }
noncomputable def n_5 (v : Tag × (List ByteArray) × Unit) : Option (Bool × Unit) :=
 (n_7 (v.1, ()) >>= fun x1 =>
   if x1.1 = true then
    some ((v.2.1, true, v.1, ()))
   else n_8 (v.2.1, ()) >>= fun x2 =>
   some ((v.2.1, x2.1, v.1, ()))) >>= fun x1 =>
 if x1.2.1 = true then
  n_9 () >>= fun x2 =>
  some ((x2.1, ()))
 else n_16 (x1.2.2.1, x1.1, ()) >>= fun x2 =>
 n_17 (x1.2.2.1, x1.1, ()) >>= fun x3 =>
 (n_12 (x2.2.2.1, x3.2.2.1, ()) >>= fun x4 =>
   if (!x4.1) = true then
    some ((x2.1, true, x1.2.2.1, x2.2.2.1, ()))
   else if (!x2.1 == x3.1) = true then
    some ((x2.1, true, x1.2.2.1, x2.2.2.1, ()))
   else some ((x2.1, x2.2.1 != x3.2.1, x1.2.2.1, x2.2.2.1, ()))) >>= fun x4 =>
 if x4.2.1 = true then
  some ((false, ()))
 else n_18 (x4.2.2.2.1, ()) >>= fun x5 =>
 n_18 (x4.2.2.1, ()) >>= fun x6 =>
 (if (!x4.1) = true then
    n_9 () >>= fun x7 =>
    some ((x7.1, ()))
   else if (x5.2.1 == (0 : Int)) = true then
    if (x6.2.1 == (0 : Int)) = true then
     if decide (x5.1 < x6.1) = true then
      n_9 () >>= fun x7 =>
      some ((x7.1, ()))
     else some ((false, ()))
    else some ((false, ()))
   else some ((false, ()))) >>= fun x7 =>
 some ((x7.1, ()))
noncomputable def call5 : Caller vw := fun A fid args S k => match fid with | 7 => callPure prog sig7 n_7 A args S k | 8 => callPure prog sig8 n_8 A args S k | 9 => callPure prog sig9 n_9 A args S k | 12 => callPure prog sig12 n_12 A args S k | 16 => callPure prog sig16 n_16 A args S k | 17 => callPure prog sig17 n_17 A args S k | 18 => callPure prog sig18 n_18 A args S k | _ => none
noncomputable def x5 : Xc vw := { P := prog, n := 78, call := call5, sh := sh5, regs := fun k => match k with | 1 => some c5r1 | 5 => some c5r5 | 9 => some c101z | _ => none }
theorem call5_ok : CallerOk prog call5 := fun A fid args S dst k r h => by
 unfold call5 at h
 split at h
 ·exact callPure_ok (n_7_ok) rfl rfl h
 ·exact callPure_ok (n_8_ok) rfl rfl h
 ·exact callPure_ok (n_9_ok) rfl rfl h
 ·exact callPure_ok (n_12_ok) rfl rfl h
 ·exact callPure_ok (n_16_ok) rfl rfl h
 ·exact callPure_ok (n_17_ok) rfl rfl h
 ·exact callPure_ok (n_18_ok) rfl rfl h
 ·cases h
theorem n_5_ok : SigOk prog 5 sig5 n_5 := fun v r x h hx =>
 fn_ok (X := x5) (sig := sig5) rfl Tryz.func5 (c := bodyOf Tryz.f5) (by kernel_rfl) Tryz.ntmps5 (by kernel_rfl) (by kernel_rfl) rfl Ty.mixed call5_ok rfl (fun C hP hN => (lok_all (kcast (by kernel_rfl) trivial))) (kcast (by kernel_rfl) h) x hx
end Go.Proofs.YtpndmanbfleadaaGreatDoor
end
