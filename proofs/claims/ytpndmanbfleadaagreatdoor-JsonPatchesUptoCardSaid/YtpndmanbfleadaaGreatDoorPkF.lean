/-
  Texts of this claim, joined by a program of mine: what the theorem uses.
-/
import Derived.Test.YtpndmanbfleadaaGreatDoorPkE
import Derived.Test.YtpndmanbfleadaaGreatDoorPkC
set_option linter.unusedVariables false
section
namespace Go.Proofs.YtpndmanbfleadaaGreatDoor
open Go.Awp Go.Tx
open IntKind (i32)
open IntKind (u8)
open IntKind (i64)
open Go.Proofs.Tryz (prog)
set_option maxHeartbeats 4000000
set_option maxRecDepth 100000
noncomputable def c120s8e4dz : Cut SN := ⟨[(0, .bp 100000 0)], [(100000, .box (some 108) [.np 100000, .vh 3001]), (3001, .vec 5 (.int .u8))]⟩
noncomputable def sig120s8e4d : Sig vw := { params := [.bp 100000 0], objs := [(100000, .box (some 108) [.np 100000, .vh 100001]), (100001, .vec 5 (.int .u8))], rcut := c120s8e4dz, rvars := [], keep := [100000, 3001] }
noncomputable def n_120s8e4d (v : Bool × (List Int) × Unit) : Option (Bool × (List Int) × Unit) :=
 some (true, v.2.1, ())
theorem n_120s8e4d_ok : SigOk prog 120 sig120s8e4d n_120s8e4d := fun v r x h hx => by
 obtain ⟨bl, xs, u⟩ := v
 cases h; cases hx
 exact kcast (by kernel_rfl) (FnOk.copyCheck (P := prog) (f := 120) (T := 108) (rest := []) (by kernel_rfl)
  (Any.Builder_copyCheck_fresh (P := prog) (ρ := Tryz.lays159_ren) { Tryz.lays159 with } Tryz.Builder_Extra_159.toX72)
  (Any.Builder_copyCheck_used (P := prog) (ρ := Tryz.lays159_ren) { Tryz.lays159 with } Tryz.Builder_Extra_159.toX72)
  (g := 100000) (m := 100001) (c := 3001) (l := xs.length) (bl := bl) (e := 5) (sz := 1) (rows := xs.map fun y => Go.Tx.encR szN encN (.int .u8) y) (by decide) (by decide) (by decide))
noncomputable def c100s52d8z : Cut SN := ⟨[(0, .bp 100000 0), (4, .dat (.int .i64)), (5, .nif)], [(100000, .box (some 108) [.np 100000, .vh 3001]), (3001, .vec 5 (.int .u8))]⟩
noncomputable def sh100s52d8 : Shape vw := { rcut := c100s52d8z }
noncomputable def sig100s52d8 : Sig vw := { params := [.bp 100000 0, .dat .str], objs := [(100000, .box (some 108) [.np 100000, .vh 100001]), (100001, .vec 5 (.int .u8))], rcut := c100s52d8z, rvars := [.tmp 4, .tmp 5], keep := [100000, 3001] }
noncomputable def n_100s52d8 (v : ByteArray × Bool × (List Int) × Unit) : Option (Int × Bool × (List Int) × Unit) :=
 n_120s8e4d (v.2.1, v.2.2.1, ()) >>= fun x1 =>
 if x1.2.1.length + v.1.size ≤ (4294967296 : Nat) then
  some (((↑v.1.size : Int), x1.1, x1.2.1 ++ Bs.ints v.1, ()))
 else none
noncomputable def call100s52d8 : Caller vw := fun A fid args S k => match fid with | 120 => callObj prog sig120s8e4d n_120s8e4d A args S k | _ => none
noncomputable def x100s52d8 : Xc vw := { P := prog, n := 19, call := call100s52d8, sh := sh100s52d8 }
theorem call100s52d8_ok : CallerOk prog call100s52d8 := fun A fid args S dst k r h => by
 unfold call100s52d8 at h
 split at h
 ·exact callObj_ok (n_120s8e4d_ok) h
 ·cases h
theorem n_100s52d8_ok : SigOk prog 100 sig100s52d8 n_100s52d8 := fun v r x h hx =>
 fn_ok (X := x100s52d8) (sig := sig100s52d8) rfl Tryz.func100 (c := bodyOf Tryz.f100) (by kernel_rfl) Tryz.ntmps100 (by kernel_rfl) (by kernel_rfl) rfl Ty.mixed call100s52d8_ok rfl (fun C hP hN => (lok_all (kcast (by kernel_rfl) trivial))) (kcast (by kernel_rfl) h) x hx
noncomputable def c101z : Cut SN := ⟨[(4, .dat .bool)], []⟩
noncomputable def sig101 : Sig vw := { params := [.dat .str, .dat .str], rcut := c101z, rvars := [.tmp 4] }
noncomputable def n_101 (v : ByteArray × ByteArray × Unit) : Option (Bool × Unit) :=
 match v.2.1.data.toList with | [c] => some (decide (0 ≤ Lib.indexByte v.1.data.toList c), ()) | _ => none
theorem n_101_ok : SigOk prog 101 sig101 n_101 := fun v r x h hx => by
 obtain ⟨s, c, u⟩ := v
 unfold n_101 at h
 simp only at h
 split at h
 ·rename_i c0 hc
  obtain rfl : c = ⟨#[c0]⟩ := by
   obtain ⟨⟨l⟩⟩ := c
   simp only at hc
   rw [hc]
  cases h; cases hx
  exact kcast (by kernel_rfl) (FnOk.pure (P := prog) (f := 101) (args := [.d (.v (.string s)), .d (.v (.string ⟨#[c0]⟩))]) (r := .d (.v (.bool (decide (0 ≤ Lib.indexByte s.data.toList c0))))) (by kernel_rfl) fun E M w vs hg hm hv => by
   obtain ⟨v1, v2, rfl, h1, h2⟩ := hreps_two hv
   rw [h1.dv, h2.dv]
   exact (Tryz.strings_Contains_one s c0 w).mono fun e w' ⟨he, hw⟩ => ⟨_, he, .d (.v _), hw ▸ Go.RowKit.Below.refl _ _⟩)
 ·cases h
noncomputable def c76z : Cut SN := ⟨[(2, .dat .bool)], []⟩
noncomputable def sig76 : Sig vw := { params := [.dat .str], rcut := c76z, rvars := [.tmp 2] }
noncomputable def n_76 (v : ByteArray × Unit) : Option (Bool × Unit) :=
 if v.1.size ≤ 9223372036854775807 then some (Lib.validD v.1.data.toList, ()) else none
theorem n_76_ok : SigOk prog 76 sig76 n_76 := fun v r x h hx => by
 obtain ⟨s, u⟩ := v
 unfold n_76 at h
 split at h
 ·rename_i hc
  simp only at hc
  cases h; cases hx
  exact kcast (by kernel_rfl) (FnOk.pure (P := prog) (f := 76) (args := [.d (.v (.string s))]) (r := .d (.v (.bool (Lib.validD s.data.toList)))) (by kernel_rfl) fun E M w vs hg hm hv => by
   obtain ⟨v1, rfl, h1⟩ := hreps_one hv
   rw [h1.dv]
   exact (Tryz.utf8_ValidString s w hc (tabs_utf8 hg hm)).mono fun e w' ⟨he, hw⟩ => ⟨_, he, .d (.v _), hw⟩)
 ·cases h
noncomputable def sh75 : Shape vw := { rcut := c76z }
noncomputable def sig75 : Sig vw := { params := [.dat .str], rcut := c76z, rvars := [.tmp 2] }
noncomputable def n_75 (v : ByteArray × Unit) : Option (Bool × Unit) :=
 n_76 (v.1, ()) >>= fun x1 =>
 some ((!x1.1, ()))
noncomputable def call75 : Caller vw := fun A fid args S k => match fid with | 76 => callPure prog sig76 n_76 A args S k | _ => none
noncomputable def x75 : Xc vw := { P := prog, n := 6, call := call75, sh := sh75 }
theorem call75_ok : CallerOk prog call75 := fun A fid args S dst k r h => by
 unfold call75 at h
 split at h
 ·exact callPure_ok (n_76_ok) rfl rfl h
 ·cases h
theorem n_75_ok : SigOk prog 75 sig75 n_75 := fun v r x h hx =>
 fn_ok (X := x75) (sig := sig75) rfl Tryz.func75 (c := bodyOf Tryz.f75) (by kernel_rfl) Tryz.ntmps75 (by kernel_rfl) (by kernel_rfl) rfl Ty.mixed call75_ok rfl (fun C hP hN => (lok_all (kcast (by kernel_rfl) trivial))) (kcast (by kernel_rfl) h) x hx
noncomputable def c103c75l2 : Cut SN := ⟨[(0, .dat (.sl .str)), (1, .fn 75 [] []), (7, .dat (.int .i64)), (8, .dat (.int .i64))], []⟩
noncomputable def c103c75e0 : Cut SN := ⟨[], []⟩
noncomputable def c103c75z : Cut SN := ⟨[(4, .dat (.int .i64))], []⟩
noncomputable def sh103c75 : Shape vw := { exits := fun id => match id with | 0 => c103c75e0 | _ => ⟨[], []⟩, rcut := c103c75z }
noncomputable def sig103c75 : Sig vw := { params := [.dat (.sl .str), .fn 75 [] []], rcut := c103c75z, rvars := [.tmp 4] }
noncomputable def n_103c75l2 (v : (List ByteArray) × Int × Int × Unit) : Option (((Int × Unit) ⊕ (Unit))) :=
 if decide (v.2.2.1 < v.2.1) = true then
  if (0 : Int) ≤ v.2.2.1 then
   v.1[v.2.2.1.toNat]? >>= fun x1 =>
   n_75 (x1, ()) >>= fun x2 =>
   if x2.1 = true then
    some (Sum.inl (v.2.2.1, ()))
   else n_103c75l2 (v.1, v.2.1, i64.wrap (v.2.2.1 + (1 : Int)), ())
  else none
 else some (Sum.inr ())
 partial_fixpoint
noncomputable def n_103c75 (v : (List ByteArray) × Unit) : Option (Int × Unit) :=
 n_103c75l2 (v.1, (↑v.1.length : Int), (0 : Int), ()) >>= fun x1 => match x1 with
  | .inl y1 => some y1
  | .inr y1 => some (((-1 : Int), ()))
noncomputable def call103c75 : Caller vw := fun A fid args S k => match fid with | 75 => callPure prog sig75 n_75 A args S k | _ => none
noncomputable def x103c75 : Xc vw := { P := prog, n := 19, call := call103c75, sh := sh103c75, loops := fun k => match k with | 2 => some { cut := c103c75l2, alts := [.ret, .exit 0], F := n_103c75l2 } | _ => none }
theorem call103c75_ok : CallerOk prog call103c75 := fun A fid args S dst k r h => by
 unfold call103c75 at h
 split at h
 ·exact callPure_ok (n_75_ok) rfl rfl h
 ·cases h
theorem n_103c75l2_ok (C : Ctx) (hP : C.P = prog) (hN : C.N = 19) : LoopOk C (loopNo (bodyOf Tryz.f103) 0) (sh := sh103c75) { cut := c103c75l2, alts := [.ret, .exit 0], F := n_103c75l2 } :=
 n_103c75l2.partial_correctness (motive := fun v out => AWpL C (loopNo (bodyOf Tryz.f103) 0) (Go.Tx.encS vw (conc vw c103c75l2 v)) (OutQ sh103c75 [.ret, .exit 0] out)) fun F ih v out h =>
  loop_step (X := x103c75) (b := (loopNo (bodyOf Tryz.f103) 0)) hP hN Ty.mixed call103c75_ok (lok_all (X := x103c75) (c := (loopNo (bodyOf Tryz.f103) 0)) (kcast (by kernel_rfl : True = AllB (LoopsP C (x103c75)) (loopsIn (loopNo (bodyOf Tryz.f103) 0))) trivial)) ih (kcast (by kernel_rfl) h)
theorem n_103c75_ok : SigOk prog 103 sig103c75 n_103c75 := fun v r x h hx =>
 fn_ok (X := x103c75) (sig := sig103c75) rfl Tryz.func103 (c := bodyOf Tryz.f103) (by kernel_rfl) Tryz.ntmps103 (by kernel_rfl) (by kernel_rfl) rfl Ty.mixed call103c75_ok rfl (fun C hP hN => (lok_all (kcast (by kernel_rfl : AllB (LoopsP C (x103c75)) [(loopNo (bodyOf Tryz.f103) 0)] = AllB (LoopsP C (x103c75)) (loopsIn (bodyOf Tryz.f103))) ⟨loop_at (X := x103c75) (b := (loopNo (bodyOf Tryz.f103) 0)) (by kernel_rfl) (n_103c75l2_ok C hP hN), trivial⟩))) (kcast (by kernel_rfl) h) x hx
noncomputable def c104c52l2 : Cut SN := ⟨[(0, .dat (.sl (.st .tagT))), (1, .fn 52 [] []), (7, .dat (.int .i64)), (8, .dat (.int .i64))], []⟩
noncomputable def sh104c52 : Shape vw := { exits := fun id => match id with | 0 => c103c75e0 | _ => ⟨[], []⟩, rcut := c103c75z }
noncomputable def sig104c52 : Sig vw := { params := [.dat (.sl (.st .tagT)), .fn 52 [] []], rcut := c103c75z, rvars := [.tmp 4] }
noncomputable def c52l3 : Cut SN := ⟨[(1, .bp 1 0), (3, .mp 6), (8, .dat (.sl .str)), (9, .dat (.int .i64)), (10, .dat (.int .i64))], [(1, .st .tagT), (6, .map .str .bool)]⟩
noncomputable def c52e0 : Cut SN := ⟨[(1, .bp 1 0)], [(1, .st .tagT)]⟩
noncomputable def sh52 : Shape vw := { exits := fun id => match id with | 0 => c52e0 | _ => ⟨[], []⟩, rcut := c76z }
noncomputable def sig52 : Sig vw := { params := [.dat (.st .tagT)], rcut := c76z, rvars := [.tmp 2] }
noncomputable def sh78c52 : Shape vw := { rcut := c101z }
noncomputable def sig78c52 : Sig vw := { params := [.dat (.sl (.st .tagT)), .fn 52 [] []], rcut := c101z, rvars := [.tmp 4] }
noncomputable def n_52l3 (v : (List ByteArray) × Int × Int × Tag × (List (ByteArray × Bool)) × Unit) : Option (((Bool × Unit) ⊕ (Tag × Unit))) :=
 if decide (v.2.2.1 < v.2.1) = true then
  if (0 : Int) ≤ v.2.2.1 then
   v.1[v.2.2.1.toNat]? >>= fun x1 =>
   if (Mp.get Mp.seq x1 v.2.2.2.2.1).getD false = true then
    some (Sum.inl (true, ()))
   else n_52l3 (v.1, v.2.1, i64.wrap (v.2.2.1 + (1 : Int)), v.2.2.2.1, Mp.set Mp.seq Mp.slt x1 true v.2.2.2.2.1, ())
  else none
 else some (Sum.inr (v.2.2.2.1, ()))
 partial_fixpoint
mutual
noncomputable def n_104c52l2 (v : (List Tag) × Int × Int × Unit) : Option (((Int × Unit) ⊕ (Unit))) :=
 if decide (v.2.2.1 < v.2.1) = true then
  if (0 : Int) ≤ v.2.2.1 then
   v.1[v.2.2.1.toNat]? >>= fun x1 =>
   n_52 (x1, ()) >>= fun x2 =>
   if x2.1 = true then
    some (Sum.inl (v.2.2.1, ()))
   else n_104c52l2 (v.1, v.2.1, i64.wrap (v.2.2.1 + (1 : Int)), ())
  else none
 else some (Sum.inr ())
 partial_fixpoint
noncomputable def n_52 (v : Tag × Unit) : Option (Bool × Unit) :=
 n_52l3 (v.1.names, (↑v.1.names.length : Int), (0 : Int), v.1, [], ()) >>= fun x1 => match x1 with
  | .inl y1 => some y1
  | .inr y1 => n_78c52 (y1.1.parts, ()) >>= fun x2 =>
   some ((x2.1, ()))
 partial_fixpoint
noncomputable def n_78c52 (v : (List Tag) × Unit) : Option (Bool × Unit) :=
 n_104c52 (v.1, ()) >>= fun x1 =>
 some ((decide (x1.1 ≥ (0 : Int)), ()))
 partial_fixpoint
noncomputable def n_104c52 (v : (List Tag) × Unit) : Option (Int × Unit) :=
 n_104c52l2 (v.1, (↑v.1.length : Int), (0 : Int), ()) >>= fun x1 => match x1 with
  | .inl y1 => some y1
  | .inr y1 => some (((-1 : Int), ()))
 partial_fixpoint
end
noncomputable def call104c52 (n_52l3 : (List ByteArray) × Int × Int × Tag × (List (ByteArray × Bool)) × Unit → Option (((Bool × Unit) ⊕ (Tag × Unit)))) (n_104c52l2 : (List Tag) × Int × Int × Unit → Option (((Int × Unit) ⊕ (Unit)))) (n_52 : Tag × Unit → Option (Bool × Unit)) (n_78c52 : (List Tag) × Unit → Option (Bool × Unit)) (n_104c52 : (List Tag) × Unit → Option (Int × Unit)) : Caller vw := fun A fid args S k => match fid with | 52 => callPure prog sig52 n_52 A args S k | _ => none
noncomputable def x104c52 (n_52l3 : (List ByteArray) × Int × Int × Tag × (List (ByteArray × Bool)) × Unit → Option (((Bool × Unit) ⊕ (Tag × Unit)))) (n_104c52l2 : (List Tag) × Int × Int × Unit → Option (((Int × Unit) ⊕ (Unit)))) (n_52 : Tag × Unit → Option (Bool × Unit)) (n_78c52 : (List Tag) × Unit → Option (Bool × Unit)) (n_104c52 : (List Tag) × Unit → Option (Int × Unit)) : Xc vw := { P := prog, n := 19, call := call104c52 n_52l3 n_104c52l2 n_52 n_78c52 n_104c52, sh := sh104c52, loops := fun k => match k with | 2 => some { cut := c104c52l2, alts := [.ret, .exit 0], F := n_104c52l2 } | _ => none }
noncomputable def call52 (n_52l3 : (List ByteArray) × Int × Int × Tag × (List (ByteArray × Bool)) × Unit → Option (((Bool × Unit) ⊕ (Tag × Unit)))) (n_104c52l2 : (List Tag) × Int × Int × Unit → Option (((Int × Unit) ⊕ (Unit)))) (n_52 : Tag × Unit → Option (Bool × Unit)) (n_78c52 : (List Tag) × Unit → Option (Bool × Unit)) (n_104c52 : (List Tag) × Unit → Option (Int × Unit)) : Caller vw := fun A fid args S k => match fid with | 78 => callPure prog sig78c52 n_78c52 A args S k | _ => none
noncomputable def x52 (n_52l3 : (List ByteArray) × Int × Int × Tag × (List (ByteArray × Bool)) × Unit → Option (((Bool × Unit) ⊕ (Tag × Unit)))) (n_104c52l2 : (List Tag) × Int × Int × Unit → Option (((Int × Unit) ⊕ (Unit)))) (n_52 : Tag × Unit → Option (Bool × Unit)) (n_78c52 : (List Tag) × Unit → Option (Bool × Unit)) (n_104c52 : (List Tag) × Unit → Option (Int × Unit)) : Xc vw := { P := prog, n := 23, call := call52 n_52l3 n_104c52l2 n_52 n_78c52 n_104c52, sh := sh52, loops := fun k => match k with | 3 => some { cut := c52l3, alts := [.ret, .exit 0], F := n_52l3 } | _ => none }
noncomputable def call78c52 (n_52l3 : (List ByteArray) × Int × Int × Tag × (List (ByteArray × Bool)) × Unit → Option (((Bool × Unit) ⊕ (Tag × Unit)))) (n_104c52l2 : (List Tag) × Int × Int × Unit → Option (((Int × Unit) ⊕ (Unit)))) (n_52 : Tag × Unit → Option (Bool × Unit)) (n_78c52 : (List Tag) × Unit → Option (Bool × Unit)) (n_104c52 : (List Tag) × Unit → Option (Int × Unit)) : Caller vw := fun A fid args S k => match fid with | 104 => callPure prog sig104c52 n_104c52 A args S k | _ => none
noncomputable def x78c52 (n_52l3 : (List ByteArray) × Int × Int × Tag × (List (ByteArray × Bool)) × Unit → Option (((Bool × Unit) ⊕ (Tag × Unit)))) (n_104c52l2 : (List Tag) × Int × Int × Unit → Option (((Int × Unit) ⊕ (Unit)))) (n_52 : Tag × Unit → Option (Bool × Unit)) (n_78c52 : (List Tag) × Unit → Option (Bool × Unit)) (n_104c52 : (List Tag) × Unit → Option (Int × Unit)) : Xc vw := { P := prog, n := 9, call := call78c52 n_52l3 n_104c52l2 n_52 n_78c52 n_104c52, sh := sh78c52 }
abbrev mn_52l3 (v : (List ByteArray) × Int × Int × Tag × (List (ByteArray × Bool)) × Unit) (r : ((Bool × Unit) ⊕ (Tag × Unit))) : Prop := (fun v out => ∀ C : Ctx, C.P = prog → C.N = 23 → AWpL C (loopNo (bodyOf Tryz.f52) 0) (Go.Tx.encS vw (conc vw c52l3 v)) (OutQ sh52 [.ret, .exit 0] out)) v r
theorem cn_52l3 (f0 : (List ByteArray) × Int × Int × Tag × (List (ByteArray × Bool)) × Unit → Option (((Bool × Unit) ⊕ (Tag × Unit)))) (h0 : ∀ v r, f0 v = some r → mn_52l3 v r) : CallerOk prog (x52 f0 (fun _ => none) (fun _ => none) (fun _ => none) (fun _ => none)).call := (by
    intro A fid args S dst k r h
    unfold x52 call52 at h
    simp only at h
    split at h
    ·exact callPure_ok ((fun v r x h hx => by cases h)) rfl rfl h
    ·cases h)
theorem sn_52l3 (f0 : (List ByteArray) × Int × Int × Tag × (List (ByteArray × Bool)) × Unit → Option (((Bool × Unit) ⊕ (Tag × Unit)))) (h0 : ∀ v r, f0 v = some r → mn_52l3 v r) (v : (List ByteArray) × Int × Int × Tag × (List (ByteArray × Bool)) × Unit) (r : ((Bool × Unit) ⊕ (Tag × Unit))) (h : exL (x52 f0 (fun _ => none) (fun _ => none) (fun _ => none) (fun _ => none)) (loopNo (bodyOf Tryz.f52) 0) c52l3 [.ret, .exit 0] f0 v = some r) : mn_52l3 v r := fun C hP hN => loop_step (X := x52 f0 (fun _ => none) (fun _ => none) (fun _ => none) (fun _ => none)) (b := (loopNo (bodyOf Tryz.f52) 0)) hP hN Ty.mixed (cn_52l3 f0 h0) (lok_all (X := x52 f0 (fun _ => none) (fun _ => none) (fun _ => none) (fun _ => none)) (c := (loopNo (bodyOf Tryz.f52) 0)) (kcast (by kernel_rfl : True = AllB (LoopsP C (x52 f0 (fun _ => none) (fun _ => none) (fun _ => none) (fun _ => none))) (loopsIn (loopNo (bodyOf Tryz.f52) 0))) trivial)) (cut := c52l3) (alts := [.ret, .exit 0]) (F := f0) (fun v out h => h0 v out h C hP hN) h
theorem n_52l3_pc : ∀ v out, n_52l3 v = some out → (fun v out => ∀ C : Ctx, C.P = prog → C.N = 23 → AWpL C (loopNo (bodyOf Tryz.f52) 0) (Go.Tx.encS vw (conc vw c52l3 v)) (OutQ sh52 [.ret, .exit 0] out)) v out := (n_52l3.partial_correctness (motive := mn_52l3) (fun f0 h0 v r h => sn_52l3 f0 h0 v r (kcast (by kernel_rfl) h)))
abbrev mn_104c52l2 (v : (List Tag) × Int × Int × Unit) (r : ((Int × Unit) ⊕ (Unit))) : Prop := (fun v out => ∀ C : Ctx, C.P = prog → C.N = 19 → AWpL C (loopNo (bodyOf Tryz.f104) 0) (Go.Tx.encS vw (conc vw c104c52l2 v)) (OutQ sh104c52 [.ret, .exit 0] out)) v r
abbrev mn_52 (v : Tag × Unit) (r : Bool × Unit) : Prop := (fun v r => ∀ x, resV prog sig52 r = some x → FnOk prog 52 (encL vw (startS sig52 v).len (startOs sig52 v).1) (encOs (startS sig52 v).len (startS sig52 v).own) (encV vw (conc vw sig52.rcut r).len x) (encOs (conc vw sig52.rcut r).len (kept sig52 r))) v r
abbrev mn_78c52 (v : (List Tag) × Unit) (r : Bool × Unit) : Prop := (fun v r => ∀ x, resV prog sig78c52 r = some x → FnOk prog 78 (encL vw (startS sig78c52 v).len (startOs sig78c52 v).1) (encOs (startS sig78c52 v).len (startS sig78c52 v).own) (encV vw (conc vw sig78c52.rcut r).len x) (encOs (conc vw sig78c52.rcut r).len (kept sig78c52 r))) v r
abbrev mn_104c52 (v : (List Tag) × Unit) (r : Int × Unit) : Prop := (fun v r => ∀ x, resV prog sig104c52 r = some x → FnOk prog 104 (encL vw (startS sig104c52 v).len (startOs sig104c52 v).1) (encOs (startS sig104c52 v).len (startS sig104c52 v).own) (encV vw (conc vw sig104c52.rcut r).len x) (encOs (conc vw sig104c52.rcut r).len (kept sig104c52 r))) v r
theorem cn_104c52l2 (f0 : (List Tag) × Int × Int × Unit → Option (((Int × Unit) ⊕ (Unit)))) (f1 : Tag × Unit → Option (Bool × Unit)) (h0 : ∀ v r, f0 v = some r → mn_104c52l2 v r) (h1 : ∀ v r, f1 v = some r → mn_52 v r) : CallerOk prog (x104c52 (fun _ => none) f0 f1 (fun _ => none) (fun _ => none)).call := (by
    intro A fid args S dst k r h
    unfold x104c52 call104c52 at h
    simp only at h
    split at h
    ·exact callPure_ok ((fun v r x h hx => h1 v r h x hx)) rfl rfl h
    ·cases h)
theorem sn_104c52l2 (f0 : (List Tag) × Int × Int × Unit → Option (((Int × Unit) ⊕ (Unit)))) (f1 : Tag × Unit → Option (Bool × Unit)) (h0 : ∀ v r, f0 v = some r → mn_104c52l2 v r) (h1 : ∀ v r, f1 v = some r → mn_52 v r) (v : (List Tag) × Int × Int × Unit) (r : ((Int × Unit) ⊕ (Unit))) (h : exL (x104c52 (fun _ => none) f0 f1 (fun _ => none) (fun _ => none)) (loopNo (bodyOf Tryz.f104) 0) c104c52l2 [.ret, .exit 0] f0 v = some r) : mn_104c52l2 v r := fun C hP hN => loop_step (X := x104c52 (fun _ => none) f0 f1 (fun _ => none) (fun _ => none)) (b := (loopNo (bodyOf Tryz.f104) 0)) hP hN Ty.mixed (cn_104c52l2 f0 f1 h0 h1) (lok_all (X := x104c52 (fun _ => none) f0 f1 (fun _ => none) (fun _ => none)) (c := (loopNo (bodyOf Tryz.f104) 0)) (kcast (by kernel_rfl : True = AllB (LoopsP C (x104c52 (fun _ => none) f0 f1 (fun _ => none) (fun _ => none))) (loopsIn (loopNo (bodyOf Tryz.f104) 0))) trivial)) (cut := c104c52l2) (alts := [.ret, .exit 0]) (F := f0) (fun v out h => h0 v out h C hP hN) h
theorem cn_52 (f0 : (List Tag) × Unit → Option (Bool × Unit)) (h0 : ∀ v r, f0 v = some r → mn_78c52 v r) : CallerOk prog (x52 n_52l3 (fun _ => none) (fun _ => none) f0 (fun _ => none)).call := (by
    intro A fid args S dst k r h
    unfold x52 call52 at h
    simp only at h
    split at h
    ·exact callPure_ok ((fun v r x h hx => h0 v r h x hx)) rfl rfl h
    ·cases h)
theorem sn_52 (f0 : (List Tag) × Unit → Option (Bool × Unit)) (h0 : ∀ v r, f0 v = some r → mn_78c52 v r) (v : Tag × Unit) (r : Bool × Unit) (h : exF (x52 n_52l3 (fun _ => none) (fun _ => none) f0 (fun _ => none)) sig52 rfl (bodyOf Tryz.f52) v = some r) : mn_52 v r := fun x hx => fn_ok (X := x52 n_52l3 (fun _ => none) (fun _ => none) f0 (fun _ => none)) (sig := sig52) rfl Tryz.func52 (c := bodyOf Tryz.f52) (by kernel_rfl) Tryz.ntmps52 (by kernel_rfl) (by kernel_rfl) rfl Ty.mixed (cn_52 f0 h0) rfl (fun C hP hN => (lok_all (X := x52 n_52l3 (fun _ => none) (fun _ => none) f0 (fun _ => none)) (c := (bodyOf Tryz.f52)) (kcast (by kernel_rfl : AllB (LoopsP C (x52 n_52l3 (fun _ => none) (fun _ => none) f0 (fun _ => none))) [(loopNo (bodyOf Tryz.f52) 0)] = AllB (LoopsP C (x52 n_52l3 (fun _ => none) (fun _ => none) f0 (fun _ => none))) (loopsIn (bodyOf Tryz.f52))) ⟨loop_at (X := x52 n_52l3 (fun _ => none) (fun _ => none) f0 (fun _ => none)) (b := (loopNo (bodyOf Tryz.f52) 0)) (by kernel_rfl) (show LoopOk C (loopNo (bodyOf Tryz.f52) 0) (sh := sh52) { cut := c52l3, alts := [.ret, .exit 0], F := n_52l3 } from fun v out h => n_52l3_pc v out h C hP hN), trivial⟩))) h x hx
theorem cn_78c52 (f0 : (List Tag) × Unit → Option (Int × Unit)) (h0 : ∀ v r, f0 v = some r → mn_104c52 v r) : CallerOk prog (x78c52 (fun _ => none) (fun _ => none) (fun _ => none) (fun _ => none) f0).call := (by
    intro A fid args S dst k r h
    unfold x78c52 call78c52 at h
    simp only at h
    split at h
    ·exact callPure_ok ((fun v r x h hx => h0 v r h x hx)) rfl rfl h
    ·cases h)
theorem sn_78c52 (f0 : (List Tag) × Unit → Option (Int × Unit)) (h0 : ∀ v r, f0 v = some r → mn_104c52 v r) (v : (List Tag) × Unit) (r : Bool × Unit) (h : exF (x78c52 (fun _ => none) (fun _ => none) (fun _ => none) (fun _ => none) f0) sig78c52 rfl (bodyOf Tryz.f78) v = some r) : mn_78c52 v r := fun x hx => fn_ok (X := x78c52 (fun _ => none) (fun _ => none) (fun _ => none) (fun _ => none) f0) (sig := sig78c52) rfl Tryz.func78 (c := bodyOf Tryz.f78) (by kernel_rfl) Tryz.ntmps78 (by kernel_rfl) (by kernel_rfl) rfl Ty.mixed (cn_78c52 f0 h0) rfl (fun C hP hN => (lok_all (X := x78c52 (fun _ => none) (fun _ => none) (fun _ => none) (fun _ => none) f0) (c := (bodyOf Tryz.f78)) (kcast (by kernel_rfl : True = AllB (LoopsP C (x78c52 (fun _ => none) (fun _ => none) (fun _ => none) (fun _ => none) f0)) (loopsIn (bodyOf Tryz.f78))) trivial))) h x hx
theorem cn_104c52 (f0 : (List Tag) × Int × Int × Unit → Option (((Int × Unit) ⊕ (Unit)))) (h0 : ∀ v r, f0 v = some r → mn_104c52l2 v r) : CallerOk prog (x104c52 (fun _ => none) f0 (fun _ => none) (fun _ => none) (fun _ => none)).call := (by
    intro A fid args S dst k r h
    unfold x104c52 call104c52 at h
    simp only at h
    split at h
    ·exact callPure_ok ((fun v r x h hx => by cases h)) rfl rfl h
    ·cases h)
theorem sn_104c52 (f0 : (List Tag) × Int × Int × Unit → Option (((Int × Unit) ⊕ (Unit)))) (h0 : ∀ v r, f0 v = some r → mn_104c52l2 v r) (v : (List Tag) × Unit) (r : Int × Unit) (h : exF (x104c52 (fun _ => none) f0 (fun _ => none) (fun _ => none) (fun _ => none)) sig104c52 rfl (bodyOf Tryz.f104) v = some r) : mn_104c52 v r := fun x hx => fn_ok (X := x104c52 (fun _ => none) f0 (fun _ => none) (fun _ => none) (fun _ => none)) (sig := sig104c52) rfl Tryz.func104 (c := bodyOf Tryz.f104) (by kernel_rfl) Tryz.ntmps104 (by kernel_rfl) (by kernel_rfl) rfl Ty.mixed (cn_104c52 f0 h0) rfl (fun C hP hN => (lok_all (X := x104c52 (fun _ => none) f0 (fun _ => none) (fun _ => none) (fun _ => none)) (c := (bodyOf Tryz.f104)) (kcast (by kernel_rfl : AllB (LoopsP C (x104c52 (fun _ => none) f0 (fun _ => none) (fun _ => none) (fun _ => none))) [(loopNo (bodyOf Tryz.f104) 0)] = AllB (LoopsP C (x104c52 (fun _ => none) f0 (fun _ => none) (fun _ => none) (fun _ => none))) (loopsIn (bodyOf Tryz.f104))) ⟨loop_at (X := x104c52 (fun _ => none) f0 (fun _ => none) (fun _ => none) (fun _ => none)) (b := (loopNo (bodyOf Tryz.f104) 0)) (by kernel_rfl) (show LoopOk C (loopNo (bodyOf Tryz.f104) 0) (sh := sh104c52) { cut := c104c52l2, alts := [.ret, .exit 0], F := f0 } from fun v out h => h0 v out h C hP hN), trivial⟩))) h x hx
theorem n_104c52l2_all : (∀ v r, n_104c52l2 v = some r → mn_104c52l2 v r) ∧ (∀ v r, n_52 v = some r → mn_52 v r) ∧ (∀ v r, n_78c52 v = some r → mn_78c52 v r) ∧ (∀ v r, n_104c52 v = some r → mn_104c52 v r) := by
 refine n_104c52l2.mutual_partial_correctness
  (motive_1 := mn_104c52l2)
  (motive_2 := mn_52)
  (motive_3 := mn_78c52)
  (motive_4 := mn_104c52)
  ?_ ?_ ?_ ?_
 ·exact (fun f0 f1 h0 h1 v r h => sn_104c52l2 f0 f1 h0 h1 v r (kcast (by kernel_rfl) h))
 ·exact (fun f0 h0 v r h => sn_52 f0 h0 v r (kcast (by kernel_rfl) h))
 ·exact (fun f0 h0 v r h => sn_78c52 f0 h0 v r (kcast (by kernel_rfl) h))
 ·exact (fun f0 h0 v r h => sn_104c52 f0 h0 v r (kcast (by kernel_rfl) h))
theorem n_52_ok : SigOk prog 52 sig52 n_52 := fun v r x h hx => n_104c52l2_all.2.1 v r h x hx
noncomputable def sh77c75 : Shape vw := { rcut := c101z }
noncomputable def sig77c75 : Sig vw := { params := [.dat (.sl .str), .fn 75 [] []], rcut := c101z, rvars := [.tmp 4] }
noncomputable def n_77c75 (v : (List ByteArray) × Unit) : Option (Bool × Unit) :=
 n_103c75 (v.1, ()) >>= fun x1 =>
 some ((decide (x1.1 ≥ (0 : Int)), ()))
noncomputable def call77c75 : Caller vw := fun A fid args S k => match fid with | 103 => callPure prog sig103c75 n_103c75 A args S k | _ => none
noncomputable def x77c75 : Xc vw := { P := prog, n := 9, call := call77c75, sh := sh77c75 }
theorem call77c75_ok : CallerOk prog call77c75 := fun A fid args S dst k r h => by
 unfold call77c75 at h
 split at h
 ·exact callPure_ok (n_103c75_ok) rfl rfl h
 ·cases h
theorem n_77c75_ok : SigOk prog 77 sig77c75 n_77c75 := fun v r x h hx =>
 fn_ok (X := x77c75) (sig := sig77c75) rfl Tryz.func77 (c := bodyOf Tryz.f77) (by kernel_rfl) Tryz.ntmps77 (by kernel_rfl) (by kernel_rfl) rfl Ty.mixed call77c75_ok rfl (fun C hP hN => (lok_all (kcast (by kernel_rfl) trivial))) (kcast (by kernel_rfl) h) x hx
noncomputable def c104c79l2 : Cut SN := ⟨[(0, .dat (.sl (.st .tagT))), (1, .fn 79 [] []), (7, .dat (.int .i64)), (8, .dat (.int .i64))], []⟩
noncomputable def sh104c79 : Shape vw := { exits := fun id => match id with | 0 => c103c75e0 | _ => ⟨[], []⟩, rcut := c103c75z }
noncomputable def sig104c79 : Sig vw := { params := [.dat (.sl (.st .tagT)), .fn 79 [] []], rcut := c103c75z, rvars := [.tmp 4] }
noncomputable def c51r1 : Cut SN := ⟨[(1, .bp 1 0), (52, .dat .bool)], [(1, .st .tagT)]⟩
noncomputable def c51r3 : Cut SN := ⟨[(1, .bp 1 0), (75, .dat .bool)], [(1, .st .tagT)]⟩
noncomputable def sh51 : Shape vw := { rcut := c76z }
noncomputable def sig51 : Sig vw := { params := [.dat (.st .tagT)], rcut := c76z, rvars := [.tmp 2] }
noncomputable def sh78c79 : Shape vw := { rcut := c101z }
noncomputable def sig78c79 : Sig vw := { params := [.dat (.sl (.st .tagT)), .fn 79 [] []], rcut := c101z, rvars := [.tmp 4] }
noncomputable def sh79 : Shape vw := { rcut := c76z }
noncomputable def sig79 : Sig vw := { params := [.dat (.st .tagT)], rcut := c76z, rvars := [.tmp 2] }
mutual
noncomputable def n_104c79l2 (v : (List Tag) × Int × Int × Unit) : Option (((Int × Unit) ⊕ (Unit))) :=
 if decide (v.2.2.1 < v.2.1) = true then
  if (0 : Int) ≤ v.2.2.1 then
   v.1[v.2.2.1.toNat]? >>= fun x1 =>
   n_79 (x1, ()) >>= fun x2 =>
   if x2.1 = true then
    some (Sum.inl (v.2.2.1, ()))
   else n_104c79l2 (v.1, v.2.1, i64.wrap (v.2.2.1 + (1 : Int)), ())
  else none
 else some (Sum.inr ())
 partial_fixpoint
noncomputable def n_79 (v : Tag × Unit) : Option (Bool × Unit) :=
 n_51 (v.1, ()) >>= fun x1 =>
 some ((!x1.1, ()))
 partial_fixpoint
noncomputable def n_51 (v : Tag × Unit) : Option (Bool × Unit) :=
 (if decide (v.1.kind < (0 : Int)) = true then
    some ((true, v.1, ()))
   else if decide (v.1.kind > (6 : Int)) = true then
    some ((true, v.1, ()))
   else if (v.1.kind != (3 : Int)) = true then
    if (v.1.n != (0 : Int)) = true then
     some ((true, v.1, ()))
    else if decide (v.1.n < (-9007199254740992 : Int)) = true then
     some ((true, v.1, ()))
    else if decide (v.1.n > (9007199254740992 : Int)) = true then
     some ((true, v.1, ()))
    else if (v.1.kind != (4 : Int)) = true then
     if (!v.1.text.toList == (ByteArray.mk #[]).toList) = true then
      some ((true, v.1, ()))
     else if decide (v.1.kind < (5 : Int)) = true then
      some ((decide ((↑v.1.parts.length : Int) > (0 : Int)), v.1, ()))
     else some ((false, v.1, ()))
    else if decide (v.1.kind < (5 : Int)) = true then
     some ((decide ((↑v.1.parts.length : Int) > (0 : Int)), v.1, ()))
    else some ((false, v.1, ()))
   else if decide (v.1.n < (-9007199254740992 : Int)) = true then
    some ((true, v.1, ()))
   else if decide (v.1.n > (9007199254740992 : Int)) = true then
    some ((true, v.1, ()))
   else if (v.1.kind != (4 : Int)) = true then
    if (!v.1.text.toList == (ByteArray.mk #[]).toList) = true then
     some ((true, v.1, ()))
    else if decide (v.1.kind < (5 : Int)) = true then
     some ((decide ((↑v.1.parts.length : Int) > (0 : Int)), v.1, ()))
    else some ((false, v.1, ()))
   else if decide (v.1.kind < (5 : Int)) = true then
    some ((decide ((↑v.1.parts.length : Int) > (0 : Int)), v.1, ()))
   else some ((false, v.1, ()))) >>= fun x1 =>
 if x1.1 = true then
  some ((false, ()))
 else (if (x1.2.1.kind == (6 : Int)) = true then
   if ((↑x1.2.1.names.length : Int) != (↑x1.2.1.parts.length : Int)) = true then
    some ((true, x1.2.1, ()))
   else if (x1.2.1.kind != (6 : Int)) = true then
    some ((decide ((↑x1.2.1.names.length : Int) > (0 : Int)), x1.2.1, ()))
   else some ((false, x1.2.1, ()))
  else if (x1.2.1.kind != (6 : Int)) = true then
   some ((decide ((↑x1.2.1.names.length : Int) > (0 : Int)), x1.2.1, ()))
  else some ((false, x1.2.1, ()))) >>= fun x2 =>
 if x2.1 = true then
  some ((false, ()))
 else (n_75 (x2.2.1.text, ()) >>= fun x3 =>
  if (!x3.1) = true then
   n_77c75 (x2.2.1.names, ()) >>= fun x4 =>
   if (!x4.1) = true then
    n_78c79 (x2.2.1.parts, ()) >>= fun x5 =>
    some ((!x5.1, ()))
   else some ((false, ()))
  else some ((false, ()))) >>= fun x3 =>
 some ((x3.1, ()))
 partial_fixpoint
noncomputable def n_78c79 (v : (List Tag) × Unit) : Option (Bool × Unit) :=
 n_104c79 (v.1, ()) >>= fun x1 =>
 some ((decide (x1.1 ≥ (0 : Int)), ()))
 partial_fixpoint
noncomputable def n_104c79 (v : (List Tag) × Unit) : Option (Int × Unit) :=
 n_104c79l2 (v.1, (↑v.1.length : Int), (0 : Int), ()) >>= fun x1 => match x1 with
  | .inl y1 => some y1
  | .inr y1 => some (((-1 : Int), ()))
 partial_fixpoint
end
noncomputable def call104c79 (n_104c79l2 : (List Tag) × Int × Int × Unit → Option (((Int × Unit) ⊕ (Unit)))) (n_79 : Tag × Unit → Option (Bool × Unit)) (n_51 : Tag × Unit → Option (Bool × Unit)) (n_78c79 : (List Tag) × Unit → Option (Bool × Unit)) (n_104c79 : (List Tag) × Unit → Option (Int × Unit)) : Caller vw := fun A fid args S k => match fid with | 79 => callPure prog sig79 n_79 A args S k | _ => none
noncomputable def x104c79 (n_104c79l2 : (List Tag) × Int × Int × Unit → Option (((Int × Unit) ⊕ (Unit)))) (n_79 : Tag × Unit → Option (Bool × Unit)) (n_51 : Tag × Unit → Option (Bool × Unit)) (n_78c79 : (List Tag) × Unit → Option (Bool × Unit)) (n_104c79 : (List Tag) × Unit → Option (Int × Unit)) : Xc vw := { P := prog, n := 19, call := call104c79 n_104c79l2 n_79 n_51 n_78c79 n_104c79, sh := sh104c79, loops := fun k => match k with | 2 => some { cut := c104c79l2, alts := [.ret, .exit 0], F := n_104c79l2 } | _ => none }
noncomputable def call51 (n_104c79l2 : (List Tag) × Int × Int × Unit → Option (((Int × Unit) ⊕ (Unit)))) (n_79 : Tag × Unit → Option (Bool × Unit)) (n_51 : Tag × Unit → Option (Bool × Unit)) (n_78c79 : (List Tag) × Unit → Option (Bool × Unit)) (n_104c79 : (List Tag) × Unit → Option (Int × Unit)) : Caller vw := fun A fid args S k => match fid with | 75 => callPure prog sig75 n_75 A args S k | 77 => callPure prog sig77c75 n_77c75 A args S k | 78 => callPure prog sig78c79 n_78c79 A args S k | _ => none
noncomputable def x51 (n_104c79l2 : (List Tag) × Int × Int × Unit → Option (((Int × Unit) ⊕ (Unit)))) (n_79 : Tag × Unit → Option (Bool × Unit)) (n_51 : Tag × Unit → Option (Bool × Unit)) (n_78c79 : (List Tag) × Unit → Option (Bool × Unit)) (n_104c79 : (List Tag) × Unit → Option (Int × Unit)) : Xc vw := { P := prog, n := 94, call := call51 n_104c79l2 n_79 n_51 n_78c79 n_104c79, sh := sh51, regs := fun k => match k with | 1 => some c51r1 | 3 => some c51r3 | 6 => some c76z | _ => none }
noncomputable def call78c79 (n_104c79l2 : (List Tag) × Int × Int × Unit → Option (((Int × Unit) ⊕ (Unit)))) (n_79 : Tag × Unit → Option (Bool × Unit)) (n_51 : Tag × Unit → Option (Bool × Unit)) (n_78c79 : (List Tag) × Unit → Option (Bool × Unit)) (n_104c79 : (List Tag) × Unit → Option (Int × Unit)) : Caller vw := fun A fid args S k => match fid with | 104 => callPure prog sig104c79 n_104c79 A args S k | _ => none
noncomputable def x78c79 (n_104c79l2 : (List Tag) × Int × Int × Unit → Option (((Int × Unit) ⊕ (Unit)))) (n_79 : Tag × Unit → Option (Bool × Unit)) (n_51 : Tag × Unit → Option (Bool × Unit)) (n_78c79 : (List Tag) × Unit → Option (Bool × Unit)) (n_104c79 : (List Tag) × Unit → Option (Int × Unit)) : Xc vw := { P := prog, n := 9, call := call78c79 n_104c79l2 n_79 n_51 n_78c79 n_104c79, sh := sh78c79 }
noncomputable def call79 (n_104c79l2 : (List Tag) × Int × Int × Unit → Option (((Int × Unit) ⊕ (Unit)))) (n_79 : Tag × Unit → Option (Bool × Unit)) (n_51 : Tag × Unit → Option (Bool × Unit)) (n_78c79 : (List Tag) × Unit → Option (Bool × Unit)) (n_104c79 : (List Tag) × Unit → Option (Int × Unit)) : Caller vw := fun A fid args S k => match fid with | 51 => callPure prog sig51 n_51 A args S k | _ => none
noncomputable def x79 (n_104c79l2 : (List Tag) × Int × Int × Unit → Option (((Int × Unit) ⊕ (Unit)))) (n_79 : Tag × Unit → Option (Bool × Unit)) (n_51 : Tag × Unit → Option (Bool × Unit)) (n_78c79 : (List Tag) × Unit → Option (Bool × Unit)) (n_104c79 : (List Tag) × Unit → Option (Int × Unit)) : Xc vw := { P := prog, n := 6, call := call79 n_104c79l2 n_79 n_51 n_78c79 n_104c79, sh := sh79 }
abbrev mn_104c79l2 (v : (List Tag) × Int × Int × Unit) (r : ((Int × Unit) ⊕ (Unit))) : Prop := (fun v out => ∀ C : Ctx, C.P = prog → C.N = 19 → AWpL C (loopNo (bodyOf Tryz.f104) 0) (Go.Tx.encS vw (conc vw c104c79l2 v)) (OutQ sh104c79 [.ret, .exit 0] out)) v r
abbrev mn_79 (v : Tag × Unit) (r : Bool × Unit) : Prop := (fun v r => ∀ x, resV prog sig79 r = some x → FnOk prog 79 (encL vw (startS sig79 v).len (startOs sig79 v).1) (encOs (startS sig79 v).len (startS sig79 v).own) (encV vw (conc vw sig79.rcut r).len x) (encOs (conc vw sig79.rcut r).len (kept sig79 r))) v r
abbrev mn_51 (v : Tag × Unit) (r : Bool × Unit) : Prop := (fun v r => ∀ x, resV prog sig51 r = some x → FnOk prog 51 (encL vw (startS sig51 v).len (startOs sig51 v).1) (encOs (startS sig51 v).len (startS sig51 v).own) (encV vw (conc vw sig51.rcut r).len x) (encOs (conc vw sig51.rcut r).len (kept sig51 r))) v r
abbrev mn_78c79 (v : (List Tag) × Unit) (r : Bool × Unit) : Prop := (fun v r => ∀ x, resV prog sig78c79 r = some x → FnOk prog 78 (encL vw (startS sig78c79 v).len (startOs sig78c79 v).1) (encOs (startS sig78c79 v).len (startS sig78c79 v).own) (encV vw (conc vw sig78c79.rcut r).len x) (encOs (conc vw sig78c79.rcut r).len (kept sig78c79 r))) v r
abbrev mn_104c79 (v : (List Tag) × Unit) (r : Int × Unit) : Prop := (fun v r => ∀ x, resV prog sig104c79 r = some x → FnOk prog 104 (encL vw (startS sig104c79 v).len (startOs sig104c79 v).1) (encOs (startS sig104c79 v).len (startS sig104c79 v).own) (encV vw (conc vw sig104c79.rcut r).len x) (encOs (conc vw sig104c79.rcut r).len (kept sig104c79 r))) v r
theorem cn_104c79l2 (f0 : (List Tag) × Int × Int × Unit → Option (((Int × Unit) ⊕ (Unit)))) (f1 : Tag × Unit → Option (Bool × Unit)) (h0 : ∀ v r, f0 v = some r → mn_104c79l2 v r) (h1 : ∀ v r, f1 v = some r → mn_79 v r) : CallerOk prog (x104c79 f0 f1 (fun _ => none) (fun _ => none) (fun _ => none)).call := (by
    intro A fid args S dst k r h
    unfold x104c79 call104c79 at h
    simp only at h
    split at h
    ·exact callPure_ok ((fun v r x h hx => h1 v r h x hx)) rfl rfl h
    ·cases h)
theorem sn_104c79l2 (f0 : (List Tag) × Int × Int × Unit → Option (((Int × Unit) ⊕ (Unit)))) (f1 : Tag × Unit → Option (Bool × Unit)) (h0 : ∀ v r, f0 v = some r → mn_104c79l2 v r) (h1 : ∀ v r, f1 v = some r → mn_79 v r) (v : (List Tag) × Int × Int × Unit) (r : ((Int × Unit) ⊕ (Unit))) (h : exL (x104c79 f0 f1 (fun _ => none) (fun _ => none) (fun _ => none)) (loopNo (bodyOf Tryz.f104) 0) c104c79l2 [.ret, .exit 0] f0 v = some r) : mn_104c79l2 v r := fun C hP hN => loop_step (X := x104c79 f0 f1 (fun _ => none) (fun _ => none) (fun _ => none)) (b := (loopNo (bodyOf Tryz.f104) 0)) hP hN Ty.mixed (cn_104c79l2 f0 f1 h0 h1) (lok_all (X := x104c79 f0 f1 (fun _ => none) (fun _ => none) (fun _ => none)) (c := (loopNo (bodyOf Tryz.f104) 0)) (kcast (by kernel_rfl : True = AllB (LoopsP C (x104c79 f0 f1 (fun _ => none) (fun _ => none) (fun _ => none))) (loopsIn (loopNo (bodyOf Tryz.f104) 0))) trivial)) (cut := c104c79l2) (alts := [.ret, .exit 0]) (F := f0) (fun v out h => h0 v out h C hP hN) h
theorem cn_79 (f0 : Tag × Unit → Option (Bool × Unit)) (h0 : ∀ v r, f0 v = some r → mn_51 v r) : CallerOk prog (x79 (fun _ => none) (fun _ => none) f0 (fun _ => none) (fun _ => none)).call := (by
    intro A fid args S dst k r h
    unfold x79 call79 at h
    simp only at h
    split at h
    ·exact callPure_ok ((fun v r x h hx => h0 v r h x hx)) rfl rfl h
    ·cases h)
theorem sn_79 (f0 : Tag × Unit → Option (Bool × Unit)) (h0 : ∀ v r, f0 v = some r → mn_51 v r) (v : Tag × Unit) (r : Bool × Unit) (h : exF (x79 (fun _ => none) (fun _ => none) f0 (fun _ => none) (fun _ => none)) sig79 rfl (bodyOf Tryz.f79) v = some r) : mn_79 v r := fun x hx => fn_ok (X := x79 (fun _ => none) (fun _ => none) f0 (fun _ => none) (fun _ => none)) (sig := sig79) rfl Tryz.func79 (c := bodyOf Tryz.f79) (by kernel_rfl) Tryz.ntmps79 (by kernel_rfl) (by kernel_rfl) rfl Ty.mixed (cn_79 f0 h0) rfl (fun C hP hN => (lok_all (X := x79 (fun _ => none) (fun _ => none) f0 (fun _ => none) (fun _ => none)) (c := (bodyOf Tryz.f79)) (kcast (by kernel_rfl : True = AllB (LoopsP C (x79 (fun _ => none) (fun _ => none) f0 (fun _ => none) (fun _ => none))) (loopsIn (bodyOf Tryz.f79))) trivial))) h x hx
theorem cn_51 (f0 : (List Tag) × Unit → Option (Bool × Unit)) (h0 : ∀ v r, f0 v = some r → mn_78c79 v r) : CallerOk prog (x51 (fun _ => none) (fun _ => none) (fun _ => none) f0 (fun _ => none)).call := (by
    intro A fid args S dst k r h
    unfold x51 call51 at h
    simp only at h
    split at h
    ·exact callPure_ok (n_75_ok) rfl rfl h
    ·exact callPure_ok (n_77c75_ok) rfl rfl h
    ·exact callPure_ok ((fun v r x h hx => h0 v r h x hx)) rfl rfl h
    ·cases h)
theorem sn_51 (f0 : (List Tag) × Unit → Option (Bool × Unit)) (h0 : ∀ v r, f0 v = some r → mn_78c79 v r) (v : Tag × Unit) (r : Bool × Unit) (h : exF (x51 (fun _ => none) (fun _ => none) (fun _ => none) f0 (fun _ => none)) sig51 rfl (bodyOf Tryz.f51) v = some r) : mn_51 v r := fun x hx => fn_ok (X := x51 (fun _ => none) (fun _ => none) (fun _ => none) f0 (fun _ => none)) (sig := sig51) rfl Tryz.func51 (c := bodyOf Tryz.f51) (by kernel_rfl) Tryz.ntmps51 (by kernel_rfl) (by kernel_rfl) rfl Ty.mixed (cn_51 f0 h0) rfl (fun C hP hN => (lok_all (X := x51 (fun _ => none) (fun _ => none) (fun _ => none) f0 (fun _ => none)) (c := (bodyOf Tryz.f51)) (kcast (by kernel_rfl : True = AllB (LoopsP C (x51 (fun _ => none) (fun _ => none) (fun _ => none) f0 (fun _ => none))) (loopsIn (bodyOf Tryz.f51))) trivial))) h x hx
theorem cn_78c79 (f0 : (List Tag) × Unit → Option (Int × Unit)) (h0 : ∀ v r, f0 v = some r → mn_104c79 v r) : CallerOk prog (x78c79 (fun _ => none) (fun _ => none) (fun _ => none) (fun _ => none) f0).call := (by
    intro A fid args S dst k r h
    unfold x78c79 call78c79 at h
    simp only at h
    split at h
    ·exact callPure_ok ((fun v r x h hx => h0 v r h x hx)) rfl rfl h
    ·cases h)
theorem sn_78c79 (f0 : (List Tag) × Unit → Option (Int × Unit)) (h0 : ∀ v r, f0 v = some r → mn_104c79 v r) (v : (List Tag) × Unit) (r : Bool × Unit) (h : exF (x78c79 (fun _ => none) (fun _ => none) (fun _ => none) (fun _ => none) f0) sig78c79 rfl (bodyOf Tryz.f78) v = some r) : mn_78c79 v r := fun x hx => fn_ok (X := x78c79 (fun _ => none) (fun _ => none) (fun _ => none) (fun _ => none) f0) (sig := sig78c79) rfl Tryz.func78 (c := bodyOf Tryz.f78) (by kernel_rfl) Tryz.ntmps78 (by kernel_rfl) (by kernel_rfl) rfl Ty.mixed (cn_78c79 f0 h0) rfl (fun C hP hN => (lok_all (X := x78c79 (fun _ => none) (fun _ => none) (fun _ => none) (fun _ => none) f0) (c := (bodyOf Tryz.f78)) (kcast (by kernel_rfl : True = AllB (LoopsP C (x78c79 (fun _ => none) (fun _ => none) (fun _ => none) (fun _ => none) f0)) (loopsIn (bodyOf Tryz.f78))) trivial))) h x hx
theorem cn_104c79 (f0 : (List Tag) × Int × Int × Unit → Option (((Int × Unit) ⊕ (Unit)))) (h0 : ∀ v r, f0 v = some r → mn_104c79l2 v r) : CallerOk prog (x104c79 f0 (fun _ => none) (fun _ => none) (fun _ => none) (fun _ => none)).call := (by
    intro A fid args S dst k r h
    unfold x104c79 call104c79 at h
    simp only at h
    split at h
    ·exact callPure_ok ((fun v r x h hx => by cases h)) rfl rfl h
    ·cases h)
theorem sn_104c79 (f0 : (List Tag) × Int × Int × Unit → Option (((Int × Unit) ⊕ (Unit)))) (h0 : ∀ v r, f0 v = some r → mn_104c79l2 v r) (v : (List Tag) × Unit) (r : Int × Unit) (h : exF (x104c79 f0 (fun _ => none) (fun _ => none) (fun _ => none) (fun _ => none)) sig104c79 rfl (bodyOf Tryz.f104) v = some r) : mn_104c79 v r := fun x hx => fn_ok (X := x104c79 f0 (fun _ => none) (fun _ => none) (fun _ => none) (fun _ => none)) (sig := sig104c79) rfl Tryz.func104 (c := bodyOf Tryz.f104) (by kernel_rfl) Tryz.ntmps104 (by kernel_rfl) (by kernel_rfl) rfl Ty.mixed (cn_104c79 f0 h0) rfl (fun C hP hN => (lok_all (X := x104c79 f0 (fun _ => none) (fun _ => none) (fun _ => none) (fun _ => none)) (c := (bodyOf Tryz.f104)) (kcast (by kernel_rfl : AllB (LoopsP C (x104c79 f0 (fun _ => none) (fun _ => none) (fun _ => none) (fun _ => none))) [(loopNo (bodyOf Tryz.f104) 0)] = AllB (LoopsP C (x104c79 f0 (fun _ => none) (fun _ => none) (fun _ => none) (fun _ => none))) (loopsIn (bodyOf Tryz.f104))) ⟨loop_at (X := x104c79 f0 (fun _ => none) (fun _ => none) (fun _ => none) (fun _ => none)) (b := (loopNo (bodyOf Tryz.f104) 0)) (by kernel_rfl) (show LoopOk C (loopNo (bodyOf Tryz.f104) 0) (sh := sh104c79) { cut := c104c79l2, alts := [.ret, .exit 0], F := f0 } from fun v out h => h0 v out h C hP hN), trivial⟩))) h x hx
theorem n_104c79l2_all : (∀ v r, n_104c79l2 v = some r → mn_104c79l2 v r) ∧ (∀ v r, n_79 v = some r → mn_79 v r) ∧ (∀ v r, n_51 v = some r → mn_51 v r) ∧ (∀ v r, n_78c79 v = some r → mn_78c79 v r) ∧ (∀ v r, n_104c79 v = some r → mn_104c79 v r) := by
 refine n_104c79l2.mutual_partial_correctness
  (motive_1 := mn_104c79l2)
  (motive_2 := mn_79)
  (motive_3 := mn_51)
  (motive_4 := mn_78c79)
  (motive_5 := mn_104c79)
  ?_ ?_ ?_ ?_ ?_
 ·exact (fun f0 f1 h0 h1 v r h => sn_104c79l2 f0 f1 h0 h1 v r (kcast (by kernel_rfl) h))
 ·exact (fun f0 h0 v r h => sn_79 f0 h0 v r (kcast (by kernel_rfl) h))
 ·exact (fun f0 h0 v r h => sn_51 f0 h0 v r (kcast (by kernel_rfl) h))
 ·exact (fun f0 h0 v r h => sn_78c79 f0 h0 v r (kcast (by kernel_rfl) h))
 ·exact (fun f0 h0 v r h => sn_104c79 f0 h0 v r (kcast (by kernel_rfl) h))
theorem n_51_ok : SigOk prog 51 sig51 n_51 := fun v r x h hx => n_104c79l2_all.2.2.1 v r h x hx
noncomputable def sig132 : Sig vw := { params := [.dat .str, .dat (.int .u8)], rcut := c103c75z, rvars := [.tmp 4] }
noncomputable def n_132 (v : ByteArray × Int × Unit) : Option (Int × Unit) :=
 some (Lib.indexByte v.1.data.toList v.2.1.toNat.toUInt8, ())
theorem n_132_ok : SigOk prog 132 sig132 n_132 := fun v r x h hx => by
 obtain ⟨s, c, u⟩ := v
 cases h; cases hx
 exact kcast (by kernel_rfl) (FnOk.pure (P := prog) (f := 132) (args := [.d (.v (.string s)), .d (.v (.int .u8 c))]) (r := .d (.v (.int .i64 (Lib.indexByte s.data.toList c.toNat.toUInt8)))) (by kernel_rfl) fun E M w vs _ _ hv => by
  obtain ⟨v1, v2, rfl, h1, h2⟩ := hreps_two hv
  rw [h1.dv, h2.dv]
  exact (Tryz.stringslite_IndexByte s c w).mono fun e w' ⟨he, hw⟩ => ⟨_, he, .d (.v _), hw ▸ Go.RowKit.Below.refl _ _⟩)
noncomputable def sh118 : Shape vw := { rcut := c103c75z }
noncomputable def sig118 : Sig vw := { params := [.dat .str, .dat (.int .u8)], rcut := c103c75z, rvars := [.tmp 4] }
noncomputable def n_118 (v : ByteArray × Int × Unit) : Option (Int × Unit) :=
 n_132 (v.1, v.2.1, ()) >>= fun x1 =>
 some ((x1.1, ()))
noncomputable def call118 : Caller vw := fun A fid args S k => match fid with | 132 => callPure prog sig132 n_132 A args S k | _ => none
noncomputable def x118 : Xc vw := { P := prog, n := 8, call := call118, sh := sh118 }
theorem call118_ok : CallerOk prog call118 := fun A fid args S dst k r h => by
 unfold call118 at h
 split at h
 ·exact callPure_ok (n_132_ok) rfl rfl h
 ·cases h
theorem n_118_ok : SigOk prog 118 sig118 n_118 := fun v r x h hx =>
 fn_ok (X := x118) (sig := sig118) rfl Tryz.func118 (c := bodyOf Tryz.f118) (by kernel_rfl) Tryz.ntmps118 (by kernel_rfl) (by kernel_rfl) rfl Ty.mixed call118_ok rfl (fun C hP hN => (lok_all (kcast (by kernel_rfl) trivial))) (kcast (by kernel_rfl) h) x hx
noncomputable def c133z : Cut SN := ⟨[(2, .dat .str)], []⟩
noncomputable def sig133 : Sig vw := { params := [.dat .str], rcut := c133z, rvars := [.tmp 2] }
noncomputable def n_133 (v : ByteArray × Unit) : Option (ByteArray × Unit) :=
 if v.1.size ≤ 140737488355328 ∧ v.1.data.toList.all (fun b => decide (b.toNat < 128)) = true then some (⟨(Lib.toLowerA v.1.data.toList).toArray⟩, ()) else none
theorem n_133_ok : SigOk prog 133 sig133 n_133 := fun v r x h hx => by
 obtain ⟨s, u⟩ := v
 unfold n_133 at h
 split at h
 ·rename_i hc
  obtain ⟨h0, h1⟩ := hc
  simp only at h0 h1
  cases h; cases hx
  exact kcast (by kernel_rfl) (FnOk.pure (P := prog) (f := 133) (args := [.d (.v (.string s))]) (r := .d (.v (.string ⟨(Lib.toLowerA s.data.toList).toArray⟩))) (by kernel_rfl) fun E M w vs hg hm hv => by
   obtain ⟨v1, rfl, h2⟩ := hreps_one hv
   rw [h2.dv]
   exact (Tryz.strings_ToLower_ascii s w h0 (fun j b hb => of_decide_eq_true (List.all_eq_true.1 h1 b (List.mem_of_getElem? hb)))).mono fun e w' ⟨he, hw⟩ => ⟨_, he, .d (.v _), hw⟩)
 ·cases h
noncomputable def c74s5bd0r1 : Cut SN := ⟨[(0, .bp 100000 0), (33, .dat .bool)], [(100000, .st .readerT)]⟩
noncomputable def c74s5bd0z : Cut SN := ⟨[(0, .bp 100000 0), (4, .dat .bool)], [(100000, .st .readerT)]⟩
noncomputable def sh74s5bd0 : Shape vw := { rcut := c74s5bd0z }
noncomputable def sig74s5bd0 : Sig vw := { params := [.bp 100000 0, .dat .str], objs := [(100000, .st .readerT)], rcut := c74s5bd0z, rvars := [.tmp 4], keep := [100000] }
noncomputable def n_74s5bd0 (v : ByteArray × Reader × Unit) : Option (Bool × Reader × Unit) :=
 (if (v.2.1.at0 == (↑v.2.1.s.size : Int)) = true then
    some ((true, v.2.1, ()))
   else if (0 : Int) ≤ v.2.1.at0 ∧ v.2.1.at0 ≤ i64.wrap (v.2.1.at0 + (1 : Int)) ∧ i64.wrap (v.2.1.at0 + (1 : Int)) ≤ (↑v.2.1.s.size : Int) then
    n_101 (v.1, v.2.1.s.extract v.2.1.at0.toNat (i64.wrap (v.2.1.at0 + (1 : Int))).toNat, ()) >>= fun x1 =>
    some ((!x1.1, v.2.1, ()))
   else none) >>= fun x1 =>
 if x1.1 = true then
  some ((false, x1.2.1, ()))
 else some ((true, Reader.mk x1.2.1.s (i64.wrap (x1.2.1.at0 + (1 : Int))), ()))
noncomputable def call74s5bd0 : Caller vw := fun A fid args S k => match fid with | 101 => callPure prog sig101 n_101 A args S k | _ => none
noncomputable def x74s5bd0 : Xc vw := { P := prog, n := 41, call := call74s5bd0, sh := sh74s5bd0, regs := fun k => match k with | 1 => some c74s5bd0r1 | _ => none }
theorem call74s5bd0_ok : CallerOk prog call74s5bd0 := fun A fid args S dst k r h => by
 unfold call74s5bd0 at h
 split at h
 ·exact callPure_ok (n_101_ok) rfl rfl h
 ·cases h
theorem n_74s5bd0_ok : SigOk prog 74 sig74s5bd0 n_74s5bd0 := fun v r x h hx =>
 fn_ok (X := x74s5bd0) (sig := sig74s5bd0) rfl Tryz.func74 (c := bodyOf Tryz.f74) (by kernel_rfl) Tryz.ntmps74 (by kernel_rfl) (by kernel_rfl) rfl Ty.mixed call74s5bd0_ok rfl (fun C hP hN => (lok_all (kcast (by kernel_rfl) trivial))) (kcast (by kernel_rfl) h) x hx
noncomputable def c119sadb0l11 : Cut SN := ⟨[(0, .bp 100000 0), (10, .dat (.int .i32)), (50, .dat (.sl (.int .u8))), (51, .dat (.int .i64)), (52, .dat (.int .i64))], [(100000, .st .readerT)]⟩
noncomputable def c119sadb0j7 : Cut SN := ⟨[(0, .bp 100000 0), (8, .dat (.int .i64)), (9, .dat .str)], [(100000, .st .readerT)]⟩
noncomputable def c119sadb0r7 : Cut SN := ⟨[(0, .bp 100000 0), (8, .dat (.int .i64)), (38, .dat .bool)], [(100000, .st .readerT)]⟩
noncomputable def c119sadb0e1 : Cut SN := ⟨[(0, .bp 100000 0), (10, .dat (.int .i32))], [(100000, .st .readerT)]⟩
noncomputable def c119sadb0z : Cut SN := ⟨[(0, .bp 100000 0), (6, .dat (.int .i32)), (7, .dat .bool)], [(100000, .st .readerT)]⟩
noncomputable def sh119sadb0 : Shape vw := { exits := fun id => match id with | 1 => c119sadb0e1 | _ => ⟨[], []⟩, rcut := c119sadb0z }
noncomputable def sig119sadb0 : Sig vw := { params := [.bp 100000 0, .dat .str, .dat .str], objs := [(100000, .st .readerT)], rcut := c119sadb0z, rvars := [.tmp 6, .tmp 7], keep := [100000] }
noncomputable def n_119sadb0l11 (v : Int × (List Int) × Int × Int × Reader × Unit) : Option ((Int × Reader × Unit)) :=
 if decide (v.2.2.2.1 < v.2.2.1) = true then
  if (0 : Int) ≤ v.2.2.2.1 then
   v.2.1[v.2.2.2.1.toNat]? >>= fun x1 =>
   n_118 (ByteArray.mk #[48, 49, 50, 51, 52, 53, 54, 55, 56, 57, 97, 98, 99, 100, 101, 102, 65, 66, 67, 68, 69, 70], x1, ()) >>= fun x2 =>
   n_119sadb0l11 (i32.wrap (i32.wrap ((16 : Int) * v.1) + i32.wrap x2.1), v.2.1, v.2.2.1, i64.wrap (v.2.2.2.1 + (1 : Int)), v.2.2.2.2.1, ())
  else none
 else some ((v.1, v.2.2.2.2.1, ()))
 partial_fixpoint
noncomputable def n_119sadb0 (v : ByteArray × ByteArray × Reader × Unit) : Option (Int × Bool × Reader × Unit) :=
 (n_74s5bd0 (v.1, v.2.2.1, ()) >>= fun x1 =>
   if x1.1 = true then
    some (Sum.inl (v.2.2.1.at0, ByteArray.mk #[48, 49, 50, 51, 52, 53, 54, 55, 56, 57, 97, 98, 99, 100, 101, 102, 65, 66, 67, 68, 69, 70], x1.2.1, ()))
   else n_74s5bd0 (ByteArray.mk #[100, 68], x1.2.1, ()) >>= fun x2 =>
   if x2.1 = true then
    some (Sum.inl (v.2.2.1.at0, v.2.1, x2.2.1, ()))
   else some (Sum.inr ((0 : Int), false, x2.2.1, ()))) >>= fun x1 => match x1 with
   | .inl y1 => (n_74s5bd0 (y1.2.1, y1.2.2.1, ()) >>= fun x2 =>
     if (!x2.1) = true then
      some ((y1.1, true, x2.2.1, ()))
     else n_74s5bd0 (ByteArray.mk #[48, 49, 50, 51, 52, 53, 54, 55, 56, 57, 97, 98, 99, 100, 101, 102, 65, 66, 67, 68, 69, 70], x2.2.1, ()) >>= fun x3 =>
     if (!x3.1) = true then
      some ((y1.1, true, x3.2.1, ()))
     else n_74s5bd0 (ByteArray.mk #[48, 49, 50, 51, 52, 53, 54, 55, 56, 57, 97, 98, 99, 100, 101, 102, 65, 66, 67, 68, 69, 70], x3.2.1, ()) >>= fun x4 =>
     some ((y1.1, !x4.1, x4.2.1, ()))) >>= fun x2 =>
    if x2.2.1 = true then
     some (((0 : Int), false, x2.2.2.1, ()))
    else if (0 : Int) ≤ x2.1 ∧ x2.1 ≤ x2.2.2.1.at0 ∧ x2.2.2.1.at0 ≤ (↑x2.2.2.1.s.size : Int) then
     n_133 (x2.2.2.1.s.extract x2.1.toNat x2.2.2.1.at0.toNat, ()) >>= fun x3 =>
     n_119sadb0l11 ((0 : Int), Bs.ints x3.1, (↑(Bs.ints x3.1).length : Int), (0 : Int), x2.2.2.1, ()) >>= fun x4 =>
     some ((x4.1, true, x4.2.1, ()))
    else none
   | .inr y1 => some y1
noncomputable def call119sadb0 : Caller vw := fun A fid args S k => match fid with | 74 => callObj prog sig74s5bd0 n_74s5bd0 A args S k | 118 => callPure prog sig118 n_118 A args S k | 133 => callPure prog sig133 n_133 A args S k | _ => none
noncomputable def x119sadb0 : Xc vw := { P := prog, n := 64, call := call119sadb0, sh := sh119sadb0, joins := fun k => match k with | 7 => some (c119sadb0j7, [.norm, .ret]) | _ => none, regs := fun k => match k with | 7 => some c119sadb0r7 | _ => none, loops := fun k => match k with | 11 => some { cut := c119sadb0l11, alts := [.exit 1], F := n_119sadb0l11 } | _ => none }
theorem call119sadb0_ok : CallerOk prog call119sadb0 := fun A fid args S dst k r h => by
 unfold call119sadb0 at h
 split at h
 ·exact callObj_ok (n_74s5bd0_ok) h
 ·exact callPure_ok (n_118_ok) rfl rfl h
 ·exact callPure_ok (n_133_ok) rfl rfl h
 ·cases h
theorem n_119sadb0l11_ok (C : Ctx) (hP : C.P = prog) (hN : C.N = 64) : LoopOk C (loopNo (bodyOf Tryz.f119) 0) (sh := sh119sadb0) { cut := c119sadb0l11, alts := [.exit 1], F := n_119sadb0l11 } :=
 n_119sadb0l11.partial_correctness (motive := fun v out => AWpL C (loopNo (bodyOf Tryz.f119) 0) (Go.Tx.encS vw (conc vw c119sadb0l11 v)) (OutQ sh119sadb0 [.exit 1] out)) fun F ih v out h =>
  loop_step (X := x119sadb0) (b := (loopNo (bodyOf Tryz.f119) 0)) hP hN Ty.mixed call119sadb0_ok (lok_all (X := x119sadb0) (c := (loopNo (bodyOf Tryz.f119) 0)) (kcast (by kernel_rfl : True = AllB (LoopsP C (x119sadb0)) (loopsIn (loopNo (bodyOf Tryz.f119) 0))) trivial)) ih (kcast (by kernel_rfl) h)
theorem n_119sadb0_ok : SigOk prog 119 sig119sadb0 n_119sadb0 := fun v r x h hx =>
 fn_ok (X := x119sadb0) (sig := sig119sadb0) rfl Tryz.func119 (c := bodyOf Tryz.f119) (by kernel_rfl) Tryz.ntmps119 (by kernel_rfl) (by kernel_rfl) rfl Ty.mixed call119sadb0_ok rfl (fun C hP hN => (lok_all (kcast (by kernel_rfl : AllB (LoopsP C (x119sadb0)) [(loopNo (bodyOf Tryz.f119) 0)] = AllB (LoopsP C (x119sadb0)) (loopsIn (bodyOf Tryz.f119))) ⟨loop_at (X := x119sadb0) (b := (loopNo (bodyOf Tryz.f119) 0)) (by kernel_rfl) (n_119sadb0l11_ok C hP hN), trivial⟩))) (kcast (by kernel_rfl) h) x hx
noncomputable def c26l4 : Cut SN := ⟨[(0, .dat (.sl .str)), (1, .dat (.sl .str)), (5, .dat (.int .i64))], []⟩
noncomputable def sh26 : Shape vw := { exits := fun id => match id with | 0 => c103c75e0 | _ => ⟨[], []⟩, rcut := c101z }
noncomputable def sig26 : Sig vw := { params := [.dat (.sl .str), .dat (.sl .str)], rcut := c101z, rvars := [.tmp 4] }
noncomputable def n_26l4 (v : (List ByteArray) × (List ByteArray) × Int × Unit) : Option (((Bool × Unit) ⊕ (Unit))) :=
 if decide (v.2.2.1 < (↑v.1.length : Int)) = true then
  if (0 : Int) ≤ v.2.2.1 then
   v.1[v.2.2.1.toNat]? >>= fun x1 =>
   if (0 : Int) ≤ v.2.2.1 then
    v.2.1[v.2.2.1.toNat]? >>= fun x2 =>
    if (!x1.toList == x2.toList) = true then
     some (Sum.inl (false, ()))
    else n_26l4 (v.1, v.2.1, i64.wrap (v.2.2.1 + (1 : Int)), ())
   else none
  else none
 else some (Sum.inr ())
 partial_fixpoint
noncomputable def n_26 (v : (List ByteArray) × (List ByteArray) × Unit) : Option (Bool × Unit) :=
 if ((↑v.1.length : Int) != (↑v.2.1.length : Int)) = true then
  some ((false, ()))
 else n_26l4 (v.1, v.2.1, (0 : Int), ()) >>= fun x1 => match x1 with
  | .inl y1 => some y1
  | .inr y1 => some ((true, ()))
noncomputable def call26 : Caller vw := fun _ _ _ _ _ => none
noncomputable def x26 : Xc vw := { P := prog, n := 26, call := call26, sh := sh26, loops := fun k => match k with | 4 => some { cut := c26l4, alts := [.ret, .exit 0], F := n_26l4 } | _ => none }
theorem call26_ok : CallerOk prog call26 := call_none
theorem n_26l4_ok (C : Ctx) (hP : C.P = prog) (hN : C.N = 26) : LoopOk C (loopNo (bodyOf Tryz.f26) 0) (sh := sh26) { cut := c26l4, alts := [.ret, .exit 0], F := n_26l4 } :=
 n_26l4.partial_correctness (motive := fun v out => AWpL C (loopNo (bodyOf Tryz.f26) 0) (Go.Tx.encS vw (conc vw c26l4 v)) (OutQ sh26 [.ret, .exit 0] out)) fun F ih v out h =>
  loop_step (X := x26) (b := (loopNo (bodyOf Tryz.f26) 0)) hP hN Ty.mixed call26_ok (lok_all (X := x26) (c := (loopNo (bodyOf Tryz.f26) 0)) (kcast (by kernel_rfl : True = AllB (LoopsP C (x26)) (loopsIn (loopNo (bodyOf Tryz.f26) 0))) trivial)) ih (kcast (by kernel_rfl) h)
theorem n_26_ok : SigOk prog 26 sig26 n_26 := fun v r x h hx =>
 fn_ok (X := x26) (sig := sig26) rfl Tryz.func26 (c := bodyOf Tryz.f26) (by kernel_rfl) Tryz.ntmps26 (by kernel_rfl) (by kernel_rfl) rfl Ty.mixed call26_ok rfl (fun C hP hN => (lok_all (kcast (by kernel_rfl : AllB (LoopsP C (x26)) [(loopNo (bodyOf Tryz.f26) 0)] = AllB (LoopsP C (x26)) (loopsIn (bodyOf Tryz.f26))) ⟨loop_at (X := x26) (b := (loopNo (bodyOf Tryz.f26) 0)) (by kernel_rfl) (n_26l4_ok C hP hN), trivial⟩))) (kcast (by kernel_rfl) h) x hx
noncomputable def c12l4 : Cut SN := ⟨[(2, .bp 2 0), (3, .bp 3 0), (5, .dat (.int .i64))], [(2, .st .tagT), (3, .st .tagT)]⟩
noncomputable def c12r1 : Cut SN := ⟨[(2, .bp 2 0), (3, .bp 3 0), (41, .dat .bool)], [(2, .st .tagT), (3, .st .tagT)]⟩
noncomputable def sh12 : Shape vw := { exits := fun id => match id with | 0 => c103c75e0 | _ => ⟨[], []⟩, rcut := c101z }
noncomputable def sig12 : Sig vw := { params := [.dat (.st .tagT), .dat (.st .tagT)], rcut := c101z, rvars := [.tmp 4] }
mutual
noncomputable def n_12l4 (v : Int × Tag × Tag × Unit) : Option (((Bool × Unit) ⊕ (Unit))) :=
 if decide (v.1 < (↑v.2.1.parts.length : Int)) = true then
  if (0 : Int) ≤ v.1 then
   v.2.1.parts[v.1.toNat]? >>= fun x1 =>
   if (0 : Int) ≤ v.1 then
    v.2.2.1.parts[v.1.toNat]? >>= fun x2 =>
    n_12 (x1, x2, ()) >>= fun x3 =>
    if (!x3.1) = true then
     some (Sum.inl (false, ()))
    else n_12l4 (i64.wrap (v.1 + (1 : Int)), v.2.1, v.2.2.1, ())
   else none
  else none
 else some (Sum.inr ())
 partial_fixpoint
noncomputable def n_12 (v : Tag × Tag × Unit) : Option (Bool × Unit) :=
 (if (v.1.kind != v.2.1.kind) = true then
    some ((true, v.1, v.2.1, ()))
   else if (v.1.n != v.2.1.n) = true then
    some ((true, v.1, v.2.1, ()))
   else if (!v.1.text.toList == v.2.1.text.toList) = true then
    some ((true, v.1, v.2.1, ()))
   else n_26 (v.1.names, v.2.1.names, ()) >>= fun x1 =>
   if (!x1.1) = true then
    some ((true, v.1, v.2.1, ()))
   else some (((↑v.1.parts.length : Int) != (↑v.2.1.parts.length : Int), v.1, v.2.1, ()))) >>= fun x1 =>
 if x1.1 = true then
  some ((false, ()))
 else n_12l4 ((0 : Int), x1.2.1, x1.2.2.1, ()) >>= fun x2 => match x2 with
  | .inl y2 => some y2
  | .inr y2 => some ((true, ()))
 partial_fixpoint
end
noncomputable def call12 (n_12l4 : Int × Tag × Tag × Unit → Option (((Bool × Unit) ⊕ (Unit)))) (n_12 : Tag × Tag × Unit → Option (Bool × Unit)) : Caller vw := fun A fid args S k => match fid with | 12 => callPure prog sig12 n_12 A args S k | 26 => callPure prog sig26 n_26 A args S k | _ => none
noncomputable def x12 (n_12l4 : Int × Tag × Tag × Unit → Option (((Bool × Unit) ⊕ (Unit)))) (n_12 : Tag × Tag × Unit → Option (Bool × Unit)) : Xc vw := { P := prog, n := 61, call := call12 n_12l4 n_12, sh := sh12, regs := fun k => match k with | 1 => some c12r1 | _ => none, loops := fun k => match k with | 4 => some { cut := c12l4, alts := [.ret, .exit 0], F := n_12l4 } | _ => none }
abbrev mn_12l4 (v : Int × Tag × Tag × Unit) (r : ((Bool × Unit) ⊕ (Unit))) : Prop := (fun v out => ∀ C : Ctx, C.P = prog → C.N = 61 → AWpL C (loopNo (bodyOf Tryz.f12) 0) (Go.Tx.encS vw (conc vw c12l4 v)) (OutQ sh12 [.ret, .exit 0] out)) v r
abbrev mn_12 (v : Tag × Tag × Unit) (r : Bool × Unit) : Prop := (fun v r => ∀ x, resV prog sig12 r = some x → FnOk prog 12 (encL vw (startS sig12 v).len (startOs sig12 v).1) (encOs (startS sig12 v).len (startS sig12 v).own) (encV vw (conc vw sig12.rcut r).len x) (encOs (conc vw sig12.rcut r).len (kept sig12 r))) v r
theorem cn_12l4 (f0 : Int × Tag × Tag × Unit → Option (((Bool × Unit) ⊕ (Unit)))) (f1 : Tag × Tag × Unit → Option (Bool × Unit)) (h0 : ∀ v r, f0 v = some r → mn_12l4 v r) (h1 : ∀ v r, f1 v = some r → mn_12 v r) : CallerOk prog (x12 f0 f1).call := (by
    intro A fid args S dst k r h
    unfold x12 call12 at h
    simp only at h
    split at h
    ·exact callPure_ok ((fun v r x h hx => h1 v r h x hx)) rfl rfl h
    ·exact callPure_ok (n_26_ok) rfl rfl h
    ·cases h)
theorem sn_12l4 (f0 : Int × Tag × Tag × Unit → Option (((Bool × Unit) ⊕ (Unit)))) (f1 : Tag × Tag × Unit → Option (Bool × Unit)) (h0 : ∀ v r, f0 v = some r → mn_12l4 v r) (h1 : ∀ v r, f1 v = some r → mn_12 v r) (v : Int × Tag × Tag × Unit) (r : ((Bool × Unit) ⊕ (Unit))) (h : exL (x12 f0 f1) (loopNo (bodyOf Tryz.f12) 0) c12l4 [.ret, .exit 0] f0 v = some r) : mn_12l4 v r := fun C hP hN => loop_step (X := x12 f0 f1) (b := (loopNo (bodyOf Tryz.f12) 0)) hP hN Ty.mixed (cn_12l4 f0 f1 h0 h1) (lok_all (X := x12 f0 f1) (c := (loopNo (bodyOf Tryz.f12) 0)) (kcast (by kernel_rfl : True = AllB (LoopsP C (x12 f0 f1)) (loopsIn (loopNo (bodyOf Tryz.f12) 0))) trivial)) (cut := c12l4) (alts := [.ret, .exit 0]) (F := f0) (fun v out h => h0 v out h C hP hN) h
theorem cn_12 (f0 : Int × Tag × Tag × Unit → Option (((Bool × Unit) ⊕ (Unit)))) (h0 : ∀ v r, f0 v = some r → mn_12l4 v r) : CallerOk prog (x12 f0 (fun _ => none)).call := (by
    intro A fid args S dst k r h
    unfold x12 call12 at h
    simp only at h
    split at h
    ·exact callPure_ok ((fun v r x h hx => by cases h)) rfl rfl h
    ·exact callPure_ok (n_26_ok) rfl rfl h
    ·cases h)
theorem sn_12 (f0 : Int × Tag × Tag × Unit → Option (((Bool × Unit) ⊕ (Unit)))) (h0 : ∀ v r, f0 v = some r → mn_12l4 v r) (v : Tag × Tag × Unit) (r : Bool × Unit) (h : exF (x12 f0 (fun _ => none)) sig12 rfl (bodyOf Tryz.f12) v = some r) : mn_12 v r := fun x hx => fn_ok (X := x12 f0 (fun _ => none)) (sig := sig12) rfl Tryz.func12 (c := bodyOf Tryz.f12) (by kernel_rfl) Tryz.ntmps12 (by kernel_rfl) (by kernel_rfl) rfl Ty.mixed (cn_12 f0 h0) rfl (fun C hP hN => (lok_all (X := x12 f0 (fun _ => none)) (c := (bodyOf Tryz.f12)) (kcast (by kernel_rfl : AllB (LoopsP C (x12 f0 (fun _ => none))) [(loopNo (bodyOf Tryz.f12) 0)] = AllB (LoopsP C (x12 f0 (fun _ => none))) (loopsIn (bodyOf Tryz.f12))) ⟨loop_at (X := x12 f0 (fun _ => none)) (b := (loopNo (bodyOf Tryz.f12) 0)) (by kernel_rfl) (show LoopOk C (loopNo (bodyOf Tryz.f12) 0) (sh := sh12) { cut := c12l4, alts := [.ret, .exit 0], F := f0 } from fun v out h => h0 v out h C hP hN), trivial⟩))) h x hx
theorem n_12l4_all : (∀ v r, n_12l4 v = some r → mn_12l4 v r) ∧ (∀ v r, n_12 v = some r → mn_12 v r) := by
 refine n_12l4.mutual_partial_correctness
  (motive_1 := mn_12l4)
  (motive_2 := mn_12)
  ?_ ?_
 ·exact (fun f0 f1 h0 h1 v r h => sn_12l4 f0 f1 h0 h1 v r (kcast (by kernel_rfl) h))
 ·exact (fun f0 h0 v r h => sn_12 f0 h0 v r (kcast (by kernel_rfl) h))
theorem n_12_ok : SigOk prog 12 sig12 n_12 := fun v r x h hx => n_12l4_all.2 v r h x hx
noncomputable def c135s43b2j7 : Cut SN := ⟨[(0, .vh 100000), (1, .dat (.int .i32)), (5, .dat (.int .u32)), (25, .dat .bool)], [(100000, .vec 5 (.int .u8))]⟩
noncomputable def c135s43b2r8 : Cut SN := ⟨[(0, .vh 100000), (1, .dat (.int .i32)), (50, .dat .bool)], [(100000, .vec 5 (.int .u8))]⟩
noncomputable def c135s43b2z : Cut SN := ⟨[(4, .vh 2004)], [(2004, .vec 5 (.int .u8))]⟩
noncomputable def sh135s43b2 : Shape vw := { rcut := c135s43b2z }
noncomputable def sig135s43b2 : Sig vw := { params := [.vh 100000, .dat (.int .i32)], objs := [(100000, .vec 5 (.int .u8))], rcut := c135s43b2z, rvars := [.tmp 4], keep := [2004] }
noncomputable def n_135s43b2 (v : Int × (List Int) × Unit) : Option ((List Int) × Unit) :=
 if decide (IntKind.u32.wrap v.1 ≤ (2047 : Int)) = true then
  if v.2.1.length + [Bs.ior u8 (192 : Int) (u8.wrap (Bs.ishr i32 v.1 (6 : Int))), Bs.ior u8 (128 : Int) (Bs.iand u8 (u8.wrap v.1) (63 : Int))].length ≤ (4294967296 : Nat) then
   some ((v.2.1 ++ [Bs.ior u8 (192 : Int) (u8.wrap (Bs.ishr i32 v.1 (6 : Int))), Bs.ior u8 (128 : Int) (Bs.iand u8 (u8.wrap v.1) (63 : Int))], ()))
  else none
 else (if decide (IntKind.u32.wrap v.1 < (55296 : Int)) = true then
   some ((v.1, IntKind.u32.wrap v.1, true, v.2.1, ()))
  else (if decide ((57343 : Int) < IntKind.u32.wrap v.1) = true then
    some ((v.1, IntKind.u32.wrap v.1, decide (IntKind.u32.wrap v.1 ≤ (65535 : Int)), v.2.1, ()))
   else some ((v.1, IntKind.u32.wrap v.1, false, v.2.1, ()))) >>= fun x1 =>
  some ((x1.1, x1.2.1, x1.2.2.1, x1.2.2.2.1, ()))) >>= fun x1 =>
 if x1.2.2.1 = true then
  if x1.2.2.2.1.length + [Bs.ior u8 (224 : Int) (u8.wrap (Bs.ishr i32 x1.1 (12 : Int))), Bs.ior u8 (128 : Int) (Bs.iand u8 (u8.wrap (Bs.ishr i32 x1.1 (6 : Int))) (63 : Int)), Bs.ior u8 (128 : Int) (Bs.iand u8 (u8.wrap x1.1) (63 : Int))].length ≤ (4294967296 : Nat) then
   some ((x1.2.2.2.1 ++ [Bs.ior u8 (224 : Int) (u8.wrap (Bs.ishr i32 x1.1 (12 : Int))), Bs.ior u8 (128 : Int) (Bs.iand u8 (u8.wrap (Bs.ishr i32 x1.1 (6 : Int))) (63 : Int)), Bs.ior u8 (128 : Int) (Bs.iand u8 (u8.wrap x1.1) (63 : Int))], ()))
  else none
 else (if decide (x1.2.1 > (65535 : Int)) = true then
   some ((x1.1, decide (x1.2.1 ≤ (1114111 : Int)), x1.2.2.2.1, ()))
  else some ((x1.1, false, x1.2.2.2.1, ()))) >>= fun x2 =>
 if x2.2.1 = true then
  if x2.2.2.1.length + [Bs.ior u8 (240 : Int) (u8.wrap (Bs.ishr i32 x2.1 (18 : Int))), Bs.ior u8 (128 : Int) (Bs.iand u8 (u8.wrap (Bs.ishr i32 x2.1 (12 : Int))) (63 : Int)), Bs.ior u8 (128 : Int) (Bs.iand u8 (u8.wrap (Bs.ishr i32 x2.1 (6 : Int))) (63 : Int)), Bs.ior u8 (128 : Int) (Bs.iand u8 (u8.wrap x2.1) (63 : Int))].length ≤ (4294967296 : Nat) then
   some ((x2.2.2.1 ++ [Bs.ior u8 (240 : Int) (u8.wrap (Bs.ishr i32 x2.1 (18 : Int))), Bs.ior u8 (128 : Int) (Bs.iand u8 (u8.wrap (Bs.ishr i32 x2.1 (12 : Int))) (63 : Int)), Bs.ior u8 (128 : Int) (Bs.iand u8 (u8.wrap (Bs.ishr i32 x2.1 (6 : Int))) (63 : Int)), Bs.ior u8 (128 : Int) (Bs.iand u8 (u8.wrap x2.1) (63 : Int))], ()))
  else none
 else if x2.2.2.1.length + [(239 : Int), (191 : Int), (189 : Int)].length ≤ (4294967296 : Nat) then
  some ((x2.2.2.1 ++ [(239 : Int), (191 : Int), (189 : Int)], ()))
 else none
noncomputable def call135s43b2 : Caller vw := fun _ _ _ _ _ => none
noncomputable def x135s43b2 : Xc vw := { P := prog, n := 78, call := call135s43b2, sh := sh135s43b2, joins := fun k => match k with | 7 => some (c135s43b2j7, [.norm]) | _ => none, regs := fun k => match k with | 6 => some c135s43b2j7 | 8 => some c135s43b2r8 | _ => none }
theorem call135s43b2_ok : CallerOk prog call135s43b2 := call_none
theorem n_135s43b2_ok : SigOk prog 135 sig135s43b2 n_135s43b2 := fun v r x h hx =>
 fn_ok (X := x135s43b2) (sig := sig135s43b2) rfl Tryz.func135 (c := bodyOf Tryz.f135) (by kernel_rfl) Tryz.ntmps135 (by kernel_rfl) (by kernel_rfl) rfl Ty.mixed call135s43b2_ok rfl (fun C hP hN => (lok_all (kcast (by kernel_rfl) trivial))) (kcast (by kernel_rfl) h) x hx
noncomputable def sh121s43b2 : Shape vw := { rcut := c135s43b2z }
noncomputable def sig121s43b2 : Sig vw := { params := [.vh 100000, .dat (.int .i32)], objs := [(100000, .vec 5 (.int .u8))], rcut := c135s43b2z, rvars := [.tmp 4], keep := [2004] }
noncomputable def n_121s43b2 (v : Int × (List Int) × Unit) : Option ((List Int) × Unit) :=
 if decide (IntKind.u32.wrap v.1 ≤ (127 : Int)) = true then
  if v.2.1.length + [u8.wrap v.1].length ≤ (4294967296 : Nat) then
   some ((v.2.1 ++ [u8.wrap v.1], ()))
  else none
 else n_135s43b2 (v.1, v.2.1, ()) >>= fun x1 =>
 some ((x1.1, ()))
noncomputable def call121s43b2 : Caller vw := fun A fid args S k => match fid with | 135 => callObj prog sig135s43b2 n_135s43b2 A args S k | _ => none
noncomputable def x121s43b2 : Xc vw := { P := prog, n := 16, call := call121s43b2, sh := sh121s43b2 }
theorem call121s43b2_ok : CallerOk prog call121s43b2 := fun A fid args S dst k r h => by
 unfold call121s43b2 at h
 split at h
 ·exact callObj_ok (n_135s43b2_ok) h
 ·cases h
theorem n_121s43b2_ok : SigOk prog 121 sig121s43b2 n_121s43b2 := fun v r x h hx =>
 fn_ok (X := x121s43b2) (sig := sig121s43b2) rfl Tryz.func121 (c := bodyOf Tryz.f121) (by kernel_rfl) Tryz.ntmps121 (by kernel_rfl) (by kernel_rfl) rfl Ty.mixed call121s43b2_ok rfl (fun C hP hN => (lok_all (kcast (by kernel_rfl) trivial))) (kcast (by kernel_rfl) h) x hx
noncomputable def c122s07d3r1 : Cut SN := ⟨[(0, .bp 100000 0), (42, .dat .bool)], [(100000, .st .readerT)]⟩
noncomputable def c122s07d3z : Cut SN := ⟨[(0, .bp 100000 0), (6, .dat .bool)], [(100000, .st .readerT)]⟩
noncomputable def sh122s07d3 : Shape vw := { rcut := c122s07d3z }
noncomputable def sig122s07d3 : Sig vw := { params := [.bp 100000 0, .dat (.int .u8), .dat (.int .u8)], objs := [(100000, .st .readerT)], rcut := c122s07d3z, rvars := [.tmp 6], keep := [100000] }
noncomputable def n_122s07d3 (v : Int × Int × Reader × Unit) : Option (Bool × Reader × Unit) :=
 (if (v.2.2.1.at0 == (↑v.2.2.1.s.size : Int)) = true then
    some ((true, v.2.2.1, ()))
   else if (0 : Int) ≤ v.2.2.1.at0 then
    v.2.2.1.s[v.2.2.1.at0.toNat]? >>= fun x1 =>
    if decide ((↑x1.toNat : Int) < v.1) = true then
     some ((true, v.2.2.1, ()))
    else if (0 : Int) ≤ v.2.2.1.at0 then
     v.2.2.1.s[v.2.2.1.at0.toNat]? >>= fun x2 =>
     some ((decide ((↑x2.toNat : Int) > v.2.1), v.2.2.1, ()))
    else none
   else none) >>= fun x1 =>
 if x1.1 = true then
  some ((false, x1.2.1, ()))
 else some ((true, Reader.mk x1.2.1.s (i64.wrap (x1.2.1.at0 + (1 : Int))), ()))
noncomputable def call122s07d3 : Caller vw := fun _ _ _ _ _ => none
noncomputable def x122s07d3 : Xc vw := { P := prog, n := 50, call := call122s07d3, sh := sh122s07d3, regs := fun k => match k with | 1 => some c122s07d3r1 | _ => none }
theorem call122s07d3_ok : CallerOk prog call122s07d3 := call_none
theorem n_122s07d3_ok : SigOk prog 122 sig122s07d3 n_122s07d3 := fun v r x h hx =>
 fn_ok (X := x122s07d3) (sig := sig122s07d3) rfl Tryz.func122 (c := bodyOf Tryz.f122) (by kernel_rfl) Tryz.ntmps122 (by kernel_rfl) (by kernel_rfl) rfl Ty.mixed call122s07d3_ok rfl (fun C hP hN => (lok_all (kcast (by kernel_rfl) trivial))) (kcast (by kernel_rfl) h) x hx
noncomputable def c42l3 : Cut SN := ⟨[(1, .bp 1 0), (2, .bp 2 0), (3, .bp 3 0), (14, .dat (.sl .str)), (15, .dat (.int .i64)), (16, .dat (.int .i64))], [(1, .st .tagT), (2, .st .sizeT), (3, .st .sizeT)]⟩
noncomputable def c42l8 : Cut SN := ⟨[(2, .bp 2 0), (3, .bp 3 0), (28, .dat (.sl (.st .tagT))), (29, .dat (.int .i64)), (30, .dat (.int .i64))], [(2, .st .sizeT), (3, .st .sizeT)]⟩
noncomputable def c42e0 : Cut SN := ⟨[(1, .bp 1 0), (2, .bp 2 0), (3, .bp 3 0)], [(1, .st .tagT), (2, .st .sizeT), (3, .st .sizeT)]⟩
noncomputable def c42e2 : Cut SN := ⟨[(2, .bp 2 0), (3, .bp 3 0)], [(2, .st .sizeT), (3, .st .sizeT)]⟩
noncomputable def c42z : Cut SN := ⟨[(2, .bp 2 0)], [(2, .st .sizeT)]⟩
noncomputable def sh42 : Shape vw := { exits := fun id => match id with | 0 => c42e0 | 2 => c42e2 | _ => ⟨[], []⟩, rcut := c42z }
noncomputable def sig42 : Sig vw := { params := [.dat (.st .tagT)], rcut := c42z, rvars := [.cell 2 57] }
noncomputable def n_42l3 (v : (List ByteArray) × Int × Int × Tag × Size × Size × Unit) : Option ((Tag × Size × Size × Unit)) :=
 if decide (v.2.2.1 < v.2.1) = true then
  if (0 : Int) ≤ v.2.2.1 then
   v.1[v.2.2.1.toNat]? >>= fun x1 =>
   n_42l3 (v.1, v.2.1, i64.wrap (v.2.2.1 + (1 : Int)), v.2.2.2.1, v.2.2.2.2.1, Size.mk v.2.2.2.2.2.1.depth v.2.2.2.2.2.1.pieces (i64.wrap (v.2.2.2.2.2.1.bytes + (↑x1.size : Int))), ())
  else none
 else some ((v.2.2.2.1, v.2.2.2.2.1, v.2.2.2.2.2.1, ()))
 partial_fixpoint
mutual
noncomputable def n_42l8 (v : (List Tag) × Int × Int × Size × Size × Unit) : Option ((Size × Size × Unit)) :=
 if decide (v.2.2.1 < v.2.1) = true then
  if (0 : Int) ≤ v.2.2.1 then
   v.1[v.2.2.1.toNat]? >>= fun x1 =>
   n_42 (x1, ()) >>= fun x2 =>
   n_42l8 (v.1, v.2.1, i64.wrap (v.2.2.1 + (1 : Int)), v.2.2.2.1, Size.mk (max v.2.2.2.2.1.depth x2.1.depth) (i64.wrap (v.2.2.2.2.1.pieces + x2.1.pieces)) (i64.wrap (v.2.2.2.2.1.bytes + x2.1.bytes)), ())
  else none
 else some ((v.2.2.2.1, v.2.2.2.2.1, ()))
 partial_fixpoint
noncomputable def n_42 (v : Tag × Unit) : Option (Size × Unit) :=
 n_42l3 (v.1.names, (↑v.1.names.length : Int), (0 : Int), v.1, Size.mk (0 : Int) (0 : Int) (0 : Int), Size.mk (0 : Int) (1 : Int) (↑v.1.text.size : Int), ()) >>= fun x1 =>
 n_42l8 (x1.1.parts, (↑x1.1.parts.length : Int), (0 : Int), x1.2.1, x1.2.2.1, ()) >>= fun x2 =>
 some ((Size.mk (i64.wrap (x2.2.1.depth + (1 : Int))) x2.2.1.pieces x2.2.1.bytes, ()))
 partial_fixpoint
end
noncomputable def call42 (n_42l3 : (List ByteArray) × Int × Int × Tag × Size × Size × Unit → Option ((Tag × Size × Size × Unit))) (n_42l8 : (List Tag) × Int × Int × Size × Size × Unit → Option ((Size × Size × Unit))) (n_42 : Tag × Unit → Option (Size × Unit)) : Caller vw := fun A fid args S k => match fid with | 42 => callPure prog sig42 n_42 A args S k | _ => none
noncomputable def x42 (n_42l3 : (List ByteArray) × Int × Int × Tag × Size × Size × Unit → Option ((Tag × Size × Size × Unit))) (n_42l8 : (List Tag) × Int × Int × Size × Size × Unit → Option ((Size × Size × Unit))) (n_42 : Tag × Unit → Option (Size × Unit)) : Xc vw := { P := prog, n := 58, call := call42 n_42l3 n_42l8 n_42, sh := sh42, loops := fun k => match k with | 3 => some { cut := c42l3, alts := [.exit 0], F := n_42l3 } | 8 => some { cut := c42l8, alts := [.exit 2], F := n_42l8 } | _ => none }
abbrev mn_42l3 (v : (List ByteArray) × Int × Int × Tag × Size × Size × Unit) (r : (Tag × Size × Size × Unit)) : Prop := (fun v out => ∀ C : Ctx, C.P = prog → C.N = 58 → AWpL C (loopNo (bodyOf Tryz.f42) 0) (Go.Tx.encS vw (conc vw c42l3 v)) (OutQ sh42 [.exit 0] out)) v r
theorem cn_42l3 (f0 : (List ByteArray) × Int × Int × Tag × Size × Size × Unit → Option ((Tag × Size × Size × Unit))) (h0 : ∀ v r, f0 v = some r → mn_42l3 v r) : CallerOk prog (x42 f0 (fun _ => none) (fun _ => none)).call := (by
    intro A fid args S dst k r h
    unfold x42 call42 at h
    simp only at h
    split at h
    ·exact callPure_ok ((fun v r x h hx => by cases h)) rfl rfl h
    ·cases h)
theorem sn_42l3 (f0 : (List ByteArray) × Int × Int × Tag × Size × Size × Unit → Option ((Tag × Size × Size × Unit))) (h0 : ∀ v r, f0 v = some r → mn_42l3 v r) (v : (List ByteArray) × Int × Int × Tag × Size × Size × Unit) (r : (Tag × Size × Size × Unit)) (h : exL (x42 f0 (fun _ => none) (fun _ => none)) (loopNo (bodyOf Tryz.f42) 0) c42l3 [.exit 0] f0 v = some r) : mn_42l3 v r := fun C hP hN => loop_step (X := x42 f0 (fun _ => none) (fun _ => none)) (b := (loopNo (bodyOf Tryz.f42) 0)) hP hN Ty.mixed (cn_42l3 f0 h0) (lok_all (X := x42 f0 (fun _ => none) (fun _ => none)) (c := (loopNo (bodyOf Tryz.f42) 0)) (kcast (by kernel_rfl : True = AllB (LoopsP C (x42 f0 (fun _ => none) (fun _ => none))) (loopsIn (loopNo (bodyOf Tryz.f42) 0))) trivial)) (cut := c42l3) (alts := [.exit 0]) (F := f0) (fun v out h => h0 v out h C hP hN) h
theorem n_42l3_pc : ∀ v out, n_42l3 v = some out → (fun v out => ∀ C : Ctx, C.P = prog → C.N = 58 → AWpL C (loopNo (bodyOf Tryz.f42) 0) (Go.Tx.encS vw (conc vw c42l3 v)) (OutQ sh42 [.exit 0] out)) v out := (n_42l3.partial_correctness (motive := mn_42l3) (fun f0 h0 v r h => sn_42l3 f0 h0 v r (kcast (by kernel_rfl) h)))
abbrev mn_42l8 (v : (List Tag) × Int × Int × Size × Size × Unit) (r : (Size × Size × Unit)) : Prop := (fun v out => ∀ C : Ctx, C.P = prog → C.N = 58 → AWpL C (loopNo (bodyOf Tryz.f42) 1) (Go.Tx.encS vw (conc vw c42l8 v)) (OutQ sh42 [.exit 2] out)) v r
abbrev mn_42 (v : Tag × Unit) (r : Size × Unit) : Prop := (fun v r => ∀ x, resV prog sig42 r = some x → FnOk prog 42 (encL vw (startS sig42 v).len (startOs sig42 v).1) (encOs (startS sig42 v).len (startS sig42 v).own) (encV vw (conc vw sig42.rcut r).len x) (encOs (conc vw sig42.rcut r).len (kept sig42 r))) v r
theorem cn_42l8 (f0 : (List Tag) × Int × Int × Size × Size × Unit → Option ((Size × Size × Unit))) (f1 : Tag × Unit → Option (Size × Unit)) (h0 : ∀ v r, f0 v = some r → mn_42l8 v r) (h1 : ∀ v r, f1 v = some r → mn_42 v r) : CallerOk prog (x42 (fun _ => none) f0 f1).call := (by
    intro A fid args S dst k r h
    unfold x42 call42 at h
    simp only at h
    split at h
    ·exact callPure_ok ((fun v r x h hx => h1 v r h x hx)) rfl rfl h
    ·cases h)
theorem sn_42l8 (f0 : (List Tag) × Int × Int × Size × Size × Unit → Option ((Size × Size × Unit))) (f1 : Tag × Unit → Option (Size × Unit)) (h0 : ∀ v r, f0 v = some r → mn_42l8 v r) (h1 : ∀ v r, f1 v = some r → mn_42 v r) (v : (List Tag) × Int × Int × Size × Size × Unit) (r : (Size × Size × Unit)) (h : exL (x42 (fun _ => none) f0 f1) (loopNo (bodyOf Tryz.f42) 1) c42l8 [.exit 2] f0 v = some r) : mn_42l8 v r := fun C hP hN => loop_step (X := x42 (fun _ => none) f0 f1) (b := (loopNo (bodyOf Tryz.f42) 1)) hP hN Ty.mixed (cn_42l8 f0 f1 h0 h1) (lok_all (X := x42 (fun _ => none) f0 f1) (c := (loopNo (bodyOf Tryz.f42) 1)) (kcast (by kernel_rfl : True = AllB (LoopsP C (x42 (fun _ => none) f0 f1)) (loopsIn (loopNo (bodyOf Tryz.f42) 1))) trivial)) (cut := c42l8) (alts := [.exit 2]) (F := f0) (fun v out h => h0 v out h C hP hN) h
theorem cn_42 (f0 : (List Tag) × Int × Int × Size × Size × Unit → Option ((Size × Size × Unit))) (h0 : ∀ v r, f0 v = some r → mn_42l8 v r) : CallerOk prog (x42 n_42l3 f0 (fun _ => none)).call := (by
    intro A fid args S dst k r h
    unfold x42 call42 at h
    simp only at h
    split at h
    ·exact callPure_ok ((fun v r x h hx => by cases h)) rfl rfl h
    ·cases h)
theorem sn_42 (f0 : (List Tag) × Int × Int × Size × Size × Unit → Option ((Size × Size × Unit))) (h0 : ∀ v r, f0 v = some r → mn_42l8 v r) (v : Tag × Unit) (r : Size × Unit) (h : exF (x42 n_42l3 f0 (fun _ => none)) sig42 rfl (bodyOf Tryz.f42) v = some r) : mn_42 v r := fun x hx => fn_ok (X := x42 n_42l3 f0 (fun _ => none)) (sig := sig42) rfl Tryz.func42 (c := bodyOf Tryz.f42) (by kernel_rfl) Tryz.ntmps42 (by kernel_rfl) (by kernel_rfl) rfl Ty.mixed (cn_42 f0 h0) rfl (fun C hP hN => (lok_all (X := x42 n_42l3 f0 (fun _ => none)) (c := (bodyOf Tryz.f42)) (kcast (by kernel_rfl : AllB (LoopsP C (x42 n_42l3 f0 (fun _ => none))) [(loopNo (bodyOf Tryz.f42) 0), (loopNo (bodyOf Tryz.f42) 1)] = AllB (LoopsP C (x42 n_42l3 f0 (fun _ => none))) (loopsIn (bodyOf Tryz.f42))) ⟨loop_at (X := x42 n_42l3 f0 (fun _ => none)) (b := (loopNo (bodyOf Tryz.f42) 0)) (by kernel_rfl) (show LoopOk C (loopNo (bodyOf Tryz.f42) 0) (sh := sh42) { cut := c42l3, alts := [.exit 0], F := n_42l3 } from fun v out h => n_42l3_pc v out h C hP hN), loop_at (X := x42 n_42l3 f0 (fun _ => none)) (b := (loopNo (bodyOf Tryz.f42) 1)) (by kernel_rfl) (show LoopOk C (loopNo (bodyOf Tryz.f42) 1) (sh := sh42) { cut := c42l8, alts := [.exit 2], F := f0 } from fun v out h => h0 v out h C hP hN), trivial⟩))) h x hx
theorem n_42l8_all : (∀ v r, n_42l8 v = some r → mn_42l8 v r) ∧ (∀ v r, n_42 v = some r → mn_42 v r) := by
 refine n_42l8.mutual_partial_correctness
  (motive_1 := mn_42l8)
  (motive_2 := mn_42)
  ?_ ?_
 ·exact (fun f0 f1 h0 h1 v r h => sn_42l8 f0 f1 h0 h1 v r (kcast (by kernel_rfl) h))
 ·exact (fun f0 h0 v r h => sn_42 f0 h0 v r (kcast (by kernel_rfl) h))
theorem n_42_ok : SigOk prog 42 sig42 n_42 := fun v r x h hx => n_42l8_all.2 v r h x hx
noncomputable def c29r2 : Cut SN := ⟨[(1, .bp 1 0), (6, .dat .bool)], [(1, .st .tagT)]⟩
noncomputable def c29z : Cut SN := ⟨[(2, .dat (.int .i64))], []⟩
noncomputable def sh29 : Shape vw := { rcut := c29z }
noncomputable def sig29 : Sig vw := { params := [.dat (.st .tagT)], rcut := c29z, rvars := [.tmp 2] }
noncomputable def n_29 (v : Tag × Unit) : Option (Int × Unit) :=
 n_42 (v.1, ()) >>= fun x1 =>
 (if decide (x1.1.depth > (20 : Int)) = true then
    some ((true, v.1, ()))
   else if decide (x1.1.pieces > (500 : Int)) = true then
    some ((true, v.1, ()))
   else some ((decide (x1.1.bytes > (4096 : Int)), v.1, ()))) >>= fun x2 =>
 if x2.1 = true then
  some (((3 : Int), ()))
 else n_51 (x2.2.1, ()) >>= fun x3 =>
 if (!x3.1) = true then
  some (((1 : Int), ()))
 else n_52 (x2.2.1, ()) >>= fun x4 =>
 if x4.1 = true then
  some (((5 : Int), ()))
 else some (((0 : Int), ()))
noncomputable def call29 : Caller vw := fun A fid args S k => match fid with | 42 => callPure prog sig42 n_42 A args S k | 51 => callPure prog sig51 n_51 A args S k | 52 => callPure prog sig52 n_52 A args S k | _ => none
noncomputable def x29 : Xc vw := { P := prog, n := 27, call := call29, sh := sh29, regs := fun k => match k with | 2 => some c29r2 | _ => none }
theorem call29_ok : CallerOk prog call29 := fun A fid args S dst k r h => by
 unfold call29 at h
 split at h
 ·exact callPure_ok (n_42_ok) rfl rfl h
 ·exact callPure_ok (n_51_ok) rfl rfl h
 ·exact callPure_ok (n_52_ok) rfl rfl h
 ·cases h
theorem n_29_ok : SigOk prog 29 sig29 n_29 := fun v r x h hx =>
 fn_ok (X := x29) (sig := sig29) rfl Tryz.func29 (c := bodyOf Tryz.f29) (by kernel_rfl) Tryz.ntmps29 (by kernel_rfl) (by kernel_rfl) rfl Ty.mixed call29_ok rfl (fun C hP hN => (lok_all (kcast (by kernel_rfl) trivial))) (kcast (by kernel_rfl) h) x hx
noncomputable def c53s5172z : Cut SN := ⟨[(2, .vh 2002)], [(2002, .vec 9 .str)]⟩
noncomputable def sh53s5172 : Shape vw := { rcut := c53s5172z }
noncomputable def sig53s5172 : Sig vw := { params := [.dat (.sl .str)], rcut := c53s5172z, rvars := [.tmp 2], keep := [2002] }
noncomputable def n_53s5172 (v : (List ByteArray) × Unit) : Option ((List ByteArray) × Unit) :=
 if v.1.length ≤ 4294967296 then some (v.1, ()) else none
noncomputable def call53s5172 : Caller vw := fun _ _ _ _ _ => none
noncomputable def x53s5172 : Xc vw := { P := prog, n := 8, nm := fun d => match d with | 5 => 40005 | _ => d, call := call53s5172, sh := sh53s5172 }
theorem call53s5172_ok : CallerOk prog call53s5172 := call_none
theorem n_53s5172_ok : SigOk prog 53 sig53s5172 n_53s5172 := fun v r x h hx => by
 unfold n_53s5172 at h
 split at h
 ·rename_i hlen
  cases h; cases hx
  refine kcast (by kernel_rfl) (fn_split (P := prog) (f := 53) (sz := 1) (rows := (v.1.map fun y => Go.Tx.encR szN encN .str y)) (r := .vh 2002 v.1.length) (own' := [(2002, .vec 9 1 (v.1.map fun y => Go.Tx.encR szN encN .str y))]) (fun hne => ?_) (fun he => ?_) (fun he a cap => ?_))
  ·obtain ⟨l, u⟩ := v
   cases l with
   | nil => simp at hne
   | cons y ys =>
    have e : exF x53s5172 sig53s5172 rfl (bodyOf Tryz.f53) (y :: ys, ()) = if ([] : (List ByteArray)).length + (y :: ys).length ≤ most then some ([] ++ (y :: ys), ()) else none := by kernel_rfl
    rw [if_pos (by simp only [List.length_nil, Nat.zero_add]; exact hlen)] at e
    exact kcast (by kernel_rfl) (fn_ok (X := x53s5172) (sig := sig53s5172) rfl Tryz.func53 (c := bodyOf Tryz.f53) (by kernel_rfl) Tryz.ntmps53 (by kernel_rfl) (by kernel_rfl) rfl Ty.mixed call53s5172_ok rfl (fun C hP hN => (lok_all (kcast (by kernel_rfl) trivial))) (v := (y :: ys, ())) e (.vh 2002) rfl)
  ·have hv : v.1 = [] := by simpa using he
   obtain ⟨l, u⟩ := v
   cases hv
   exact kcast (by kernel_rfl) (fn_okS (X := x53s5172) (sig := sig53s5172) rfl Tryz.func53 (c := bodyOf Tryz.f53) (by kernel_rfl) Tryz.ntmps53 (by kernel_rfl) (by kernel_rfl) Ty.mixed call53s5172_ok rfl (fun C hP hN => (lok_all (kcast (by kernel_rfl) trivial))) (xs := [.raw (.slice none 0 0)]) (by kernel_rfl) (r := ([], ())) (by kernel_rfl) (.vh 2002) rfl)
  ·have hv : v.1 = [] := by simpa using he
   obtain ⟨l, u⟩ := v
   cases hv
   exact kcast (by kernel_rfl) (fn_okS (X := x53s5172) (sig := sig53s5172) rfl Tryz.func53 (c := bodyOf Tryz.f53) (by kernel_rfl) Tryz.ntmps53 (by kernel_rfl) (by kernel_rfl) Ty.mixed call53s5172_ok rfl (fun C hP hN => (lok_all (kcast (by kernel_rfl) trivial))) (xs := [.raw (.slice (some a) 0 cap)]) (by kernel_rfl) (r := ([], ())) (by kernel_rfl) (.vh 2002) rfl)
 ·cases h
noncomputable def c31s06c9l4 : Cut SN := ⟨[(1, .bp 1 0), (2, .bp 2 0), (3, .vh 1003), (11, .dat (.sl (.st .tagT))), (12, .dat (.int .i64)), (13, .dat (.int .i64))], [(1, .box none [.dat (.int .i64), .dat (.int .i64), .dat .str, .vh 3013, .dat (.sl (.st .tagT))]), (2, .st .tagT), (1003, .dvec 25 (.st .tagT) false), (3013, .vec 9 .str)]⟩
noncomputable def c31s06c9e0 : Cut SN := ⟨[(1, .bp 1 0), (2, .bp 2 0), (3, .vh 1003)], [(1, .box none [.dat (.int .i64), .dat (.int .i64), .dat .str, .vh 3013, .dat (.sl (.st .tagT))]), (2, .st .tagT), (1003, .dvec 25 (.st .tagT) false), (3013, .vec 9 .str)]⟩
noncomputable def c31s06c9z : Cut SN := ⟨[(2, .bp 2 0)], [(2, .box none [.dat (.int .i64), .dat (.int .i64), .dat .str, .vh 6023, .vh 6024]), (6023, .vec 9 .str), (6024, .dvec 25 (.st .tagT) false)]⟩
noncomputable def sh31s06c9 : Shape vw := { exits := fun id => match id with | 0 => c31s06c9e0 | _ => ⟨[], []⟩, rcut := c31s06c9z }
noncomputable def sig31s06c9 : Sig vw := { params := [.dat (.st .tagT)], rcut := c31s06c9z, rvars := [.cell 2 25], keep := [6023, 6024] }
mutual
noncomputable def n_31s06c9l4 (v : (List Tag) × Int × Int × Int × Int × ByteArray × (List Tag) × Tag × (List Tag) × (List ByteArray) × Unit) : Option ((Int × Int × ByteArray × (List Tag) × Tag × (List Tag) × (List ByteArray) × Unit)) :=
 if decide (v.2.2.1 < v.2.1) = true then
  if (0 : Int) ≤ v.2.2.1 then
   v.1[v.2.2.1.toNat]? >>= fun x1 =>
   n_31s06c9 (x1, ()) >>= fun x2 =>
   if v.2.2.2.2.2.2.2.2.1.length + [Tag.mk x2.1 x2.2.1 x2.2.2.1 x2.2.2.2.1 x2.2.2.2.2.1].length ≤ (4294967296 : Nat) then
    n_31s06c9l4 (v.1, v.2.1, i64.wrap (v.2.2.1 + (1 : Int)), v.2.2.2.1, v.2.2.2.2.1, v.2.2.2.2.2.1, v.2.2.2.2.2.2.1, v.2.2.2.2.2.2.2.1, v.2.2.2.2.2.2.2.2.1 ++ [Tag.mk x2.1 x2.2.1 x2.2.2.1 x2.2.2.2.1 x2.2.2.2.2.1], v.2.2.2.2.2.2.2.2.2.1, ())
   else none
  else none
 else some ((v.2.2.2.1, v.2.2.2.2.1, v.2.2.2.2.2.1, v.2.2.2.2.2.2.1, v.2.2.2.2.2.2.2.1, v.2.2.2.2.2.2.2.2.1, v.2.2.2.2.2.2.2.2.2.1, ()))
 partial_fixpoint
noncomputable def n_31s06c9 (v : Tag × Unit) : Option (Int × Int × ByteArray × (List ByteArray) × (List Tag) × Unit) :=
 n_53s5172 (v.1.names, ()) >>= fun x1 =>
 n_31s06c9l4 (v.1.parts, (↑v.1.parts.length : Int), (0 : Int), v.1.kind, v.1.n, v.1.text, v.1.parts, Tag.mk (0 : Int) (0 : Int) (ByteArray.mk #[]) [] [], [], x1.1, ()) >>= fun x2 =>
 some ((x2.1, x2.2.1, x2.2.2.1, x2.2.2.2.2.2.2.1, x2.2.2.2.2.2.1, ()))
 partial_fixpoint
end
noncomputable def call31s06c9 (n_31s06c9l4 : (List Tag) × Int × Int × Int × Int × ByteArray × (List Tag) × Tag × (List Tag) × (List ByteArray) × Unit → Option ((Int × Int × ByteArray × (List Tag) × Tag × (List Tag) × (List ByteArray) × Unit))) (n_31s06c9 : Tag × Unit → Option (Int × Int × ByteArray × (List ByteArray) × (List Tag) × Unit)) : Caller vw := fun A fid args S k => match fid with | 31 => callObj prog sig31s06c9 n_31s06c9 A args S k | 53 => callObj prog sig53s5172 n_53s5172 A args S k | _ => none
noncomputable def x31s06c9 (n_31s06c9l4 : (List Tag) × Int × Int × Int × Int × ByteArray × (List Tag) × Tag × (List Tag) × (List ByteArray) × Unit → Option ((Int × Int × ByteArray × (List Tag) × Tag × (List Tag) × (List ByteArray) × Unit))) (n_31s06c9 : Tag × Unit → Option (Int × Int × ByteArray × (List ByteArray) × (List Tag) × Unit)) : Xc vw := { P := prog, n := 26, call := call31s06c9 n_31s06c9l4 n_31s06c9, pre := fun k => match k with | 1000020 => true | _ => false, sh := sh31s06c9, loops := fun k => match k with | 4 => some { cut := c31s06c9l4, alts := [.exit 0], F := n_31s06c9l4 } | _ => none }
abbrev mn_31s06c9l4 (v : (List Tag) × Int × Int × Int × Int × ByteArray × (List Tag) × Tag × (List Tag) × (List ByteArray) × Unit) (r : (Int × Int × ByteArray × (List Tag) × Tag × (List Tag) × (List ByteArray) × Unit)) : Prop := (fun v out => ∀ C : Ctx, C.P = prog → C.N = 26 → AWpL C (loopNo (bodyOf Tryz.f31) 0) (Go.Tx.encS vw (conc vw c31s06c9l4 v)) (OutQ sh31s06c9 [.exit 0] out)) v r
abbrev mn_31s06c9 (v : Tag × Unit) (r : Int × Int × ByteArray × (List ByteArray) × (List Tag) × Unit) : Prop := (fun v r => ∀ x, resV prog sig31s06c9 r = some x → FnOk prog 31 (encL vw (startS sig31s06c9 v).len (startOs sig31s06c9 v).1) (encOs (startS sig31s06c9 v).len (startS sig31s06c9 v).own) (encV vw (conc vw sig31s06c9.rcut r).len x) (encOs (conc vw sig31s06c9.rcut r).len (kept sig31s06c9 r))) v r
theorem cn_31s06c9l4 (f0 : (List Tag) × Int × Int × Int × Int × ByteArray × (List Tag) × Tag × (List Tag) × (List ByteArray) × Unit → Option ((Int × Int × ByteArray × (List Tag) × Tag × (List Tag) × (List ByteArray) × Unit))) (f1 : Tag × Unit → Option (Int × Int × ByteArray × (List ByteArray) × (List Tag) × Unit)) (h0 : ∀ v r, f0 v = some r → mn_31s06c9l4 v r) (h1 : ∀ v r, f1 v = some r → mn_31s06c9 v r) : CallerOk prog (x31s06c9 f0 f1).call := (by
    intro A fid args S dst k r h
    unfold x31s06c9 call31s06c9 at h
    simp only at h
    split at h
    ·exact callObj_ok ((fun v r x h hx => h1 v r h x hx)) h
    ·exact callObj_ok (n_53s5172_ok) h
    ·cases h)
theorem sn_31s06c9l4 (f0 : (List Tag) × Int × Int × Int × Int × ByteArray × (List Tag) × Tag × (List Tag) × (List ByteArray) × Unit → Option ((Int × Int × ByteArray × (List Tag) × Tag × (List Tag) × (List ByteArray) × Unit))) (f1 : Tag × Unit → Option (Int × Int × ByteArray × (List ByteArray) × (List Tag) × Unit)) (h0 : ∀ v r, f0 v = some r → mn_31s06c9l4 v r) (h1 : ∀ v r, f1 v = some r → mn_31s06c9 v r) (v : (List Tag) × Int × Int × Int × Int × ByteArray × (List Tag) × Tag × (List Tag) × (List ByteArray) × Unit) (r : (Int × Int × ByteArray × (List Tag) × Tag × (List Tag) × (List ByteArray) × Unit)) (h : exL (x31s06c9 f0 f1) (loopNo (bodyOf Tryz.f31) 0) c31s06c9l4 [.exit 0] f0 v = some r) : mn_31s06c9l4 v r := fun C hP hN => loop_step (X := x31s06c9 f0 f1) (b := (loopNo (bodyOf Tryz.f31) 0)) hP hN Ty.mixed (cn_31s06c9l4 f0 f1 h0 h1) (lok_all (X := x31s06c9 f0 f1) (c := (loopNo (bodyOf Tryz.f31) 0)) (kcast (by kernel_rfl : True = AllB (LoopsP C (x31s06c9 f0 f1)) (loopsIn (loopNo (bodyOf Tryz.f31) 0))) trivial)) (cut := c31s06c9l4) (alts := [.exit 0]) (F := f0) (fun v out h => h0 v out h C hP hN) h
theorem cn_31s06c9 (f0 : (List Tag) × Int × Int × Int × Int × ByteArray × (List Tag) × Tag × (List Tag) × (List ByteArray) × Unit → Option ((Int × Int × ByteArray × (List Tag) × Tag × (List Tag) × (List ByteArray) × Unit))) (h0 : ∀ v r, f0 v = some r → mn_31s06c9l4 v r) : CallerOk prog (x31s06c9 f0 (fun _ => none)).call := (by
    intro A fid args S dst k r h
    unfold x31s06c9 call31s06c9 at h
    simp only at h
    split at h
    ·exact callObj_ok ((fun v r x h hx => by cases h)) h
    ·exact callObj_ok (n_53s5172_ok) h
    ·cases h)
theorem sn_31s06c9 (f0 : (List Tag) × Int × Int × Int × Int × ByteArray × (List Tag) × Tag × (List Tag) × (List ByteArray) × Unit → Option ((Int × Int × ByteArray × (List Tag) × Tag × (List Tag) × (List ByteArray) × Unit))) (h0 : ∀ v r, f0 v = some r → mn_31s06c9l4 v r) (v : Tag × Unit) (r : Int × Int × ByteArray × (List ByteArray) × (List Tag) × Unit) (h : exF (x31s06c9 f0 (fun _ => none)) sig31s06c9 rfl (bodyOf Tryz.f31) v = some r) : mn_31s06c9 v r := fun x hx => fn_ok (X := x31s06c9 f0 (fun _ => none)) (sig := sig31s06c9) rfl Tryz.func31 (c := bodyOf Tryz.f31) (by kernel_rfl) Tryz.ntmps31 (by kernel_rfl) (by kernel_rfl) rfl Ty.mixed (cn_31s06c9 f0 h0) rfl (fun C hP hN => (lok_all (X := x31s06c9 f0 (fun _ => none)) (c := (bodyOf Tryz.f31)) (kcast (by kernel_rfl : AllB (LoopsP C (x31s06c9 f0 (fun _ => none))) [(loopNo (bodyOf Tryz.f31) 0)] = AllB (LoopsP C (x31s06c9 f0 (fun _ => none))) (loopsIn (bodyOf Tryz.f31))) ⟨loop_at (X := x31s06c9 f0 (fun _ => none)) (b := (loopNo (bodyOf Tryz.f31) 0)) (by kernel_rfl) (show LoopOk C (loopNo (bodyOf Tryz.f31) 0) (sh := sh31s06c9) { cut := c31s06c9l4, alts := [.exit 0], F := f0 } from fun v out h => h0 v out h C hP hN), trivial⟩))) h x hx
theorem n_31s06c9l4_all : (∀ v r, n_31s06c9l4 v = some r → mn_31s06c9l4 v r) ∧ (∀ v r, n_31s06c9 v = some r → mn_31s06c9 v r) := by
 refine n_31s06c9l4.mutual_partial_correctness
  (motive_1 := mn_31s06c9l4)
  (motive_2 := mn_31s06c9)
  ?_ ?_
 ·exact (fun f0 f1 h0 h1 v r h => sn_31s06c9l4 f0 f1 h0 h1 v r (kcast (by kernel_rfl) h))
 ·exact (fun f0 h0 v r h => sn_31s06c9 f0 h0 v r (kcast (by kernel_rfl) h))
theorem n_31s06c9_ok : SigOk prog 31 sig31s06c9 n_31s06c9 := fun v r x h hx => n_31s06c9l4_all.2 v r h x hx
noncomputable def c58l2 : Cut SN := ⟨[(0, .dat (.sl .str)), (1, .dat .str), (7, .dat (.int .i64)), (8, .dat (.int .i64))], []⟩
noncomputable def sh58 : Shape vw := { exits := fun id => match id with | 0 => c103c75e0 | _ => ⟨[], []⟩, rcut := c103c75z }
noncomputable def sig58 : Sig vw := { params := [.dat (.sl .str), .dat .str], rcut := c103c75z, rvars := [.tmp 4] }
noncomputable def n_58l2 (v : (List ByteArray) × ByteArray × Int × Int × Unit) : Option (((Int × Unit) ⊕ (Unit))) :=
 if decide (v.2.2.2.1 < v.2.2.1) = true then
  if (0 : Int) ≤ v.2.2.2.1 then
   v.1[v.2.2.2.1.toNat]? >>= fun x1 =>
   if (v.2.1.toList == x1.toList) = true then
    some (Sum.inl (v.2.2.2.1, ()))
   else n_58l2 (v.1, v.2.1, v.2.2.1, i64.wrap (v.2.2.2.1 + (1 : Int)), ())
  else none
 else some (Sum.inr ())
 partial_fixpoint
noncomputable def n_58 (v : (List ByteArray) × ByteArray × Unit) : Option (Int × Unit) :=
 n_58l2 (v.1, v.2.1, (↑v.1.length : Int), (0 : Int), ()) >>= fun x1 => match x1 with
  | .inl y1 => some y1
  | .inr y1 => some (((-1 : Int), ()))
noncomputable def call58 : Caller vw := fun _ _ _ _ _ => none
noncomputable def x58 : Xc vw := { P := prog, n := 19, call := call58, sh := sh58, loops := fun k => match k with | 2 => some { cut := c58l2, alts := [.ret, .exit 0], F := n_58l2 } | _ => none }
theorem call58_ok : CallerOk prog call58 := call_none
theorem n_58l2_ok (C : Ctx) (hP : C.P = prog) (hN : C.N = 19) : LoopOk C (loopNo (bodyOf Tryz.f58) 0) (sh := sh58) { cut := c58l2, alts := [.ret, .exit 0], F := n_58l2 } :=
 n_58l2.partial_correctness (motive := fun v out => AWpL C (loopNo (bodyOf Tryz.f58) 0) (Go.Tx.encS vw (conc vw c58l2 v)) (OutQ sh58 [.ret, .exit 0] out)) fun F ih v out h =>
  loop_step (X := x58) (b := (loopNo (bodyOf Tryz.f58) 0)) hP hN Ty.mixed call58_ok (lok_all (X := x58) (c := (loopNo (bodyOf Tryz.f58) 0)) (kcast (by kernel_rfl : True = AllB (LoopsP C (x58)) (loopsIn (loopNo (bodyOf Tryz.f58) 0))) trivial)) ih (kcast (by kernel_rfl) h)
theorem n_58_ok : SigOk prog 58 sig58 n_58 := fun v r x h hx =>
 fn_ok (X := x58) (sig := sig58) rfl Tryz.func58 (c := bodyOf Tryz.f58) (by kernel_rfl) Tryz.ntmps58 (by kernel_rfl) (by kernel_rfl) rfl Ty.mixed call58_ok rfl (fun C hP hN => (lok_all (kcast (by kernel_rfl : AllB (LoopsP C (x58)) [(loopNo (bodyOf Tryz.f58) 0)] = AllB (LoopsP C (x58)) (loopsIn (bodyOf Tryz.f58))) ⟨loop_at (X := x58) (b := (loopNo (bodyOf Tryz.f58) 0)) (by kernel_rfl) (n_58l2_ok C hP hN), trivial⟩))) (kcast (by kernel_rfl) h) x hx
noncomputable def c59z : Cut SN := ⟨[(2, .dat (.int .i64)), (3, .dat .er)], []⟩
noncomputable def sig59 : Sig vw := { params := [.dat .str], rcut := c59z, rvars := [.tmp 2, .tmp 3] }
noncomputable def n_59 (v : ByteArray × Unit) : Option (Int × Bool × Unit) :=
 if v.1.size ≤ 1000000000000 then (match Lib.atoiAll v.1.data.toList with | .ok n => some (n, false, ()) | .range => some (Lib.atoiSat v.1.data.toList, true, ()) | _ => some (0, true, ())) else none
theorem n_59_ok : SigOk prog 59 sig59 n_59 := fun v r x h hx => by
 obtain ⟨s, u⟩ := v
 unfold n_59 at h
 split at h
 ·rename_i hc
  simp only at hc h
  cases hq : Lib.atoiAll s.data.toList with
  | ok n =>
   simp only [hq] at h
   cases h; cases hx
   exact kcast (by kernel_rfl) (FnOk.pure (P := prog) (f := 59) (args := [.d (.v (.string s))]) (r := .tup [.d (.v (.int .i64 n)), .d (.er false)]) (by kernel_rfl) fun E M w vs hg hm hv => by
    obtain ⟨v1, rfl, h1⟩ := hreps_one hv
    rw [h1.dv]
    exact (Tryz.strconv_Atoi_ok s (by omega) n hq w).mono fun e w' ⟨he, hw⟩ => ⟨_, he, hrep_er .ern, below_bytes hw⟩)
  | range =>
   simp only [hq] at h
   cases h; cases hx
   exact kcast (by kernel_rfl) (FnOk.pure (P := prog) (f := 59) (args := [.d (.v (.string s))]) (r := .tup [.d (.v (.int .i64 (Lib.atoiSat s.data.toList))), .d (.er true)]) (by kernel_rfl) fun E M w vs hg hm hv => by
    obtain ⟨v1, rfl, h1⟩ := hreps_one hv
    rw [h1.dv]
    obtain ⟨te, pe, hev⟩ := gm_range hg hm
    exact (Tryz.strconv_Atoi_range s (by omega) hq _ w hev (.inr ⟨te, pe, rfl⟩)).mono fun e w' ⟨N, he, _, _, hw⟩ => ⟨_, he, hrep_er (.ere _ _), hw⟩)
  | _ =>
   simp only [hq] at h
   cases h; cases hx
   exact kcast (by kernel_rfl) (FnOk.pure (P := prog) (f := 59) (args := [.d (.v (.string s))]) (r := .tup [.d (.v (.int .i64 0)), .d (.er true)]) (by kernel_rfl) fun E M w vs hg hm hv => by
    obtain ⟨v1, rfl, h1⟩ := hreps_one hv
    rw [h1.dv]
    obtain ⟨te, pe, hev⟩ := gm_syntax hg hm
    exact (Tryz.strconv_Atoi_syntax s (by omega) ⟨fun n hn => (by rw [hq] at hn; cases hn), fun hn => (by rw [hq] at hn; cases hn)⟩ _ w hev (.inr ⟨te, pe, rfl⟩)).mono fun e w' ⟨N, he, _, _, hw⟩ => ⟨_, he, hrep_er (.ere _ _), hw⟩)
 ·cases h
noncomputable def sig60 : Sig vw := { params := [.dat (.int .i64)], rcut := c133z, rvars := [.tmp 2] }
noncomputable def n_60 (v : Int × Unit) : Option (ByteArray × Unit) :=
 if -9223372036854775808 ≤ v.1 ∧ v.1 ≤ 9223372036854775807 then some (⟨(Lib.itoa v.1).toArray⟩, ()) else none
theorem n_60_ok : SigOk prog 60 sig60 n_60 := fun v r x h hx => by
 obtain ⟨n, u⟩ := v
 unfold n_60 at h
 split at h
 ·rename_i hc
  obtain ⟨h0, h1⟩ := hc
  simp only at h0 h1
  cases h; cases hx
  exact kcast (by kernel_rfl) (FnOk.pure (P := prog) (f := 60) (args := [.d (.v (.int .i64 n))]) (r := .d (.v (.string ⟨(Lib.itoa n).toArray⟩))) (by kernel_rfl) fun E M w vs hg hm hv => by
   obtain ⟨v1, rfl, h2⟩ := hreps_one hv
   rw [h2.dv]
   exact (Tryz.strconv_Itoa n h0 h1 w (tab_pow10 hg hm)).mono fun e w' ⟨he, k, os, hw⟩ => ⟨_, he, .d (.v _), hw ▸ Lib.below_grow _ w (Nat.le_refl _) k os⟩)
 ·cases h
noncomputable def c39r4 : Cut SN := ⟨[(5, .dat (.int .i64)), (42, .dat .bool)], []⟩
noncomputable def sh39 : Shape vw := { rcut := c103c75z }
noncomputable def sig39 : Sig vw := { params := [.dat (.st .tagT), .dat .str], rcut := c103c75z, rvars := [.tmp 4] }
noncomputable def n_39 (v : Tag × ByteArray × Unit) : Option (Int × Unit) :=
 if (v.1.kind == (6 : Int)) = true then
  n_58 (v.1.names, v.2.1, ()) >>= fun x1 =>
  some ((x1.1, ()))
 else n_59 (v.2.1, ()) >>= fun x1 =>
 (if (v.1.kind != (5 : Int)) = true then
    some ((x1.1, true, ()))
   else if x1.2.1 = true then
    some ((x1.1, true, ()))
   else if decide (x1.1 < (0 : Int)) = true then
    some ((x1.1, true, ()))
   else if decide (x1.1 > (↑v.1.parts.length : Int)) = true then
    some ((x1.1, true, ()))
   else n_60 (x1.1, ()) >>= fun x2 =>
   some ((x1.1, !x2.1.toList == v.2.1.toList, ()))) >>= fun x2 =>
 if x2.2.1 = true then
  some (((-1 : Int), ()))
 else some ((x2.1, ()))
noncomputable def call39 : Caller vw := fun A fid args S k => match fid with | 58 => callPure prog sig58 n_58 A args S k | 59 => callPure prog sig59 n_59 A args S k | 60 => callPure prog sig60 n_60 A args S k | _ => none
noncomputable def x39 : Xc vw := { P := prog, n := 44, call := call39, sh := sh39, regs := fun k => match k with | 4 => some c39r4 | _ => none }
theorem call39_ok : CallerOk prog call39 := fun A fid args S dst k r h => by
 unfold call39 at h
 split at h
 ·exact callPure_ok (n_58_ok) rfl rfl h
 ·exact callPure_ok (n_59_ok) rfl rfl h
 ·exact callPure_ok (n_60_ok) rfl rfl h
 ·cases h
theorem n_39_ok : SigOk prog 39 sig39 n_39 := fun v r x h hx =>
 fn_ok (X := x39) (sig := sig39) rfl Tryz.func39 (c := bodyOf Tryz.f39) (by kernel_rfl) Tryz.ntmps39 (by kernel_rfl) (by kernel_rfl) rfl Ty.mixed call39_ok rfl (fun C hP hN => (lok_all (kcast (by kernel_rfl) trivial))) (kcast (by kernel_rfl) h) x hx
noncomputable def c36l2 : Cut SN := ⟨[(2, .bp 2 0), (4, .bp 4 0), (9, .dat (.sl .str)), (10, .dat (.int .i64)), (11, .dat (.int .i64))], [(2, .st .tagT), (4, .st .tagT)]⟩
noncomputable def c36r5 : Cut SN := ⟨[(2, .bp 2 0), (4, .bp 4 0), (8, .dat (.int .i64)), (9, .dat (.sl .str)), (10, .dat (.int .i64)), (11, .dat (.int .i64)), (26, .dat .bool)], [(2, .st .tagT), (4, .st .tagT)]⟩
noncomputable def c36e0 : Cut SN := ⟨[(2, .bp 2 0), (4, .bp 4 0)], [(2, .st .tagT), (4, .st .tagT)]⟩
noncomputable def c36z : Cut SN := ⟨[(4, .bp 4 0), (5, .dat .bool)], [(4, .st .tagT)]⟩
noncomputable def sh36 : Shape vw := { exits := fun id => match id with | 0 => c36e0 | _ => ⟨[], []⟩, rcut := c36z }
noncomputable def sig36 : Sig vw := { params := [.dat (.st .tagT), .dat (.sl .str)], rcut := c36z, rvars := [.cell 4 25, .tmp 5] }
noncomputable def n_36l2 (v : (List ByteArray) × Int × Int × Tag × Tag × Unit) : Option (((Bool × Tag × Unit) ⊕ (Tag × Tag × Unit))) :=
 if decide (v.2.2.1 < v.2.1) = true then
  if (0 : Int) ≤ v.2.2.1 then
   v.1[v.2.2.1.toNat]? >>= fun x1 =>
   n_39 (v.2.2.2.1, x1, ()) >>= fun x2 =>
   (if decide (x2.1 < (0 : Int)) = true then
      some ((x2.1, v.1, v.2.1, v.2.2.1, true, v.2.2.2.1, v.2.2.2.2.1, ()))
     else some ((x2.1, v.1, v.2.1, v.2.2.1, decide (x2.1 ≥ (↑v.2.2.2.1.parts.length : Int)), v.2.2.2.1, v.2.2.2.2.1, ()))) >>= fun x3 =>
   if x3.2.2.2.2.1 = true then
    some (Sum.inl (false, Tag.mk (0 : Int) (0 : Int) (ByteArray.mk #[]) [] [], ()))
   else if (0 : Int) ≤ x3.1 then
    x3.2.2.2.2.2.1.parts[x3.1.toNat]? >>= fun x4 =>
    n_36l2 (x3.2.1, x3.2.2.1, i64.wrap (x3.2.2.2.1 + (1 : Int)), x4, x3.2.2.2.2.2.2.1, ())
   else none
  else none
 else some (Sum.inr (v.2.2.2.1, v.2.2.2.2.1, ()))
 partial_fixpoint
noncomputable def n_36 (v : Tag × (List ByteArray) × Unit) : Option (Bool × Tag × Unit) :=
 n_36l2 (v.2.1, (↑v.2.1.length : Int), (0 : Int), v.1, Tag.mk (0 : Int) (0 : Int) (ByteArray.mk #[]) [] [], ()) >>= fun x1 => match x1 with
  | .inl y1 => some y1
  | .inr y1 => some ((true, y1.1, ()))
noncomputable def call36 : Caller vw := fun A fid args S k => match fid with | 39 => callPure prog sig39 n_39 A args S k | _ => none
noncomputable def x36 : Xc vw := { P := prog, n := 35, call := call36, sh := sh36, regs := fun k => match k with | 5 => some c36r5 | _ => none, loops := fun k => match k with | 2 => some { cut := c36l2, alts := [.ret, .exit 0], F := n_36l2 } | _ => none }
theorem call36_ok : CallerOk prog call36 := fun A fid args S dst k r h => by
 unfold call36 at h
 split at h
 ·exact callPure_ok (n_39_ok) rfl rfl h
 ·cases h
theorem n_36l2_ok (C : Ctx) (hP : C.P = prog) (hN : C.N = 35) : LoopOk C (loopNo (bodyOf Tryz.f36) 0) (sh := sh36) { cut := c36l2, alts := [.ret, .exit 0], F := n_36l2 } :=
 n_36l2.partial_correctness (motive := fun v out => AWpL C (loopNo (bodyOf Tryz.f36) 0) (Go.Tx.encS vw (conc vw c36l2 v)) (OutQ sh36 [.ret, .exit 0] out)) fun F ih v out h =>
  loop_step (X := x36) (b := (loopNo (bodyOf Tryz.f36) 0)) hP hN Ty.mixed call36_ok (lok_all (X := x36) (c := (loopNo (bodyOf Tryz.f36) 0)) (kcast (by kernel_rfl : True = AllB (LoopsP C (x36)) (loopsIn (loopNo (bodyOf Tryz.f36) 0))) trivial)) ih (kcast (by kernel_rfl) h)
theorem n_36_ok : SigOk prog 36 sig36 n_36 := fun v r x h hx =>
 fn_ok (X := x36) (sig := sig36) rfl Tryz.func36 (c := bodyOf Tryz.f36) (by kernel_rfl) Tryz.ntmps36 (by kernel_rfl) (by kernel_rfl) rfl Ty.mixed call36_ok rfl (fun C hP hN => (lok_all (kcast (by kernel_rfl : AllB (LoopsP C (x36)) [(loopNo (bodyOf Tryz.f36) 0)] = AllB (LoopsP C (x36)) (loopsIn (bodyOf Tryz.f36))) ⟨loop_at (X := x36) (b := (loopNo (bodyOf Tryz.f36) 0)) (by kernel_rfl) (n_36l2_ok C hP hN), trivial⟩))) (kcast (by kernel_rfl) h) x hx
noncomputable def c13z : Cut SN := ⟨[(4, .bp 4 0), (5, .dat .bool), (6, .dat (.int .i64))], [(4, .st .tagT)]⟩
noncomputable def sh13 : Shape vw := { rcut := c13z }
noncomputable def sig13 : Sig vw := { params := [.dat (.st .tagT), .dat (.sl .str)], rcut := c13z, rvars := [.cell 4 25, .tmp 5, .tmp 6] }
noncomputable def n_13 (v : Tag × (List ByteArray) × Unit) : Option (Bool × Int × Tag × Unit) :=
 n_29 (v.1, ()) >>= fun x1 =>
 if (x1.1 != (0 : Int)) = true then
  some ((false, x1.1, Tag.mk (0 : Int) (0 : Int) (ByteArray.mk #[]) [] [], ()))
 else n_36 (v.1, v.2.1, ()) >>= fun x2 =>
 n_31s06c9 (x2.2.1, ()) >>= fun x3 =>
 some ((x2.1, (0 : Int), Tag.mk x3.1 x3.2.1 x3.2.2.1 x3.2.2.2.1 x3.2.2.2.2.1, ()))
noncomputable def call13 : Caller vw := fun A fid args S k => match fid with | 29 => callPure prog sig29 n_29 A args S k | 31 => callObj prog sig31s06c9 n_31s06c9 A args S k | 36 => callPure prog sig36 n_36 A args S k | _ => none
noncomputable def x13 : Xc vw := { P := prog, n := 25, call := call13, sh := sh13 }
theorem call13_ok : CallerOk prog call13 := fun A fid args S dst k r h => by
 unfold call13 at h
 split at h
 ·exact callPure_ok (n_29_ok) rfl rfl h
 ·exact callObj_ok (n_31s06c9_ok) h
 ·exact callPure_ok (n_36_ok) rfl rfl h
 ·cases h
theorem n_13_ok : SigOk prog 13 sig13 n_13 := fun v r x h hx =>
 fn_ok (X := x13) (sig := sig13) rfl Tryz.func13 (c := bodyOf Tryz.f13) (by kernel_rfl) Tryz.ntmps13 (by kernel_rfl) (by kernel_rfl) rfl Ty.mixed call13_ok rfl (fun C hP hN => (lok_all (kcast (by kernel_rfl) trivial))) (kcast (by kernel_rfl) h) x hx
noncomputable def c32sc86cz : Cut SN := ⟨[(2, .bp 2 0), (3, .dat (.int .i64))], [(2, .box none [.dat (.int .i64), .dat (.int .i64), .dat .str, .vh 6023, .vh 6024]), (6023, .vec 9 .str), (6024, .dvec 25 (.st .tagT) false)]⟩
noncomputable def sh32sc86c : Shape vw := { rcut := c32sc86cz }
noncomputable def sig32sc86c : Sig vw := { params := [.ag [.inl (.int .i64), .inl (.int .i64), .inl .str, .inr 100000, .inr 100001]], objs := [(100000, .vec 9 .str), (100001, .dvec 25 (.st .tagT) false)], rcut := c32sc86cz, rvars := [.cell 2 25, .tmp 3], keep := [6023, 6024] }
noncomputable def n_32sc86c (v : Int × Int × ByteArray × (List ByteArray) × (List Tag) × Unit) : Option (Int × Int × Int × ByteArray × (List ByteArray) × (List Tag) × Unit) :=
 n_29 (Tag.mk v.1 v.2.1 v.2.2.1 v.2.2.2.1 v.2.2.2.2.1, ()) >>= fun x1 =>
 if (x1.1 != (0 : Int)) = true then
  some ((x1.1, (0 : Int), (0 : Int), ByteArray.mk #[], [], [], ()))
 else some (((0 : Int), v.1, v.2.1, v.2.2.1, v.2.2.2.1, v.2.2.2.2.1, ()))
noncomputable def call32sc86c : Caller vw := fun A fid args S k => match fid with | 29 => callPure prog sig29 n_29 A args S k | _ => none
noncomputable def x32sc86c : Xc vw := { P := prog, n := 12, call := call32sc86c, pre := fun k => match k with | 1000009 => true | 2000029 => true | _ => false, sh := sh32sc86c }
theorem call32sc86c_ok : CallerOk prog call32sc86c := fun A fid args S dst k r h => by
 unfold call32sc86c at h
 split at h
 ·exact callPure_ok (n_29_ok) rfl rfl h
 ·cases h
theorem n_32sc86c_ok : SigOk prog 32 sig32sc86c n_32sc86c := fun v r x h hx =>
 fn_ok (X := x32sc86c) (sig := sig32sc86c) rfl Tryz.func32 (c := bodyOf Tryz.f32) (by kernel_rfl) Tryz.ntmps32 (by kernel_rfl) (by kernel_rfl) rfl Ty.mixed call32sc86c_ok rfl (fun C hP hN => (lok_all (kcast (by kernel_rfl) trivial))) (kcast (by kernel_rfl) h) x hx
noncomputable def c61s434cz : Cut SN := ⟨[(6, .vh 2006)], [(2006, .vec 9 .str)]⟩
noncomputable def sig61s434c : Sig vw := { params := [.vh 100000, .dat (.int .i64), .dat (.int .i64)], objs := [(100000, .vec 9 .str)], rcut := c61s434cz, rvars := [.tmp 6], keep := [2006] }
noncomputable def n_61s434c (v : Int × Int × (List ByteArray) × Unit) : Option ((List ByteArray) × Unit) :=
 if 0 ≤ v.1 ∧ v.2.1 = v.1 + 1 ∧ v.1.toNat < v.2.2.1.length then some (v.2.2.1.eraseIdx v.1.toNat, ()) else none
theorem n_61s434c_ok : SigOk prog 61 sig61s434c n_61s434c := fun v r x h hx => by
 obtain ⟨i, j, xs, u⟩ := v
 unfold n_61s434c at h
 split at h
 ·rename_i hc
  obtain ⟨h0, h1, h2⟩ := hc
  simp only at h0 h1 h2
  obtain ⟨k, rfl⟩ : ∃ k : Nat, i = k := ⟨i.toNat, (Int.toNat_of_nonneg h0).symm⟩
  have hj : j = ((k + 1 : Nat) : Int) := h1
  subst hj
  cases h; cases hx
  exact kcast (by kernel_rfl) (delTV (V := vw) (e := .str) (a := 100000) (c := 2006) (fun _ => rfl) (k := k) (xs := xs) Tryz.rawDel61 (by kernel_rfl) (by decide) h2)
 ·cases h
noncomputable def c62s58edz : Cut SN := ⟨[(6, .vh 2006)], [(2006, .dvec 25 (.st .tagT) false)]⟩
noncomputable def sig62s58ed : Sig vw := { params := [.vh 100000, .dat (.int .i64), .dat (.int .i64)], objs := [(100000, .dvec 25 (.st .tagT) false)], rcut := c62s58edz, rvars := [.tmp 6], keep := [2006] }
noncomputable def n_62s58ed (v : Int × Int × (List Tag) × Unit) : Option ((List Tag) × Unit) :=
 if 0 ≤ v.1 ∧ v.2.1 = v.1 + 1 ∧ v.1.toNat < v.2.2.1.length then some (v.2.2.1.eraseIdx v.1.toNat, ()) else none
theorem n_62s58ed_ok : SigOk prog 62 sig62s58ed n_62s58ed := fun v r x h hx => by
 obtain ⟨i, j, xs, u⟩ := v
 unfold n_62s58ed at h
 split at h
 ·rename_i hc
  obtain ⟨h0, h1, h2⟩ := hc
  simp only at h0 h1 h2
  obtain ⟨k, rfl⟩ : ∃ k : Nat, i = k := ⟨i.toNat, (Int.toNat_of_nonneg h0).symm⟩
  have hj : j = ((k + 1 : Nat) : Int) := h1
  subst hj
  cases h; cases hx
  exact kcast (by kernel_rfl) (delT (V := vw) (e := (.st .tagT)) (a := 100000) (c := 2006) (k := k) (xs := xs) Tryz.rawDel62 (by kernel_rfl) (by decide) h2)
 ·cases h
noncomputable def c40sf890j3 : Cut SN := ⟨[(1, .dat (.int .i64)), (2, .bp 2 0), (4, .bp 4 0)], [(2, .box none [.dat (.int .i64), .dat (.int .i64), .dat .str, .vh 3023, .vh 3024]), (4, .st .tagT), (3023, .vec 9 .str), (3024, .dvec 25 (.st .tagT) false)]⟩
noncomputable def c40sf890z : Cut SN := ⟨[(4, .bp 4 0)], [(4, .box none [.dat (.int .i64), .dat (.int .i64), .dat .str, .vh 6043, .vh 6044]), (6043, .vec 9 .str), (6044, .dvec 25 (.st .tagT) false)]⟩
noncomputable def sh40sf890 : Shape vw := { rcut := c40sf890z }
noncomputable def sig40sf890 : Sig vw := { params := [.ag [.inl (.int .i64), .inl (.int .i64), .inl .str, .inr 100000, .inr 100001], .dat (.int .i64)], objs := [(100000, .vec 9 .str), (100001, .dvec 25 (.st .tagT) false)], rcut := c40sf890z, rvars := [.cell 4 25], keep := [6043, 6044] }
noncomputable def n_40sf890 (v : Int × Int × ByteArray × Int × (List ByteArray) × (List Tag) × Unit) : Option (Int × Int × ByteArray × (List ByteArray) × (List Tag) × Unit) :=
 (if (v.1 == (6 : Int)) = true then
    n_61s434c (v.2.2.2.1, i64.wrap (v.2.2.2.1 + (1 : Int)), v.2.2.2.2.1, ()) >>= fun x1 =>
    some ((v.2.2.2.1, v.1, v.2.1, v.2.2.1, Tag.mk (0 : Int) (0 : Int) (ByteArray.mk #[]) [] [], x1.1, v.2.2.2.2.2.1, ()))
   else some ((v.2.2.2.1, v.1, v.2.1, v.2.2.1, Tag.mk (0 : Int) (0 : Int) (ByteArray.mk #[]) [] [], v.2.2.2.2.1, v.2.2.2.2.2.1, ()))) >>= fun x1 =>
 n_62s58ed (x1.1, i64.wrap (x1.1 + (1 : Int)), x1.2.2.2.2.2.2.1, ()) >>= fun x2 =>
 some ((x1.2.1, x1.2.2.1, x1.2.2.2.1, x1.2.2.2.2.2.1, x2.1, ()))
noncomputable def call40sf890 : Caller vw := fun A fid args S k => match fid with | 61 => callObj prog sig61s434c n_61s434c A args S k | 62 => callObj prog sig62s58ed n_62s58ed A args S k | _ => none
noncomputable def x40sf890 : Xc vw := { P := prog, n := 23, call := call40sf890, sh := sh40sf890, joins := fun k => match k with | 3 => some (c40sf890j3, [.norm]) | _ => none }
theorem call40sf890_ok : CallerOk prog call40sf890 := fun A fid args S dst k r h => by
 unfold call40sf890 at h
 split at h
 ·exact callObj_ok (n_61s434c_ok) h
 ·exact callObj_ok (n_62s58ed_ok) h
 ·cases h
theorem n_40sf890_ok : SigOk prog 40 sig40sf890 n_40sf890 := fun v r x h hx =>
 fn_ok (X := x40sf890) (sig := sig40sf890) rfl Tryz.func40 (c := bodyOf Tryz.f40) (by kernel_rfl) Tryz.ntmps40 (by kernel_rfl) (by kernel_rfl) rfl Ty.mixed call40sf890_ok rfl (fun C hP hN => (lok_all (kcast (by kernel_rfl) trivial))) (kcast (by kernel_rfl) h) x hx
noncomputable def c37s5af7l6 : Cut SN := ⟨[(2, .bp 2 0), (3, .bp 3 0), (4, .bp 4 0), (18, .vh 1018), (19, .dat (.int .i64)), (20, .dat (.int .i64))], [(2, .box none [.dat (.int .i64), .dat (.int .i64), .dat .str, .vh 3023, .vh 3024]), (3, .box none [.dat (.int .i64), .dat (.int .i64), .dat .str, .vh 1018, .vh 3034]), (4, .st .tagT), (1018, .vec 9 .str), (3023, .vec 9 .str), (3024, .dvec 25 (.st .tagT) false), (3034, .dvec 25 (.st .tagT) true)]⟩
noncomputable def c37s5af7j5 : Cut SN := ⟨[(2, .bp 2 0), (3, .bp 3 0), (4, .bp 4 0)], [(2, .box none [.dat (.int .i64), .dat (.int .i64), .dat .str, .vh 3023, .vh 3024]), (3, .box none [.dat (.int .i64), .dat (.int .i64), .dat .str, .vh 3033, .vh 3034]), (4, .st .tagT), (3023, .vec 9 .str), (3024, .dvec 25 (.st .tagT) false), (3033, .vec 9 .str), (3034, .dvec 25 (.st .tagT) false)]⟩
noncomputable def c37s5af7r11 : Cut SN := ⟨[(2, .bp 2 0), (3, .bp 3 0), (4, .bp 4 0), (6, .dat .str), (7, .dat (.int .i64)), (8, .bp 8 0), (18, .vh 1018), (19, .dat (.int .i64)), (20, .dat (.int .i64)), (48, .dat .bool)], [(2, .box none [.dat (.int .i64), .dat (.int .i64), .dat .str, .vh 3023, .vh 3024]), (3, .box none [.dat (.int .i64), .dat (.int .i64), .dat .str, .vh 1018, .vh 3034]), (4, .st .tagT), (8, .box none [.dat (.int .i64), .dat (.int .i64), .dat .str, .vh 3083, .vh 3084]), (1018, .vec 9 .str), (3023, .vec 9 .str), (3024, .dvec 25 (.st .tagT) false), (3034, .dvec 25 (.st .tagT) true), (3083, .vec 9 .str), (3084, .dvec 25 (.st .tagT) false)]⟩
noncomputable def c37s5af7e0 : Cut SN := ⟨[(2, .bp 2 0), (4, .bp 4 0)], [(2, .box none [.dat (.int .i64), .dat (.int .i64), .dat .str, .vh 3023, .vh 3024]), (4, .st .tagT), (3023, .vec 9 .str), (3024, .dvec 25 (.st .tagT) false)]⟩
noncomputable def sh37s5af7 : Shape vw := { exits := fun id => match id with | 0 => c37s5af7e0 | _ => ⟨[], []⟩, rcut := c40sf890z }
noncomputable def sig37s5af7 : Sig vw := { params := [.ag [.inl (.int .i64), .inl (.int .i64), .inl .str, .inr 100000, .inr 100001], .ag [.inl (.int .i64), .inl (.int .i64), .inl .str, .inr 100002, .inr 100003]], objs := [(100000, .vec 9 .str), (100001, .dvec 25 (.st .tagT) false), (100002, .vec 9 .str), (100003, .dvec 25 (.st .tagT) false)], rcut := c40sf890z, rvars := [.cell 4 25], keep := [6043, 6044] }
mutual
noncomputable def n_37s5af7l6 (v : Int × Int × Int × Int × ByteArray × Int × Int × ByteArray × Tag × (List ByteArray) × (List ByteArray) × (List Tag) × (List (Option Tag)) × Unit) : Option ((Int × Int × ByteArray × Tag × (List ByteArray) × (List Tag) × Unit)) :=
 if decide (v.2.1 < v.1) = true then
  (if (0 : Int) ≤ v.2.1 ∧ v.2.1 < (↑v.2.2.2.2.2.2.2.2.2.1.length : Int) then
     v.2.2.2.2.2.2.2.2.2.1[v.2.1.toNat]? >>= fun x1 =>
     n_58 (v.2.2.2.2.2.2.2.2.2.2.1, x1, ()) >>= fun x2 =>
     if (0 : Int) ≤ v.2.1 ∧ v.2.1 < (↑v.2.2.2.2.2.2.2.2.2.2.2.2.1.length : Int) then
      v.2.2.2.2.2.2.2.2.2.2.2.2.1[v.2.1.toNat]? >>= fun x3 =>
      (x3 : Option (Tag)) >>= fun x4 =>
      (if (x4.kind == (0 : Int)) = true then
         some ((x1, x2.1, v.1, v.2.1, decide (x2.1 ≥ (0 : Int)), v.2.2.1, v.2.2.2.1, v.2.2.2.2.1, v.2.2.2.2.2.1, v.2.2.2.2.2.2.1, v.2.2.2.2.2.2.2.1, v.2.2.2.2.2.2.2.2.1, x4.kind, x4.n, x4.text, v.2.2.2.2.2.2.2.2.2.1, v.2.2.2.2.2.2.2.2.2.2.1, v.2.2.2.2.2.2.2.2.2.2.2.1, v.2.2.2.2.2.2.2.2.2.2.2.2.1.set v.2.1.toNat none, x4.names, x4.parts, ()))
        else some ((x1, x2.1, v.1, v.2.1, false, v.2.2.1, v.2.2.2.1, v.2.2.2.2.1, v.2.2.2.2.2.1, v.2.2.2.2.2.2.1, v.2.2.2.2.2.2.2.1, v.2.2.2.2.2.2.2.2.1, x4.kind, x4.n, x4.text, v.2.2.2.2.2.2.2.2.2.1, v.2.2.2.2.2.2.2.2.2.2.1, v.2.2.2.2.2.2.2.2.2.2.2.1, v.2.2.2.2.2.2.2.2.2.2.2.2.1.set v.2.1.toNat none, x4.names, x4.parts, ()))) >>= fun x5 =>
      if x5.2.2.2.2.1 = true then
       n_40sf890 (x5.2.2.2.2.2.1, x5.2.2.2.2.2.2.1, x5.2.2.2.2.2.2.2.1, x5.2.1, x5.2.2.2.2.2.2.2.2.2.2.2.2.2.2.2.2.1, x5.2.2.2.2.2.2.2.2.2.2.2.2.2.2.2.2.2.1, ()) >>= fun x6 =>
       some ((x5.2.2.1, x5.2.2.2.1, x6.1, x6.2.1, x6.2.2.1, x5.2.2.2.2.2.2.2.2.1, x5.2.2.2.2.2.2.2.2.2.1, x5.2.2.2.2.2.2.2.2.2.2.1, x5.2.2.2.2.2.2.2.2.2.2.2.1, x5.2.2.2.2.2.2.2.2.2.2.2.2.2.2.2.1, x6.2.2.2.1, x6.2.2.2.2.1, x5.2.2.2.2.2.2.2.2.2.2.2.2.2.2.2.2.2.2.1, ()))
      else if (x5.2.2.2.2.2.2.2.2.2.2.2.2.1 == (0 : Int)) = true then
       some ((x5.2.2.1, x5.2.2.2.1, x5.2.2.2.2.2.1, x5.2.2.2.2.2.2.1, x5.2.2.2.2.2.2.2.1, x5.2.2.2.2.2.2.2.2.1, x5.2.2.2.2.2.2.2.2.2.1, x5.2.2.2.2.2.2.2.2.2.2.1, x5.2.2.2.2.2.2.2.2.2.2.2.1, x5.2.2.2.2.2.2.2.2.2.2.2.2.2.2.2.1, x5.2.2.2.2.2.2.2.2.2.2.2.2.2.2.2.2.1, x5.2.2.2.2.2.2.2.2.2.2.2.2.2.2.2.2.2.1, x5.2.2.2.2.2.2.2.2.2.2.2.2.2.2.2.2.2.2.1, ()))
      else if decide (x5.2.1 ≥ (0 : Int)) = true then
       if (0 : Int) ≤ x5.2.1 ∧ x5.2.1 < (↑x5.2.2.2.2.2.2.2.2.2.2.2.2.2.2.2.2.2.1.length : Int) then
        x5.2.2.2.2.2.2.2.2.2.2.2.2.2.2.2.2.2.1[x5.2.1.toNat]? >>= fun x6 =>
        n_37s5af7 (x6.kind, x6.n, x6.text, x5.2.2.2.2.2.2.2.2.2.2.2.2.1, x5.2.2.2.2.2.2.2.2.2.2.2.2.2.1, x5.2.2.2.2.2.2.2.2.2.2.2.2.2.2.1, x6.names, x6.parts, x5.2.2.2.2.2.2.2.2.2.2.2.2.2.2.2.2.2.2.2.1, x5.2.2.2.2.2.2.2.2.2.2.2.2.2.2.2.2.2.2.2.2.1, ()) >>= fun x7 =>
        if (0 : Int) ≤ x5.2.1 ∧ x5.2.1 < (↑((List.map some x5.2.2.2.2.2.2.2.2.2.2.2.2.2.2.2.2.2.1).set x5.2.1.toNat none).length : Int) then
         ((List.map some x5.2.2.2.2.2.2.2.2.2.2.2.2.2.2.2.2.2.1).set x5.2.1.toNat none)[x5.2.1.toNat]? >>= fun x8 =>
         allS (((List.map some x5.2.2.2.2.2.2.2.2.2.2.2.2.2.2.2.2.2.1).set x5.2.1.toNat none).set x5.2.1.toNat (some (Tag.mk x7.1 x7.2.1 x7.2.2.1 x7.2.2.2.1 x7.2.2.2.2.1))) >>= fun x9 =>
         some ((x5.2.2.1, x5.2.2.2.1, x5.2.2.2.2.2.1, x5.2.2.2.2.2.2.1, x5.2.2.2.2.2.2.2.1, x5.2.2.2.2.2.2.2.2.1, x5.2.2.2.2.2.2.2.2.2.1, x5.2.2.2.2.2.2.2.2.2.2.1, x5.2.2.2.2.2.2.2.2.2.2.2.1, x5.2.2.2.2.2.2.2.2.2.2.2.2.2.2.2.1, x5.2.2.2.2.2.2.2.2.2.2.2.2.2.2.2.2.1, x9, x5.2.2.2.2.2.2.2.2.2.2.2.2.2.2.2.2.2.2.1, ()))
        else none
       else none
      else if x5.2.2.2.2.2.2.2.2.2.2.2.2.2.2.2.2.1.length + [x5.1].length ≤ (4294967296 : Nat) then
       n_37s5af7 ((0 : Int), (0 : Int), ByteArray.mk #[], x5.2.2.2.2.2.2.2.2.2.2.2.2.1, x5.2.2.2.2.2.2.2.2.2.2.2.2.2.1, x5.2.2.2.2.2.2.2.2.2.2.2.2.2.2.1, [], [], x5.2.2.2.2.2.2.2.2.2.2.2.2.2.2.2.2.2.2.2.1, x5.2.2.2.2.2.2.2.2.2.2.2.2.2.2.2.2.2.2.2.2.1, ()) >>= fun x6 =>
       if x5.2.2.2.2.2.2.2.2.2.2.2.2.2.2.2.2.2.1.length + [Tag.mk x6.1 x6.2.1 x6.2.2.1 x6.2.2.2.1 x6.2.2.2.2.1].length ≤ (4294967296 : Nat) then
        some ((x5.2.2.1, x5.2.2.2.1, x5.2.2.2.2.2.1, x5.2.2.2.2.2.2.1, x5.2.2.2.2.2.2.2.1, x5.2.2.2.2.2.2.2.2.1, x5.2.2.2.2.2.2.2.2.2.1, x5.2.2.2.2.2.2.2.2.2.2.1, x5.2.2.2.2.2.2.2.2.2.2.2.1, x5.2.2.2.2.2.2.2.2.2.2.2.2.2.2.2.1, x5.2.2.2.2.2.2.2.2.2.2.2.2.2.2.2.2.1 ++ [x5.1], x5.2.2.2.2.2.2.2.2.2.2.2.2.2.2.2.2.2.1 ++ [Tag.mk x6.1 x6.2.1 x6.2.2.1 x6.2.2.2.1 x6.2.2.2.2.1], x5.2.2.2.2.2.2.2.2.2.2.2.2.2.2.2.2.2.2.1, ()))
       else none
      else none
     else none
    else none) >>= fun x1 =>
  n_37s5af7l6 (x1.1, i64.wrap (x1.2.1 + (1 : Int)), x1.2.2.1, x1.2.2.2.1, x1.2.2.2.2.1, x1.2.2.2.2.2.1, x1.2.2.2.2.2.2.1, x1.2.2.2.2.2.2.2.1, x1.2.2.2.2.2.2.2.2.1, x1.2.2.2.2.2.2.2.2.2.1, x1.2.2.2.2.2.2.2.2.2.2.1, x1.2.2.2.2.2.2.2.2.2.2.2.1, x1.2.2.2.2.2.2.2.2.2.2.2.2.1, ())
 else some ((v.2.2.1, v.2.2.2.1, v.2.2.2.2.1, v.2.2.2.2.2.2.2.2.1, v.2.2.2.2.2.2.2.2.2.2.1, v.2.2.2.2.2.2.2.2.2.2.2.1, ()))
 partial_fixpoint
noncomputable def n_37s5af7 (v : Int × Int × ByteArray × Int × Int × ByteArray × (List ByteArray) × (List Tag) × (List ByteArray) × (List Tag) × Unit) : Option (Int × Int × ByteArray × (List ByteArray) × (List Tag) × Unit) :=
 if (v.2.2.2.1 != (6 : Int)) = true then
  some ((v.2.2.2.1, v.2.2.2.2.1, v.2.2.2.2.2.1, v.2.2.2.2.2.2.2.2.1, v.2.2.2.2.2.2.2.2.2.1, ()))
 else (if (v.1 != (6 : Int)) = true then
   some ((6 : Int), (0 : Int), ByteArray.mk #[], v.2.2.2.1, v.2.2.2.2.1, v.2.2.2.2.2.1, Tag.mk (0 : Int) (0 : Int) (ByteArray.mk #[]) [] [], [], [], v.2.2.2.2.2.2.2.2.1, v.2.2.2.2.2.2.2.2.2.1, ()) >>= fun x1 =>
   some ((x1.1, x1.2.1, x1.2.2.1, x1.2.2.2.1, x1.2.2.2.2.1, x1.2.2.2.2.2.1, x1.2.2.2.2.2.2.1, x1.2.2.2.2.2.2.2.1, x1.2.2.2.2.2.2.2.2.1, x1.2.2.2.2.2.2.2.2.2.1, x1.2.2.2.2.2.2.2.2.2.2.1, ()))
  else some ((v.1, v.2.1, v.2.2.1, v.2.2.2.1, v.2.2.2.2.1, v.2.2.2.2.2.1, Tag.mk (0 : Int) (0 : Int) (ByteArray.mk #[]) [] [], v.2.2.2.2.2.2.1, v.2.2.2.2.2.2.2.1, v.2.2.2.2.2.2.2.2.1, v.2.2.2.2.2.2.2.2.2.1, ()))) >>= fun x1 =>
 n_37s5af7l6 ((↑x1.2.2.2.2.2.2.2.2.2.1.length : Int), (0 : Int), x1.1, x1.2.1, x1.2.2.1, x1.2.2.2.1, x1.2.2.2.2.1, x1.2.2.2.2.2.1, x1.2.2.2.2.2.2.1, x1.2.2.2.2.2.2.2.2.2.1, x1.2.2.2.2.2.2.2.1, x1.2.2.2.2.2.2.2.2.1, List.map some x1.2.2.2.2.2.2.2.2.2.2.1, ()) >>= fun x2 =>
 some ((x2.1, x2.2.1, x2.2.2.1, x2.2.2.2.2.1, x2.2.2.2.2.2.1, ()))
 partial_fixpoint
end
noncomputable def call37s5af7 (n_37s5af7l6 : Int × Int × Int × Int × ByteArray × Int × Int × ByteArray × Tag × (List ByteArray) × (List ByteArray) × (List Tag) × (List (Option Tag)) × Unit → Option ((Int × Int × ByteArray × Tag × (List ByteArray) × (List Tag) × Unit))) (n_37s5af7 : Int × Int × ByteArray × Int × Int × ByteArray × (List ByteArray) × (List Tag) × (List ByteArray) × (List Tag) × Unit → Option (Int × Int × ByteArray × (List ByteArray) × (List Tag) × Unit)) : Caller vw := fun A fid args S k => match fid with | 37 => callObj prog sig37s5af7 n_37s5af7 A args S k | 40 => callObj prog sig40sf890 n_40sf890 A args S k | 58 => callPure prog sig58 n_58 A args S k | _ => none
noncomputable def x37s5af7 (n_37s5af7l6 : Int × Int × Int × Int × ByteArray × Int × Int × ByteArray × Tag × (List ByteArray) × (List ByteArray) × (List Tag) × (List (Option Tag)) × Unit → Option ((Int × Int × ByteArray × Tag × (List ByteArray) × (List Tag) × Unit))) (n_37s5af7 : Int × Int × ByteArray × Int × Int × ByteArray × (List ByteArray) × (List Tag) × (List ByteArray) × (List Tag) × Unit → Option (Int × Int × ByteArray × (List ByteArray) × (List Tag) × Unit)) : Xc vw := { P := prog, n := 79, nm := fun d => match d with | 16 => 40016 | _ => d, call := call37s5af7 n_37s5af7l6 n_37s5af7, pre := fun k => match k with | 1000041 => true | 1000044 => true | 2000037 => true | 2000040 => true | _ => false, sh := sh37s5af7, joins := fun k => match k with | 5 => some (c37s5af7j5, [.norm]) | 16 => some (c37s5af7l6, [.norm]) | _ => none, regs := fun k => match k with | 4 => some c37s5af7j5 | 11 => some c37s5af7r11 | _ => none, loops := fun k => match k with | 6 => some { cut := c37s5af7l6, alts := [.exit 0], F := n_37s5af7l6 } | _ => none }
abbrev mn_37s5af7l6 (v : Int × Int × Int × Int × ByteArray × Int × Int × ByteArray × Tag × (List ByteArray) × (List ByteArray) × (List Tag) × (List (Option Tag)) × Unit) (r : (Int × Int × ByteArray × Tag × (List ByteArray) × (List Tag) × Unit)) : Prop := (fun v out => ∀ C : Ctx, C.P = prog → C.N = 79 → AWpL C (loopNo (bodyOf Tryz.f37) 0) (Go.Tx.encS vw (conc vw c37s5af7l6 v)) (OutQ sh37s5af7 [.exit 0] out)) v r
abbrev mn_37s5af7 (v : Int × Int × ByteArray × Int × Int × ByteArray × (List ByteArray) × (List Tag) × (List ByteArray) × (List Tag) × Unit) (r : Int × Int × ByteArray × (List ByteArray) × (List Tag) × Unit) : Prop := (fun v r => ∀ x, resV prog sig37s5af7 r = some x → FnOk prog 37 (encL vw (startS sig37s5af7 v).len (startOs sig37s5af7 v).1) (encOs (startS sig37s5af7 v).len (startS sig37s5af7 v).own) (encV vw (conc vw sig37s5af7.rcut r).len x) (encOs (conc vw sig37s5af7.rcut r).len (kept sig37s5af7 r))) v r
theorem cn_37s5af7l6 (f0 : Int × Int × Int × Int × ByteArray × Int × Int × ByteArray × Tag × (List ByteArray) × (List ByteArray) × (List Tag) × (List (Option Tag)) × Unit → Option ((Int × Int × ByteArray × Tag × (List ByteArray) × (List Tag) × Unit))) (f1 : Int × Int × ByteArray × Int × Int × ByteArray × (List ByteArray) × (List Tag) × (List ByteArray) × (List Tag) × Unit → Option (Int × Int × ByteArray × (List ByteArray) × (List Tag) × Unit)) (h0 : ∀ v r, f0 v = some r → mn_37s5af7l6 v r) (h1 : ∀ v r, f1 v = some r → mn_37s5af7 v r) : CallerOk prog (x37s5af7 f0 f1).call := (by
    intro A fid args S dst k r h
    unfold x37s5af7 call37s5af7 at h
    simp only at h
    split at h
    ·exact callObj_ok ((fun v r x h hx => h1 v r h x hx)) h
    ·exact callObj_ok (n_40sf890_ok) h
    ·exact callPure_ok (n_58_ok) rfl rfl h
    ·cases h)
theorem sn_37s5af7l6 (f0 : Int × Int × Int × Int × ByteArray × Int × Int × ByteArray × Tag × (List ByteArray) × (List ByteArray) × (List Tag) × (List (Option Tag)) × Unit → Option ((Int × Int × ByteArray × Tag × (List ByteArray) × (List Tag) × Unit))) (f1 : Int × Int × ByteArray × Int × Int × ByteArray × (List ByteArray) × (List Tag) × (List ByteArray) × (List Tag) × Unit → Option (Int × Int × ByteArray × (List ByteArray) × (List Tag) × Unit)) (h0 : ∀ v r, f0 v = some r → mn_37s5af7l6 v r) (h1 : ∀ v r, f1 v = some r → mn_37s5af7 v r) (v : Int × Int × Int × Int × ByteArray × Int × Int × ByteArray × Tag × (List ByteArray) × (List ByteArray) × (List Tag) × (List (Option Tag)) × Unit) (r : (Int × Int × ByteArray × Tag × (List ByteArray) × (List Tag) × Unit)) (h : exL (x37s5af7 f0 f1) (loopNo (bodyOf Tryz.f37) 0) c37s5af7l6 [.exit 0] f0 v = some r) : mn_37s5af7l6 v r := fun C hP hN => loop_step (X := x37s5af7 f0 f1) (b := (loopNo (bodyOf Tryz.f37) 0)) hP hN Ty.mixed (cn_37s5af7l6 f0 f1 h0 h1) (lok_all (X := x37s5af7 f0 f1) (c := (loopNo (bodyOf Tryz.f37) 0)) (kcast (by kernel_rfl : True = AllB (LoopsP C (x37s5af7 f0 f1)) (loopsIn (loopNo (bodyOf Tryz.f37) 0))) trivial)) (cut := c37s5af7l6) (alts := [.exit 0]) (F := f0) (fun v out h => h0 v out h C hP hN) h
theorem cn_37s5af7 (f0 : Int × Int × Int × Int × ByteArray × Int × Int × ByteArray × Tag × (List ByteArray) × (List ByteArray) × (List Tag) × (List (Option Tag)) × Unit → Option ((Int × Int × ByteArray × Tag × (List ByteArray) × (List Tag) × Unit))) (h0 : ∀ v r, f0 v = some r → mn_37s5af7l6 v r) : CallerOk prog (x37s5af7 f0 (fun _ => none)).call := (by
    intro A fid args S dst k r h
    unfold x37s5af7 call37s5af7 at h
    simp only at h
    split at h
    ·exact callObj_ok ((fun v r x h hx => by cases h)) h
    ·exact callObj_ok (n_40sf890_ok) h
    ·exact callPure_ok (n_58_ok) rfl rfl h
    ·cases h)
theorem sn_37s5af7 (f0 : Int × Int × Int × Int × ByteArray × Int × Int × ByteArray × Tag × (List ByteArray) × (List ByteArray) × (List Tag) × (List (Option Tag)) × Unit → Option ((Int × Int × ByteArray × Tag × (List ByteArray) × (List Tag) × Unit))) (h0 : ∀ v r, f0 v = some r → mn_37s5af7l6 v r) (v : Int × Int × ByteArray × Int × Int × ByteArray × (List ByteArray) × (List Tag) × (List ByteArray) × (List Tag) × Unit) (r : Int × Int × ByteArray × (List ByteArray) × (List Tag) × Unit) (h : exF (x37s5af7 f0 (fun _ => none)) sig37s5af7 rfl (bodyOf Tryz.f37) v = some r) : mn_37s5af7 v r := fun x hx => fn_ok (X := x37s5af7 f0 (fun _ => none)) (sig := sig37s5af7) rfl Tryz.func37 (c := bodyOf Tryz.f37) (by kernel_rfl) Tryz.ntmps37 (by kernel_rfl) (by kernel_rfl) rfl Ty.mixed (cn_37s5af7 f0 h0) rfl (fun C hP hN => (lok_all (X := x37s5af7 f0 (fun _ => none)) (c := (bodyOf Tryz.f37)) (kcast (by kernel_rfl : AllB (LoopsP C (x37s5af7 f0 (fun _ => none))) [(loopNo (bodyOf Tryz.f37) 0)] = AllB (LoopsP C (x37s5af7 f0 (fun _ => none))) (loopsIn (bodyOf Tryz.f37))) ⟨loop_at (X := x37s5af7 f0 (fun _ => none)) (b := (loopNo (bodyOf Tryz.f37) 0)) (by kernel_rfl) (show LoopOk C (loopNo (bodyOf Tryz.f37) 0) (sh := sh37s5af7) { cut := c37s5af7l6, alts := [.exit 0], F := f0 } from fun v out h => h0 v out h C hP hN), trivial⟩))) h x hx
theorem n_37s5af7l6_all : (∀ v r, n_37s5af7l6 v = some r → mn_37s5af7l6 v r) ∧ (∀ v r, n_37s5af7 v = some r → mn_37s5af7 v r) := by
 refine n_37s5af7l6.mutual_partial_correctness
  (motive_1 := mn_37s5af7l6)
  (motive_2 := mn_37s5af7)
  ?_ ?_
 ·exact (fun f0 f1 h0 h1 v r h => sn_37s5af7l6 f0 f1 h0 h1 v r (kcast (by kernel_rfl) h))
 ·exact (fun f0 h0 v r h => sn_37s5af7 f0 h0 v r (kcast (by kernel_rfl) h))
theorem n_37s5af7_ok : SigOk prog 37 sig37s5af7 n_37s5af7 := fun v r x h hx => n_37s5af7l6_all.2 v r h x hx
noncomputable def c14l2 : Cut SN := ⟨[(2, .bp 2 0), (3, .bp 3 0), (4, .bp 4 0), (11, .dat (.sl (.st .tagT))), (12, .dat (.int .i64)), (13, .dat (.int .i64))], [(2, .st .tagT), (3, .st .tagT), (4, .st .tagT)]⟩
noncomputable def c14e0 : Cut SN := ⟨[(2, .bp 2 0), (3, .bp 3 0), (4, .bp 4 0)], [(2, .st .tagT), (3, .st .tagT), (4, .st .tagT)]⟩
noncomputable def c14z : Cut SN := ⟨[(4, .bp 4 0), (5, .dat (.int .i64))], [(4, .st .tagT)]⟩
noncomputable def sh14 : Shape vw := { exits := fun id => match id with | 0 => c14e0 | _ => ⟨[], []⟩, rcut := c14z }
noncomputable def sig14 : Sig vw := { params := [.dat (.st .tagT), .dat (.st .tagT)], rcut := c14z, rvars := [.cell 4 25, .tmp 5] }
noncomputable def n_14l2 (v : (List Tag) × Int × Int × Tag × Tag × Tag × Unit) : Option (((Int × Tag × Unit) ⊕ (Tag × Tag × Tag × Unit))) :=
 if decide (v.2.2.1 < v.2.1) = true then
  if (0 : Int) ≤ v.2.2.1 then
   v.1[v.2.2.1.toNat]? >>= fun x1 =>
   n_29 (x1, ()) >>= fun x2 =>
   if (x2.1 != (0 : Int)) = true then
    some (Sum.inl (x2.1, Tag.mk (0 : Int) (0 : Int) (ByteArray.mk #[]) [] [], ()))
   else n_14l2 (v.1, v.2.1, i64.wrap (v.2.2.1 + (1 : Int)), v.2.2.2.1, v.2.2.2.2.1, v.2.2.2.2.2.1, ())
  else none
 else some (Sum.inr (v.2.2.2.1, v.2.2.2.2.1, v.2.2.2.2.2.1, ()))
 partial_fixpoint
noncomputable def n_14 (v : Tag × Tag × Unit) : Option (Int × Tag × Unit) :=
 n_14l2 ([v.1, v.2.1], (↑[v.1, v.2.1].length : Int), (0 : Int), v.1, v.2.1, Tag.mk (0 : Int) (0 : Int) (ByteArray.mk #[]) [] [], ()) >>= fun x1 => match x1 with
  | .inl y1 => some y1
  | .inr y1 => n_31s06c9 (y1.1, ()) >>= fun x2 =>
   n_31s06c9 (y1.2.1, ()) >>= fun x3 =>
   n_37s5af7 (x2.1, x2.2.1, x2.2.2.1, x3.1, x3.2.1, x3.2.2.1, x2.2.2.2.1, x2.2.2.2.2.1, x3.2.2.2.1, x3.2.2.2.2.1, ()) >>= fun x4 =>
   n_32sc86c (x4.1, x4.2.1, x4.2.2.1, x4.2.2.2.1, x4.2.2.2.2.1, ()) >>= fun x5 =>
   some ((x5.1, Tag.mk x5.2.1 x5.2.2.1 x5.2.2.2.1 x5.2.2.2.2.1 x5.2.2.2.2.2.1, ()))
noncomputable def call14 : Caller vw := fun A fid args S k => match fid with | 29 => callPure prog sig29 n_29 A args S k | 31 => callObj prog sig31s06c9 n_31s06c9 A args S k | 32 => callObj prog sig32sc86c n_32sc86c A args S k | 37 => callObj prog sig37s5af7 n_37s5af7 A args S k | _ => none
noncomputable def x14 : Xc vw := { P := prog, n := 32, call := call14, pre := fun k => match k with | 2000032 => true | 2000037 => true | _ => false, sh := sh14, loops := fun k => match k with | 2 => some { cut := c14l2, alts := [.ret, .exit 0], F := n_14l2 } | _ => none }
theorem call14_ok : CallerOk prog call14 := fun A fid args S dst k r h => by
 unfold call14 at h
 split at h
 ·exact callPure_ok (n_29_ok) rfl rfl h
 ·exact callObj_ok (n_31s06c9_ok) h
 ·exact callObj_ok (n_32sc86c_ok) h
 ·exact callObj_ok (n_37s5af7_ok) h
 ·cases h
theorem n_14l2_ok (C : Ctx) (hP : C.P = prog) (hN : C.N = 32) : LoopOk C (loopNo (bodyOf Tryz.f14) 0) (sh := sh14) { cut := c14l2, alts := [.ret, .exit 0], F := n_14l2 } :=
 n_14l2.partial_correctness (motive := fun v out => AWpL C (loopNo (bodyOf Tryz.f14) 0) (Go.Tx.encS vw (conc vw c14l2 v)) (OutQ sh14 [.ret, .exit 0] out)) fun F ih v out h =>
  loop_step (X := x14) (b := (loopNo (bodyOf Tryz.f14) 0)) hP hN Ty.mixed call14_ok (lok_all (X := x14) (c := (loopNo (bodyOf Tryz.f14) 0)) (kcast (by kernel_rfl : True = AllB (LoopsP C (x14)) (loopsIn (loopNo (bodyOf Tryz.f14) 0))) trivial)) ih (kcast (by kernel_rfl) h)
theorem n_14_ok : SigOk prog 14 sig14 n_14 := fun v r x h hx =>
 fn_ok (X := x14) (sig := sig14) rfl Tryz.func14 (c := bodyOf Tryz.f14) (by kernel_rfl) Tryz.ntmps14 (by kernel_rfl) (by kernel_rfl) rfl Ty.mixed call14_ok rfl (fun C hP hN => (lok_all (kcast (by kernel_rfl : AllB (LoopsP C (x14)) [(loopNo (bodyOf Tryz.f14) 0)] = AllB (LoopsP C (x14)) (loopsIn (bodyOf Tryz.f14))) ⟨loop_at (X := x14) (b := (loopNo (bodyOf Tryz.f14) 0)) (by kernel_rfl) (n_14l2_ok C hP hN), trivial⟩))) (kcast (by kernel_rfl) h) x hx
noncomputable def c27l3 : Cut SN := ⟨[(1, .bp 1 0), (5, .dat (.int .i64)), (6, .dat (.int .i64)), (7, .dat (.int .i64)), (8, .dat (.int .i64))], [(1, .st .tagT)]⟩
noncomputable def c27l7 : Cut SN := ⟨[(1, .bp 1 0), (5, .dat (.int .i64)), (6, .dat (.int .i64)), (7, .dat (.int .i64)), (9, .dat (.int .i64))], [(1, .st .tagT)]⟩
noncomputable def c27e0 : Cut SN := ⟨[(1, .bp 1 0), (5, .dat (.int .i64)), (6, .dat (.int .i64)), (7, .dat (.int .i64))], [(1, .st .tagT)]⟩
noncomputable def c27e2 : Cut SN := ⟨[(5, .dat (.int .i64)), (6, .dat (.int .i64)), (7, .dat (.int .i64))], []⟩
noncomputable def c27z : Cut SN := ⟨[(2, .dat (.int .i64)), (3, .dat (.int .i64)), (4, .dat (.int .i64))], []⟩
noncomputable def sh27 : Shape vw := { exits := fun id => match id with | 0 => c27e0 | 2 => c27e2 | _ => ⟨[], []⟩, rcut := c27z }
noncomputable def sig27 : Sig vw := { params := [.dat (.st .tagT)], rcut := c27z, rvars := [.tmp 2, .tmp 3, .tmp 4] }
noncomputable def n_27l3 (v : Int × Int × Int × Int × Tag × Unit) : Option ((Int × Int × Int × Tag × Unit)) :=
 if decide (v.2.2.2.1 < (↑v.2.2.2.2.1.names.length : Int)) = true then
  if (0 : Int) ≤ v.2.2.2.1 then
   v.2.2.2.2.1.names[v.2.2.2.1.toNat]? >>= fun x1 =>
   n_27l3 (v.1, v.2.1, i64.wrap (v.2.2.1 + (↑x1.size : Int)), i64.wrap (v.2.2.2.1 + (1 : Int)), v.2.2.2.2.1, ())
  else none
 else some ((v.1, v.2.1, v.2.2.1, v.2.2.2.2.1, ()))
 partial_fixpoint
mutual
noncomputable def n_27l7 (v : Int × Int × Int × Int × Tag × Unit) : Option ((Int × Int × Int × Unit)) :=
 if decide (v.2.2.2.1 < (↑v.2.2.2.2.1.parts.length : Int)) = true then
  if (0 : Int) ≤ v.2.2.2.1 then
   v.2.2.2.2.1.parts[v.2.2.2.1.toNat]? >>= fun x1 =>
   n_27 (x1, ()) >>= fun x2 =>
   n_27l7 (i64.wrap (v.1 + x2.1), max v.2.1 x2.2.1, i64.wrap (v.2.2.1 + x2.2.2.1), i64.wrap (v.2.2.2.1 + (1 : Int)), v.2.2.2.2.1, ())
  else none
 else some ((v.1, v.2.1, v.2.2.1, ()))
 partial_fixpoint
noncomputable def n_27 (v : Tag × Unit) : Option (Int × Int × Int × Unit) :=
 n_27l3 ((1 : Int), (0 : Int), (↑v.1.text.size : Int), (0 : Int), v.1, ()) >>= fun x1 =>
 n_27l7 (x1.1, x1.2.1, x1.2.2.1, (0 : Int), x1.2.2.2.1, ()) >>= fun x2 =>
 some ((x2.1, i64.wrap (x2.2.1 + (1 : Int)), x2.2.2.1, ()))
 partial_fixpoint
end
noncomputable def call27 (n_27l3 : Int × Int × Int × Int × Tag × Unit → Option ((Int × Int × Int × Tag × Unit))) (n_27l7 : Int × Int × Int × Int × Tag × Unit → Option ((Int × Int × Int × Unit))) (n_27 : Tag × Unit → Option (Int × Int × Int × Unit)) : Caller vw := fun A fid args S k => match fid with | 27 => callPure prog sig27 n_27 A args S k | _ => none
noncomputable def x27 (n_27l3 : Int × Int × Int × Int × Tag × Unit → Option ((Int × Int × Int × Tag × Unit))) (n_27l7 : Int × Int × Int × Int × Tag × Unit → Option ((Int × Int × Int × Unit))) (n_27 : Tag × Unit → Option (Int × Int × Int × Unit)) : Xc vw := { P := prog, n := 61, call := call27 n_27l3 n_27l7 n_27, sh := sh27, loops := fun k => match k with | 3 => some { cut := c27l3, alts := [.exit 0], F := n_27l3 } | 7 => some { cut := c27l7, alts := [.exit 2], F := n_27l7 } | _ => none }
abbrev mn_27l3 (v : Int × Int × Int × Int × Tag × Unit) (r : (Int × Int × Int × Tag × Unit)) : Prop := (fun v out => ∀ C : Ctx, C.P = prog → C.N = 61 → AWpL C (loopNo (bodyOf Tryz.f27) 0) (Go.Tx.encS vw (conc vw c27l3 v)) (OutQ sh27 [.exit 0] out)) v r
theorem cn_27l3 (f0 : Int × Int × Int × Int × Tag × Unit → Option ((Int × Int × Int × Tag × Unit))) (h0 : ∀ v r, f0 v = some r → mn_27l3 v r) : CallerOk prog (x27 f0 (fun _ => none) (fun _ => none)).call := (by
    intro A fid args S dst k r h
    unfold x27 call27 at h
    simp only at h
    split at h
    ·exact callPure_ok ((fun v r x h hx => by cases h)) rfl rfl h
    ·cases h)
theorem sn_27l3 (f0 : Int × Int × Int × Int × Tag × Unit → Option ((Int × Int × Int × Tag × Unit))) (h0 : ∀ v r, f0 v = some r → mn_27l3 v r) (v : Int × Int × Int × Int × Tag × Unit) (r : (Int × Int × Int × Tag × Unit)) (h : exL (x27 f0 (fun _ => none) (fun _ => none)) (loopNo (bodyOf Tryz.f27) 0) c27l3 [.exit 0] f0 v = some r) : mn_27l3 v r := fun C hP hN => loop_step (X := x27 f0 (fun _ => none) (fun _ => none)) (b := (loopNo (bodyOf Tryz.f27) 0)) hP hN Ty.mixed (cn_27l3 f0 h0) (lok_all (X := x27 f0 (fun _ => none) (fun _ => none)) (c := (loopNo (bodyOf Tryz.f27) 0)) (kcast (by kernel_rfl : True = AllB (LoopsP C (x27 f0 (fun _ => none) (fun _ => none))) (loopsIn (loopNo (bodyOf Tryz.f27) 0))) trivial)) (cut := c27l3) (alts := [.exit 0]) (F := f0) (fun v out h => h0 v out h C hP hN) h
theorem n_27l3_pc : ∀ v out, n_27l3 v = some out → (fun v out => ∀ C : Ctx, C.P = prog → C.N = 61 → AWpL C (loopNo (bodyOf Tryz.f27) 0) (Go.Tx.encS vw (conc vw c27l3 v)) (OutQ sh27 [.exit 0] out)) v out := (n_27l3.partial_correctness (motive := mn_27l3) (fun f0 h0 v r h => sn_27l3 f0 h0 v r (kcast (by kernel_rfl) h)))
abbrev mn_27l7 (v : Int × Int × Int × Int × Tag × Unit) (r : (Int × Int × Int × Unit)) : Prop := (fun v out => ∀ C : Ctx, C.P = prog → C.N = 61 → AWpL C (loopNo (bodyOf Tryz.f27) 1) (Go.Tx.encS vw (conc vw c27l7 v)) (OutQ sh27 [.exit 2] out)) v r
abbrev mn_27 (v : Tag × Unit) (r : Int × Int × Int × Unit) : Prop := (fun v r => ∀ x, resV prog sig27 r = some x → FnOk prog 27 (encL vw (startS sig27 v).len (startOs sig27 v).1) (encOs (startS sig27 v).len (startS sig27 v).own) (encV vw (conc vw sig27.rcut r).len x) (encOs (conc vw sig27.rcut r).len (kept sig27 r))) v r
theorem cn_27l7 (f0 : Int × Int × Int × Int × Tag × Unit → Option ((Int × Int × Int × Unit))) (f1 : Tag × Unit → Option (Int × Int × Int × Unit)) (h0 : ∀ v r, f0 v = some r → mn_27l7 v r) (h1 : ∀ v r, f1 v = some r → mn_27 v r) : CallerOk prog (x27 (fun _ => none) f0 f1).call := (by
    intro A fid args S dst k r h
    unfold x27 call27 at h
    simp only at h
    split at h
    ·exact callPure_ok ((fun v r x h hx => h1 v r h x hx)) rfl rfl h
    ·cases h)
theorem sn_27l7 (f0 : Int × Int × Int × Int × Tag × Unit → Option ((Int × Int × Int × Unit))) (f1 : Tag × Unit → Option (Int × Int × Int × Unit)) (h0 : ∀ v r, f0 v = some r → mn_27l7 v r) (h1 : ∀ v r, f1 v = some r → mn_27 v r) (v : Int × Int × Int × Int × Tag × Unit) (r : (Int × Int × Int × Unit)) (h : exL (x27 (fun _ => none) f0 f1) (loopNo (bodyOf Tryz.f27) 1) c27l7 [.exit 2] f0 v = some r) : mn_27l7 v r := fun C hP hN => loop_step (X := x27 (fun _ => none) f0 f1) (b := (loopNo (bodyOf Tryz.f27) 1)) hP hN Ty.mixed (cn_27l7 f0 f1 h0 h1) (lok_all (X := x27 (fun _ => none) f0 f1) (c := (loopNo (bodyOf Tryz.f27) 1)) (kcast (by kernel_rfl : True = AllB (LoopsP C (x27 (fun _ => none) f0 f1)) (loopsIn (loopNo (bodyOf Tryz.f27) 1))) trivial)) (cut := c27l7) (alts := [.exit 2]) (F := f0) (fun v out h => h0 v out h C hP hN) h
theorem cn_27 (f0 : Int × Int × Int × Int × Tag × Unit → Option ((Int × Int × Int × Unit))) (h0 : ∀ v r, f0 v = some r → mn_27l7 v r) : CallerOk prog (x27 n_27l3 f0 (fun _ => none)).call := (by
    intro A fid args S dst k r h
    unfold x27 call27 at h
    simp only at h
    split at h
    ·exact callPure_ok ((fun v r x h hx => by cases h)) rfl rfl h
    ·cases h)
theorem sn_27 (f0 : Int × Int × Int × Int × Tag × Unit → Option ((Int × Int × Int × Unit))) (h0 : ∀ v r, f0 v = some r → mn_27l7 v r) (v : Tag × Unit) (r : Int × Int × Int × Unit) (h : exF (x27 n_27l3 f0 (fun _ => none)) sig27 rfl (bodyOf Tryz.f27) v = some r) : mn_27 v r := fun x hx => fn_ok (X := x27 n_27l3 f0 (fun _ => none)) (sig := sig27) rfl Tryz.func27 (c := bodyOf Tryz.f27) (by kernel_rfl) Tryz.ntmps27 (by kernel_rfl) (by kernel_rfl) rfl Ty.mixed (cn_27 f0 h0) rfl (fun C hP hN => (lok_all (X := x27 n_27l3 f0 (fun _ => none)) (c := (bodyOf Tryz.f27)) (kcast (by kernel_rfl : AllB (LoopsP C (x27 n_27l3 f0 (fun _ => none))) [(loopNo (bodyOf Tryz.f27) 0), (loopNo (bodyOf Tryz.f27) 1)] = AllB (LoopsP C (x27 n_27l3 f0 (fun _ => none))) (loopsIn (bodyOf Tryz.f27))) ⟨loop_at (X := x27 n_27l3 f0 (fun _ => none)) (b := (loopNo (bodyOf Tryz.f27) 0)) (by kernel_rfl) (show LoopOk C (loopNo (bodyOf Tryz.f27) 0) (sh := sh27) { cut := c27l3, alts := [.exit 0], F := n_27l3 } from fun v out h => n_27l3_pc v out h C hP hN), loop_at (X := x27 n_27l3 f0 (fun _ => none)) (b := (loopNo (bodyOf Tryz.f27) 1)) (by kernel_rfl) (show LoopOk C (loopNo (bodyOf Tryz.f27) 1) (sh := sh27) { cut := c27l7, alts := [.exit 2], F := f0 } from fun v out h => h0 v out h C hP hN), trivial⟩))) h x hx
theorem n_27l7_all : (∀ v r, n_27l7 v = some r → mn_27l7 v r) ∧ (∀ v r, n_27 v = some r → mn_27 v r) := by
 refine n_27l7.mutual_partial_correctness
  (motive_1 := mn_27l7)
  (motive_2 := mn_27)
  ?_ ?_
 ·exact (fun f0 f1 h0 h1 v r h => sn_27l7 f0 f1 h0 h1 v r (kcast (by kernel_rfl) h))
 ·exact (fun f0 h0 v r h => sn_27 f0 h0 v r (kcast (by kernel_rfl) h))
theorem n_27_ok : SigOk prog 27 sig27 n_27 := fun v r x h hx => n_27l7_all.2 v r h x hx
noncomputable def c54l6 : Cut SN := ⟨[(1, .bp 1 0), (3, .dat (.int .i64))], [(1, .st .tagT)]⟩
noncomputable def c54l11 : Cut SN := ⟨[(1, .bp 1 0), (4, .dat (.int .i64))], [(1, .st .tagT)]⟩
noncomputable def c54r1 : Cut SN := ⟨[(1, .bp 1 0), (54, .dat .bool)], [(1, .st .tagT)]⟩
noncomputable def c54r3 : Cut SN := ⟨[(1, .bp 1 0), (82, .dat .bool)], [(1, .st .tagT)]⟩
noncomputable def sh54 : Shape vw := { exits := fun id => match id with | 0 => c52e0 | 2 => c103c75e0 | _ => ⟨[], []⟩, rcut := c76z }
noncomputable def sig54 : Sig vw := { params := [.dat (.st .tagT)], rcut := c76z, rvars := [.tmp 2] }
noncomputable def n_54l6 (v : Int × Tag × Unit) : Option (((Bool × Unit) ⊕ (Tag × Unit))) :=
 if decide (v.1 < (↑v.2.1.names.length : Int)) = true then
  if (0 : Int) ≤ v.1 then
   v.2.1.names[v.1.toNat]? >>= fun x1 =>
   n_76 (x1, ()) >>= fun x2 =>
   if (!x2.1) = true then
    some (Sum.inl (false, ()))
   else n_54l6 (i64.wrap (v.1 + (1 : Int)), v.2.1, ())
  else none
 else some (Sum.inr (v.2.1, ()))
 partial_fixpoint
mutual
noncomputable def n_54l11 (v : Int × Tag × Unit) : Option (((Bool × Unit) ⊕ (Unit))) :=
 if decide (v.1 < (↑v.2.1.parts.length : Int)) = true then
  if (0 : Int) ≤ v.1 then
   v.2.1.parts[v.1.toNat]? >>= fun x1 =>
   n_54 (x1, ()) >>= fun x2 =>
   if (!x2.1) = true then
    some (Sum.inl (false, ()))
   else n_54l11 (i64.wrap (v.1 + (1 : Int)), v.2.1, ())
  else none
 else some (Sum.inr ())
 partial_fixpoint
noncomputable def n_54 (v : Tag × Unit) : Option (Bool × Unit) :=
 (if decide (v.1.kind < (0 : Int)) = true then
    some ((true, v.1, ()))
   else if decide (v.1.kind > (6 : Int)) = true then
    some ((true, v.1, ()))
   else if (v.1.kind != (3 : Int)) = true then
    if (v.1.n != (0 : Int)) = true then
     some ((true, v.1, ()))
    else if (v.1.kind != (4 : Int)) = true then
     if (!v.1.text.toList == (ByteArray.mk #[]).toList) = true then
      some ((true, v.1, ()))
     else if (v.1.kind != (6 : Int)) = true then
      if decide ((↑v.1.names.length : Int) > (0 : Int)) = true then
       some ((true, v.1, ()))
      else if decide (v.1.kind < (5 : Int)) = true then
       some ((decide ((↑v.1.parts.length : Int) > (0 : Int)), v.1, ()))
      else some ((false, v.1, ()))
     else if decide (v.1.kind < (5 : Int)) = true then
      some ((decide ((↑v.1.parts.length : Int) > (0 : Int)), v.1, ()))
     else some ((false, v.1, ()))
    else if (v.1.kind != (6 : Int)) = true then
     if decide ((↑v.1.names.length : Int) > (0 : Int)) = true then
      some ((true, v.1, ()))
     else if decide (v.1.kind < (5 : Int)) = true then
      some ((decide ((↑v.1.parts.length : Int) > (0 : Int)), v.1, ()))
     else some ((false, v.1, ()))
    else if decide (v.1.kind < (5 : Int)) = true then
     some ((decide ((↑v.1.parts.length : Int) > (0 : Int)), v.1, ()))
    else some ((false, v.1, ()))
   else if (v.1.kind != (4 : Int)) = true then
    if (!v.1.text.toList == (ByteArray.mk #[]).toList) = true then
     some ((true, v.1, ()))
    else if (v.1.kind != (6 : Int)) = true then
     if decide ((↑v.1.names.length : Int) > (0 : Int)) = true then
      some ((true, v.1, ()))
     else if decide (v.1.kind < (5 : Int)) = true then
      some ((decide ((↑v.1.parts.length : Int) > (0 : Int)), v.1, ()))
     else some ((false, v.1, ()))
    else if decide (v.1.kind < (5 : Int)) = true then
     some ((decide ((↑v.1.parts.length : Int) > (0 : Int)), v.1, ()))
    else some ((false, v.1, ()))
   else if (v.1.kind != (6 : Int)) = true then
    if decide ((↑v.1.names.length : Int) > (0 : Int)) = true then
     some ((true, v.1, ()))
    else if decide (v.1.kind < (5 : Int)) = true then
     some ((decide ((↑v.1.parts.length : Int) > (0 : Int)), v.1, ()))
    else some ((false, v.1, ()))
   else if decide (v.1.kind < (5 : Int)) = true then
    some ((decide ((↑v.1.parts.length : Int) > (0 : Int)), v.1, ()))
   else some ((false, v.1, ()))) >>= fun x1 =>
 if x1.1 = true then
  some ((false, ()))
 else (if decide (x1.2.1.n < (-9007199254740992 : Int)) = true then
   some ((true, x1.2.1, ()))
  else if decide (x1.2.1.n > (9007199254740992 : Int)) = true then
   some ((true, x1.2.1, ()))
  else n_76 (x1.2.1.text, ()) >>= fun x2 =>
  if (!x2.1) = true then
   some ((true, x1.2.1, ()))
  else if (x1.2.1.kind == (6 : Int)) = true then
   some (((↑x1.2.1.names.length : Int) != (↑x1.2.1.parts.length : Int), x1.2.1, ()))
  else some ((false, x1.2.1, ()))) >>= fun x2 =>
 if x2.1 = true then
  some ((false, ()))
 else n_54l6 ((0 : Int), x2.2.1, ()) >>= fun x3 => match x3 with
  | .inl y3 => some y3
  | .inr y3 => n_54l11 ((0 : Int), y3.1, ()) >>= fun x4 => match x4 with
    | .inl y4 => some y4
    | .inr y4 => some ((true, ()))
 partial_fixpoint
end
noncomputable def call54 (n_54l6 : Int × Tag × Unit → Option (((Bool × Unit) ⊕ (Tag × Unit)))) (n_54l11 : Int × Tag × Unit → Option (((Bool × Unit) ⊕ (Unit)))) (n_54 : Tag × Unit → Option (Bool × Unit)) : Caller vw := fun A fid args S k => match fid with | 54 => callPure prog sig54 n_54 A args S k | 76 => callPure prog sig76 n_76 A args S k | _ => none
noncomputable def x54 (n_54l6 : Int × Tag × Unit → Option (((Bool × Unit) ⊕ (Tag × Unit)))) (n_54l11 : Int × Tag × Unit → Option (((Bool × Unit) ⊕ (Unit)))) (n_54 : Tag × Unit → Option (Bool × Unit)) : Xc vw := { P := prog, n := 111, call := call54 n_54l6 n_54l11 n_54, sh := sh54, regs := fun k => match k with | 1 => some c54r1 | 3 => some c54r3 | _ => none, loops := fun k => match k with | 6 => some { cut := c54l6, alts := [.ret, .exit 0], F := n_54l6 } | 11 => some { cut := c54l11, alts := [.ret, .exit 2], F := n_54l11 } | _ => none }
abbrev mn_54l6 (v : Int × Tag × Unit) (r : ((Bool × Unit) ⊕ (Tag × Unit))) : Prop := (fun v out => ∀ C : Ctx, C.P = prog → C.N = 111 → AWpL C (loopNo (bodyOf Tryz.f54) 0) (Go.Tx.encS vw (conc vw c54l6 v)) (OutQ sh54 [.ret, .exit 0] out)) v r
theorem cn_54l6 (f0 : Int × Tag × Unit → Option (((Bool × Unit) ⊕ (Tag × Unit)))) (h0 : ∀ v r, f0 v = some r → mn_54l6 v r) : CallerOk prog (x54 f0 (fun _ => none) (fun _ => none)).call := (by
    intro A fid args S dst k r h
    unfold x54 call54 at h
    simp only at h
    split at h
    ·exact callPure_ok ((fun v r x h hx => by cases h)) rfl rfl h
    ·exact callPure_ok (n_76_ok) rfl rfl h
    ·cases h)
theorem sn_54l6 (f0 : Int × Tag × Unit → Option (((Bool × Unit) ⊕ (Tag × Unit)))) (h0 : ∀ v r, f0 v = some r → mn_54l6 v r) (v : Int × Tag × Unit) (r : ((Bool × Unit) ⊕ (Tag × Unit))) (h : exL (x54 f0 (fun _ => none) (fun _ => none)) (loopNo (bodyOf Tryz.f54) 0) c54l6 [.ret, .exit 0] f0 v = some r) : mn_54l6 v r := fun C hP hN => loop_step (X := x54 f0 (fun _ => none) (fun _ => none)) (b := (loopNo (bodyOf Tryz.f54) 0)) hP hN Ty.mixed (cn_54l6 f0 h0) (lok_all (X := x54 f0 (fun _ => none) (fun _ => none)) (c := (loopNo (bodyOf Tryz.f54) 0)) (kcast (by kernel_rfl : True = AllB (LoopsP C (x54 f0 (fun _ => none) (fun _ => none))) (loopsIn (loopNo (bodyOf Tryz.f54) 0))) trivial)) (cut := c54l6) (alts := [.ret, .exit 0]) (F := f0) (fun v out h => h0 v out h C hP hN) h
theorem n_54l6_pc : ∀ v out, n_54l6 v = some out → (fun v out => ∀ C : Ctx, C.P = prog → C.N = 111 → AWpL C (loopNo (bodyOf Tryz.f54) 0) (Go.Tx.encS vw (conc vw c54l6 v)) (OutQ sh54 [.ret, .exit 0] out)) v out := (n_54l6.partial_correctness (motive := mn_54l6) (fun f0 h0 v r h => sn_54l6 f0 h0 v r (kcast (by kernel_rfl) h)))
abbrev mn_54l11 (v : Int × Tag × Unit) (r : ((Bool × Unit) ⊕ (Unit))) : Prop := (fun v out => ∀ C : Ctx, C.P = prog → C.N = 111 → AWpL C (loopNo (bodyOf Tryz.f54) 1) (Go.Tx.encS vw (conc vw c54l11 v)) (OutQ sh54 [.ret, .exit 2] out)) v r
abbrev mn_54 (v : Tag × Unit) (r : Bool × Unit) : Prop := (fun v r => ∀ x, resV prog sig54 r = some x → FnOk prog 54 (encL vw (startS sig54 v).len (startOs sig54 v).1) (encOs (startS sig54 v).len (startS sig54 v).own) (encV vw (conc vw sig54.rcut r).len x) (encOs (conc vw sig54.rcut r).len (kept sig54 r))) v r
theorem cn_54l11 (f0 : Int × Tag × Unit → Option (((Bool × Unit) ⊕ (Unit)))) (f1 : Tag × Unit → Option (Bool × Unit)) (h0 : ∀ v r, f0 v = some r → mn_54l11 v r) (h1 : ∀ v r, f1 v = some r → mn_54 v r) : CallerOk prog (x54 (fun _ => none) f0 f1).call := (by
    intro A fid args S dst k r h
    unfold x54 call54 at h
    simp only at h
    split at h
    ·exact callPure_ok ((fun v r x h hx => h1 v r h x hx)) rfl rfl h
    ·exact callPure_ok (n_76_ok) rfl rfl h
    ·cases h)
theorem sn_54l11 (f0 : Int × Tag × Unit → Option (((Bool × Unit) ⊕ (Unit)))) (f1 : Tag × Unit → Option (Bool × Unit)) (h0 : ∀ v r, f0 v = some r → mn_54l11 v r) (h1 : ∀ v r, f1 v = some r → mn_54 v r) (v : Int × Tag × Unit) (r : ((Bool × Unit) ⊕ (Unit))) (h : exL (x54 (fun _ => none) f0 f1) (loopNo (bodyOf Tryz.f54) 1) c54l11 [.ret, .exit 2] f0 v = some r) : mn_54l11 v r := fun C hP hN => loop_step (X := x54 (fun _ => none) f0 f1) (b := (loopNo (bodyOf Tryz.f54) 1)) hP hN Ty.mixed (cn_54l11 f0 f1 h0 h1) (lok_all (X := x54 (fun _ => none) f0 f1) (c := (loopNo (bodyOf Tryz.f54) 1)) (kcast (by kernel_rfl : True = AllB (LoopsP C (x54 (fun _ => none) f0 f1)) (loopsIn (loopNo (bodyOf Tryz.f54) 1))) trivial)) (cut := c54l11) (alts := [.ret, .exit 2]) (F := f0) (fun v out h => h0 v out h C hP hN) h
theorem cn_54 (f0 : Int × Tag × Unit → Option (((Bool × Unit) ⊕ (Unit)))) (h0 : ∀ v r, f0 v = some r → mn_54l11 v r) : CallerOk prog (x54 n_54l6 f0 (fun _ => none)).call := (by
    intro A fid args S dst k r h
    unfold x54 call54 at h
    simp only at h
    split at h
    ·exact callPure_ok ((fun v r x h hx => by cases h)) rfl rfl h
    ·exact callPure_ok (n_76_ok) rfl rfl h
    ·cases h)
theorem sn_54 (f0 : Int × Tag × Unit → Option (((Bool × Unit) ⊕ (Unit)))) (h0 : ∀ v r, f0 v = some r → mn_54l11 v r) (v : Tag × Unit) (r : Bool × Unit) (h : exF (x54 n_54l6 f0 (fun _ => none)) sig54 rfl (bodyOf Tryz.f54) v = some r) : mn_54 v r := fun x hx => fn_ok (X := x54 n_54l6 f0 (fun _ => none)) (sig := sig54) rfl Tryz.func54 (c := bodyOf Tryz.f54) (by kernel_rfl) Tryz.ntmps54 (by kernel_rfl) (by kernel_rfl) rfl Ty.mixed (cn_54 f0 h0) rfl (fun C hP hN => (lok_all (X := x54 n_54l6 f0 (fun _ => none)) (c := (bodyOf Tryz.f54)) (kcast (by kernel_rfl : AllB (LoopsP C (x54 n_54l6 f0 (fun _ => none))) [(loopNo (bodyOf Tryz.f54) 0), (loopNo (bodyOf Tryz.f54) 1)] = AllB (LoopsP C (x54 n_54l6 f0 (fun _ => none))) (loopsIn (bodyOf Tryz.f54))) ⟨loop_at (X := x54 n_54l6 f0 (fun _ => none)) (b := (loopNo (bodyOf Tryz.f54) 0)) (by kernel_rfl) (show LoopOk C (loopNo (bodyOf Tryz.f54) 0) (sh := sh54) { cut := c54l6, alts := [.ret, .exit 0], F := n_54l6 } from fun v out h => n_54l6_pc v out h C hP hN), loop_at (X := x54 n_54l6 f0 (fun _ => none)) (b := (loopNo (bodyOf Tryz.f54) 1)) (by kernel_rfl) (show LoopOk C (loopNo (bodyOf Tryz.f54) 1) (sh := sh54) { cut := c54l11, alts := [.ret, .exit 2], F := f0 } from fun v out h => h0 v out h C hP hN), trivial⟩))) h x hx
theorem n_54l11_all : (∀ v r, n_54l11 v = some r → mn_54l11 v r) ∧ (∀ v r, n_54 v = some r → mn_54 v r) := by
 refine n_54l11.mutual_partial_correctness
  (motive_1 := mn_54l11)
  (motive_2 := mn_54)
  ?_ ?_
 ·exact (fun f0 f1 h0 h1 v r h => sn_54l11 f0 f1 h0 h1 v r (kcast (by kernel_rfl) h))
 ·exact (fun f0 h0 v r h => sn_54 f0 h0 v r (kcast (by kernel_rfl) h))
theorem n_54_ok : SigOk prog 54 sig54 n_54 := fun v r x h hx => n_54l11_all.2 v r h x hx
noncomputable def c55l5 : Cut SN := ⟨[(1, .bp 1 0), (3, .dat (.int .i64)), (4, .dat (.int .i64))], [(1, .st .tagT)]⟩
noncomputable def c55l10 : Cut SN := ⟨[(1, .bp 1 0), (5, .dat (.int .i64))], [(1, .st .tagT)]⟩
noncomputable def sh55 : Shape vw := { exits := fun id => match id with | 0 => c52e0 | 2 => c54l6 | 4 => c103c75e0 | _ => ⟨[], []⟩, rcut := c76z }
noncomputable def sig55 : Sig vw := { params := [.dat (.st .tagT)], rcut := c76z, rvars := [.tmp 2] }
noncomputable def n_55l5 (v : Int × Int × Tag × Unit) : Option (((Bool × Unit) ⊕ (Int × Tag × Unit))) :=
 if decide (v.2.1 < v.1) = true then
  if (0 : Int) ≤ v.1 then
   v.2.2.1.names[v.1.toNat]? >>= fun x1 =>
   if (0 : Int) ≤ v.2.1 then
    v.2.2.1.names[v.2.1.toNat]? >>= fun x2 =>
    if (x1.toList == x2.toList) = true then
     some (Sum.inl (true, ()))
    else n_55l5 (v.1, i64.wrap (v.2.1 + (1 : Int)), v.2.2.1, ())
   else none
  else none
 else some (Sum.inr (v.1, v.2.2.1, ()))
 partial_fixpoint
noncomputable def n_55l2 (v : Int × Tag × Unit) : Option (((Bool × Unit) ⊕ (Tag × Unit))) :=
 if decide (v.1 < (↑v.2.1.names.length : Int)) = true then
  n_55l5 (v.1, (0 : Int), v.2.1, ()) >>= fun x1 => match x1 with
   | .inl y1 => some (Sum.inl y1)
   | .inr y1 => n_55l2 (i64.wrap (y1.1 + (1 : Int)), y1.2.1, ())
 else some (Sum.inr (v.2.1, ()))
 partial_fixpoint
mutual
noncomputable def n_55l10 (v : Int × Tag × Unit) : Option (((Bool × Unit) ⊕ (Unit))) :=
 if decide (v.1 < (↑v.2.1.parts.length : Int)) = true then
  if (0 : Int) ≤ v.1 then
   v.2.1.parts[v.1.toNat]? >>= fun x1 =>
   n_55 (x1, ()) >>= fun x2 =>
   if x2.1 = true then
    some (Sum.inl (true, ()))
   else n_55l10 (i64.wrap (v.1 + (1 : Int)), v.2.1, ())
  else none
 else some (Sum.inr ())
 partial_fixpoint
noncomputable def n_55 (v : Tag × Unit) : Option (Bool × Unit) :=
 n_55l2 ((0 : Int), v.1, ()) >>= fun x1 => match x1 with
  | .inl y1 => some y1
  | .inr y1 => n_55l10 ((0 : Int), y1.1, ()) >>= fun x2 => match x2 with
    | .inl y2 => some y2
    | .inr y2 => some ((false, ()))
 partial_fixpoint
end
noncomputable def call55 (n_55l5 : Int × Int × Tag × Unit → Option (((Bool × Unit) ⊕ (Int × Tag × Unit)))) (n_55l2 : Int × Tag × Unit → Option (((Bool × Unit) ⊕ (Tag × Unit)))) (n_55l10 : Int × Tag × Unit → Option (((Bool × Unit) ⊕ (Unit)))) (n_55 : Tag × Unit → Option (Bool × Unit)) : Caller vw := fun A fid args S k => match fid with | 55 => callPure prog sig55 n_55 A args S k | _ => none
noncomputable def x55 (n_55l5 : Int × Int × Tag × Unit → Option (((Bool × Unit) ⊕ (Int × Tag × Unit)))) (n_55l2 : Int × Tag × Unit → Option (((Bool × Unit) ⊕ (Tag × Unit)))) (n_55l10 : Int × Tag × Unit → Option (((Bool × Unit) ⊕ (Unit)))) (n_55 : Tag × Unit → Option (Bool × Unit)) : Xc vw := { P := prog, n := 42, call := call55 n_55l5 n_55l2 n_55l10 n_55, sh := sh55, loops := fun k => match k with | 2 => some { cut := c54l6, alts := [.ret, .exit 0], F := n_55l2 } | 5 => some { cut := c55l5, alts := [.ret, .exit 2], F := n_55l5 } | 10 => some { cut := c55l10, alts := [.ret, .exit 4], F := n_55l10 } | _ => none }
abbrev mn_55l5 (v : Int × Int × Tag × Unit) (r : ((Bool × Unit) ⊕ (Int × Tag × Unit))) : Prop := (fun v out => ∀ C : Ctx, C.P = prog → C.N = 42 → AWpL C (loopNo (loopNo (bodyOf Tryz.f55) 0) 0) (Go.Tx.encS vw (conc vw c55l5 v)) (OutQ sh55 [.ret, .exit 2] out)) v r
theorem cn_55l5 (f0 : Int × Int × Tag × Unit → Option (((Bool × Unit) ⊕ (Int × Tag × Unit)))) (h0 : ∀ v r, f0 v = some r → mn_55l5 v r) : CallerOk prog (x55 f0 (fun _ => none) (fun _ => none) (fun _ => none)).call := (by
    intro A fid args S dst k r h
    unfold x55 call55 at h
    simp only at h
    split at h
    ·exact callPure_ok ((fun v r x h hx => by cases h)) rfl rfl h
    ·cases h)
theorem sn_55l5 (f0 : Int × Int × Tag × Unit → Option (((Bool × Unit) ⊕ (Int × Tag × Unit)))) (h0 : ∀ v r, f0 v = some r → mn_55l5 v r) (v : Int × Int × Tag × Unit) (r : ((Bool × Unit) ⊕ (Int × Tag × Unit))) (h : exL (x55 f0 (fun _ => none) (fun _ => none) (fun _ => none)) (loopNo (loopNo (bodyOf Tryz.f55) 0) 0) c55l5 [.ret, .exit 2] f0 v = some r) : mn_55l5 v r := fun C hP hN => loop_step (X := x55 f0 (fun _ => none) (fun _ => none) (fun _ => none)) (b := (loopNo (loopNo (bodyOf Tryz.f55) 0) 0)) hP hN Ty.mixed (cn_55l5 f0 h0) (lok_all (X := x55 f0 (fun _ => none) (fun _ => none) (fun _ => none)) (c := (loopNo (loopNo (bodyOf Tryz.f55) 0) 0)) (kcast (by kernel_rfl : True = AllB (LoopsP C (x55 f0 (fun _ => none) (fun _ => none) (fun _ => none))) (loopsIn (loopNo (loopNo (bodyOf Tryz.f55) 0) 0))) trivial)) (cut := c55l5) (alts := [.ret, .exit 2]) (F := f0) (fun v out h => h0 v out h C hP hN) h
theorem n_55l5_pc : ∀ v out, n_55l5 v = some out → (fun v out => ∀ C : Ctx, C.P = prog → C.N = 42 → AWpL C (loopNo (loopNo (bodyOf Tryz.f55) 0) 0) (Go.Tx.encS vw (conc vw c55l5 v)) (OutQ sh55 [.ret, .exit 2] out)) v out := (n_55l5.partial_correctness (motive := mn_55l5) (fun f0 h0 v r h => sn_55l5 f0 h0 v r (kcast (by kernel_rfl) h)))
abbrev mn_55l2 (v : Int × Tag × Unit) (r : ((Bool × Unit) ⊕ (Tag × Unit))) : Prop := (fun v out => ∀ C : Ctx, C.P = prog → C.N = 42 → AWpL C (loopNo (bodyOf Tryz.f55) 0) (Go.Tx.encS vw (conc vw c54l6 v)) (OutQ sh55 [.ret, .exit 0] out)) v r
theorem cn_55l2 (f0 : Int × Tag × Unit → Option (((Bool × Unit) ⊕ (Tag × Unit)))) (h0 : ∀ v r, f0 v = some r → mn_55l2 v r) : CallerOk prog (x55 n_55l5 f0 (fun _ => none) (fun _ => none)).call := (by
    intro A fid args S dst k r h
    unfold x55 call55 at h
    simp only at h
    split at h
    ·exact callPure_ok ((fun v r x h hx => by cases h)) rfl rfl h
    ·cases h)
theorem sn_55l2 (f0 : Int × Tag × Unit → Option (((Bool × Unit) ⊕ (Tag × Unit)))) (h0 : ∀ v r, f0 v = some r → mn_55l2 v r) (v : Int × Tag × Unit) (r : ((Bool × Unit) ⊕ (Tag × Unit))) (h : exL (x55 n_55l5 f0 (fun _ => none) (fun _ => none)) (loopNo (bodyOf Tryz.f55) 0) c54l6 [.ret, .exit 0] f0 v = some r) : mn_55l2 v r := fun C hP hN => loop_step (X := x55 n_55l5 f0 (fun _ => none) (fun _ => none)) (b := (loopNo (bodyOf Tryz.f55) 0)) hP hN Ty.mixed (cn_55l2 f0 h0) (lok_all (X := x55 n_55l5 f0 (fun _ => none) (fun _ => none)) (c := (loopNo (bodyOf Tryz.f55) 0)) (kcast (by kernel_rfl : AllB (LoopsP C (x55 n_55l5 f0 (fun _ => none) (fun _ => none))) [(loopNo (loopNo (bodyOf Tryz.f55) 0) 0)] = AllB (LoopsP C (x55 n_55l5 f0 (fun _ => none) (fun _ => none))) (loopsIn (loopNo (bodyOf Tryz.f55) 0))) ⟨loop_at (X := x55 n_55l5 f0 (fun _ => none) (fun _ => none)) (b := (loopNo (loopNo (bodyOf Tryz.f55) 0) 0)) (by kernel_rfl) (show LoopOk C (loopNo (loopNo (bodyOf Tryz.f55) 0) 0) (sh := sh55) { cut := c55l5, alts := [.ret, .exit 2], F := n_55l5 } from fun v out h => n_55l5_pc v out h C hP hN), trivial⟩)) (cut := c54l6) (alts := [.ret, .exit 0]) (F := f0) (fun v out h => h0 v out h C hP hN) h
theorem n_55l2_pc : ∀ v out, n_55l2 v = some out → (fun v out => ∀ C : Ctx, C.P = prog → C.N = 42 → AWpL C (loopNo (bodyOf Tryz.f55) 0) (Go.Tx.encS vw (conc vw c54l6 v)) (OutQ sh55 [.ret, .exit 0] out)) v out := (n_55l2.partial_correctness (motive := mn_55l2) (fun f0 h0 v r h => sn_55l2 f0 h0 v r (kcast (by kernel_rfl) h)))
abbrev mn_55l10 (v : Int × Tag × Unit) (r : ((Bool × Unit) ⊕ (Unit))) : Prop := (fun v out => ∀ C : Ctx, C.P = prog → C.N = 42 → AWpL C (loopNo (bodyOf Tryz.f55) 1) (Go.Tx.encS vw (conc vw c55l10 v)) (OutQ sh55 [.ret, .exit 4] out)) v r
abbrev mn_55 (v : Tag × Unit) (r : Bool × Unit) : Prop := (fun v r => ∀ x, resV prog sig55 r = some x → FnOk prog 55 (encL vw (startS sig55 v).len (startOs sig55 v).1) (encOs (startS sig55 v).len (startS sig55 v).own) (encV vw (conc vw sig55.rcut r).len x) (encOs (conc vw sig55.rcut r).len (kept sig55 r))) v r
theorem cn_55l10 (f0 : Int × Tag × Unit → Option (((Bool × Unit) ⊕ (Unit)))) (f1 : Tag × Unit → Option (Bool × Unit)) (h0 : ∀ v r, f0 v = some r → mn_55l10 v r) (h1 : ∀ v r, f1 v = some r → mn_55 v r) : CallerOk prog (x55 (fun _ => none) (fun _ => none) f0 f1).call := (by
    intro A fid args S dst k r h
    unfold x55 call55 at h
    simp only at h
    split at h
    ·exact callPure_ok ((fun v r x h hx => h1 v r h x hx)) rfl rfl h
    ·cases h)
theorem sn_55l10 (f0 : Int × Tag × Unit → Option (((Bool × Unit) ⊕ (Unit)))) (f1 : Tag × Unit → Option (Bool × Unit)) (h0 : ∀ v r, f0 v = some r → mn_55l10 v r) (h1 : ∀ v r, f1 v = some r → mn_55 v r) (v : Int × Tag × Unit) (r : ((Bool × Unit) ⊕ (Unit))) (h : exL (x55 (fun _ => none) (fun _ => none) f0 f1) (loopNo (bodyOf Tryz.f55) 1) c55l10 [.ret, .exit 4] f0 v = some r) : mn_55l10 v r := fun C hP hN => loop_step (X := x55 (fun _ => none) (fun _ => none) f0 f1) (b := (loopNo (bodyOf Tryz.f55) 1)) hP hN Ty.mixed (cn_55l10 f0 f1 h0 h1) (lok_all (X := x55 (fun _ => none) (fun _ => none) f0 f1) (c := (loopNo (bodyOf Tryz.f55) 1)) (kcast (by kernel_rfl : True = AllB (LoopsP C (x55 (fun _ => none) (fun _ => none) f0 f1)) (loopsIn (loopNo (bodyOf Tryz.f55) 1))) trivial)) (cut := c55l10) (alts := [.ret, .exit 4]) (F := f0) (fun v out h => h0 v out h C hP hN) h
theorem cn_55 (f0 : Int × Tag × Unit → Option (((Bool × Unit) ⊕ (Unit)))) (h0 : ∀ v r, f0 v = some r → mn_55l10 v r) : CallerOk prog (x55 (fun _ => none) n_55l2 f0 (fun _ => none)).call := (by
    intro A fid args S dst k r h
    unfold x55 call55 at h
    simp only at h
    split at h
    ·exact callPure_ok ((fun v r x h hx => by cases h)) rfl rfl h
    ·cases h)
theorem sn_55 (f0 : Int × Tag × Unit → Option (((Bool × Unit) ⊕ (Unit)))) (h0 : ∀ v r, f0 v = some r → mn_55l10 v r) (v : Tag × Unit) (r : Bool × Unit) (h : exF (x55 (fun _ => none) n_55l2 f0 (fun _ => none)) sig55 rfl (bodyOf Tryz.f55) v = some r) : mn_55 v r := fun x hx => fn_ok (X := x55 (fun _ => none) n_55l2 f0 (fun _ => none)) (sig := sig55) rfl Tryz.func55 (c := bodyOf Tryz.f55) (by kernel_rfl) Tryz.ntmps55 (by kernel_rfl) (by kernel_rfl) rfl Ty.mixed (cn_55 f0 h0) rfl (fun C hP hN => (lok_all (X := x55 (fun _ => none) n_55l2 f0 (fun _ => none)) (c := (bodyOf Tryz.f55)) (kcast (by kernel_rfl : AllB (LoopsP C (x55 (fun _ => none) n_55l2 f0 (fun _ => none))) [(loopNo (bodyOf Tryz.f55) 0), (loopNo (bodyOf Tryz.f55) 1)] = AllB (LoopsP C (x55 (fun _ => none) n_55l2 f0 (fun _ => none))) (loopsIn (bodyOf Tryz.f55))) ⟨loop_at (X := x55 (fun _ => none) n_55l2 f0 (fun _ => none)) (b := (loopNo (bodyOf Tryz.f55) 0)) (by kernel_rfl) (show LoopOk C (loopNo (bodyOf Tryz.f55) 0) (sh := sh55) { cut := c54l6, alts := [.ret, .exit 0], F := n_55l2 } from fun v out h => n_55l2_pc v out h C hP hN), loop_at (X := x55 (fun _ => none) n_55l2 f0 (fun _ => none)) (b := (loopNo (bodyOf Tryz.f55) 1)) (by kernel_rfl) (show LoopOk C (loopNo (bodyOf Tryz.f55) 1) (sh := sh55) { cut := c55l10, alts := [.ret, .exit 4], F := f0 } from fun v out h => h0 v out h C hP hN), trivial⟩))) h x hx
theorem n_55l10_all : (∀ v r, n_55l10 v = some r → mn_55l10 v r) ∧ (∀ v r, n_55 v = some r → mn_55 v r) := by
 refine n_55l10.mutual_partial_correctness
  (motive_1 := mn_55l10)
  (motive_2 := mn_55)
  ?_ ?_
 ·exact (fun f0 f1 h0 h1 v r h => sn_55l10 f0 f1 h0 h1 v r (kcast (by kernel_rfl) h))
 ·exact (fun f0 h0 v r h => sn_55 f0 h0 v r (kcast (by kernel_rfl) h))
theorem n_55_ok : SigOk prog 55 sig55 n_55 := fun v r x h hx => n_55l10_all.2 v r h x hx
noncomputable def c33r2 : Cut SN := ⟨[(1, .bp 1 0), (21, .dat .bool)], [(1, .st .tagT)]⟩
noncomputable def sh33 : Shape vw := { rcut := c29z }
noncomputable def sig33 : Sig vw := { params := [.dat (.st .tagT)], rcut := c29z, rvars := [.tmp 2] }
noncomputable def n_33 (v : Tag × Unit) : Option (Int × Unit) :=
 n_27 (v.1, ()) >>= fun x1 =>
 (if decide (x1.1 > (500 : Int)) = true then
    some ((true, v.1, ()))
   else if decide (x1.2.1 > (20 : Int)) = true then
    some ((true, v.1, ()))
   else some ((decide (x1.2.2.1 > (4096 : Int)), v.1, ()))) >>= fun x2 =>
 if x2.1 = true then
  some (((3 : Int), ()))
 else n_54 (x2.2.1, ()) >>= fun x3 =>
 if (!x3.1) = true then
  some (((1 : Int), ()))
 else n_55 (x2.2.1, ()) >>= fun x4 =>
 if x4.1 = true then
  some (((5 : Int), ()))
 else some (((0 : Int), ()))
noncomputable def call33 : Caller vw := fun A fid args S k => match fid with | 27 => callPure prog sig27 n_27 A args S k | 54 => callPure prog sig54 n_54 A args S k | 55 => callPure prog sig55 n_55 A args S k | _ => none
noncomputable def x33 : Xc vw := { P := prog, n := 27, call := call33, sh := sh33, regs := fun k => match k with | 2 => some c33r2 | _ => none }
theorem call33_ok : CallerOk prog call33 := fun A fid args S dst k r h => by
 unfold call33 at h
 split at h
 ·exact callPure_ok (n_27_ok) rfl rfl h
 ·exact callPure_ok (n_54_ok) rfl rfl h
 ·exact callPure_ok (n_55_ok) rfl rfl h
 ·cases h
theorem n_33_ok : SigOk prog 33 sig33 n_33 := fun v r x h hx =>
 fn_ok (X := x33) (sig := sig33) rfl Tryz.func33 (c := bodyOf Tryz.f33) (by kernel_rfl) Tryz.ntmps33 (by kernel_rfl) (by kernel_rfl) rfl Ty.mixed call33_ok rfl (fun C hP hN => (lok_all (kcast (by kernel_rfl) trivial))) (kcast (by kernel_rfl) h) x hx
noncomputable def c35z : Cut SN := ⟨[(2, .bp 2 0), (3, .dat (.int .i64))], [(2, .st .tagT)]⟩
noncomputable def sh35 : Shape vw := { rcut := c35z }
noncomputable def sig35 : Sig vw := { params := [.dat (.st .tagT)], rcut := c35z, rvars := [.cell 2 25, .tmp 3] }
noncomputable def n_35 (v : Tag × Unit) : Option (Int × Tag × Unit) :=
 n_33 (v.1, ()) >>= fun x1 =>
 if (x1.1 != (0 : Int)) = true then
  some ((x1.1, Tag.mk (0 : Int) (0 : Int) (ByteArray.mk #[]) [] [], ()))
 else some (((0 : Int), v.1, ()))
noncomputable def call35 : Caller vw := fun A fid args S k => match fid with | 33 => callPure prog sig33 n_33 A args S k | _ => none
noncomputable def x35 : Xc vw := { P := prog, n := 12, call := call35, sh := sh35 }
theorem call35_ok : CallerOk prog call35 := fun A fid args S dst k r h => by
 unfold call35 at h
 split at h
 ·exact callPure_ok (n_33_ok) rfl rfl h
 ·cases h
theorem n_35_ok : SigOk prog 35 sig35 n_35 := fun v r x h hx =>
 fn_ok (X := x35) (sig := sig35) rfl Tryz.func35 (c := bodyOf Tryz.f35) (by kernel_rfl) Tryz.ntmps35 (by kernel_rfl) (by kernel_rfl) rfl Ty.mixed call35_ok rfl (fun C hP hN => (lok_all (kcast (by kernel_rfl) trivial))) (kcast (by kernel_rfl) h) x hx
noncomputable def c57r2 : Cut SN := ⟨[(4, .dat (.int .i64)), (18, .dat .bool)], []⟩
noncomputable def c57z : Cut SN := ⟨[(2, .dat (.int .i64)), (3, .dat .bool)], []⟩
noncomputable def sh57 : Shape vw := { rcut := c57z }
noncomputable def sig57 : Sig vw := { params := [.dat .str], rcut := c57z, rvars := [.tmp 2, .tmp 3] }
noncomputable def n_57 (v : ByteArray × Unit) : Option (Int × Bool × Unit) :=
 n_59 (v.1, ()) >>= fun x1 =>
 (if decide (x1.1 < (0 : Int)) = true then
    some ((x1.1, true, ()))
   else n_60 (x1.1, ()) >>= fun x2 =>
   some ((x1.1, !x2.1.toList == v.1.toList, ()))) >>= fun x2 =>
 if x2.2.1 = true then
  some (((0 : Int), false, ()))
 else some ((x2.1, true, ()))
noncomputable def call57 : Caller vw := fun A fid args S k => match fid with | 59 => callPure prog sig59 n_59 A args S k | 60 => callPure prog sig60 n_60 A args S k | _ => none
noncomputable def x57 : Xc vw := { P := prog, n := 20, call := call57, sh := sh57, regs := fun k => match k with | 2 => some c57r2 | _ => none }
theorem call57_ok : CallerOk prog call57 := fun A fid args S dst k r h => by
 unfold call57 at h
 split at h
 ·exact callPure_ok (n_59_ok) rfl rfl h
 ·exact callPure_ok (n_60_ok) rfl rfl h
 ·cases h
theorem n_57_ok : SigOk prog 57 sig57 n_57 := fun v r x h hx =>
 fn_ok (X := x57) (sig := sig57) rfl Tryz.func57 (c := bodyOf Tryz.f57) (by kernel_rfl) Tryz.ntmps57 (by kernel_rfl) (by kernel_rfl) rfl Ty.mixed call57_ok rfl (fun C hP hN => (lok_all (kcast (by kernel_rfl) trivial))) (kcast (by kernel_rfl) h) x hx
end Go.Proofs.YtpndmanbfleadaaGreatDoor
end
