/-
  Functions of the program as functions of Lean, and that they say what the program does. Made by a program of mine.
-/
import Derived.Test.YtdmggfegkaiaiaaGreatDoorView
import Derived.Test.YtdmggfegkaiaiaaGreatDoorTxU
import Derived.Test.YtdmggfegkaiaiaaGreatDoorLib
namespace Go.Proofs.YtdmggfegkaiaiaaGreatDoor
open Go.Awp Go.Tx
set_option linter.unusedVariables false
set_option maxRecDepth 100000

noncomputable def c145s143fz : Cut SN := { slots := [(0, .bp 100000 0)], objs := [(100000, .box (some 93) [.np 100000, .vh 3001]), (3001, .vec 5 (.int .u8))] }
noncomputable def sh145s143f : Shape vw := { exits := fun _ => { slots := [], objs := [] }, rcut := c145s143fz }
noncomputable def sig145s143f : Sig vw := { params := [.bp 100000 0], objs := [(100000, .box (some 93) [.np 100000, .vh 100001]), (100001, .vec 5 (.int .u8))], rcut := c145s143fz, rvars := [], keep := [100000, 3001] }
noncomputable def n_145s143f (v : Bool × (List Int) × Unit) : Option (Bool × (List Int) × Unit) :=
  some (true, v.2.1, ())
theorem n_145s143f_ok : SigOk Tryz.prog 145 sig145s143f n_145s143f := fun v r x h hx => by
  obtain ⟨bl, xs, u⟩ := v
  cases h; cases hx
  exact kcast (by kernel_rfl) (FnOk.copyCheck (P := Tryz.prog) (f := 145) (T := 93) (by kernel_rfl)
    (Any.Builder_copyCheck_fresh (P := Tryz.prog) (ρ := Tryz.lays105_ren) { Tryz.lays105 with } Tryz.Builder_Extra_105.toX72)
    (Any.Builder_copyCheck_used (P := Tryz.prog) (ρ := Tryz.lays105_ren) { Tryz.lays105 with } Tryz.Builder_Extra_105.toX72)
    (g := 100000) (m := 100001) (c := 3001) (l := xs.length) (bl := bl) (e := 5) (sz := 1) (rows := xs.map fun y => encR szN encN (.int .u8) y) (by decide) (by decide) (by decide))

noncomputable def c113s555cz : Cut SN := { slots := [(0, .bp 100000 0), (4, .dat (.int .i64)), (5, .nif)], objs := [(100000, .box (some 93) [.np 100000, .vh 3001]), (3001, .vec 5 (.int .u8))] }
noncomputable def sh113s555c : Shape vw := { exits := fun _ => { slots := [], objs := [] }, rcut := c113s555cz }
noncomputable def sig113s555c : Sig vw := { params := [.bp 100000 0, .dat .str], objs := [(100000, .box (some 93) [.np 100000, .vh 100001]), (100001, .vec 5 (.int .u8))], rcut := c113s555cz, rvars := [.tmp 4, .tmp 5], keep := [100000, 3001] }
noncomputable def n_113s555c (v : ByteArray × Bool × (List Int) × Unit) : Option (Int × Bool × (List Int) × Unit) :=
  n_145s143f (v.snd.fst, v.snd.snd.fst, ()) >>= fun x1 =>
  if x1.snd.fst.length + v.fst.size ≤ (4294967296 : Nat) then
    some (((↑v.fst.size : Int), x1.fst, x1.snd.fst ++ Bs.ints v.fst, ()))
  else none
noncomputable def call113s555c : Caller vw := fun A fid args S k => match fid with | 145 => callObj Tryz.prog sig145s143f n_145s143f A args S k | _ => none
noncomputable def x113s555c : Xc vw := { P := Tryz.prog, n := 19, nm := id, call := call113s555c, pre := fun _ => false, sh := sh113s555c, joins := fun _ => none, regs := fun _ => none, loops := fun _ => none }
theorem call113s555c_ok : CallerOk Tryz.prog call113s555c := fun A fid args S dst k r h => by
  unfold call113s555c at h
  split at h
  · exact callObj_ok (n_145s143f_ok) h
  · cases h
theorem n_113s555c_ok : SigOk Tryz.prog 113 sig113s555c n_113s555c := fun v r x h hx =>
  fn_ok (X := x113s555c) (sig := sig113s555c) rfl Tryz.func113 (c := bodyOf Tryz.f113) (by kernel_rfl) Tryz.ntmps113 (by kernel_rfl) (by kernel_rfl) rfl Ty.mixed call113s555c_ok rfl (fun C hP hN => (lok_all (X := x113s555c) (c := (bodyOf Tryz.f113)) (kcast (by kernel_rfl : True = AllB (LoopsP C (x113s555c)) (loopsIn (bodyOf Tryz.f113))) trivial))) (kcast (by kernel_rfl) h) x hx

noncomputable def c87z : Cut SN := { slots := [(2, .dat .bool)], objs := [] }
noncomputable def sh87 : Shape vw := { exits := fun _ => { slots := [], objs := [] }, rcut := c87z }
noncomputable def sig87 : Sig vw := { params := [.dat .str], objs := [], rcut := c87z, rvars := [.tmp 2], keep := [] }
noncomputable def n_87 (v : ByteArray × Unit) : Option (Bool × Unit) :=
  if v.1.size ≤ 9223372036854775807 then some (Lib.validD v.1.data.toList, ()) else none
theorem n_87_ok : SigOk Tryz.prog 87 sig87 n_87 := fun v r x h hx => by
  obtain ⟨s, u⟩ := v
  unfold n_87 at h
  split at h
  · rename_i hc
    simp only at hc
    cases h; cases hx
    exact kcast (by kernel_rfl) (FnOk.pure (P := Tryz.prog) (f := 87) (args := [.d (.v (.string s))]) (r := .d (.v (.bool (Lib.validD s.data.toList)))) (by kernel_rfl) fun E M w vs hg hm hv => by
      obtain ⟨v1, rfl, h1⟩ := hreps_one hv
      rw [h1.dv]
      exact (Tryz.utf8_ValidString s w hc (tabs_utf8 hg hm)).mono fun e w' ⟨he, hw⟩ => ⟨_, he, .d (.v _), hw⟩)
  · cases h

noncomputable def c86z : Cut SN := { slots := [(2, .dat .bool)], objs := [] }
noncomputable def sh86 : Shape vw := { exits := fun _ => { slots := [], objs := [] }, rcut := c86z }
noncomputable def sig86 : Sig vw := { params := [.dat .str], objs := [], rcut := c86z, rvars := [.tmp 2], keep := [] }
noncomputable def n_86 (v : ByteArray × Unit) : Option (Bool × Unit) :=
  n_87 (v.fst, ()) >>= fun x1 =>
  some ((!x1.fst, ()))
noncomputable def call86 : Caller vw := fun A fid args S k => match fid with | 87 => callPure Tryz.prog sig87 n_87 A args S k | _ => none
noncomputable def x86 : Xc vw := { P := Tryz.prog, n := 6, nm := id, call := call86, pre := fun _ => false, sh := sh86, joins := fun _ => none, regs := fun _ => none, loops := fun _ => none }
theorem call86_ok : CallerOk Tryz.prog call86 := fun A fid args S dst k r h => by
  unfold call86 at h
  split at h
  · exact callPure_ok (n_87_ok) rfl rfl h
  · cases h
theorem n_86_ok : SigOk Tryz.prog 86 sig86 n_86 := fun v r x h hx =>
  fn_ok (X := x86) (sig := sig86) rfl Tryz.func86 (c := bodyOf Tryz.f86) (by kernel_rfl) Tryz.ntmps86 (by kernel_rfl) (by kernel_rfl) rfl Ty.mixed call86_ok rfl (fun C hP hN => (lok_all (X := x86) (c := (bodyOf Tryz.f86)) (kcast (by kernel_rfl : True = AllB (LoopsP C (x86)) (loopsIn (bodyOf Tryz.f86))) trivial))) (kcast (by kernel_rfl) h) x hx

noncomputable def c117c86l2 : Cut SN := { slots := [(0, .dat (.sl .str)), (1, .fn 86 [] []), (7, .dat (.int .i64)), (8, .dat (.int .i64))], objs := [] }
noncomputable def c117c86e0 : Cut SN := { slots := [], objs := [] }
noncomputable def c117c86z : Cut SN := { slots := [(4, .dat (.int .i64))], objs := [] }
noncomputable def sh117c86 : Shape vw := { exits := fun id => match id with | 0 => c117c86e0 | _ => { slots := [], objs := [] }, rcut := c117c86z }
noncomputable def sig117c86 : Sig vw := { params := [.dat (.sl .str), .fn 86 [] []], objs := [], rcut := c117c86z, rvars := [.tmp 4], keep := [] }
noncomputable def n_117c86l2 (v : (List ByteArray) × Int × Int × Unit) : Option (((Int × Unit) ⊕ (Unit))) :=
  if decide (v.snd.snd.fst < v.snd.fst) = true then
    if (0 : Int) ≤ v.snd.snd.fst then
      v.fst[v.snd.snd.fst.toNat]? >>= fun x1 =>
      n_86 (x1, ()) >>= fun x2 =>
      if x2.fst = true then
        some (Sum.inl (v.snd.snd.fst, ()))
      else n_117c86l2 (v.fst, v.snd.fst, IntKind.i64.wrap (v.snd.snd.fst + (1 : Int)), ())
    else none
  else some (Sum.inr ())
  partial_fixpoint
noncomputable def n_117c86 (v : (List ByteArray) × Unit) : Option (Int × Unit) :=
  n_117c86l2 (v.fst, (↑v.fst.length : Int), (0 : Int), ()) >>= fun x1 => match x1 with
    | .inl y1 => some y1
    | .inr y1 => some (((-1 : Int), ()))
noncomputable def call117c86 : Caller vw := fun A fid args S k => match fid with | 86 => callPure Tryz.prog sig86 n_86 A args S k | _ => none
noncomputable def x117c86 : Xc vw := { P := Tryz.prog, n := 19, nm := id, call := call117c86, pre := fun _ => false, sh := sh117c86, joins := fun _ => none, regs := fun _ => none, loops := fun k => match k with | 2 => some { cut := c117c86l2, alts := [.ret, .exit 0], F := n_117c86l2 } | _ => none }
theorem call117c86_ok : CallerOk Tryz.prog call117c86 := fun A fid args S dst k r h => by
  unfold call117c86 at h
  split at h
  · exact callPure_ok (n_86_ok) rfl rfl h
  · cases h
theorem n_117c86l2_ok (C : Ctx) (hP : C.P = Tryz.prog) (hN : C.N = 19) : LoopOk C (loopNo (bodyOf Tryz.f117) 0) (sh := sh117c86) { cut := c117c86l2, alts := [.ret, .exit 0], F := n_117c86l2 } :=
  n_117c86l2.partial_correctness (motive := fun v out => AWpL C (loopNo (bodyOf Tryz.f117) 0) (encS vw (conc vw c117c86l2 v)) (OutQ sh117c86 [.ret, .exit 0] out)) fun F ih v out h =>
    loop_step (X := x117c86) (b := (loopNo (bodyOf Tryz.f117) 0)) hP hN Ty.mixed call117c86_ok (lok_all (X := x117c86) (c := (loopNo (bodyOf Tryz.f117) 0)) (kcast (by kernel_rfl : True = AllB (LoopsP C (x117c86)) (loopsIn (loopNo (bodyOf Tryz.f117) 0))) trivial)) ih (kcast (by kernel_rfl) h)
theorem n_117c86_ok : SigOk Tryz.prog 117 sig117c86 n_117c86 := fun v r x h hx =>
  fn_ok (X := x117c86) (sig := sig117c86) rfl Tryz.func117 (c := bodyOf Tryz.f117) (by kernel_rfl) Tryz.ntmps117 (by kernel_rfl) (by kernel_rfl) rfl Ty.mixed call117c86_ok rfl (fun C hP hN => (lok_all (X := x117c86) (c := (bodyOf Tryz.f117)) (kcast (by kernel_rfl : AllB (LoopsP C (x117c86)) [(loopNo (bodyOf Tryz.f117) 0)] = AllB (LoopsP C (x117c86)) (loopsIn (bodyOf Tryz.f117))) ⟨loop_at (X := x117c86) (b := (loopNo (bodyOf Tryz.f117) 0)) (by kernel_rfl) (n_117c86l2_ok C hP hN), trivial⟩))) (kcast (by kernel_rfl) h) x hx

noncomputable def c118c62l2 : Cut SN := { slots := [(0, .dat (.sl (.st .tagT))), (1, .fn 62 [] []), (7, .dat (.int .i64)), (8, .dat (.int .i64))], objs := [] }
noncomputable def c118c62e0 : Cut SN := { slots := [], objs := [] }
noncomputable def c118c62z : Cut SN := { slots := [(4, .dat (.int .i64))], objs := [] }
noncomputable def sh118c62 : Shape vw := { exits := fun id => match id with | 0 => c118c62e0 | _ => { slots := [], objs := [] }, rcut := c118c62z }
noncomputable def sig118c62 : Sig vw := { params := [.dat (.sl (.st .tagT)), .fn 62 [] []], objs := [], rcut := c118c62z, rvars := [.tmp 4], keep := [] }
noncomputable def c62l3 : Cut SN := { slots := [(1, .bp 1 0), (3, .mp 6), (8, .dat (.sl .str)), (9, .dat (.int .i64)), (10, .dat (.int .i64))], objs := [(1, .st .tagT), (6, .map .str .bool)] }
noncomputable def c62e0 : Cut SN := { slots := [(1, .bp 1 0)], objs := [(1, .st .tagT)] }
noncomputable def c62z : Cut SN := { slots := [(2, .dat .bool)], objs := [] }
noncomputable def sh62 : Shape vw := { exits := fun id => match id with | 0 => c62e0 | _ => { slots := [], objs := [] }, rcut := c62z }
noncomputable def sig62 : Sig vw := { params := [.dat (.st .tagT)], objs := [], rcut := c62z, rvars := [.tmp 2], keep := [] }
noncomputable def c89c62z : Cut SN := { slots := [(4, .dat .bool)], objs := [] }
noncomputable def sh89c62 : Shape vw := { exits := fun _ => { slots := [], objs := [] }, rcut := c89c62z }
noncomputable def sig89c62 : Sig vw := { params := [.dat (.sl (.st .tagT)), .fn 62 [] []], objs := [], rcut := c89c62z, rvars := [.tmp 4], keep := [] }
noncomputable def n_62l3 (v : (List ByteArray) × Int × Int × Tag × (List (ByteArray × Bool)) × Unit) : Option (((Bool × Unit) ⊕ (Tag × Unit))) :=
  if decide (v.snd.snd.fst < v.snd.fst) = true then
    if (0 : Int) ≤ v.snd.snd.fst then
      v.fst[v.snd.snd.fst.toNat]? >>= fun x1 =>
      if (Mp.get Mp.seq x1 v.snd.snd.snd.snd.fst).getD false = true then
        some (Sum.inl (true, ()))
      else n_62l3 (v.fst, v.snd.fst, IntKind.i64.wrap (v.snd.snd.fst + (1 : Int)), v.snd.snd.snd.fst, Mp.set Mp.seq x1 true v.snd.snd.snd.snd.fst, ())
    else none
  else some (Sum.inr (v.snd.snd.snd.fst, ()))
  partial_fixpoint
mutual
noncomputable def n_118c62l2 (v : (List Tag) × Int × Int × Unit) : Option (((Int × Unit) ⊕ (Unit))) :=
  if decide (v.snd.snd.fst < v.snd.fst) = true then
    if (0 : Int) ≤ v.snd.snd.fst then
      v.fst[v.snd.snd.fst.toNat]? >>= fun x1 =>
      n_62 (x1, ()) >>= fun x2 =>
      if x2.fst = true then
        some (Sum.inl (v.snd.snd.fst, ()))
      else n_118c62l2 (v.fst, v.snd.fst, IntKind.i64.wrap (v.snd.snd.fst + (1 : Int)), ())
    else none
  else some (Sum.inr ())
  partial_fixpoint
noncomputable def n_62 (v : Tag × Unit) : Option (Bool × Unit) :=
  n_62l3 (v.fst.names, (↑v.fst.names.length : Int), (0 : Int), v.fst, [], ()) >>= fun x1 => match x1 with
    | .inl y1 => some y1
    | .inr y1 => n_89c62 (y1.fst.parts, ()) >>= fun x2 =>
      some ((x2.fst, ()))
  partial_fixpoint
noncomputable def n_89c62 (v : (List Tag) × Unit) : Option (Bool × Unit) :=
  n_118c62 (v.fst, ()) >>= fun x1 =>
  some ((decide (x1.fst ≥ (0 : Int)), ()))
  partial_fixpoint
noncomputable def n_118c62 (v : (List Tag) × Unit) : Option (Int × Unit) :=
  n_118c62l2 (v.fst, (↑v.fst.length : Int), (0 : Int), ()) >>= fun x1 => match x1 with
    | .inl y1 => some y1
    | .inr y1 => some (((-1 : Int), ()))
  partial_fixpoint
end
noncomputable def call118c62 (n_62l3 : (List ByteArray) × Int × Int × Tag × (List (ByteArray × Bool)) × Unit → Option (((Bool × Unit) ⊕ (Tag × Unit)))) (n_118c62l2 : (List Tag) × Int × Int × Unit → Option (((Int × Unit) ⊕ (Unit)))) (n_62 : Tag × Unit → Option (Bool × Unit)) (n_89c62 : (List Tag) × Unit → Option (Bool × Unit)) (n_118c62 : (List Tag) × Unit → Option (Int × Unit)) : Caller vw := fun A fid args S k => match fid with | 62 => callPure Tryz.prog sig62 n_62 A args S k | _ => none
noncomputable def x118c62 (n_62l3 : (List ByteArray) × Int × Int × Tag × (List (ByteArray × Bool)) × Unit → Option (((Bool × Unit) ⊕ (Tag × Unit)))) (n_118c62l2 : (List Tag) × Int × Int × Unit → Option (((Int × Unit) ⊕ (Unit)))) (n_62 : Tag × Unit → Option (Bool × Unit)) (n_89c62 : (List Tag) × Unit → Option (Bool × Unit)) (n_118c62 : (List Tag) × Unit → Option (Int × Unit)) : Xc vw := { P := Tryz.prog, n := 19, nm := id, call := call118c62 n_62l3 n_118c62l2 n_62 n_89c62 n_118c62, pre := fun _ => false, sh := sh118c62, joins := fun _ => none, regs := fun _ => none, loops := fun k => match k with | 2 => some { cut := c118c62l2, alts := [.ret, .exit 0], F := n_118c62l2 } | _ => none }
noncomputable def call62 (n_62l3 : (List ByteArray) × Int × Int × Tag × (List (ByteArray × Bool)) × Unit → Option (((Bool × Unit) ⊕ (Tag × Unit)))) (n_118c62l2 : (List Tag) × Int × Int × Unit → Option (((Int × Unit) ⊕ (Unit)))) (n_62 : Tag × Unit → Option (Bool × Unit)) (n_89c62 : (List Tag) × Unit → Option (Bool × Unit)) (n_118c62 : (List Tag) × Unit → Option (Int × Unit)) : Caller vw := fun A fid args S k => match fid with | 89 => callPure Tryz.prog sig89c62 n_89c62 A args S k | _ => none
noncomputable def x62 (n_62l3 : (List ByteArray) × Int × Int × Tag × (List (ByteArray × Bool)) × Unit → Option (((Bool × Unit) ⊕ (Tag × Unit)))) (n_118c62l2 : (List Tag) × Int × Int × Unit → Option (((Int × Unit) ⊕ (Unit)))) (n_62 : Tag × Unit → Option (Bool × Unit)) (n_89c62 : (List Tag) × Unit → Option (Bool × Unit)) (n_118c62 : (List Tag) × Unit → Option (Int × Unit)) : Xc vw := { P := Tryz.prog, n := 23, nm := id, call := call62 n_62l3 n_118c62l2 n_62 n_89c62 n_118c62, pre := fun _ => false, sh := sh62, joins := fun _ => none, regs := fun _ => none, loops := fun k => match k with | 3 => some { cut := c62l3, alts := [.ret, .exit 0], F := n_62l3 } | _ => none }
noncomputable def call89c62 (n_62l3 : (List ByteArray) × Int × Int × Tag × (List (ByteArray × Bool)) × Unit → Option (((Bool × Unit) ⊕ (Tag × Unit)))) (n_118c62l2 : (List Tag) × Int × Int × Unit → Option (((Int × Unit) ⊕ (Unit)))) (n_62 : Tag × Unit → Option (Bool × Unit)) (n_89c62 : (List Tag) × Unit → Option (Bool × Unit)) (n_118c62 : (List Tag) × Unit → Option (Int × Unit)) : Caller vw := fun A fid args S k => match fid with | 118 => callPure Tryz.prog sig118c62 n_118c62 A args S k | _ => none
noncomputable def x89c62 (n_62l3 : (List ByteArray) × Int × Int × Tag × (List (ByteArray × Bool)) × Unit → Option (((Bool × Unit) ⊕ (Tag × Unit)))) (n_118c62l2 : (List Tag) × Int × Int × Unit → Option (((Int × Unit) ⊕ (Unit)))) (n_62 : Tag × Unit → Option (Bool × Unit)) (n_89c62 : (List Tag) × Unit → Option (Bool × Unit)) (n_118c62 : (List Tag) × Unit → Option (Int × Unit)) : Xc vw := { P := Tryz.prog, n := 9, nm := id, call := call89c62 n_62l3 n_118c62l2 n_62 n_89c62 n_118c62, pre := fun _ => false, sh := sh89c62, joins := fun _ => none, regs := fun _ => none, loops := fun _ => none }
abbrev mn_62l3 (v : (List ByteArray) × Int × Int × Tag × (List (ByteArray × Bool)) × Unit) (r : ((Bool × Unit) ⊕ (Tag × Unit))) : Prop := (fun v out => ∀ C : Ctx, C.P = Tryz.prog → C.N = 23 → AWpL C (loopNo (bodyOf Tryz.f62) 0) (encS vw (conc vw c62l3 v)) (OutQ sh62 [.ret, .exit 0] out)) v r
theorem cn_62l3 (f0 : (List ByteArray) × Int × Int × Tag × (List (ByteArray × Bool)) × Unit → Option (((Bool × Unit) ⊕ (Tag × Unit)))) (h0 : ∀ v r, f0 v = some r → mn_62l3 v r) : CallerOk Tryz.prog (x62 f0 (fun _ => none) (fun _ => none) (fun _ => none) (fun _ => none)).call := (by
        intro A fid args S dst k r h
        unfold x62 call62 at h
        simp only at h
        split at h
        · exact callPure_ok ((fun v r x h hx => by cases h)) rfl rfl h
        · cases h)
theorem sn_62l3 (f0 : (List ByteArray) × Int × Int × Tag × (List (ByteArray × Bool)) × Unit → Option (((Bool × Unit) ⊕ (Tag × Unit)))) (h0 : ∀ v r, f0 v = some r → mn_62l3 v r) (v : (List ByteArray) × Int × Int × Tag × (List (ByteArray × Bool)) × Unit) (r : ((Bool × Unit) ⊕ (Tag × Unit))) (h : exL (x62 f0 (fun _ => none) (fun _ => none) (fun _ => none) (fun _ => none)) (loopNo (bodyOf Tryz.f62) 0) c62l3 [.ret, .exit 0] f0 v = some r) : mn_62l3 v r := fun C hP hN => loop_step (X := x62 f0 (fun _ => none) (fun _ => none) (fun _ => none) (fun _ => none)) (b := (loopNo (bodyOf Tryz.f62) 0)) hP hN Ty.mixed (cn_62l3 f0 h0) (lok_all (X := x62 f0 (fun _ => none) (fun _ => none) (fun _ => none) (fun _ => none)) (c := (loopNo (bodyOf Tryz.f62) 0)) (kcast (by kernel_rfl : True = AllB (LoopsP C (x62 f0 (fun _ => none) (fun _ => none) (fun _ => none) (fun _ => none))) (loopsIn (loopNo (bodyOf Tryz.f62) 0))) trivial)) (cut := c62l3) (alts := [.ret, .exit 0]) (F := f0) (fun v out h => h0 v out h C hP hN) h
theorem n_62l3_pc : ∀ v out, n_62l3 v = some out → (fun v out => ∀ C : Ctx, C.P = Tryz.prog → C.N = 23 → AWpL C (loopNo (bodyOf Tryz.f62) 0) (encS vw (conc vw c62l3 v)) (OutQ sh62 [.ret, .exit 0] out)) v out := (n_62l3.partial_correctness (motive := mn_62l3) (fun f0 h0 v r h => sn_62l3 f0 h0 v r (kcast (by kernel_rfl) h)))
abbrev mn_118c62l2 (v : (List Tag) × Int × Int × Unit) (r : ((Int × Unit) ⊕ (Unit))) : Prop := (fun v out => ∀ C : Ctx, C.P = Tryz.prog → C.N = 19 → AWpL C (loopNo (bodyOf Tryz.f118) 0) (encS vw (conc vw c118c62l2 v)) (OutQ sh118c62 [.ret, .exit 0] out)) v r
abbrev mn_62 (v : Tag × Unit) (r : Bool × Unit) : Prop := (fun v r => ∀ x, resV Tryz.prog sig62 r = some x → FnOk Tryz.prog 62 (encL vw (startS sig62 v).len (startOs sig62 v).1) (encOs (startS sig62 v).len (startS sig62 v).own) (encV vw (conc vw sig62.rcut r).len x) (encOs (conc vw sig62.rcut r).len (kept sig62 r))) v r
abbrev mn_89c62 (v : (List Tag) × Unit) (r : Bool × Unit) : Prop := (fun v r => ∀ x, resV Tryz.prog sig89c62 r = some x → FnOk Tryz.prog 89 (encL vw (startS sig89c62 v).len (startOs sig89c62 v).1) (encOs (startS sig89c62 v).len (startS sig89c62 v).own) (encV vw (conc vw sig89c62.rcut r).len x) (encOs (conc vw sig89c62.rcut r).len (kept sig89c62 r))) v r
abbrev mn_118c62 (v : (List Tag) × Unit) (r : Int × Unit) : Prop := (fun v r => ∀ x, resV Tryz.prog sig118c62 r = some x → FnOk Tryz.prog 118 (encL vw (startS sig118c62 v).len (startOs sig118c62 v).1) (encOs (startS sig118c62 v).len (startS sig118c62 v).own) (encV vw (conc vw sig118c62.rcut r).len x) (encOs (conc vw sig118c62.rcut r).len (kept sig118c62 r))) v r
theorem cn_118c62l2 (f0 : (List Tag) × Int × Int × Unit → Option (((Int × Unit) ⊕ (Unit)))) (f1 : Tag × Unit → Option (Bool × Unit)) (h0 : ∀ v r, f0 v = some r → mn_118c62l2 v r) (h1 : ∀ v r, f1 v = some r → mn_62 v r) : CallerOk Tryz.prog (x118c62 (fun _ => none) f0 f1 (fun _ => none) (fun _ => none)).call := (by
        intro A fid args S dst k r h
        unfold x118c62 call118c62 at h
        simp only at h
        split at h
        · exact callPure_ok ((fun v r x h hx => h1 v r h x hx)) rfl rfl h
        · cases h)
theorem sn_118c62l2 (f0 : (List Tag) × Int × Int × Unit → Option (((Int × Unit) ⊕ (Unit)))) (f1 : Tag × Unit → Option (Bool × Unit)) (h0 : ∀ v r, f0 v = some r → mn_118c62l2 v r) (h1 : ∀ v r, f1 v = some r → mn_62 v r) (v : (List Tag) × Int × Int × Unit) (r : ((Int × Unit) ⊕ (Unit))) (h : exL (x118c62 (fun _ => none) f0 f1 (fun _ => none) (fun _ => none)) (loopNo (bodyOf Tryz.f118) 0) c118c62l2 [.ret, .exit 0] f0 v = some r) : mn_118c62l2 v r := fun C hP hN => loop_step (X := x118c62 (fun _ => none) f0 f1 (fun _ => none) (fun _ => none)) (b := (loopNo (bodyOf Tryz.f118) 0)) hP hN Ty.mixed (cn_118c62l2 f0 f1 h0 h1) (lok_all (X := x118c62 (fun _ => none) f0 f1 (fun _ => none) (fun _ => none)) (c := (loopNo (bodyOf Tryz.f118) 0)) (kcast (by kernel_rfl : True = AllB (LoopsP C (x118c62 (fun _ => none) f0 f1 (fun _ => none) (fun _ => none))) (loopsIn (loopNo (bodyOf Tryz.f118) 0))) trivial)) (cut := c118c62l2) (alts := [.ret, .exit 0]) (F := f0) (fun v out h => h0 v out h C hP hN) h
theorem cn_62 (f0 : (List Tag) × Unit → Option (Bool × Unit)) (h0 : ∀ v r, f0 v = some r → mn_89c62 v r) : CallerOk Tryz.prog (x62 n_62l3 (fun _ => none) (fun _ => none) f0 (fun _ => none)).call := (by
        intro A fid args S dst k r h
        unfold x62 call62 at h
        simp only at h
        split at h
        · exact callPure_ok ((fun v r x h hx => h0 v r h x hx)) rfl rfl h
        · cases h)
theorem sn_62 (f0 : (List Tag) × Unit → Option (Bool × Unit)) (h0 : ∀ v r, f0 v = some r → mn_89c62 v r) (v : Tag × Unit) (r : Bool × Unit) (h : exF (x62 n_62l3 (fun _ => none) (fun _ => none) f0 (fun _ => none)) sig62 rfl (bodyOf Tryz.f62) v = some r) : mn_62 v r := fun x hx => fn_ok (X := x62 n_62l3 (fun _ => none) (fun _ => none) f0 (fun _ => none)) (sig := sig62) rfl Tryz.func62 (c := bodyOf Tryz.f62) (by kernel_rfl) Tryz.ntmps62 (by kernel_rfl) (by kernel_rfl) rfl Ty.mixed (cn_62 f0 h0) rfl (fun C hP hN => (lok_all (X := x62 n_62l3 (fun _ => none) (fun _ => none) f0 (fun _ => none)) (c := (bodyOf Tryz.f62)) (kcast (by kernel_rfl : AllB (LoopsP C (x62 n_62l3 (fun _ => none) (fun _ => none) f0 (fun _ => none))) [(loopNo (bodyOf Tryz.f62) 0)] = AllB (LoopsP C (x62 n_62l3 (fun _ => none) (fun _ => none) f0 (fun _ => none))) (loopsIn (bodyOf Tryz.f62))) ⟨loop_at (X := x62 n_62l3 (fun _ => none) (fun _ => none) f0 (fun _ => none)) (b := (loopNo (bodyOf Tryz.f62) 0)) (by kernel_rfl) (show LoopOk C (loopNo (bodyOf Tryz.f62) 0) (sh := sh62) { cut := c62l3, alts := [.ret, .exit 0], F := n_62l3 } from fun v out h => n_62l3_pc v out h C hP hN), trivial⟩))) h x hx
theorem cn_89c62 (f0 : (List Tag) × Unit → Option (Int × Unit)) (h0 : ∀ v r, f0 v = some r → mn_118c62 v r) : CallerOk Tryz.prog (x89c62 (fun _ => none) (fun _ => none) (fun _ => none) (fun _ => none) f0).call := (by
        intro A fid args S dst k r h
        unfold x89c62 call89c62 at h
        simp only at h
        split at h
        · exact callPure_ok ((fun v r x h hx => h0 v r h x hx)) rfl rfl h
        · cases h)
theorem sn_89c62 (f0 : (List Tag) × Unit → Option (Int × Unit)) (h0 : ∀ v r, f0 v = some r → mn_118c62 v r) (v : (List Tag) × Unit) (r : Bool × Unit) (h : exF (x89c62 (fun _ => none) (fun _ => none) (fun _ => none) (fun _ => none) f0) sig89c62 rfl (bodyOf Tryz.f89) v = some r) : mn_89c62 v r := fun x hx => fn_ok (X := x89c62 (fun _ => none) (fun _ => none) (fun _ => none) (fun _ => none) f0) (sig := sig89c62) rfl Tryz.func89 (c := bodyOf Tryz.f89) (by kernel_rfl) Tryz.ntmps89 (by kernel_rfl) (by kernel_rfl) rfl Ty.mixed (cn_89c62 f0 h0) rfl (fun C hP hN => (lok_all (X := x89c62 (fun _ => none) (fun _ => none) (fun _ => none) (fun _ => none) f0) (c := (bodyOf Tryz.f89)) (kcast (by kernel_rfl : True = AllB (LoopsP C (x89c62 (fun _ => none) (fun _ => none) (fun _ => none) (fun _ => none) f0)) (loopsIn (bodyOf Tryz.f89))) trivial))) h x hx
theorem cn_118c62 (f0 : (List Tag) × Int × Int × Unit → Option (((Int × Unit) ⊕ (Unit)))) (h0 : ∀ v r, f0 v = some r → mn_118c62l2 v r) : CallerOk Tryz.prog (x118c62 (fun _ => none) f0 (fun _ => none) (fun _ => none) (fun _ => none)).call := (by
        intro A fid args S dst k r h
        unfold x118c62 call118c62 at h
        simp only at h
        split at h
        · exact callPure_ok ((fun v r x h hx => by cases h)) rfl rfl h
        · cases h)
theorem sn_118c62 (f0 : (List Tag) × Int × Int × Unit → Option (((Int × Unit) ⊕ (Unit)))) (h0 : ∀ v r, f0 v = some r → mn_118c62l2 v r) (v : (List Tag) × Unit) (r : Int × Unit) (h : exF (x118c62 (fun _ => none) f0 (fun _ => none) (fun _ => none) (fun _ => none)) sig118c62 rfl (bodyOf Tryz.f118) v = some r) : mn_118c62 v r := fun x hx => fn_ok (X := x118c62 (fun _ => none) f0 (fun _ => none) (fun _ => none) (fun _ => none)) (sig := sig118c62) rfl Tryz.func118 (c := bodyOf Tryz.f118) (by kernel_rfl) Tryz.ntmps118 (by kernel_rfl) (by kernel_rfl) rfl Ty.mixed (cn_118c62 f0 h0) rfl (fun C hP hN => (lok_all (X := x118c62 (fun _ => none) f0 (fun _ => none) (fun _ => none) (fun _ => none)) (c := (bodyOf Tryz.f118)) (kcast (by kernel_rfl : AllB (LoopsP C (x118c62 (fun _ => none) f0 (fun _ => none) (fun _ => none) (fun _ => none))) [(loopNo (bodyOf Tryz.f118) 0)] = AllB (LoopsP C (x118c62 (fun _ => none) f0 (fun _ => none) (fun _ => none) (fun _ => none))) (loopsIn (bodyOf Tryz.f118))) ⟨loop_at (X := x118c62 (fun _ => none) f0 (fun _ => none) (fun _ => none) (fun _ => none)) (b := (loopNo (bodyOf Tryz.f118) 0)) (by kernel_rfl) (show LoopOk C (loopNo (bodyOf Tryz.f118) 0) (sh := sh118c62) { cut := c118c62l2, alts := [.ret, .exit 0], F := f0 } from fun v out h => h0 v out h C hP hN), trivial⟩))) h x hx
theorem n_118c62l2_all : (∀ v r, n_118c62l2 v = some r → mn_118c62l2 v r) ∧ (∀ v r, n_62 v = some r → mn_62 v r) ∧ (∀ v r, n_89c62 v = some r → mn_89c62 v r) ∧ (∀ v r, n_118c62 v = some r → mn_118c62 v r) := by
  refine n_118c62l2.mutual_partial_correctness
    (motive_1 := mn_118c62l2)
    (motive_2 := mn_62)
    (motive_3 := mn_89c62)
    (motive_4 := mn_118c62)
    ?_ ?_ ?_ ?_
  · exact (fun f0 f1 h0 h1 v r h => sn_118c62l2 f0 f1 h0 h1 v r (kcast (by kernel_rfl) h))
  · exact (fun f0 h0 v r h => sn_62 f0 h0 v r (kcast (by kernel_rfl) h))
  · exact (fun f0 h0 v r h => sn_89c62 f0 h0 v r (kcast (by kernel_rfl) h))
  · exact (fun f0 h0 v r h => sn_118c62 f0 h0 v r (kcast (by kernel_rfl) h))
theorem n_118c62l2_pc : ∀ v out, n_118c62l2 v = some out → (fun v out => ∀ C : Ctx, C.P = Tryz.prog → C.N = 19 → AWpL C (loopNo (bodyOf Tryz.f118) 0) (encS vw (conc vw c118c62l2 v)) (OutQ sh118c62 [.ret, .exit 0] out)) v out := n_118c62l2_all.1
theorem n_62_ok : SigOk Tryz.prog 62 sig62 n_62 := fun v r x h hx => n_118c62l2_all.2.1 v r h x hx
theorem n_89c62_ok : SigOk Tryz.prog 89 sig89c62 n_89c62 := fun v r x h hx => n_118c62l2_all.2.2.1 v r h x hx
theorem n_118c62_ok : SigOk Tryz.prog 118 sig118c62 n_118c62 := fun v r x h hx => n_118c62l2_all.2.2.2 v r h x hx

noncomputable def c88c86z : Cut SN := { slots := [(4, .dat .bool)], objs := [] }
noncomputable def sh88c86 : Shape vw := { exits := fun _ => { slots := [], objs := [] }, rcut := c88c86z }
noncomputable def sig88c86 : Sig vw := { params := [.dat (.sl .str), .fn 86 [] []], objs := [], rcut := c88c86z, rvars := [.tmp 4], keep := [] }
noncomputable def n_88c86 (v : (List ByteArray) × Unit) : Option (Bool × Unit) :=
  n_117c86 (v.fst, ()) >>= fun x1 =>
  some ((decide (x1.fst ≥ (0 : Int)), ()))
noncomputable def call88c86 : Caller vw := fun A fid args S k => match fid with | 117 => callPure Tryz.prog sig117c86 n_117c86 A args S k | _ => none
noncomputable def x88c86 : Xc vw := { P := Tryz.prog, n := 9, nm := id, call := call88c86, pre := fun _ => false, sh := sh88c86, joins := fun _ => none, regs := fun _ => none, loops := fun _ => none }
theorem call88c86_ok : CallerOk Tryz.prog call88c86 := fun A fid args S dst k r h => by
  unfold call88c86 at h
  split at h
  · exact callPure_ok (n_117c86_ok) rfl rfl h
  · cases h
theorem n_88c86_ok : SigOk Tryz.prog 88 sig88c86 n_88c86 := fun v r x h hx =>
  fn_ok (X := x88c86) (sig := sig88c86) rfl Tryz.func88 (c := bodyOf Tryz.f88) (by kernel_rfl) Tryz.ntmps88 (by kernel_rfl) (by kernel_rfl) rfl Ty.mixed call88c86_ok rfl (fun C hP hN => (lok_all (X := x88c86) (c := (bodyOf Tryz.f88)) (kcast (by kernel_rfl : True = AllB (LoopsP C (x88c86)) (loopsIn (bodyOf Tryz.f88))) trivial))) (kcast (by kernel_rfl) h) x hx

noncomputable def c118c90l2 : Cut SN := { slots := [(0, .dat (.sl (.st .tagT))), (1, .fn 90 [] []), (7, .dat (.int .i64)), (8, .dat (.int .i64))], objs := [] }
noncomputable def c118c90e0 : Cut SN := { slots := [], objs := [] }
noncomputable def c118c90z : Cut SN := { slots := [(4, .dat (.int .i64))], objs := [] }
noncomputable def sh118c90 : Shape vw := { exits := fun id => match id with | 0 => c118c90e0 | _ => { slots := [], objs := [] }, rcut := c118c90z }
noncomputable def sig118c90 : Sig vw := { params := [.dat (.sl (.st .tagT)), .fn 90 [] []], objs := [], rcut := c118c90z, rvars := [.tmp 4], keep := [] }
noncomputable def c61r1 : Cut SN := { slots := [(1, .bp 1 0), (52, .dat .bool)], objs := [(1, .st .tagT)] }
noncomputable def c61r3 : Cut SN := { slots := [(1, .bp 1 0), (75, .dat .bool)], objs := [(1, .st .tagT)] }
noncomputable def c61r6 : Cut SN := { slots := [(2, .dat .bool)], objs := [] }
noncomputable def c61z : Cut SN := { slots := [(2, .dat .bool)], objs := [] }
noncomputable def sh61 : Shape vw := { exits := fun _ => { slots := [], objs := [] }, rcut := c61z }
noncomputable def sig61 : Sig vw := { params := [.dat (.st .tagT)], objs := [], rcut := c61z, rvars := [.tmp 2], keep := [] }
noncomputable def c89c90z : Cut SN := { slots := [(4, .dat .bool)], objs := [] }
noncomputable def sh89c90 : Shape vw := { exits := fun _ => { slots := [], objs := [] }, rcut := c89c90z }
noncomputable def sig89c90 : Sig vw := { params := [.dat (.sl (.st .tagT)), .fn 90 [] []], objs := [], rcut := c89c90z, rvars := [.tmp 4], keep := [] }
noncomputable def c90z : Cut SN := { slots := [(2, .dat .bool)], objs := [] }
noncomputable def sh90 : Shape vw := { exits := fun _ => { slots := [], objs := [] }, rcut := c90z }
noncomputable def sig90 : Sig vw := { params := [.dat (.st .tagT)], objs := [], rcut := c90z, rvars := [.tmp 2], keep := [] }
mutual
noncomputable def n_118c90l2 (v : (List Tag) × Int × Int × Unit) : Option (((Int × Unit) ⊕ (Unit))) :=
  if decide (v.snd.snd.fst < v.snd.fst) = true then
    if (0 : Int) ≤ v.snd.snd.fst then
      v.fst[v.snd.snd.fst.toNat]? >>= fun x1 =>
      n_90 (x1, ()) >>= fun x2 =>
      if x2.fst = true then
        some (Sum.inl (v.snd.snd.fst, ()))
      else n_118c90l2 (v.fst, v.snd.fst, IntKind.i64.wrap (v.snd.snd.fst + (1 : Int)), ())
    else none
  else some (Sum.inr ())
  partial_fixpoint
noncomputable def n_90 (v : Tag × Unit) : Option (Bool × Unit) :=
  n_61 (v.fst, ()) >>= fun x1 =>
  some ((!x1.fst, ()))
  partial_fixpoint
noncomputable def n_61 (v : Tag × Unit) : Option (Bool × Unit) :=
  (if decide (v.fst.kind < (0 : Int)) = true then
      some ((true, v.fst, ()))
    else if decide (v.fst.kind > (6 : Int)) = true then
      some ((true, v.fst, ()))
    else if (v.fst.kind != (3 : Int)) = true then
      if (v.fst.n != (0 : Int)) = true then
        some ((true, v.fst, ()))
      else if decide (v.fst.n < (-9007199254740992 : Int)) = true then
        some ((true, v.fst, ()))
      else if decide (v.fst.n > (9007199254740992 : Int)) = true then
        some ((true, v.fst, ()))
      else if (v.fst.kind != (4 : Int)) = true then
        if (!v.fst.text.toList == (ByteArray.mk #[]).toList) = true then
          some ((true, v.fst, ()))
        else if decide (v.fst.kind < (5 : Int)) = true then
          some ((decide ((↑v.fst.parts.length : Int) > (0 : Int)), v.fst, ()))
        else some ((false, v.fst, ()))
      else if decide (v.fst.kind < (5 : Int)) = true then
        some ((decide ((↑v.fst.parts.length : Int) > (0 : Int)), v.fst, ()))
      else some ((false, v.fst, ()))
    else if decide (v.fst.n < (-9007199254740992 : Int)) = true then
      some ((true, v.fst, ()))
    else if decide (v.fst.n > (9007199254740992 : Int)) = true then
      some ((true, v.fst, ()))
    else if (v.fst.kind != (4 : Int)) = true then
      if (!v.fst.text.toList == (ByteArray.mk #[]).toList) = true then
        some ((true, v.fst, ()))
      else if decide (v.fst.kind < (5 : Int)) = true then
        some ((decide ((↑v.fst.parts.length : Int) > (0 : Int)), v.fst, ()))
      else some ((false, v.fst, ()))
    else if decide (v.fst.kind < (5 : Int)) = true then
      some ((decide ((↑v.fst.parts.length : Int) > (0 : Int)), v.fst, ()))
    else some ((false, v.fst, ()))) >>= fun x1 =>
  if x1.fst = true then
    some ((false, ()))
  else (if (x1.snd.fst.kind == (6 : Int)) = true then
      if ((↑x1.snd.fst.names.length : Int) != (↑x1.snd.fst.parts.length : Int)) = true then
        some ((true, x1.snd.fst, ()))
      else if (x1.snd.fst.kind != (6 : Int)) = true then
        some ((decide ((↑x1.snd.fst.names.length : Int) > (0 : Int)), x1.snd.fst, ()))
      else some ((false, x1.snd.fst, ()))
    else if (x1.snd.fst.kind != (6 : Int)) = true then
      some ((decide ((↑x1.snd.fst.names.length : Int) > (0 : Int)), x1.snd.fst, ()))
    else some ((false, x1.snd.fst, ()))) >>= fun x2 =>
  if x2.fst = true then
    some ((false, ()))
  else (n_86 (x2.snd.fst.text, ()) >>= fun x3 =>
    if (!x3.fst) = true then
      n_88c86 (x2.snd.fst.names, ()) >>= fun x4 =>
      if (!x4.fst) = true then
        n_89c90 (x2.snd.fst.parts, ()) >>= fun x5 =>
        some ((!x5.fst, ()))
      else some ((false, ()))
    else some ((false, ()))) >>= fun x3 =>
  some ((x3.fst, ()))
  partial_fixpoint
noncomputable def n_89c90 (v : (List Tag) × Unit) : Option (Bool × Unit) :=
  n_118c90 (v.fst, ()) >>= fun x1 =>
  some ((decide (x1.fst ≥ (0 : Int)), ()))
  partial_fixpoint
noncomputable def n_118c90 (v : (List Tag) × Unit) : Option (Int × Unit) :=
  n_118c90l2 (v.fst, (↑v.fst.length : Int), (0 : Int), ()) >>= fun x1 => match x1 with
    | .inl y1 => some y1
    | .inr y1 => some (((-1 : Int), ()))
  partial_fixpoint
end
noncomputable def call118c90 (n_118c90l2 : (List Tag) × Int × Int × Unit → Option (((Int × Unit) ⊕ (Unit)))) (n_90 : Tag × Unit → Option (Bool × Unit)) (n_61 : Tag × Unit → Option (Bool × Unit)) (n_89c90 : (List Tag) × Unit → Option (Bool × Unit)) (n_118c90 : (List Tag) × Unit → Option (Int × Unit)) : Caller vw := fun A fid args S k => match fid with | 90 => callPure Tryz.prog sig90 n_90 A args S k | _ => none
noncomputable def x118c90 (n_118c90l2 : (List Tag) × Int × Int × Unit → Option (((Int × Unit) ⊕ (Unit)))) (n_90 : Tag × Unit → Option (Bool × Unit)) (n_61 : Tag × Unit → Option (Bool × Unit)) (n_89c90 : (List Tag) × Unit → Option (Bool × Unit)) (n_118c90 : (List Tag) × Unit → Option (Int × Unit)) : Xc vw := { P := Tryz.prog, n := 19, nm := id, call := call118c90 n_118c90l2 n_90 n_61 n_89c90 n_118c90, pre := fun _ => false, sh := sh118c90, joins := fun _ => none, regs := fun _ => none, loops := fun k => match k with | 2 => some { cut := c118c90l2, alts := [.ret, .exit 0], F := n_118c90l2 } | _ => none }
noncomputable def call61 (n_118c90l2 : (List Tag) × Int × Int × Unit → Option (((Int × Unit) ⊕ (Unit)))) (n_90 : Tag × Unit → Option (Bool × Unit)) (n_61 : Tag × Unit → Option (Bool × Unit)) (n_89c90 : (List Tag) × Unit → Option (Bool × Unit)) (n_118c90 : (List Tag) × Unit → Option (Int × Unit)) : Caller vw := fun A fid args S k => match fid with | 86 => callPure Tryz.prog sig86 n_86 A args S k | 88 => callPure Tryz.prog sig88c86 n_88c86 A args S k | 89 => callPure Tryz.prog sig89c90 n_89c90 A args S k | _ => none
noncomputable def x61 (n_118c90l2 : (List Tag) × Int × Int × Unit → Option (((Int × Unit) ⊕ (Unit)))) (n_90 : Tag × Unit → Option (Bool × Unit)) (n_61 : Tag × Unit → Option (Bool × Unit)) (n_89c90 : (List Tag) × Unit → Option (Bool × Unit)) (n_118c90 : (List Tag) × Unit → Option (Int × Unit)) : Xc vw := { P := Tryz.prog, n := 94, nm := id, call := call61 n_118c90l2 n_90 n_61 n_89c90 n_118c90, pre := fun _ => false, sh := sh61, joins := fun _ => none, regs := fun k => match k with | 1 => some c61r1 | 3 => some c61r3 | 6 => some c61r6 | _ => none, loops := fun _ => none }
noncomputable def call89c90 (n_118c90l2 : (List Tag) × Int × Int × Unit → Option (((Int × Unit) ⊕ (Unit)))) (n_90 : Tag × Unit → Option (Bool × Unit)) (n_61 : Tag × Unit → Option (Bool × Unit)) (n_89c90 : (List Tag) × Unit → Option (Bool × Unit)) (n_118c90 : (List Tag) × Unit → Option (Int × Unit)) : Caller vw := fun A fid args S k => match fid with | 118 => callPure Tryz.prog sig118c90 n_118c90 A args S k | _ => none
noncomputable def x89c90 (n_118c90l2 : (List Tag) × Int × Int × Unit → Option (((Int × Unit) ⊕ (Unit)))) (n_90 : Tag × Unit → Option (Bool × Unit)) (n_61 : Tag × Unit → Option (Bool × Unit)) (n_89c90 : (List Tag) × Unit → Option (Bool × Unit)) (n_118c90 : (List Tag) × Unit → Option (Int × Unit)) : Xc vw := { P := Tryz.prog, n := 9, nm := id, call := call89c90 n_118c90l2 n_90 n_61 n_89c90 n_118c90, pre := fun _ => false, sh := sh89c90, joins := fun _ => none, regs := fun _ => none, loops := fun _ => none }
noncomputable def call90 (n_118c90l2 : (List Tag) × Int × Int × Unit → Option (((Int × Unit) ⊕ (Unit)))) (n_90 : Tag × Unit → Option (Bool × Unit)) (n_61 : Tag × Unit → Option (Bool × Unit)) (n_89c90 : (List Tag) × Unit → Option (Bool × Unit)) (n_118c90 : (List Tag) × Unit → Option (Int × Unit)) : Caller vw := fun A fid args S k => match fid with | 61 => callPure Tryz.prog sig61 n_61 A args S k | _ => none
noncomputable def x90 (n_118c90l2 : (List Tag) × Int × Int × Unit → Option (((Int × Unit) ⊕ (Unit)))) (n_90 : Tag × Unit → Option (Bool × Unit)) (n_61 : Tag × Unit → Option (Bool × Unit)) (n_89c90 : (List Tag) × Unit → Option (Bool × Unit)) (n_118c90 : (List Tag) × Unit → Option (Int × Unit)) : Xc vw := { P := Tryz.prog, n := 6, nm := id, call := call90 n_118c90l2 n_90 n_61 n_89c90 n_118c90, pre := fun _ => false, sh := sh90, joins := fun _ => none, regs := fun _ => none, loops := fun _ => none }
abbrev mn_118c90l2 (v : (List Tag) × Int × Int × Unit) (r : ((Int × Unit) ⊕ (Unit))) : Prop := (fun v out => ∀ C : Ctx, C.P = Tryz.prog → C.N = 19 → AWpL C (loopNo (bodyOf Tryz.f118) 0) (encS vw (conc vw c118c90l2 v)) (OutQ sh118c90 [.ret, .exit 0] out)) v r
abbrev mn_90 (v : Tag × Unit) (r : Bool × Unit) : Prop := (fun v r => ∀ x, resV Tryz.prog sig90 r = some x → FnOk Tryz.prog 90 (encL vw (startS sig90 v).len (startOs sig90 v).1) (encOs (startS sig90 v).len (startS sig90 v).own) (encV vw (conc vw sig90.rcut r).len x) (encOs (conc vw sig90.rcut r).len (kept sig90 r))) v r
abbrev mn_61 (v : Tag × Unit) (r : Bool × Unit) : Prop := (fun v r => ∀ x, resV Tryz.prog sig61 r = some x → FnOk Tryz.prog 61 (encL vw (startS sig61 v).len (startOs sig61 v).1) (encOs (startS sig61 v).len (startS sig61 v).own) (encV vw (conc vw sig61.rcut r).len x) (encOs (conc vw sig61.rcut r).len (kept sig61 r))) v r
abbrev mn_89c90 (v : (List Tag) × Unit) (r : Bool × Unit) : Prop := (fun v r => ∀ x, resV Tryz.prog sig89c90 r = some x → FnOk Tryz.prog 89 (encL vw (startS sig89c90 v).len (startOs sig89c90 v).1) (encOs (startS sig89c90 v).len (startS sig89c90 v).own) (encV vw (conc vw sig89c90.rcut r).len x) (encOs (conc vw sig89c90.rcut r).len (kept sig89c90 r))) v r
abbrev mn_118c90 (v : (List Tag) × Unit) (r : Int × Unit) : Prop := (fun v r => ∀ x, resV Tryz.prog sig118c90 r = some x → FnOk Tryz.prog 118 (encL vw (startS sig118c90 v).len (startOs sig118c90 v).1) (encOs (startS sig118c90 v).len (startS sig118c90 v).own) (encV vw (conc vw sig118c90.rcut r).len x) (encOs (conc vw sig118c90.rcut r).len (kept sig118c90 r))) v r
theorem cn_118c90l2 (f0 : (List Tag) × Int × Int × Unit → Option (((Int × Unit) ⊕ (Unit)))) (f1 : Tag × Unit → Option (Bool × Unit)) (h0 : ∀ v r, f0 v = some r → mn_118c90l2 v r) (h1 : ∀ v r, f1 v = some r → mn_90 v r) : CallerOk Tryz.prog (x118c90 f0 f1 (fun _ => none) (fun _ => none) (fun _ => none)).call := (by
        intro A fid args S dst k r h
        unfold x118c90 call118c90 at h
        simp only at h
        split at h
        · exact callPure_ok ((fun v r x h hx => h1 v r h x hx)) rfl rfl h
        · cases h)
theorem sn_118c90l2 (f0 : (List Tag) × Int × Int × Unit → Option (((Int × Unit) ⊕ (Unit)))) (f1 : Tag × Unit → Option (Bool × Unit)) (h0 : ∀ v r, f0 v = some r → mn_118c90l2 v r) (h1 : ∀ v r, f1 v = some r → mn_90 v r) (v : (List Tag) × Int × Int × Unit) (r : ((Int × Unit) ⊕ (Unit))) (h : exL (x118c90 f0 f1 (fun _ => none) (fun _ => none) (fun _ => none)) (loopNo (bodyOf Tryz.f118) 0) c118c90l2 [.ret, .exit 0] f0 v = some r) : mn_118c90l2 v r := fun C hP hN => loop_step (X := x118c90 f0 f1 (fun _ => none) (fun _ => none) (fun _ => none)) (b := (loopNo (bodyOf Tryz.f118) 0)) hP hN Ty.mixed (cn_118c90l2 f0 f1 h0 h1) (lok_all (X := x118c90 f0 f1 (fun _ => none) (fun _ => none) (fun _ => none)) (c := (loopNo (bodyOf Tryz.f118) 0)) (kcast (by kernel_rfl : True = AllB (LoopsP C (x118c90 f0 f1 (fun _ => none) (fun _ => none) (fun _ => none))) (loopsIn (loopNo (bodyOf Tryz.f118) 0))) trivial)) (cut := c118c90l2) (alts := [.ret, .exit 0]) (F := f0) (fun v out h => h0 v out h C hP hN) h
theorem cn_90 (f0 : Tag × Unit → Option (Bool × Unit)) (h0 : ∀ v r, f0 v = some r → mn_61 v r) : CallerOk Tryz.prog (x90 (fun _ => none) (fun _ => none) f0 (fun _ => none) (fun _ => none)).call := (by
        intro A fid args S dst k r h
        unfold x90 call90 at h
        simp only at h
        split at h
        · exact callPure_ok ((fun v r x h hx => h0 v r h x hx)) rfl rfl h
        · cases h)
theorem sn_90 (f0 : Tag × Unit → Option (Bool × Unit)) (h0 : ∀ v r, f0 v = some r → mn_61 v r) (v : Tag × Unit) (r : Bool × Unit) (h : exF (x90 (fun _ => none) (fun _ => none) f0 (fun _ => none) (fun _ => none)) sig90 rfl (bodyOf Tryz.f90) v = some r) : mn_90 v r := fun x hx => fn_ok (X := x90 (fun _ => none) (fun _ => none) f0 (fun _ => none) (fun _ => none)) (sig := sig90) rfl Tryz.func90 (c := bodyOf Tryz.f90) (by kernel_rfl) Tryz.ntmps90 (by kernel_rfl) (by kernel_rfl) rfl Ty.mixed (cn_90 f0 h0) rfl (fun C hP hN => (lok_all (X := x90 (fun _ => none) (fun _ => none) f0 (fun _ => none) (fun _ => none)) (c := (bodyOf Tryz.f90)) (kcast (by kernel_rfl : True = AllB (LoopsP C (x90 (fun _ => none) (fun _ => none) f0 (fun _ => none) (fun _ => none))) (loopsIn (bodyOf Tryz.f90))) trivial))) h x hx
theorem cn_61 (f0 : (List Tag) × Unit → Option (Bool × Unit)) (h0 : ∀ v r, f0 v = some r → mn_89c90 v r) : CallerOk Tryz.prog (x61 (fun _ => none) (fun _ => none) (fun _ => none) f0 (fun _ => none)).call := (by
        intro A fid args S dst k r h
        unfold x61 call61 at h
        simp only at h
        split at h
        · exact callPure_ok (n_86_ok) rfl rfl h
        · exact callPure_ok (n_88c86_ok) rfl rfl h
        · exact callPure_ok ((fun v r x h hx => h0 v r h x hx)) rfl rfl h
        · cases h)
theorem sn_61 (f0 : (List Tag) × Unit → Option (Bool × Unit)) (h0 : ∀ v r, f0 v = some r → mn_89c90 v r) (v : Tag × Unit) (r : Bool × Unit) (h : exF (x61 (fun _ => none) (fun _ => none) (fun _ => none) f0 (fun _ => none)) sig61 rfl (bodyOf Tryz.f61) v = some r) : mn_61 v r := fun x hx => fn_ok (X := x61 (fun _ => none) (fun _ => none) (fun _ => none) f0 (fun _ => none)) (sig := sig61) rfl Tryz.func61 (c := bodyOf Tryz.f61) (by kernel_rfl) Tryz.ntmps61 (by kernel_rfl) (by kernel_rfl) rfl Ty.mixed (cn_61 f0 h0) rfl (fun C hP hN => (lok_all (X := x61 (fun _ => none) (fun _ => none) (fun _ => none) f0 (fun _ => none)) (c := (bodyOf Tryz.f61)) (kcast (by kernel_rfl : True = AllB (LoopsP C (x61 (fun _ => none) (fun _ => none) (fun _ => none) f0 (fun _ => none))) (loopsIn (bodyOf Tryz.f61))) trivial))) h x hx
theorem cn_89c90 (f0 : (List Tag) × Unit → Option (Int × Unit)) (h0 : ∀ v r, f0 v = some r → mn_118c90 v r) : CallerOk Tryz.prog (x89c90 (fun _ => none) (fun _ => none) (fun _ => none) (fun _ => none) f0).call := (by
        intro A fid args S dst k r h
        unfold x89c90 call89c90 at h
        simp only at h
        split at h
        · exact callPure_ok ((fun v r x h hx => h0 v r h x hx)) rfl rfl h
        · cases h)
theorem sn_89c90 (f0 : (List Tag) × Unit → Option (Int × Unit)) (h0 : ∀ v r, f0 v = some r → mn_118c90 v r) (v : (List Tag) × Unit) (r : Bool × Unit) (h : exF (x89c90 (fun _ => none) (fun _ => none) (fun _ => none) (fun _ => none) f0) sig89c90 rfl (bodyOf Tryz.f89) v = some r) : mn_89c90 v r := fun x hx => fn_ok (X := x89c90 (fun _ => none) (fun _ => none) (fun _ => none) (fun _ => none) f0) (sig := sig89c90) rfl Tryz.func89 (c := bodyOf Tryz.f89) (by kernel_rfl) Tryz.ntmps89 (by kernel_rfl) (by kernel_rfl) rfl Ty.mixed (cn_89c90 f0 h0) rfl (fun C hP hN => (lok_all (X := x89c90 (fun _ => none) (fun _ => none) (fun _ => none) (fun _ => none) f0) (c := (bodyOf Tryz.f89)) (kcast (by kernel_rfl : True = AllB (LoopsP C (x89c90 (fun _ => none) (fun _ => none) (fun _ => none) (fun _ => none) f0)) (loopsIn (bodyOf Tryz.f89))) trivial))) h x hx
theorem cn_118c90 (f0 : (List Tag) × Int × Int × Unit → Option (((Int × Unit) ⊕ (Unit)))) (h0 : ∀ v r, f0 v = some r → mn_118c90l2 v r) : CallerOk Tryz.prog (x118c90 f0 (fun _ => none) (fun _ => none) (fun _ => none) (fun _ => none)).call := (by
        intro A fid args S dst k r h
        unfold x118c90 call118c90 at h
        simp only at h
        split at h
        · exact callPure_ok ((fun v r x h hx => by cases h)) rfl rfl h
        · cases h)
theorem sn_118c90 (f0 : (List Tag) × Int × Int × Unit → Option (((Int × Unit) ⊕ (Unit)))) (h0 : ∀ v r, f0 v = some r → mn_118c90l2 v r) (v : (List Tag) × Unit) (r : Int × Unit) (h : exF (x118c90 f0 (fun _ => none) (fun _ => none) (fun _ => none) (fun _ => none)) sig118c90 rfl (bodyOf Tryz.f118) v = some r) : mn_118c90 v r := fun x hx => fn_ok (X := x118c90 f0 (fun _ => none) (fun _ => none) (fun _ => none) (fun _ => none)) (sig := sig118c90) rfl Tryz.func118 (c := bodyOf Tryz.f118) (by kernel_rfl) Tryz.ntmps118 (by kernel_rfl) (by kernel_rfl) rfl Ty.mixed (cn_118c90 f0 h0) rfl (fun C hP hN => (lok_all (X := x118c90 f0 (fun _ => none) (fun _ => none) (fun _ => none) (fun _ => none)) (c := (bodyOf Tryz.f118)) (kcast (by kernel_rfl : AllB (LoopsP C (x118c90 f0 (fun _ => none) (fun _ => none) (fun _ => none) (fun _ => none))) [(loopNo (bodyOf Tryz.f118) 0)] = AllB (LoopsP C (x118c90 f0 (fun _ => none) (fun _ => none) (fun _ => none) (fun _ => none))) (loopsIn (bodyOf Tryz.f118))) ⟨loop_at (X := x118c90 f0 (fun _ => none) (fun _ => none) (fun _ => none) (fun _ => none)) (b := (loopNo (bodyOf Tryz.f118) 0)) (by kernel_rfl) (show LoopOk C (loopNo (bodyOf Tryz.f118) 0) (sh := sh118c90) { cut := c118c90l2, alts := [.ret, .exit 0], F := f0 } from fun v out h => h0 v out h C hP hN), trivial⟩))) h x hx
theorem n_118c90l2_all : (∀ v r, n_118c90l2 v = some r → mn_118c90l2 v r) ∧ (∀ v r, n_90 v = some r → mn_90 v r) ∧ (∀ v r, n_61 v = some r → mn_61 v r) ∧ (∀ v r, n_89c90 v = some r → mn_89c90 v r) ∧ (∀ v r, n_118c90 v = some r → mn_118c90 v r) := by
  refine n_118c90l2.mutual_partial_correctness
    (motive_1 := mn_118c90l2)
    (motive_2 := mn_90)
    (motive_3 := mn_61)
    (motive_4 := mn_89c90)
    (motive_5 := mn_118c90)
    ?_ ?_ ?_ ?_ ?_
  · exact (fun f0 f1 h0 h1 v r h => sn_118c90l2 f0 f1 h0 h1 v r (kcast (by kernel_rfl) h))
  · exact (fun f0 h0 v r h => sn_90 f0 h0 v r (kcast (by kernel_rfl) h))
  · exact (fun f0 h0 v r h => sn_61 f0 h0 v r (kcast (by kernel_rfl) h))
  · exact (fun f0 h0 v r h => sn_89c90 f0 h0 v r (kcast (by kernel_rfl) h))
  · exact (fun f0 h0 v r h => sn_118c90 f0 h0 v r (kcast (by kernel_rfl) h))
theorem n_118c90l2_pc : ∀ v out, n_118c90l2 v = some out → (fun v out => ∀ C : Ctx, C.P = Tryz.prog → C.N = 19 → AWpL C (loopNo (bodyOf Tryz.f118) 0) (encS vw (conc vw c118c90l2 v)) (OutQ sh118c90 [.ret, .exit 0] out)) v out := n_118c90l2_all.1
theorem n_90_ok : SigOk Tryz.prog 90 sig90 n_90 := fun v r x h hx => n_118c90l2_all.2.1 v r h x hx
theorem n_61_ok : SigOk Tryz.prog 61 sig61 n_61 := fun v r x h hx => n_118c90l2_all.2.2.1 v r h x hx
theorem n_89c90_ok : SigOk Tryz.prog 89 sig89c90 n_89c90 := fun v r x h hx => n_118c90l2_all.2.2.2.1 v r h x hx
theorem n_118c90_ok : SigOk Tryz.prog 118 sig118c90 n_118c90 := fun v r x h hx => n_118c90l2_all.2.2.2.2 v r h x hx

noncomputable def c171z : Cut SN := { slots := [(4, .dat (.int .i64))], objs := [] }
noncomputable def sh171 : Shape vw := { exits := fun _ => { slots := [], objs := [] }, rcut := c171z }
noncomputable def sig171 : Sig vw := { params := [.dat .str, .dat (.int .u8)], objs := [], rcut := c171z, rvars := [.tmp 4], keep := [] }
noncomputable def n_171 (v : ByteArray × Int × Unit) : Option (Int × Unit) :=
  some (Lib.indexByte v.1.data.toList v.2.1.toNat.toUInt8, ())
theorem n_171_ok : SigOk Tryz.prog 171 sig171 n_171 := fun v r x h hx => by
  obtain ⟨s, c, u⟩ := v
  cases h; cases hx
  exact kcast (by kernel_rfl) (FnOk.pure (P := Tryz.prog) (f := 171) (args := [.d (.v (.string s)), .d (.v (.int .u8 c))]) (r := .d (.v (.int .i64 (Lib.indexByte s.data.toList c.toNat.toUInt8)))) (by kernel_rfl) fun E M w vs _ _ hv => by
    obtain ⟨v1, v2, rfl, h1, h2⟩ := hreps_two hv
    rw [h1.dv, h2.dv]
    exact (Tryz.stringslite_IndexByte s c w).mono fun e w' ⟨he, hw⟩ => ⟨_, he, .d (.v _), hw ▸ Go.RowKit.Below.refl _ _⟩)

noncomputable def c147z : Cut SN := { slots := [(4, .dat (.int .i64))], objs := [] }
noncomputable def sh147 : Shape vw := { exits := fun _ => { slots := [], objs := [] }, rcut := c147z }
noncomputable def sig147 : Sig vw := { params := [.dat .str, .dat (.int .u8)], objs := [], rcut := c147z, rvars := [.tmp 4], keep := [] }
noncomputable def n_147 (v : ByteArray × Int × Unit) : Option (Int × Unit) :=
  n_171 (v.fst, v.snd.fst, ()) >>= fun x1 =>
  some ((x1.fst, ()))
noncomputable def call147 : Caller vw := fun A fid args S k => match fid with | 171 => callPure Tryz.prog sig171 n_171 A args S k | _ => none
noncomputable def x147 : Xc vw := { P := Tryz.prog, n := 8, nm := id, call := call147, pre := fun _ => false, sh := sh147, joins := fun _ => none, regs := fun _ => none, loops := fun _ => none }
theorem call147_ok : CallerOk Tryz.prog call147 := fun A fid args S dst k r h => by
  unfold call147 at h
  split at h
  · exact callPure_ok (n_171_ok) rfl rfl h
  · cases h
theorem n_147_ok : SigOk Tryz.prog 147 sig147 n_147 := fun v r x h hx =>
  fn_ok (X := x147) (sig := sig147) rfl Tryz.func147 (c := bodyOf Tryz.f147) (by kernel_rfl) Tryz.ntmps147 (by kernel_rfl) (by kernel_rfl) rfl Ty.mixed call147_ok rfl (fun C hP hN => (lok_all (X := x147) (c := (bodyOf Tryz.f147)) (kcast (by kernel_rfl : True = AllB (LoopsP C (x147)) (loopsIn (bodyOf Tryz.f147))) trivial))) (kcast (by kernel_rfl) h) x hx

noncomputable def c122z : Cut SN := { slots := [(4, .dat .bool)], objs := [] }
noncomputable def sh122 : Shape vw := { exits := fun _ => { slots := [], objs := [] }, rcut := c122z }
noncomputable def sig122 : Sig vw := { params := [.dat .str, .dat .str], objs := [], rcut := c122z, rvars := [.tmp 4], keep := [] }
noncomputable def n_122 (v : ByteArray × ByteArray × Unit) : Option (Bool × Unit) :=
  match v.2.1.data.toList with | [c] => some (decide (0 ≤ Lib.indexByte v.1.data.toList c), ()) | _ => none
theorem n_122_ok : SigOk Tryz.prog 122 sig122 n_122 := fun v r x h hx => by
  obtain ⟨s, c, u⟩ := v
  unfold n_122 at h
  simp only at h
  split at h
  · rename_i c0 hc
    obtain rfl : c = ⟨#[c0]⟩ := by
      obtain ⟨⟨l⟩⟩ := c
      simp only at hc
      rw [hc]
    cases h; cases hx
    exact kcast (by kernel_rfl) (FnOk.pure (P := Tryz.prog) (f := 122) (args := [.d (.v (.string s)), .d (.v (.string ⟨#[c0]⟩))]) (r := .d (.v (.bool (decide (0 ≤ Lib.indexByte s.data.toList c0))))) (by kernel_rfl) fun E M w vs hg hm hv => by
      obtain ⟨v1, v2, rfl, h1, h2⟩ := hreps_two hv
      rw [h1.dv, h2.dv]
      exact (Tryz.strings_Contains_one s c0 w).mono fun e w' ⟨he, hw⟩ => ⟨_, he, .d (.v _), hw ▸ Go.RowKit.Below.refl _ _⟩)
  · cases h

noncomputable def c97s5bd0r1 : Cut SN := { slots := [(0, .bp 100000 0), (33, .dat .bool)], objs := [(100000, .st .readerT)] }
noncomputable def c97s5bd0z : Cut SN := { slots := [(0, .bp 100000 0), (4, .dat .bool)], objs := [(100000, .st .readerT)] }
noncomputable def sh97s5bd0 : Shape vw := { exits := fun _ => { slots := [], objs := [] }, rcut := c97s5bd0z }
noncomputable def sig97s5bd0 : Sig vw := { params := [.bp 100000 0, .dat .str], objs := [(100000, .st .readerT)], rcut := c97s5bd0z, rvars := [.tmp 4], keep := [100000] }
noncomputable def n_97s5bd0 (v : ByteArray × Reader × Unit) : Option (Bool × Reader × Unit) :=
  (if (v.snd.fst.at0 == (↑v.snd.fst.s.size : Int)) = true then
      some ((true, v.snd.fst, ()))
    else if (0 : Int) ≤ v.snd.fst.at0 ∧ v.snd.fst.at0 ≤ IntKind.i64.wrap (v.snd.fst.at0 + (1 : Int)) ∧ IntKind.i64.wrap (v.snd.fst.at0 + (1 : Int)) ≤ (↑v.snd.fst.s.size : Int) then
      n_122 (v.fst, v.snd.fst.s.extract v.snd.fst.at0.toNat (IntKind.i64.wrap (v.snd.fst.at0 + (1 : Int))).toNat, ()) >>= fun x1 =>
      some ((!x1.fst, v.snd.fst, ()))
    else none) >>= fun x1 =>
  if x1.fst = true then
    some ((false, x1.snd.fst, ()))
  else some ((true, Reader.mk x1.snd.fst.s (IntKind.i64.wrap (x1.snd.fst.at0 + (1 : Int))), ()))
noncomputable def call97s5bd0 : Caller vw := fun A fid args S k => match fid with | 122 => callPure Tryz.prog sig122 n_122 A args S k | _ => none
noncomputable def x97s5bd0 : Xc vw := { P := Tryz.prog, n := 41, nm := id, call := call97s5bd0, pre := fun _ => false, sh := sh97s5bd0, joins := fun _ => none, regs := fun k => match k with | 1 => some c97s5bd0r1 | _ => none, loops := fun _ => none }
theorem call97s5bd0_ok : CallerOk Tryz.prog call97s5bd0 := fun A fid args S dst k r h => by
  unfold call97s5bd0 at h
  split at h
  · exact callPure_ok (n_122_ok) rfl rfl h
  · cases h
theorem n_97s5bd0_ok : SigOk Tryz.prog 97 sig97s5bd0 n_97s5bd0 := fun v r x h hx =>
  fn_ok (X := x97s5bd0) (sig := sig97s5bd0) rfl Tryz.func97 (c := bodyOf Tryz.f97) (by kernel_rfl) Tryz.ntmps97 (by kernel_rfl) (by kernel_rfl) rfl Ty.mixed call97s5bd0_ok rfl (fun C hP hN => (lok_all (X := x97s5bd0) (c := (bodyOf Tryz.f97)) (kcast (by kernel_rfl : True = AllB (LoopsP C (x97s5bd0)) (loopsIn (bodyOf Tryz.f97))) trivial))) (kcast (by kernel_rfl) h) x hx

noncomputable def c150sadb0j7 : Cut SN := { slots := [(0, .bp 100000 0), (8, .dat (.int .i64)), (9, .dat .str)], objs := [(100000, .st .readerT)] }
noncomputable def c150sadb0r7 : Cut SN := { slots := [(0, .bp 100000 0), (8, .dat (.int .i64)), (38, .dat .bool)], objs := [(100000, .st .readerT)] }
noncomputable def c150sadb0z : Cut SN := { slots := [(0, .bp 100000 0), (6, .dat (.int .i32)), (7, .dat .bool)], objs := [(100000, .st .readerT)] }
noncomputable def sh150sadb0 : Shape vw := { exits := fun _ => { slots := [], objs := [] }, rcut := c150sadb0z }
noncomputable def sig150sadb0 : Sig vw := { params := [.bp 100000 0, .dat .str, .dat .str], objs := [(100000, .st .readerT)], rcut := c150sadb0z, rvars := [.tmp 6, .tmp 7], keep := [100000] }
noncomputable def n_150sadb0 (v : ByteArray × ByteArray × Reader × Unit) : Option (Int × Bool × Reader × Unit) :=
  (n_97s5bd0 (v.fst, v.snd.snd.fst, ()) >>= fun x1 =>
    if x1.fst = true then
      some (Sum.inl (v.snd.snd.fst.at0, ByteArray.mk #[(48 : UInt8), (49 : UInt8), (50 : UInt8), (51 : UInt8), (52 : UInt8), (53 : UInt8), (54 : UInt8), (55 : UInt8), (56 : UInt8), (57 : UInt8), (97 : UInt8), (98 : UInt8), (99 : UInt8), (100 : UInt8), (101 : UInt8), (102 : UInt8), (65 : UInt8), (66 : UInt8), (67 : UInt8), (68 : UInt8), (69 : UInt8), (70 : UInt8)], x1.snd.fst, ()))
    else n_97s5bd0 (ByteArray.mk #[(100 : UInt8), (68 : UInt8)], x1.snd.fst, ()) >>= fun x2 =>
    if x2.fst = true then
      some (Sum.inl (v.snd.snd.fst.at0, v.snd.fst, x2.snd.fst, ()))
    else some (Sum.inr ((0 : Int), false, x2.snd.fst, ()))) >>= fun x1 => match x1 with
    | .inl y1 => (n_97s5bd0 (y1.snd.fst, y1.snd.snd.fst, ()) >>= fun x2 =>
        if (!x2.fst) = true then
          some ((y1.fst, true, x2.snd.fst, ()))
        else n_97s5bd0 (ByteArray.mk #[(48 : UInt8), (49 : UInt8), (50 : UInt8), (51 : UInt8), (52 : UInt8), (53 : UInt8), (54 : UInt8), (55 : UInt8), (56 : UInt8), (57 : UInt8), (97 : UInt8), (98 : UInt8), (99 : UInt8), (100 : UInt8), (101 : UInt8), (102 : UInt8), (65 : UInt8), (66 : UInt8), (67 : UInt8), (68 : UInt8), (69 : UInt8), (70 : UInt8)], x2.snd.fst, ()) >>= fun x3 =>
        if (!x3.fst) = true then
          some ((y1.fst, true, x3.snd.fst, ()))
        else n_97s5bd0 (ByteArray.mk #[(48 : UInt8), (49 : UInt8), (50 : UInt8), (51 : UInt8), (52 : UInt8), (53 : UInt8), (54 : UInt8), (55 : UInt8), (56 : UInt8), (57 : UInt8), (97 : UInt8), (98 : UInt8), (99 : UInt8), (100 : UInt8), (101 : UInt8), (102 : UInt8), (65 : UInt8), (66 : UInt8), (67 : UInt8), (68 : UInt8), (69 : UInt8), (70 : UInt8)], x3.snd.fst, ()) >>= fun x4 =>
        some ((y1.fst, !x4.fst, x4.snd.fst, ()))) >>= fun x2 =>
      if x2.snd.fst = true then
        some (((0 : Int), false, x2.snd.snd.fst, ()))
      else if (0 : Int) ≤ x2.fst ∧ x2.fst ≤ x2.snd.snd.fst.at0 ∧ x2.snd.snd.fst.at0 ≤ (↑x2.snd.snd.fst.s.size : Int) then
        none
      else none
    | .inr y1 => some y1
noncomputable def call150sadb0 : Caller vw := fun A fid args S k => match fid with | 97 => callObj Tryz.prog sig97s5bd0 n_97s5bd0 A args S k | _ => none
noncomputable def x150sadb0 : Xc vw := { P := Tryz.prog, n := 64, nm := id, call := call150sadb0, pre := fun _ => false, sh := sh150sadb0, joins := fun k => match k with | 7 => some (c150sadb0j7, [.norm, .ret]) | _ => none, regs := fun k => match k with | 7 => some c150sadb0r7 | _ => none, loops := fun _ => none }
theorem call150sadb0_ok : CallerOk Tryz.prog call150sadb0 := fun A fid args S dst k r h => by
  unfold call150sadb0 at h
  split at h
  · exact callObj_ok (n_97s5bd0_ok) h
  · cases h
theorem n_150sadb0_ok : SigOk Tryz.prog 150 sig150sadb0 n_150sadb0 := fun v r x h hx =>
  fn_ok (X := x150sadb0) (sig := sig150sadb0) rfl Tryz.func150 (c := bodyOf Tryz.f150) (by kernel_rfl) Tryz.ntmps150 (by kernel_rfl) (by kernel_rfl) rfl Ty.mixed call150sadb0_ok rfl (fun C hP hN => (lok_all (X := x150sadb0) (c := (bodyOf Tryz.f150)) (kcast (by kernel_rfl : AllB (LoopsP C (x150sadb0)) [(loopNo (bodyOf Tryz.f150) 0)] = AllB (LoopsP C (x150sadb0)) (loopsIn (bodyOf Tryz.f150))) ⟨loop_dead (X := x150sadb0) (b := (loopNo (bodyOf Tryz.f150) 0)) (by kernel_rfl), trivial⟩))) (kcast (by kernel_rfl) h) x hx

noncomputable def c91s0e1dz : Cut SN := { slots := [(0, .bp 100000 0), (2, .dat (.int .u8))], objs := [(100000, .st .readerT)] }
noncomputable def sh91s0e1d : Shape vw := { exits := fun _ => { slots := [], objs := [] }, rcut := c91s0e1dz }
noncomputable def sig91s0e1d : Sig vw := { params := [.bp 100000 0], objs := [(100000, .st .readerT)], rcut := c91s0e1dz, rvars := [.tmp 2], keep := [100000] }
noncomputable def n_91s0e1d (v : Reader × Unit) : Option (Int × Reader × Unit) :=
  if (v.fst.at0 == (↑v.fst.s.size : Int)) = true then
    some (((0 : Int), v.fst, ()))
  else if (0 : Int) ≤ v.fst.at0 then
    v.fst.s[v.fst.at0.toNat]? >>= fun x1 =>
    some (((↑x1.toNat : Int), v.fst, ()))
  else none
noncomputable def call91s0e1d : Caller vw := fun _ _ _ _ _ => none
noncomputable def x91s0e1d : Xc vw := { P := Tryz.prog, n := 22, nm := id, call := call91s0e1d, pre := fun _ => false, sh := sh91s0e1d, joins := fun _ => none, regs := fun _ => none, loops := fun _ => none }
theorem call91s0e1d_ok : CallerOk Tryz.prog call91s0e1d := call_none
theorem n_91s0e1d_ok : SigOk Tryz.prog 91 sig91s0e1d n_91s0e1d := fun v r x h hx =>
  fn_ok (X := x91s0e1d) (sig := sig91s0e1d) rfl Tryz.func91 (c := bodyOf Tryz.f91) (by kernel_rfl) Tryz.ntmps91 (by kernel_rfl) (by kernel_rfl) rfl Ty.mixed call91s0e1d_ok rfl (fun C hP hN => (lok_all (X := x91s0e1d) (c := (bodyOf Tryz.f91)) (kcast (by kernel_rfl : True = AllB (LoopsP C (x91s0e1d)) (loopsIn (bodyOf Tryz.f91))) trivial))) (kcast (by kernel_rfl) h) x hx

noncomputable def c92s5bd0l2 : Cut SN := { slots := [(0, .bp 100000 0), (1, .dat .str), (7, .dat (.int .i64)), (8, .dat (.int .i64))], objs := [(100000, .st .readerT)] }
noncomputable def c92s5bd0e0 : Cut SN := { slots := [(0, .bp 100000 0)], objs := [(100000, .st .readerT)] }
noncomputable def c92s5bd0z : Cut SN := { slots := [(0, .bp 100000 0), (4, .dat .bool)], objs := [(100000, .st .readerT)] }
noncomputable def sh92s5bd0 : Shape vw := { exits := fun id => match id with | 0 => c92s5bd0e0 | _ => { slots := [], objs := [] }, rcut := c92s5bd0z }
noncomputable def sig92s5bd0 : Sig vw := { params := [.bp 100000 0, .dat .str], objs := [(100000, .st .readerT)], rcut := c92s5bd0z, rvars := [.tmp 4], keep := [100000] }
noncomputable def n_92s5bd0l2 (v : ByteArray × Int × Int × Reader × Unit) : Option (((Bool × Reader × Unit) ⊕ (Reader × Unit))) :=
  if decide (v.snd.snd.fst < v.snd.fst) = true then
    if (0 : Int) ≤ v.snd.snd.fst ∧ v.snd.snd.fst ≤ IntKind.i64.wrap (v.snd.snd.fst + (1 : Int)) ∧ IntKind.i64.wrap (v.snd.snd.fst + (1 : Int)) ≤ (↑v.fst.size : Int) then
      n_97s5bd0 (v.fst.extract v.snd.snd.fst.toNat (IntKind.i64.wrap (v.snd.snd.fst + (1 : Int))).toNat, v.snd.snd.snd.fst, ()) >>= fun x1 =>
      if (!x1.fst) = true then
        some (Sum.inl (false, x1.snd.fst, ()))
      else n_92s5bd0l2 (v.fst, v.snd.fst, IntKind.i64.wrap (v.snd.snd.fst + (1 : Int)), x1.snd.fst, ())
    else none
  else some (Sum.inr (v.snd.snd.snd.fst, ()))
  partial_fixpoint
noncomputable def n_92s5bd0 (v : ByteArray × Reader × Unit) : Option (Bool × Reader × Unit) :=
  n_92s5bd0l2 (v.fst, (↑v.fst.size : Int), (0 : Int), v.snd.fst, ()) >>= fun x1 => match x1 with
    | .inl y1 => some y1
    | .inr y1 => some ((true, y1.fst, ()))
noncomputable def call92s5bd0 : Caller vw := fun A fid args S k => match fid with | 97 => callObj Tryz.prog sig97s5bd0 n_97s5bd0 A args S k | _ => none
noncomputable def x92s5bd0 : Xc vw := { P := Tryz.prog, n := 20, nm := id, call := call92s5bd0, pre := fun _ => false, sh := sh92s5bd0, joins := fun _ => none, regs := fun _ => none, loops := fun k => match k with | 2 => some { cut := c92s5bd0l2, alts := [.ret, .exit 0], F := n_92s5bd0l2 } | _ => none }
theorem call92s5bd0_ok : CallerOk Tryz.prog call92s5bd0 := fun A fid args S dst k r h => by
  unfold call92s5bd0 at h
  split at h
  · exact callObj_ok (n_97s5bd0_ok) h
  · cases h
theorem n_92s5bd0l2_ok (C : Ctx) (hP : C.P = Tryz.prog) (hN : C.N = 20) : LoopOk C (loopNo (bodyOf Tryz.f92) 0) (sh := sh92s5bd0) { cut := c92s5bd0l2, alts := [.ret, .exit 0], F := n_92s5bd0l2 } :=
  n_92s5bd0l2.partial_correctness (motive := fun v out => AWpL C (loopNo (bodyOf Tryz.f92) 0) (encS vw (conc vw c92s5bd0l2 v)) (OutQ sh92s5bd0 [.ret, .exit 0] out)) fun F ih v out h =>
    loop_step (X := x92s5bd0) (b := (loopNo (bodyOf Tryz.f92) 0)) hP hN Ty.mixed call92s5bd0_ok (lok_all (X := x92s5bd0) (c := (loopNo (bodyOf Tryz.f92) 0)) (kcast (by kernel_rfl : True = AllB (LoopsP C (x92s5bd0)) (loopsIn (loopNo (bodyOf Tryz.f92) 0))) trivial)) ih (kcast (by kernel_rfl) h)
theorem n_92s5bd0_ok : SigOk Tryz.prog 92 sig92s5bd0 n_92s5bd0 := fun v r x h hx =>
  fn_ok (X := x92s5bd0) (sig := sig92s5bd0) rfl Tryz.func92 (c := bodyOf Tryz.f92) (by kernel_rfl) Tryz.ntmps92 (by kernel_rfl) (by kernel_rfl) rfl Ty.mixed call92s5bd0_ok rfl (fun C hP hN => (lok_all (X := x92s5bd0) (c := (bodyOf Tryz.f92)) (kcast (by kernel_rfl : AllB (LoopsP C (x92s5bd0)) [(loopNo (bodyOf Tryz.f92) 0)] = AllB (LoopsP C (x92s5bd0)) (loopsIn (bodyOf Tryz.f92))) ⟨loop_at (X := x92s5bd0) (b := (loopNo (bodyOf Tryz.f92) 0)) (by kernel_rfl) (n_92s5bd0l2_ok C hP hN), trivial⟩))) (kcast (by kernel_rfl) h) x hx

noncomputable def c119s0e1dr2 : Cut SN := { slots := [(0, .bp 100000 0), (4, .dat (.int .i64)), (24, .dat .bool)], objs := [(100000, .st .readerT)] }
noncomputable def c119s0e1dr8 : Cut SN := { slots := [(0, .bp 100000 0), (5, .dat (.int .i32)), (6, .dat .bool), (52, .dat .bool)], objs := [(100000, .st .readerT)] }
noncomputable def c119s0e1dz : Cut SN := { slots := [(0, .bp 100000 0), (2, .dat (.int .i32)), (3, .dat .bool)], objs := [(100000, .st .readerT)] }
noncomputable def sh119s0e1d : Shape vw := { exits := fun _ => { slots := [], objs := [] }, rcut := c119s0e1dz }
noncomputable def sig119s0e1d : Sig vw := { params := [.bp 100000 0], objs := [(100000, .st .readerT)], rcut := c119s0e1dz, rvars := [.tmp 2, .tmp 3], keep := [100000] }
noncomputable def n_119s0e1d (v : Reader × Unit) : Option (Int × Bool × Reader × Unit) :=
  n_91s0e1d (v.fst, ()) >>= fun x1 =>
  n_147 (ByteArray.mk #[(34 : UInt8), (92 : UInt8), (47 : UInt8), (98 : UInt8), (102 : UInt8), (110 : UInt8), (114 : UInt8), (116 : UInt8)], x1.fst, ()) >>= fun x2 =>
  (if decide (x1.snd.fst.at0 < (↑x1.snd.fst.s.size : Int)) = true then
      some ((x2.fst, decide (x2.fst ≥ (0 : Int)), x1.snd.fst, ()))
    else some ((x2.fst, false, x1.snd.fst, ()))) >>= fun x3 =>
  if x3.snd.fst = true then
    if (0 : Int) ≤ x3.fst then
      (ByteArray.mk #[(34 : UInt8), (92 : UInt8), (47 : UInt8), (8 : UInt8), (12 : UInt8), (10 : UInt8), (13 : UInt8), (9 : UInt8)])[x3.fst.toNat]? >>= fun x4 =>
      some ((IntKind.i32.wrap (↑x4.toNat : Int), true, Reader.mk x3.snd.snd.fst.s (IntKind.i64.wrap (x3.snd.snd.fst.at0 + (1 : Int))), ()))
    else none
  else n_97s5bd0 (ByteArray.mk #[(117 : UInt8)], x3.snd.snd.fst, ()) >>= fun x4 =>
  if (!x4.fst) = true then
    some (((0 : Int), false, x4.snd.fst, ()))
  else n_150sadb0 (ByteArray.mk #[(48 : UInt8), (49 : UInt8), (50 : UInt8), (51 : UInt8), (52 : UInt8), (53 : UInt8), (54 : UInt8), (55 : UInt8), (56 : UInt8), (57 : UInt8), (97 : UInt8), (98 : UInt8), (99 : UInt8), (101 : UInt8), (102 : UInt8), (65 : UInt8), (66 : UInt8), (67 : UInt8), (69 : UInt8), (70 : UInt8)], ByteArray.mk #[(48 : UInt8), (49 : UInt8), (50 : UInt8), (51 : UInt8), (52 : UInt8), (53 : UInt8), (54 : UInt8), (55 : UInt8), (56 : UInt8), (57 : UInt8), (97 : UInt8), (98 : UInt8), (65 : UInt8), (66 : UInt8)], x4.snd.fst, ()) >>= fun x5 =>
  (if (!x5.snd.fst) = true then
      some ((x5.fst, x5.snd.fst, true, x5.snd.snd.fst, ()))
    else if decide (x5.fst < (55296 : Int)) = true then
      some ((x5.fst, x5.snd.fst, true, x5.snd.snd.fst, ()))
    else some ((x5.fst, x5.snd.fst, decide (x5.fst ≥ (56320 : Int)), x5.snd.snd.fst, ()))) >>= fun x6 =>
  if x6.snd.snd.fst = true then
    some ((x6.fst, x6.snd.fst, x6.snd.snd.snd.fst, ()))
  else n_92s5bd0 (ByteArray.mk #[(92 : UInt8), (117 : UInt8)], x6.snd.snd.snd.fst, ()) >>= fun x7 =>
  if (!x7.fst) = true then
    some (((0 : Int), false, x7.snd.fst, ()))
  else n_150sadb0 (ByteArray.mk #[], ByteArray.mk #[(99 : UInt8), (100 : UInt8), (101 : UInt8), (102 : UInt8), (67 : UInt8), (68 : UInt8), (69 : UInt8), (70 : UInt8)], x7.snd.fst, ()) >>= fun x8 =>
  some ((IntKind.i32.wrap (IntKind.i32.wrap (IntKind.i32.wrap ((65536 : Int) + Bs.ishl IntKind.i32 (IntKind.i32.wrap (x6.fst - (55296 : Int))) (10 : Int)) + x8.fst) - (56320 : Int)), x8.snd.fst, x8.snd.snd.fst, ()))
noncomputable def call119s0e1d : Caller vw := fun A fid args S k => match fid with | 91 => callObj Tryz.prog sig91s0e1d n_91s0e1d A args S k | 92 => callObj Tryz.prog sig92s5bd0 n_92s5bd0 A args S k | 97 => callObj Tryz.prog sig97s5bd0 n_97s5bd0 A args S k | 147 => callPure Tryz.prog sig147 n_147 A args S k | 150 => callObj Tryz.prog sig150sadb0 n_150sadb0 A args S k | _ => none
noncomputable def x119s0e1d : Xc vw := { P := Tryz.prog, n := 71, nm := id, call := call119s0e1d, pre := fun _ => false, sh := sh119s0e1d, joins := fun _ => none, regs := fun k => match k with | 2 => some c119s0e1dr2 | 8 => some c119s0e1dr8 | _ => none, loops := fun _ => none }
theorem call119s0e1d_ok : CallerOk Tryz.prog call119s0e1d := fun A fid args S dst k r h => by
  unfold call119s0e1d at h
  split at h
  · exact callObj_ok (n_91s0e1d_ok) h
  · exact callObj_ok (n_92s5bd0_ok) h
  · exact callObj_ok (n_97s5bd0_ok) h
  · exact callPure_ok (n_147_ok) rfl rfl h
  · exact callObj_ok (n_150sadb0_ok) h
  · cases h
theorem n_119s0e1d_ok : SigOk Tryz.prog 119 sig119s0e1d n_119s0e1d := fun v r x h hx =>
  fn_ok (X := x119s0e1d) (sig := sig119s0e1d) rfl Tryz.func119 (c := bodyOf Tryz.f119) (by kernel_rfl) Tryz.ntmps119 (by kernel_rfl) (by kernel_rfl) rfl Ty.mixed call119s0e1d_ok rfl (fun C hP hN => (lok_all (X := x119s0e1d) (c := (bodyOf Tryz.f119)) (kcast (by kernel_rfl : True = AllB (LoopsP C (x119s0e1d)) (loopsIn (bodyOf Tryz.f119))) trivial))) (kcast (by kernel_rfl) h) x hx

noncomputable def c174s43b2j7 : Cut SN := { slots := [(0, .vh 100000), (1, .dat (.int .i32)), (5, .dat (.int .u32)), (25, .dat .bool)], objs := [(100000, .vec 5 (.int .u8))] }
noncomputable def c174s43b2r6 : Cut SN := { slots := [(0, .vh 100000), (1, .dat (.int .i32)), (5, .dat (.int .u32)), (25, .dat .bool)], objs := [(100000, .vec 5 (.int .u8))] }
noncomputable def c174s43b2r8 : Cut SN := { slots := [(0, .vh 100000), (1, .dat (.int .i32)), (50, .dat .bool)], objs := [(100000, .vec 5 (.int .u8))] }
noncomputable def c174s43b2z : Cut SN := { slots := [(4, .vh 2004)], objs := [(2004, .vec 5 (.int .u8))] }
noncomputable def sh174s43b2 : Shape vw := { exits := fun _ => { slots := [], objs := [] }, rcut := c174s43b2z }
noncomputable def sig174s43b2 : Sig vw := { params := [.vh 100000, .dat (.int .i32)], objs := [(100000, .vec 5 (.int .u8))], rcut := c174s43b2z, rvars := [.tmp 4], keep := [2004] }
noncomputable def n_174s43b2 (v : Int × (List Int) × Unit) : Option ((List Int) × Unit) :=
  if decide (IntKind.u32.wrap v.fst ≤ (2047 : Int)) = true then
    if v.snd.fst.length + [Bs.ior IntKind.u8 (192 : Int) (IntKind.u8.wrap (Bs.ishr IntKind.i32 v.fst (6 : Int))), Bs.ior IntKind.u8 (128 : Int) (Bs.iand IntKind.u8 (IntKind.u8.wrap v.fst) (63 : Int))].length ≤ (4294967296 : Nat) then
      some ((v.snd.fst ++ [Bs.ior IntKind.u8 (192 : Int) (IntKind.u8.wrap (Bs.ishr IntKind.i32 v.fst (6 : Int))), Bs.ior IntKind.u8 (128 : Int) (Bs.iand IntKind.u8 (IntKind.u8.wrap v.fst) (63 : Int))], ()))
    else none
  else (if decide (IntKind.u32.wrap v.fst < (55296 : Int)) = true then
      some ((v.fst, IntKind.u32.wrap v.fst, true, v.snd.fst, ()))
    else (if decide ((57343 : Int) < IntKind.u32.wrap v.fst) = true then
        some ((v.fst, IntKind.u32.wrap v.fst, decide (IntKind.u32.wrap v.fst ≤ (65535 : Int)), v.snd.fst, ()))
      else some ((v.fst, IntKind.u32.wrap v.fst, false, v.snd.fst, ()))) >>= fun x1 =>
    some ((x1.fst, x1.snd.fst, x1.snd.snd.fst, x1.snd.snd.snd.fst, ()))) >>= fun x1 =>
  if x1.snd.snd.fst = true then
    if x1.snd.snd.snd.fst.length + [Bs.ior IntKind.u8 (224 : Int) (IntKind.u8.wrap (Bs.ishr IntKind.i32 x1.fst (12 : Int))), Bs.ior IntKind.u8 (128 : Int) (Bs.iand IntKind.u8 (IntKind.u8.wrap (Bs.ishr IntKind.i32 x1.fst (6 : Int))) (63 : Int)), Bs.ior IntKind.u8 (128 : Int) (Bs.iand IntKind.u8 (IntKind.u8.wrap x1.fst) (63 : Int))].length ≤ (4294967296 : Nat) then
      some ((x1.snd.snd.snd.fst ++ [Bs.ior IntKind.u8 (224 : Int) (IntKind.u8.wrap (Bs.ishr IntKind.i32 x1.fst (12 : Int))), Bs.ior IntKind.u8 (128 : Int) (Bs.iand IntKind.u8 (IntKind.u8.wrap (Bs.ishr IntKind.i32 x1.fst (6 : Int))) (63 : Int)), Bs.ior IntKind.u8 (128 : Int) (Bs.iand IntKind.u8 (IntKind.u8.wrap x1.fst) (63 : Int))], ()))
    else none
  else (if decide (x1.snd.fst > (65535 : Int)) = true then
      some ((x1.fst, decide (x1.snd.fst ≤ (1114111 : Int)), x1.snd.snd.snd.fst, ()))
    else some ((x1.fst, false, x1.snd.snd.snd.fst, ()))) >>= fun x2 =>
  if x2.snd.fst = true then
    if x2.snd.snd.fst.length + [Bs.ior IntKind.u8 (240 : Int) (IntKind.u8.wrap (Bs.ishr IntKind.i32 x2.fst (18 : Int))), Bs.ior IntKind.u8 (128 : Int) (Bs.iand IntKind.u8 (IntKind.u8.wrap (Bs.ishr IntKind.i32 x2.fst (12 : Int))) (63 : Int)), Bs.ior IntKind.u8 (128 : Int) (Bs.iand IntKind.u8 (IntKind.u8.wrap (Bs.ishr IntKind.i32 x2.fst (6 : Int))) (63 : Int)), Bs.ior IntKind.u8 (128 : Int) (Bs.iand IntKind.u8 (IntKind.u8.wrap x2.fst) (63 : Int))].length ≤ (4294967296 : Nat) then
      some ((x2.snd.snd.fst ++ [Bs.ior IntKind.u8 (240 : Int) (IntKind.u8.wrap (Bs.ishr IntKind.i32 x2.fst (18 : Int))), Bs.ior IntKind.u8 (128 : Int) (Bs.iand IntKind.u8 (IntKind.u8.wrap (Bs.ishr IntKind.i32 x2.fst (12 : Int))) (63 : Int)), Bs.ior IntKind.u8 (128 : Int) (Bs.iand IntKind.u8 (IntKind.u8.wrap (Bs.ishr IntKind.i32 x2.fst (6 : Int))) (63 : Int)), Bs.ior IntKind.u8 (128 : Int) (Bs.iand IntKind.u8 (IntKind.u8.wrap x2.fst) (63 : Int))], ()))
    else none
  else if x2.snd.snd.fst.length + [(239 : Int), (191 : Int), (189 : Int)].length ≤ (4294967296 : Nat) then
    some ((x2.snd.snd.fst ++ [(239 : Int), (191 : Int), (189 : Int)], ()))
  else none
noncomputable def call174s43b2 : Caller vw := fun _ _ _ _ _ => none
noncomputable def x174s43b2 : Xc vw := { P := Tryz.prog, n := 78, nm := id, call := call174s43b2, pre := fun _ => false, sh := sh174s43b2, joins := fun k => match k with | 7 => some (c174s43b2j7, [.norm]) | _ => none, regs := fun k => match k with | 6 => some c174s43b2r6 | 8 => some c174s43b2r8 | _ => none, loops := fun _ => none }
theorem call174s43b2_ok : CallerOk Tryz.prog call174s43b2 := call_none
theorem n_174s43b2_ok : SigOk Tryz.prog 174 sig174s43b2 n_174s43b2 := fun v r x h hx =>
  fn_ok (X := x174s43b2) (sig := sig174s43b2) rfl Tryz.func174 (c := bodyOf Tryz.f174) (by kernel_rfl) Tryz.ntmps174 (by kernel_rfl) (by kernel_rfl) rfl Ty.mixed call174s43b2_ok rfl (fun C hP hN => (lok_all (X := x174s43b2) (c := (bodyOf Tryz.f174)) (kcast (by kernel_rfl : True = AllB (LoopsP C (x174s43b2)) (loopsIn (bodyOf Tryz.f174))) trivial))) (kcast (by kernel_rfl) h) x hx

noncomputable def c151s43b2z : Cut SN := { slots := [(4, .vh 2004)], objs := [(2004, .vec 5 (.int .u8))] }
noncomputable def sh151s43b2 : Shape vw := { exits := fun _ => { slots := [], objs := [] }, rcut := c151s43b2z }
noncomputable def sig151s43b2 : Sig vw := { params := [.vh 100000, .dat (.int .i32)], objs := [(100000, .vec 5 (.int .u8))], rcut := c151s43b2z, rvars := [.tmp 4], keep := [2004] }
noncomputable def n_151s43b2 (v : Int × (List Int) × Unit) : Option ((List Int) × Unit) :=
  if decide (IntKind.u32.wrap v.fst ≤ (127 : Int)) = true then
    if v.snd.fst.length + [IntKind.u8.wrap v.fst].length ≤ (4294967296 : Nat) then
      some ((v.snd.fst ++ [IntKind.u8.wrap v.fst], ()))
    else none
  else n_174s43b2 (v.fst, v.snd.fst, ()) >>= fun x1 =>
  some ((x1.fst, ()))
noncomputable def call151s43b2 : Caller vw := fun A fid args S k => match fid with | 174 => callObj Tryz.prog sig174s43b2 n_174s43b2 A args S k | _ => none
noncomputable def x151s43b2 : Xc vw := { P := Tryz.prog, n := 16, nm := id, call := call151s43b2, pre := fun _ => false, sh := sh151s43b2, joins := fun _ => none, regs := fun _ => none, loops := fun _ => none }
theorem call151s43b2_ok : CallerOk Tryz.prog call151s43b2 := fun A fid args S dst k r h => by
  unfold call151s43b2 at h
  split at h
  · exact callObj_ok (n_174s43b2_ok) h
  · cases h
theorem n_151s43b2_ok : SigOk Tryz.prog 151 sig151s43b2 n_151s43b2 := fun v r x h hx =>
  fn_ok (X := x151s43b2) (sig := sig151s43b2) rfl Tryz.func151 (c := bodyOf Tryz.f151) (by kernel_rfl) Tryz.ntmps151 (by kernel_rfl) (by kernel_rfl) rfl Ty.mixed call151s43b2_ok rfl (fun C hP hN => (lok_all (X := x151s43b2) (c := (bodyOf Tryz.f151)) (kcast (by kernel_rfl : True = AllB (LoopsP C (x151s43b2)) (loopsIn (bodyOf Tryz.f151))) trivial))) (kcast (by kernel_rfl) h) x hx

noncomputable def c120s6702z : Cut SN := { slots := [(0, .bp 100000 0), (4, .dat (.int .i64)), (5, .nif)], objs := [(100000, .box (some 93) [.np 100000, .vh 3001]), (3001, .vec 5 (.int .u8))] }
noncomputable def sh120s6702 : Shape vw := { exits := fun _ => { slots := [], objs := [] }, rcut := c120s6702z }
noncomputable def sig120s6702 : Sig vw := { params := [.bp 100000 0, .dat (.int .i32)], objs := [(100000, .box (some 93) [.np 100000, .vh 100001]), (100001, .vec 5 (.int .u8))], rcut := c120s6702z, rvars := [.tmp 4, .tmp 5], keep := [100000, 3001] }
noncomputable def n_120s6702 (v : Int × Bool × (List Int) × Unit) : Option (Int × Bool × (List Int) × Unit) :=
  n_145s143f (v.snd.fst, v.snd.snd.fst, ()) >>= fun x1 =>
  n_151s43b2 (v.fst, x1.snd.fst, ()) >>= fun x2 =>
  some ((IntKind.i64.wrap ((↑x2.fst.length : Int) - (↑x1.snd.fst.length : Int)), x1.fst, x2.fst, ()))
noncomputable def call120s6702 : Caller vw := fun A fid args S k => match fid with | 145 => callObj Tryz.prog sig145s143f n_145s143f A args S k | 151 => callObj Tryz.prog sig151s43b2 n_151s43b2 A args S k | _ => none
noncomputable def x120s6702 : Xc vw := { P := Tryz.prog, n := 30, nm := id, call := call120s6702, pre := fun _ => false, sh := sh120s6702, joins := fun _ => none, regs := fun _ => none, loops := fun _ => none }
theorem call120s6702_ok : CallerOk Tryz.prog call120s6702 := fun A fid args S dst k r h => by
  unfold call120s6702 at h
  split at h
  · exact callObj_ok (n_145s143f_ok) h
  · exact callObj_ok (n_151s43b2_ok) h
  · cases h
theorem n_120s6702_ok : SigOk Tryz.prog 120 sig120s6702 n_120s6702 := fun v r x h hx =>
  fn_ok (X := x120s6702) (sig := sig120s6702) rfl Tryz.func120 (c := bodyOf Tryz.f120) (by kernel_rfl) Tryz.ntmps120 (by kernel_rfl) (by kernel_rfl) rfl Ty.mixed call120s6702_ok rfl (fun C hP hN => (lok_all (X := x120s6702) (c := (bodyOf Tryz.f120)) (kcast (by kernel_rfl : True = AllB (LoopsP C (x120s6702)) (loopsIn (bodyOf Tryz.f120))) trivial))) (kcast (by kernel_rfl) h) x hx

noncomputable def c152s07d3r1 : Cut SN := { slots := [(0, .bp 100000 0), (42, .dat .bool)], objs := [(100000, .st .readerT)] }
noncomputable def c152s07d3z : Cut SN := { slots := [(0, .bp 100000 0), (6, .dat .bool)], objs := [(100000, .st .readerT)] }
noncomputable def sh152s07d3 : Shape vw := { exits := fun _ => { slots := [], objs := [] }, rcut := c152s07d3z }
noncomputable def sig152s07d3 : Sig vw := { params := [.bp 100000 0, .dat (.int .u8), .dat (.int .u8)], objs := [(100000, .st .readerT)], rcut := c152s07d3z, rvars := [.tmp 6], keep := [100000] }
noncomputable def n_152s07d3 (v : Int × Int × Reader × Unit) : Option (Bool × Reader × Unit) :=
  (if (v.snd.snd.fst.at0 == (↑v.snd.snd.fst.s.size : Int)) = true then
      some ((true, v.snd.snd.fst, ()))
    else if (0 : Int) ≤ v.snd.snd.fst.at0 then
      v.snd.snd.fst.s[v.snd.snd.fst.at0.toNat]? >>= fun x1 =>
      if decide ((↑x1.toNat : Int) < v.fst) = true then
        some ((true, v.snd.snd.fst, ()))
      else if (0 : Int) ≤ v.snd.snd.fst.at0 then
        v.snd.snd.fst.s[v.snd.snd.fst.at0.toNat]? >>= fun x2 =>
        some ((decide ((↑x2.toNat : Int) > v.snd.fst), v.snd.snd.fst, ()))
      else none
    else none) >>= fun x1 =>
  if x1.fst = true then
    some ((false, x1.snd.fst, ()))
  else some ((true, Reader.mk x1.snd.fst.s (IntKind.i64.wrap (x1.snd.fst.at0 + (1 : Int))), ()))
noncomputable def call152s07d3 : Caller vw := fun _ _ _ _ _ => none
noncomputable def x152s07d3 : Xc vw := { P := Tryz.prog, n := 50, nm := id, call := call152s07d3, pre := fun _ => false, sh := sh152s07d3, joins := fun _ => none, regs := fun k => match k with | 1 => some c152s07d3r1 | _ => none, loops := fun _ => none }
theorem call152s07d3_ok : CallerOk Tryz.prog call152s07d3 := call_none
theorem n_152s07d3_ok : SigOk Tryz.prog 152 sig152s07d3 n_152s07d3 := fun v r x h hx =>
  fn_ok (X := x152s07d3) (sig := sig152s07d3) rfl Tryz.func152 (c := bodyOf Tryz.f152) (by kernel_rfl) Tryz.ntmps152 (by kernel_rfl) (by kernel_rfl) rfl Ty.mixed call152s07d3_ok rfl (fun C hP hN => (lok_all (X := x152s07d3) (c := (bodyOf Tryz.f152)) (kcast (by kernel_rfl : True = AllB (LoopsP C (x152s07d3)) (loopsIn (bodyOf Tryz.f152))) trivial))) (kcast (by kernel_rfl) h) x hx

noncomputable def c121s0e1dl22 : Cut SN := { slots := [(0, .bp 100000 0), (4, .dat (.int .u8)), (5, .dat (.int .u8)), (48, .dat (.int .i64)), (49, .dat (.int .i64))], objs := [(100000, .st .readerT)] }
noncomputable def c121s0e1dj11 : Cut SN := { slots := [(0, .bp 100000 0), (3, .dat (.int .u8)), (4, .dat (.int .u8)), (5, .dat (.int .u8)), (6, .dat (.int .i64))], objs := [(100000, .st .readerT)] }
noncomputable def c121s0e1dj20 : Cut SN := { slots := [(0, .bp 100000 0), (4, .dat (.int .u8)), (5, .dat (.int .u8)), (6, .dat (.int .i64))], objs := [(100000, .st .readerT)] }
noncomputable def c121s0e1dr5 : Cut SN := { slots := [(0, .bp 100000 0), (3, .dat (.int .u8)), (4, .dat (.int .u8)), (5, .dat (.int .u8)), (19, .dat .bool)], objs := [(100000, .st .readerT)] }
noncomputable def c121s0e1de2 : Cut SN := { slots := [(0, .bp 100000 0)], objs := [(100000, .st .readerT)] }
noncomputable def c121s0e1dz : Cut SN := { slots := [(0, .bp 100000 0), (2, .dat .bool)], objs := [(100000, .st .readerT)] }
noncomputable def sh121s0e1d : Shape vw := { exits := fun id => match id with | 2 => c121s0e1de2 | _ => { slots := [], objs := [] }, rcut := c121s0e1dz }
noncomputable def sig121s0e1d : Sig vw := { params := [.bp 100000 0], objs := [(100000, .st .readerT)], rcut := c121s0e1dz, rvars := [.tmp 2], keep := [100000] }
noncomputable def n_121s0e1dl22 (v : Int × Int × Int × Int × Reader × Unit) : Option (((Bool × Reader × Unit) ⊕ (Reader × Unit))) :=
  if decide (v.snd.snd.snd.fst < v.snd.snd.fst) = true then
    n_152s07d3 (v.fst, v.snd.fst, v.snd.snd.snd.snd.fst, ()) >>= fun x1 =>
    if (!x1.fst) = true then
      some (Sum.inl (false, x1.snd.fst, ()))
    else n_121s0e1dl22 ((128 : Int), (191 : Int), v.snd.snd.fst, IntKind.i64.wrap (v.snd.snd.snd.fst + (1 : Int)), x1.snd.fst, ())
  else some (Sum.inr (v.snd.snd.snd.snd.fst, ()))
  partial_fixpoint
noncomputable def n_121s0e1d (v : Reader × Unit) : Option (Bool × Reader × Unit) :=
  if (0 : Int) ≤ v.fst.at0 then
    v.fst.s[v.fst.at0.toNat]? >>= fun x1 =>
    (if decide ((↑x1.toNat : Int) < (128 : Int)) = true then
        some (Sum.inl ((↑x1.toNat : Int), (128 : Int), (191 : Int), (0 : Int), v.fst, ()))
      else (if decide ((↑x1.toNat : Int) < (194 : Int)) = true then
          some (((↑x1.toNat : Int), (128 : Int), (191 : Int), true, v.fst, ()))
        else some (((↑x1.toNat : Int), (128 : Int), (191 : Int), decide ((↑x1.toNat : Int) > (244 : Int)), v.fst, ()))) >>= fun x2 =>
      if x2.snd.snd.snd.fst = true then
        some (Sum.inr (false, x2.snd.snd.snd.snd.fst, ()))
      else if decide (x2.fst < (224 : Int)) = true then
        some (Sum.inl (x2.fst, x2.snd.fst, x2.snd.snd.fst, (1 : Int), x2.snd.snd.snd.snd.fst, ()))
      else if decide (x2.fst < (240 : Int)) = true then
        some (Sum.inl (x2.fst, x2.snd.fst, x2.snd.snd.fst, (2 : Int), x2.snd.snd.snd.snd.fst, ()))
      else some (Sum.inl (x2.fst, x2.snd.fst, x2.snd.snd.fst, (3 : Int), x2.snd.snd.snd.snd.fst, ()))) >>= fun x2 => match x2 with
      | .inl y2 => (if (y2.fst == (224 : Int)) = true then
            some (((160 : Int), y2.snd.snd.fst, y2.snd.snd.snd.fst, y2.snd.snd.snd.snd.fst, ()))
          else if (y2.fst == (237 : Int)) = true then
            some ((y2.snd.fst, (159 : Int), y2.snd.snd.snd.fst, y2.snd.snd.snd.snd.fst, ()))
          else if (y2.fst == (240 : Int)) = true then
            some (((144 : Int), y2.snd.snd.fst, y2.snd.snd.snd.fst, y2.snd.snd.snd.snd.fst, ()))
          else if (y2.fst == (244 : Int)) = true then
            some ((y2.snd.fst, (143 : Int), y2.snd.snd.snd.fst, y2.snd.snd.snd.snd.fst, ()))
          else some ((y2.snd.fst, y2.snd.snd.fst, y2.snd.snd.snd.fst, y2.snd.snd.snd.snd.fst, ()))) >>= fun x3 =>
        n_121s0e1dl22 (x3.fst, x3.snd.fst, x3.snd.snd.fst, (0 : Int), Reader.mk x3.snd.snd.snd.fst.s (IntKind.i64.wrap (x3.snd.snd.snd.fst.at0 + (1 : Int))), ()) >>= fun x4 => match x4 with
          | .inl y4 => some y4
          | .inr y4 => some ((true, y4.fst, ()))
      | .inr y2 => some y2
  else none
noncomputable def call121s0e1d : Caller vw := fun A fid args S k => match fid with | 152 => callObj Tryz.prog sig152s07d3 n_152s07d3 A args S k | _ => none
noncomputable def x121s0e1d : Xc vw := { P := Tryz.prog, n := 57, nm := id, call := call121s0e1d, pre := fun _ => false, sh := sh121s0e1d, joins := fun k => match k with | 11 => some (c121s0e1dj11, [.norm, .ret]) | 20 => some (c121s0e1dj20, [.norm]) | _ => none, regs := fun k => match k with | 5 => some c121s0e1dr5 | _ => none, loops := fun k => match k with | 22 => some { cut := c121s0e1dl22, alts := [.ret, .exit 2], F := n_121s0e1dl22 } | _ => none }
theorem call121s0e1d_ok : CallerOk Tryz.prog call121s0e1d := fun A fid args S dst k r h => by
  unfold call121s0e1d at h
  split at h
  · exact callObj_ok (n_152s07d3_ok) h
  · cases h
theorem n_121s0e1dl22_ok (C : Ctx) (hP : C.P = Tryz.prog) (hN : C.N = 57) : LoopOk C (loopNo (bodyOf Tryz.f121) 0) (sh := sh121s0e1d) { cut := c121s0e1dl22, alts := [.ret, .exit 2], F := n_121s0e1dl22 } :=
  n_121s0e1dl22.partial_correctness (motive := fun v out => AWpL C (loopNo (bodyOf Tryz.f121) 0) (encS vw (conc vw c121s0e1dl22 v)) (OutQ sh121s0e1d [.ret, .exit 2] out)) fun F ih v out h =>
    loop_step (X := x121s0e1d) (b := (loopNo (bodyOf Tryz.f121) 0)) hP hN Ty.mixed call121s0e1d_ok (lok_all (X := x121s0e1d) (c := (loopNo (bodyOf Tryz.f121) 0)) (kcast (by kernel_rfl : True = AllB (LoopsP C (x121s0e1d)) (loopsIn (loopNo (bodyOf Tryz.f121) 0))) trivial)) ih (kcast (by kernel_rfl) h)
theorem n_121s0e1d_ok : SigOk Tryz.prog 121 sig121s0e1d n_121s0e1d := fun v r x h hx =>
  fn_ok (X := x121s0e1d) (sig := sig121s0e1d) rfl Tryz.func121 (c := bodyOf Tryz.f121) (by kernel_rfl) Tryz.ntmps121 (by kernel_rfl) (by kernel_rfl) rfl Ty.mixed call121s0e1d_ok rfl (fun C hP hN => (lok_all (X := x121s0e1d) (c := (bodyOf Tryz.f121)) (kcast (by kernel_rfl : AllB (LoopsP C (x121s0e1d)) [(loopNo (bodyOf Tryz.f121) 0)] = AllB (LoopsP C (x121s0e1d)) (loopsIn (bodyOf Tryz.f121))) ⟨loop_at (X := x121s0e1d) (b := (loopNo (bodyOf Tryz.f121) 0)) (by kernel_rfl) (n_121s0e1dl22_ok C hP hN), trivial⟩))) (kcast (by kernel_rfl) h) x hx

noncomputable def c43l3 : Cut SN := { slots := [(1, .bp 1 0), (5, .dat (.int .i64)), (6, .dat (.int .i64)), (7, .dat (.int .i64)), (8, .dat (.int .i64))], objs := [(1, .st .tagT)] }
noncomputable def c43l7 : Cut SN := { slots := [(1, .bp 1 0), (5, .dat (.int .i64)), (6, .dat (.int .i64)), (7, .dat (.int .i64)), (9, .dat (.int .i64))], objs := [(1, .st .tagT)] }
noncomputable def c43e0 : Cut SN := { slots := [(1, .bp 1 0), (5, .dat (.int .i64)), (6, .dat (.int .i64)), (7, .dat (.int .i64))], objs := [(1, .st .tagT)] }
noncomputable def c43e2 : Cut SN := { slots := [(5, .dat (.int .i64)), (6, .dat (.int .i64)), (7, .dat (.int .i64))], objs := [] }
noncomputable def c43z : Cut SN := { slots := [(2, .dat (.int .i64)), (3, .dat (.int .i64)), (4, .dat (.int .i64))], objs := [] }
noncomputable def sh43 : Shape vw := { exits := fun id => match id with | 0 => c43e0 | 2 => c43e2 | _ => { slots := [], objs := [] }, rcut := c43z }
noncomputable def sig43 : Sig vw := { params := [.dat (.st .tagT)], objs := [], rcut := c43z, rvars := [.tmp 2, .tmp 3, .tmp 4], keep := [] }
noncomputable def n_43l3 (v : Int × Int × Int × Int × Tag × Unit) : Option ((Int × Int × Int × Tag × Unit)) :=
  if decide (v.snd.snd.snd.fst < (↑v.snd.snd.snd.snd.fst.names.length : Int)) = true then
    if (0 : Int) ≤ v.snd.snd.snd.fst then
      v.snd.snd.snd.snd.fst.names[v.snd.snd.snd.fst.toNat]? >>= fun x1 =>
      n_43l3 (v.fst, v.snd.fst, IntKind.i64.wrap (v.snd.snd.fst + (↑x1.size : Int)), IntKind.i64.wrap (v.snd.snd.snd.fst + (1 : Int)), v.snd.snd.snd.snd.fst, ())
    else none
  else some ((v.fst, v.snd.fst, v.snd.snd.fst, v.snd.snd.snd.snd.fst, ()))
  partial_fixpoint
mutual
noncomputable def n_43l7 (v : Int × Int × Int × Int × Tag × Unit) : Option ((Int × Int × Int × Unit)) :=
  if decide (v.snd.snd.snd.fst < (↑v.snd.snd.snd.snd.fst.parts.length : Int)) = true then
    if (0 : Int) ≤ v.snd.snd.snd.fst then
      v.snd.snd.snd.snd.fst.parts[v.snd.snd.snd.fst.toNat]? >>= fun x1 =>
      n_43 (x1, ()) >>= fun x2 =>
      n_43l7 (IntKind.i64.wrap (v.fst + x2.fst), max v.snd.fst x2.snd.fst, IntKind.i64.wrap (v.snd.snd.fst + x2.snd.snd.fst), IntKind.i64.wrap (v.snd.snd.snd.fst + (1 : Int)), v.snd.snd.snd.snd.fst, ())
    else none
  else some ((v.fst, v.snd.fst, v.snd.snd.fst, ()))
  partial_fixpoint
noncomputable def n_43 (v : Tag × Unit) : Option (Int × Int × Int × Unit) :=
  n_43l3 ((1 : Int), (0 : Int), (↑v.fst.text.size : Int), (0 : Int), v.fst, ()) >>= fun x1 =>
  n_43l7 (x1.fst, x1.snd.fst, x1.snd.snd.fst, (0 : Int), x1.snd.snd.snd.fst, ()) >>= fun x2 =>
  some ((x2.fst, IntKind.i64.wrap (x2.snd.fst + (1 : Int)), x2.snd.snd.fst, ()))
  partial_fixpoint
end
noncomputable def call43 (n_43l3 : Int × Int × Int × Int × Tag × Unit → Option ((Int × Int × Int × Tag × Unit))) (n_43l7 : Int × Int × Int × Int × Tag × Unit → Option ((Int × Int × Int × Unit))) (n_43 : Tag × Unit → Option (Int × Int × Int × Unit)) : Caller vw := fun A fid args S k => match fid with | 43 => callPure Tryz.prog sig43 n_43 A args S k | _ => none
noncomputable def x43 (n_43l3 : Int × Int × Int × Int × Tag × Unit → Option ((Int × Int × Int × Tag × Unit))) (n_43l7 : Int × Int × Int × Int × Tag × Unit → Option ((Int × Int × Int × Unit))) (n_43 : Tag × Unit → Option (Int × Int × Int × Unit)) : Xc vw := { P := Tryz.prog, n := 61, nm := id, call := call43 n_43l3 n_43l7 n_43, pre := fun _ => false, sh := sh43, joins := fun _ => none, regs := fun _ => none, loops := fun k => match k with | 3 => some { cut := c43l3, alts := [.exit 0], F := n_43l3 } | 7 => some { cut := c43l7, alts := [.exit 2], F := n_43l7 } | _ => none }
abbrev mn_43l3 (v : Int × Int × Int × Int × Tag × Unit) (r : (Int × Int × Int × Tag × Unit)) : Prop := (fun v out => ∀ C : Ctx, C.P = Tryz.prog → C.N = 61 → AWpL C (loopNo (bodyOf Tryz.f43) 0) (encS vw (conc vw c43l3 v)) (OutQ sh43 [.exit 0] out)) v r
theorem cn_43l3 (f0 : Int × Int × Int × Int × Tag × Unit → Option ((Int × Int × Int × Tag × Unit))) (h0 : ∀ v r, f0 v = some r → mn_43l3 v r) : CallerOk Tryz.prog (x43 f0 (fun _ => none) (fun _ => none)).call := (by
        intro A fid args S dst k r h
        unfold x43 call43 at h
        simp only at h
        split at h
        · exact callPure_ok ((fun v r x h hx => by cases h)) rfl rfl h
        · cases h)
theorem sn_43l3 (f0 : Int × Int × Int × Int × Tag × Unit → Option ((Int × Int × Int × Tag × Unit))) (h0 : ∀ v r, f0 v = some r → mn_43l3 v r) (v : Int × Int × Int × Int × Tag × Unit) (r : (Int × Int × Int × Tag × Unit)) (h : exL (x43 f0 (fun _ => none) (fun _ => none)) (loopNo (bodyOf Tryz.f43) 0) c43l3 [.exit 0] f0 v = some r) : mn_43l3 v r := fun C hP hN => loop_step (X := x43 f0 (fun _ => none) (fun _ => none)) (b := (loopNo (bodyOf Tryz.f43) 0)) hP hN Ty.mixed (cn_43l3 f0 h0) (lok_all (X := x43 f0 (fun _ => none) (fun _ => none)) (c := (loopNo (bodyOf Tryz.f43) 0)) (kcast (by kernel_rfl : True = AllB (LoopsP C (x43 f0 (fun _ => none) (fun _ => none))) (loopsIn (loopNo (bodyOf Tryz.f43) 0))) trivial)) (cut := c43l3) (alts := [.exit 0]) (F := f0) (fun v out h => h0 v out h C hP hN) h
theorem n_43l3_pc : ∀ v out, n_43l3 v = some out → (fun v out => ∀ C : Ctx, C.P = Tryz.prog → C.N = 61 → AWpL C (loopNo (bodyOf Tryz.f43) 0) (encS vw (conc vw c43l3 v)) (OutQ sh43 [.exit 0] out)) v out := (n_43l3.partial_correctness (motive := mn_43l3) (fun f0 h0 v r h => sn_43l3 f0 h0 v r (kcast (by kernel_rfl) h)))
abbrev mn_43l7 (v : Int × Int × Int × Int × Tag × Unit) (r : (Int × Int × Int × Unit)) : Prop := (fun v out => ∀ C : Ctx, C.P = Tryz.prog → C.N = 61 → AWpL C (loopNo (bodyOf Tryz.f43) 1) (encS vw (conc vw c43l7 v)) (OutQ sh43 [.exit 2] out)) v r
abbrev mn_43 (v : Tag × Unit) (r : Int × Int × Int × Unit) : Prop := (fun v r => ∀ x, resV Tryz.prog sig43 r = some x → FnOk Tryz.prog 43 (encL vw (startS sig43 v).len (startOs sig43 v).1) (encOs (startS sig43 v).len (startS sig43 v).own) (encV vw (conc vw sig43.rcut r).len x) (encOs (conc vw sig43.rcut r).len (kept sig43 r))) v r
theorem cn_43l7 (f0 : Int × Int × Int × Int × Tag × Unit → Option ((Int × Int × Int × Unit))) (f1 : Tag × Unit → Option (Int × Int × Int × Unit)) (h0 : ∀ v r, f0 v = some r → mn_43l7 v r) (h1 : ∀ v r, f1 v = some r → mn_43 v r) : CallerOk Tryz.prog (x43 (fun _ => none) f0 f1).call := (by
        intro A fid args S dst k r h
        unfold x43 call43 at h
        simp only at h
        split at h
        · exact callPure_ok ((fun v r x h hx => h1 v r h x hx)) rfl rfl h
        · cases h)
theorem sn_43l7 (f0 : Int × Int × Int × Int × Tag × Unit → Option ((Int × Int × Int × Unit))) (f1 : Tag × Unit → Option (Int × Int × Int × Unit)) (h0 : ∀ v r, f0 v = some r → mn_43l7 v r) (h1 : ∀ v r, f1 v = some r → mn_43 v r) (v : Int × Int × Int × Int × Tag × Unit) (r : (Int × Int × Int × Unit)) (h : exL (x43 (fun _ => none) f0 f1) (loopNo (bodyOf Tryz.f43) 1) c43l7 [.exit 2] f0 v = some r) : mn_43l7 v r := fun C hP hN => loop_step (X := x43 (fun _ => none) f0 f1) (b := (loopNo (bodyOf Tryz.f43) 1)) hP hN Ty.mixed (cn_43l7 f0 f1 h0 h1) (lok_all (X := x43 (fun _ => none) f0 f1) (c := (loopNo (bodyOf Tryz.f43) 1)) (kcast (by kernel_rfl : True = AllB (LoopsP C (x43 (fun _ => none) f0 f1)) (loopsIn (loopNo (bodyOf Tryz.f43) 1))) trivial)) (cut := c43l7) (alts := [.exit 2]) (F := f0) (fun v out h => h0 v out h C hP hN) h
theorem cn_43 (f0 : Int × Int × Int × Int × Tag × Unit → Option ((Int × Int × Int × Unit))) (h0 : ∀ v r, f0 v = some r → mn_43l7 v r) : CallerOk Tryz.prog (x43 n_43l3 f0 (fun _ => none)).call := (by
        intro A fid args S dst k r h
        unfold x43 call43 at h
        simp only at h
        split at h
        · exact callPure_ok ((fun v r x h hx => by cases h)) rfl rfl h
        · cases h)
theorem sn_43 (f0 : Int × Int × Int × Int × Tag × Unit → Option ((Int × Int × Int × Unit))) (h0 : ∀ v r, f0 v = some r → mn_43l7 v r) (v : Tag × Unit) (r : Int × Int × Int × Unit) (h : exF (x43 n_43l3 f0 (fun _ => none)) sig43 rfl (bodyOf Tryz.f43) v = some r) : mn_43 v r := fun x hx => fn_ok (X := x43 n_43l3 f0 (fun _ => none)) (sig := sig43) rfl Tryz.func43 (c := bodyOf Tryz.f43) (by kernel_rfl) Tryz.ntmps43 (by kernel_rfl) (by kernel_rfl) rfl Ty.mixed (cn_43 f0 h0) rfl (fun C hP hN => (lok_all (X := x43 n_43l3 f0 (fun _ => none)) (c := (bodyOf Tryz.f43)) (kcast (by kernel_rfl : AllB (LoopsP C (x43 n_43l3 f0 (fun _ => none))) [(loopNo (bodyOf Tryz.f43) 0), (loopNo (bodyOf Tryz.f43) 1)] = AllB (LoopsP C (x43 n_43l3 f0 (fun _ => none))) (loopsIn (bodyOf Tryz.f43))) ⟨loop_at (X := x43 n_43l3 f0 (fun _ => none)) (b := (loopNo (bodyOf Tryz.f43) 0)) (by kernel_rfl) (show LoopOk C (loopNo (bodyOf Tryz.f43) 0) (sh := sh43) { cut := c43l3, alts := [.exit 0], F := n_43l3 } from fun v out h => n_43l3_pc v out h C hP hN), loop_at (X := x43 n_43l3 f0 (fun _ => none)) (b := (loopNo (bodyOf Tryz.f43) 1)) (by kernel_rfl) (show LoopOk C (loopNo (bodyOf Tryz.f43) 1) (sh := sh43) { cut := c43l7, alts := [.exit 2], F := f0 } from fun v out h => h0 v out h C hP hN), trivial⟩))) h x hx
theorem n_43l7_all : (∀ v r, n_43l7 v = some r → mn_43l7 v r) ∧ (∀ v r, n_43 v = some r → mn_43 v r) := by
  refine n_43l7.mutual_partial_correctness
    (motive_1 := mn_43l7)
    (motive_2 := mn_43)
    ?_ ?_
  · exact (fun f0 f1 h0 h1 v r h => sn_43l7 f0 f1 h0 h1 v r (kcast (by kernel_rfl) h))
  · exact (fun f0 h0 v r h => sn_43 f0 h0 v r (kcast (by kernel_rfl) h))
theorem n_43l7_pc : ∀ v out, n_43l7 v = some out → (fun v out => ∀ C : Ctx, C.P = Tryz.prog → C.N = 61 → AWpL C (loopNo (bodyOf Tryz.f43) 1) (encS vw (conc vw c43l7 v)) (OutQ sh43 [.exit 2] out)) v out := n_43l7_all.1
theorem n_43_ok : SigOk Tryz.prog 43 sig43 n_43 := fun v r x h hx => n_43l7_all.2 v r h x hx

noncomputable def c13r2 : Cut SN := { slots := [(2, .dat .bool)], objs := [] }
noncomputable def c13z : Cut SN := { slots := [(2, .dat .bool)], objs := [] }
noncomputable def sh13 : Shape vw := { exits := fun _ => { slots := [], objs := [] }, rcut := c13z }
noncomputable def sig13 : Sig vw := { params := [.dat (.st .tagT)], objs := [], rcut := c13z, rvars := [.tmp 2], keep := [] }
noncomputable def n_13 (v : Tag × Unit) : Option (Bool × Unit) :=
  n_43 (v.fst, ()) >>= fun x1 =>
  (if decide (x1.fst > (2000 : Int)) = true then
      some ((true, ()))
    else if decide (x1.snd.fst > (100 : Int)) = true then
      some ((true, ()))
    else some ((decide (x1.snd.snd.fst > (20000 : Int)), ()))) >>= fun x2 =>
  some ((x2.fst, ()))
noncomputable def call13 : Caller vw := fun A fid args S k => match fid with | 43 => callPure Tryz.prog sig43 n_43 A args S k | _ => none
noncomputable def x13 : Xc vw := { P := Tryz.prog, n := 22, nm := id, call := call13, pre := fun _ => false, sh := sh13, joins := fun _ => none, regs := fun k => match k with | 2 => some c13r2 | _ => none, loops := fun _ => none }
theorem call13_ok : CallerOk Tryz.prog call13 := fun A fid args S dst k r h => by
  unfold call13 at h
  split at h
  · exact callPure_ok (n_43_ok) rfl rfl h
  · cases h
theorem n_13_ok : SigOk Tryz.prog 13 sig13 n_13 := fun v r x h hx =>
  fn_ok (X := x13) (sig := sig13) rfl Tryz.func13 (c := bodyOf Tryz.f13) (by kernel_rfl) Tryz.ntmps13 (by kernel_rfl) (by kernel_rfl) rfl Ty.mixed call13_ok rfl (fun C hP hN => (lok_all (X := x13) (c := (bodyOf Tryz.f13)) (kcast (by kernel_rfl : True = AllB (LoopsP C (x13)) (loopsIn (bodyOf Tryz.f13))) trivial))) (kcast (by kernel_rfl) h) x hx

noncomputable def c14l2 : Cut SN := { slots := [(0, .dat (.sl .str)), (3, .dat (.int .i64))], objs := [] }
noncomputable def c14e0 : Cut SN := { slots := [(0, .dat (.sl .str))], objs := [] }
noncomputable def c14z : Cut SN := { slots := [(2, .dat .bool)], objs := [] }
noncomputable def sh14 : Shape vw := { exits := fun id => match id with | 0 => c14e0 | _ => { slots := [], objs := [] }, rcut := c14z }
noncomputable def sig14 : Sig vw := { params := [.dat (.sl .str)], objs := [], rcut := c14z, rvars := [.tmp 2], keep := [] }
noncomputable def n_14l2 (v : (List ByteArray) × Int × Unit) : Option (((Bool × Unit) ⊕ ((List ByteArray) × Unit))) :=
  if decide (v.snd.fst < (↑v.fst.length : Int)) = true then
    if (0 : Int) ≤ v.snd.fst then
      v.fst[v.snd.fst.toNat]? >>= fun x1 =>
      if decide ((↑x1.size : Int) > (5000 : Int)) = true then
        some (Sum.inl (true, ()))
      else n_14l2 (v.fst, IntKind.i64.wrap (v.snd.fst + (1 : Int)), ())
    else none
  else some (Sum.inr (v.fst, ()))
  partial_fixpoint
noncomputable def n_14 (v : (List ByteArray) × Unit) : Option (Bool × Unit) :=
  n_14l2 (v.fst, (0 : Int), ()) >>= fun x1 => match x1 with
    | .inl y1 => some y1
    | .inr y1 => some ((decide ((↑y1.fst.length : Int) > (50 : Int)), ()))
noncomputable def call14 : Caller vw := fun _ _ _ _ _ => none
noncomputable def x14 : Xc vw := { P := Tryz.prog, n := 19, nm := id, call := call14, pre := fun _ => false, sh := sh14, joins := fun _ => none, regs := fun _ => none, loops := fun k => match k with | 2 => some { cut := c14l2, alts := [.ret, .exit 0], F := n_14l2 } | _ => none }
theorem call14_ok : CallerOk Tryz.prog call14 := call_none
theorem n_14l2_ok (C : Ctx) (hP : C.P = Tryz.prog) (hN : C.N = 19) : LoopOk C (loopNo (bodyOf Tryz.f14) 0) (sh := sh14) { cut := c14l2, alts := [.ret, .exit 0], F := n_14l2 } :=
  n_14l2.partial_correctness (motive := fun v out => AWpL C (loopNo (bodyOf Tryz.f14) 0) (encS vw (conc vw c14l2 v)) (OutQ sh14 [.ret, .exit 0] out)) fun F ih v out h =>
    loop_step (X := x14) (b := (loopNo (bodyOf Tryz.f14) 0)) hP hN Ty.mixed call14_ok (lok_all (X := x14) (c := (loopNo (bodyOf Tryz.f14) 0)) (kcast (by kernel_rfl : True = AllB (LoopsP C (x14)) (loopsIn (loopNo (bodyOf Tryz.f14) 0))) trivial)) ih (kcast (by kernel_rfl) h)
theorem n_14_ok : SigOk Tryz.prog 14 sig14 n_14 := fun v r x h hx =>
  fn_ok (X := x14) (sig := sig14) rfl Tryz.func14 (c := bodyOf Tryz.f14) (by kernel_rfl) Tryz.ntmps14 (by kernel_rfl) (by kernel_rfl) rfl Ty.mixed call14_ok rfl (fun C hP hN => (lok_all (X := x14) (c := (bodyOf Tryz.f14)) (kcast (by kernel_rfl : AllB (LoopsP C (x14)) [(loopNo (bodyOf Tryz.f14) 0)] = AllB (LoopsP C (x14)) (loopsIn (bodyOf Tryz.f14))) ⟨loop_at (X := x14) (b := (loopNo (bodyOf Tryz.f14) 0)) (by kernel_rfl) (n_14l2_ok C hP hN), trivial⟩))) (kcast (by kernel_rfl) h) x hx

noncomputable def c58l3 : Cut SN := { slots := [(1, .bp 1 0), (2, .bp 2 0), (3, .bp 3 0), (14, .dat (.sl .str)), (15, .dat (.int .i64)), (16, .dat (.int .i64))], objs := [(1, .st .tagT), (2, .st .sizeT), (3, .st .sizeT)] }
noncomputable def c58l8 : Cut SN := { slots := [(2, .bp 2 0), (3, .bp 3 0), (28, .dat (.sl (.st .tagT))), (29, .dat (.int .i64)), (30, .dat (.int .i64))], objs := [(2, .st .sizeT), (3, .st .sizeT)] }
noncomputable def c58e0 : Cut SN := { slots := [(1, .bp 1 0), (2, .bp 2 0), (3, .bp 3 0)], objs := [(1, .st .tagT), (2, .st .sizeT), (3, .st .sizeT)] }
noncomputable def c58e2 : Cut SN := { slots := [(2, .bp 2 0), (3, .bp 3 0)], objs := [(2, .st .sizeT), (3, .st .sizeT)] }
noncomputable def c58z : Cut SN := { slots := [(2, .bp 2 0)], objs := [(2, .st .sizeT)] }
noncomputable def sh58 : Shape vw := { exits := fun id => match id with | 0 => c58e0 | 2 => c58e2 | _ => { slots := [], objs := [] }, rcut := c58z }
noncomputable def sig58 : Sig vw := { params := [.dat (.st .tagT)], objs := [], rcut := c58z, rvars := [.cell 2 64], keep := [] }
noncomputable def n_58l3 (v : (List ByteArray) × Int × Int × Tag × Size × Size × Unit) : Option ((Tag × Size × Size × Unit)) :=
  if decide (v.snd.snd.fst < v.snd.fst) = true then
    if (0 : Int) ≤ v.snd.snd.fst then
      v.fst[v.snd.snd.fst.toNat]? >>= fun x1 =>
      n_58l3 (v.fst, v.snd.fst, IntKind.i64.wrap (v.snd.snd.fst + (1 : Int)), v.snd.snd.snd.fst, v.snd.snd.snd.snd.fst, Size.mk v.snd.snd.snd.snd.snd.fst.depth v.snd.snd.snd.snd.snd.fst.pieces (IntKind.i64.wrap (v.snd.snd.snd.snd.snd.fst.bytes + (↑x1.size : Int))), ())
    else none
  else some ((v.snd.snd.snd.fst, v.snd.snd.snd.snd.fst, v.snd.snd.snd.snd.snd.fst, ()))
  partial_fixpoint
mutual
noncomputable def n_58l8 (v : (List Tag) × Int × Int × Size × Size × Unit) : Option ((Size × Size × Unit)) :=
  if decide (v.snd.snd.fst < v.snd.fst) = true then
    if (0 : Int) ≤ v.snd.snd.fst then
      v.fst[v.snd.snd.fst.toNat]? >>= fun x1 =>
      n_58 (x1, ()) >>= fun x2 =>
      n_58l8 (v.fst, v.snd.fst, IntKind.i64.wrap (v.snd.snd.fst + (1 : Int)), v.snd.snd.snd.fst, Size.mk (max v.snd.snd.snd.snd.fst.depth x2.fst.depth) (IntKind.i64.wrap (v.snd.snd.snd.snd.fst.pieces + x2.fst.pieces)) (IntKind.i64.wrap (v.snd.snd.snd.snd.fst.bytes + x2.fst.bytes)), ())
    else none
  else some ((v.snd.snd.snd.fst, v.snd.snd.snd.snd.fst, ()))
  partial_fixpoint
noncomputable def n_58 (v : Tag × Unit) : Option (Size × Unit) :=
  n_58l3 (v.fst.names, (↑v.fst.names.length : Int), (0 : Int), v.fst, Size.mk (0 : Int) (0 : Int) (0 : Int), Size.mk (0 : Int) (1 : Int) (↑v.fst.text.size : Int), ()) >>= fun x1 =>
  n_58l8 (x1.fst.parts, (↑x1.fst.parts.length : Int), (0 : Int), x1.snd.fst, x1.snd.snd.fst, ()) >>= fun x2 =>
  some ((Size.mk (IntKind.i64.wrap (x2.snd.fst.depth + (1 : Int))) x2.snd.fst.pieces x2.snd.fst.bytes, ()))
  partial_fixpoint
end
noncomputable def call58 (n_58l3 : (List ByteArray) × Int × Int × Tag × Size × Size × Unit → Option ((Tag × Size × Size × Unit))) (n_58l8 : (List Tag) × Int × Int × Size × Size × Unit → Option ((Size × Size × Unit))) (n_58 : Tag × Unit → Option (Size × Unit)) : Caller vw := fun A fid args S k => match fid with | 58 => callPure Tryz.prog sig58 n_58 A args S k | _ => none
noncomputable def x58 (n_58l3 : (List ByteArray) × Int × Int × Tag × Size × Size × Unit → Option ((Tag × Size × Size × Unit))) (n_58l8 : (List Tag) × Int × Int × Size × Size × Unit → Option ((Size × Size × Unit))) (n_58 : Tag × Unit → Option (Size × Unit)) : Xc vw := { P := Tryz.prog, n := 58, nm := id, call := call58 n_58l3 n_58l8 n_58, pre := fun _ => false, sh := sh58, joins := fun _ => none, regs := fun _ => none, loops := fun k => match k with | 3 => some { cut := c58l3, alts := [.exit 0], F := n_58l3 } | 8 => some { cut := c58l8, alts := [.exit 2], F := n_58l8 } | _ => none }
abbrev mn_58l3 (v : (List ByteArray) × Int × Int × Tag × Size × Size × Unit) (r : (Tag × Size × Size × Unit)) : Prop := (fun v out => ∀ C : Ctx, C.P = Tryz.prog → C.N = 58 → AWpL C (loopNo (bodyOf Tryz.f58) 0) (encS vw (conc vw c58l3 v)) (OutQ sh58 [.exit 0] out)) v r
theorem cn_58l3 (f0 : (List ByteArray) × Int × Int × Tag × Size × Size × Unit → Option ((Tag × Size × Size × Unit))) (h0 : ∀ v r, f0 v = some r → mn_58l3 v r) : CallerOk Tryz.prog (x58 f0 (fun _ => none) (fun _ => none)).call := (by
        intro A fid args S dst k r h
        unfold x58 call58 at h
        simp only at h
        split at h
        · exact callPure_ok ((fun v r x h hx => by cases h)) rfl rfl h
        · cases h)
theorem sn_58l3 (f0 : (List ByteArray) × Int × Int × Tag × Size × Size × Unit → Option ((Tag × Size × Size × Unit))) (h0 : ∀ v r, f0 v = some r → mn_58l3 v r) (v : (List ByteArray) × Int × Int × Tag × Size × Size × Unit) (r : (Tag × Size × Size × Unit)) (h : exL (x58 f0 (fun _ => none) (fun _ => none)) (loopNo (bodyOf Tryz.f58) 0) c58l3 [.exit 0] f0 v = some r) : mn_58l3 v r := fun C hP hN => loop_step (X := x58 f0 (fun _ => none) (fun _ => none)) (b := (loopNo (bodyOf Tryz.f58) 0)) hP hN Ty.mixed (cn_58l3 f0 h0) (lok_all (X := x58 f0 (fun _ => none) (fun _ => none)) (c := (loopNo (bodyOf Tryz.f58) 0)) (kcast (by kernel_rfl : True = AllB (LoopsP C (x58 f0 (fun _ => none) (fun _ => none))) (loopsIn (loopNo (bodyOf Tryz.f58) 0))) trivial)) (cut := c58l3) (alts := [.exit 0]) (F := f0) (fun v out h => h0 v out h C hP hN) h
theorem n_58l3_pc : ∀ v out, n_58l3 v = some out → (fun v out => ∀ C : Ctx, C.P = Tryz.prog → C.N = 58 → AWpL C (loopNo (bodyOf Tryz.f58) 0) (encS vw (conc vw c58l3 v)) (OutQ sh58 [.exit 0] out)) v out := (n_58l3.partial_correctness (motive := mn_58l3) (fun f0 h0 v r h => sn_58l3 f0 h0 v r (kcast (by kernel_rfl) h)))
abbrev mn_58l8 (v : (List Tag) × Int × Int × Size × Size × Unit) (r : (Size × Size × Unit)) : Prop := (fun v out => ∀ C : Ctx, C.P = Tryz.prog → C.N = 58 → AWpL C (loopNo (bodyOf Tryz.f58) 1) (encS vw (conc vw c58l8 v)) (OutQ sh58 [.exit 2] out)) v r
abbrev mn_58 (v : Tag × Unit) (r : Size × Unit) : Prop := (fun v r => ∀ x, resV Tryz.prog sig58 r = some x → FnOk Tryz.prog 58 (encL vw (startS sig58 v).len (startOs sig58 v).1) (encOs (startS sig58 v).len (startS sig58 v).own) (encV vw (conc vw sig58.rcut r).len x) (encOs (conc vw sig58.rcut r).len (kept sig58 r))) v r
theorem cn_58l8 (f0 : (List Tag) × Int × Int × Size × Size × Unit → Option ((Size × Size × Unit))) (f1 : Tag × Unit → Option (Size × Unit)) (h0 : ∀ v r, f0 v = some r → mn_58l8 v r) (h1 : ∀ v r, f1 v = some r → mn_58 v r) : CallerOk Tryz.prog (x58 (fun _ => none) f0 f1).call := (by
        intro A fid args S dst k r h
        unfold x58 call58 at h
        simp only at h
        split at h
        · exact callPure_ok ((fun v r x h hx => h1 v r h x hx)) rfl rfl h
        · cases h)
theorem sn_58l8 (f0 : (List Tag) × Int × Int × Size × Size × Unit → Option ((Size × Size × Unit))) (f1 : Tag × Unit → Option (Size × Unit)) (h0 : ∀ v r, f0 v = some r → mn_58l8 v r) (h1 : ∀ v r, f1 v = some r → mn_58 v r) (v : (List Tag) × Int × Int × Size × Size × Unit) (r : (Size × Size × Unit)) (h : exL (x58 (fun _ => none) f0 f1) (loopNo (bodyOf Tryz.f58) 1) c58l8 [.exit 2] f0 v = some r) : mn_58l8 v r := fun C hP hN => loop_step (X := x58 (fun _ => none) f0 f1) (b := (loopNo (bodyOf Tryz.f58) 1)) hP hN Ty.mixed (cn_58l8 f0 f1 h0 h1) (lok_all (X := x58 (fun _ => none) f0 f1) (c := (loopNo (bodyOf Tryz.f58) 1)) (kcast (by kernel_rfl : True = AllB (LoopsP C (x58 (fun _ => none) f0 f1)) (loopsIn (loopNo (bodyOf Tryz.f58) 1))) trivial)) (cut := c58l8) (alts := [.exit 2]) (F := f0) (fun v out h => h0 v out h C hP hN) h
theorem cn_58 (f0 : (List Tag) × Int × Int × Size × Size × Unit → Option ((Size × Size × Unit))) (h0 : ∀ v r, f0 v = some r → mn_58l8 v r) : CallerOk Tryz.prog (x58 n_58l3 f0 (fun _ => none)).call := (by
        intro A fid args S dst k r h
        unfold x58 call58 at h
        simp only at h
        split at h
        · exact callPure_ok ((fun v r x h hx => by cases h)) rfl rfl h
        · cases h)
theorem sn_58 (f0 : (List Tag) × Int × Int × Size × Size × Unit → Option ((Size × Size × Unit))) (h0 : ∀ v r, f0 v = some r → mn_58l8 v r) (v : Tag × Unit) (r : Size × Unit) (h : exF (x58 n_58l3 f0 (fun _ => none)) sig58 rfl (bodyOf Tryz.f58) v = some r) : mn_58 v r := fun x hx => fn_ok (X := x58 n_58l3 f0 (fun _ => none)) (sig := sig58) rfl Tryz.func58 (c := bodyOf Tryz.f58) (by kernel_rfl) Tryz.ntmps58 (by kernel_rfl) (by kernel_rfl) rfl Ty.mixed (cn_58 f0 h0) rfl (fun C hP hN => (lok_all (X := x58 n_58l3 f0 (fun _ => none)) (c := (bodyOf Tryz.f58)) (kcast (by kernel_rfl : AllB (LoopsP C (x58 n_58l3 f0 (fun _ => none))) [(loopNo (bodyOf Tryz.f58) 0), (loopNo (bodyOf Tryz.f58) 1)] = AllB (LoopsP C (x58 n_58l3 f0 (fun _ => none))) (loopsIn (bodyOf Tryz.f58))) ⟨loop_at (X := x58 n_58l3 f0 (fun _ => none)) (b := (loopNo (bodyOf Tryz.f58) 0)) (by kernel_rfl) (show LoopOk C (loopNo (bodyOf Tryz.f58) 0) (sh := sh58) { cut := c58l3, alts := [.exit 0], F := n_58l3 } from fun v out h => n_58l3_pc v out h C hP hN), loop_at (X := x58 n_58l3 f0 (fun _ => none)) (b := (loopNo (bodyOf Tryz.f58) 1)) (by kernel_rfl) (show LoopOk C (loopNo (bodyOf Tryz.f58) 1) (sh := sh58) { cut := c58l8, alts := [.exit 2], F := f0 } from fun v out h => h0 v out h C hP hN), trivial⟩))) h x hx
theorem n_58l8_all : (∀ v r, n_58l8 v = some r → mn_58l8 v r) ∧ (∀ v r, n_58 v = some r → mn_58 v r) := by
  refine n_58l8.mutual_partial_correctness
    (motive_1 := mn_58l8)
    (motive_2 := mn_58)
    ?_ ?_
  · exact (fun f0 f1 h0 h1 v r h => sn_58l8 f0 f1 h0 h1 v r (kcast (by kernel_rfl) h))
  · exact (fun f0 h0 v r h => sn_58 f0 h0 v r (kcast (by kernel_rfl) h))
theorem n_58l8_pc : ∀ v out, n_58l8 v = some out → (fun v out => ∀ C : Ctx, C.P = Tryz.prog → C.N = 58 → AWpL C (loopNo (bodyOf Tryz.f58) 1) (encS vw (conc vw c58l8 v)) (OutQ sh58 [.exit 2] out)) v out := n_58l8_all.1
theorem n_58_ok : SigOk Tryz.prog 58 sig58 n_58 := fun v r x h hx => n_58l8_all.2 v r h x hx

noncomputable def c29r2 : Cut SN := { slots := [(1, .bp 1 0), (6, .dat .bool)], objs := [(1, .st .tagT)] }
noncomputable def c29z : Cut SN := { slots := [(2, .dat (.int .i64))], objs := [] }
noncomputable def sh29 : Shape vw := { exits := fun _ => { slots := [], objs := [] }, rcut := c29z }
noncomputable def sig29 : Sig vw := { params := [.dat (.st .tagT)], objs := [], rcut := c29z, rvars := [.tmp 2], keep := [] }
noncomputable def n_29 (v : Tag × Unit) : Option (Int × Unit) :=
  n_58 (v.fst, ()) >>= fun x1 =>
  (if decide (x1.fst.depth > (20 : Int)) = true then
      some ((true, v.fst, ()))
    else if decide (x1.fst.pieces > (500 : Int)) = true then
      some ((true, v.fst, ()))
    else some ((decide (x1.fst.bytes > (4096 : Int)), v.fst, ()))) >>= fun x2 =>
  if x2.fst = true then
    some (((3 : Int), ()))
  else n_61 (x2.snd.fst, ()) >>= fun x3 =>
  if (!x3.fst) = true then
    some (((1 : Int), ()))
  else n_62 (x2.snd.fst, ()) >>= fun x4 =>
  if x4.fst = true then
    some (((5 : Int), ()))
  else some (((0 : Int), ()))
noncomputable def call29 : Caller vw := fun A fid args S k => match fid with | 58 => callPure Tryz.prog sig58 n_58 A args S k | 61 => callPure Tryz.prog sig61 n_61 A args S k | 62 => callPure Tryz.prog sig62 n_62 A args S k | _ => none
noncomputable def x29 : Xc vw := { P := Tryz.prog, n := 27, nm := id, call := call29, pre := fun _ => false, sh := sh29, joins := fun _ => none, regs := fun k => match k with | 2 => some c29r2 | _ => none, loops := fun _ => none }
theorem call29_ok : CallerOk Tryz.prog call29 := fun A fid args S dst k r h => by
  unfold call29 at h
  split at h
  · exact callPure_ok (n_58_ok) rfl rfl h
  · exact callPure_ok (n_61_ok) rfl rfl h
  · exact callPure_ok (n_62_ok) rfl rfl h
  · cases h
theorem n_29_ok : SigOk Tryz.prog 29 sig29 n_29 := fun v r x h hx =>
  fn_ok (X := x29) (sig := sig29) rfl Tryz.func29 (c := bodyOf Tryz.f29) (by kernel_rfl) Tryz.ntmps29 (by kernel_rfl) (by kernel_rfl) rfl Ty.mixed call29_ok rfl (fun C hP hN => (lok_all (X := x29) (c := (bodyOf Tryz.f29)) (kcast (by kernel_rfl : True = AllB (LoopsP C (x29)) (loopsIn (bodyOf Tryz.f29))) trivial))) (kcast (by kernel_rfl) h) x hx

noncomputable def c77l2 : Cut SN := { slots := [(0, .dat (.sl .str)), (1, .dat .str), (7, .dat (.int .i64)), (8, .dat (.int .i64))], objs := [] }
noncomputable def c77e0 : Cut SN := { slots := [], objs := [] }
noncomputable def c77z : Cut SN := { slots := [(4, .dat (.int .i64))], objs := [] }
noncomputable def sh77 : Shape vw := { exits := fun id => match id with | 0 => c77e0 | _ => { slots := [], objs := [] }, rcut := c77z }
noncomputable def sig77 : Sig vw := { params := [.dat (.sl .str), .dat .str], objs := [], rcut := c77z, rvars := [.tmp 4], keep := [] }
noncomputable def n_77l2 (v : (List ByteArray) × ByteArray × Int × Int × Unit) : Option (((Int × Unit) ⊕ (Unit))) :=
  if decide (v.snd.snd.snd.fst < v.snd.snd.fst) = true then
    if (0 : Int) ≤ v.snd.snd.snd.fst then
      v.fst[v.snd.snd.snd.fst.toNat]? >>= fun x1 =>
      if (v.snd.fst.toList == x1.toList) = true then
        some (Sum.inl (v.snd.snd.snd.fst, ()))
      else n_77l2 (v.fst, v.snd.fst, v.snd.snd.fst, IntKind.i64.wrap (v.snd.snd.snd.fst + (1 : Int)), ())
    else none
  else some (Sum.inr ())
  partial_fixpoint
noncomputable def n_77 (v : (List ByteArray) × ByteArray × Unit) : Option (Int × Unit) :=
  n_77l2 (v.fst, v.snd.fst, (↑v.fst.length : Int), (0 : Int), ()) >>= fun x1 => match x1 with
    | .inl y1 => some y1
    | .inr y1 => some (((-1 : Int), ()))
noncomputable def call77 : Caller vw := fun _ _ _ _ _ => none
noncomputable def x77 : Xc vw := { P := Tryz.prog, n := 19, nm := id, call := call77, pre := fun _ => false, sh := sh77, joins := fun _ => none, regs := fun _ => none, loops := fun k => match k with | 2 => some { cut := c77l2, alts := [.ret, .exit 0], F := n_77l2 } | _ => none }
theorem call77_ok : CallerOk Tryz.prog call77 := call_none
theorem n_77l2_ok (C : Ctx) (hP : C.P = Tryz.prog) (hN : C.N = 19) : LoopOk C (loopNo (bodyOf Tryz.f77) 0) (sh := sh77) { cut := c77l2, alts := [.ret, .exit 0], F := n_77l2 } :=
  n_77l2.partial_correctness (motive := fun v out => AWpL C (loopNo (bodyOf Tryz.f77) 0) (encS vw (conc vw c77l2 v)) (OutQ sh77 [.ret, .exit 0] out)) fun F ih v out h =>
    loop_step (X := x77) (b := (loopNo (bodyOf Tryz.f77) 0)) hP hN Ty.mixed call77_ok (lok_all (X := x77) (c := (loopNo (bodyOf Tryz.f77) 0)) (kcast (by kernel_rfl : True = AllB (LoopsP C (x77)) (loopsIn (loopNo (bodyOf Tryz.f77) 0))) trivial)) ih (kcast (by kernel_rfl) h)
theorem n_77_ok : SigOk Tryz.prog 77 sig77 n_77 := fun v r x h hx =>
  fn_ok (X := x77) (sig := sig77) rfl Tryz.func77 (c := bodyOf Tryz.f77) (by kernel_rfl) Tryz.ntmps77 (by kernel_rfl) (by kernel_rfl) rfl Ty.mixed call77_ok rfl (fun C hP hN => (lok_all (X := x77) (c := (bodyOf Tryz.f77)) (kcast (by kernel_rfl : AllB (LoopsP C (x77)) [(loopNo (bodyOf Tryz.f77) 0)] = AllB (LoopsP C (x77)) (loopsIn (bodyOf Tryz.f77))) ⟨loop_at (X := x77) (b := (loopNo (bodyOf Tryz.f77) 0)) (by kernel_rfl) (n_77l2_ok C hP hN), trivial⟩))) (kcast (by kernel_rfl) h) x hx

noncomputable def c78z : Cut SN := { slots := [(2, .dat (.int .i64)), (3, .dat .er)], objs := [] }
noncomputable def sh78 : Shape vw := { exits := fun _ => { slots := [], objs := [] }, rcut := c78z }
noncomputable def sig78 : Sig vw := { params := [.dat .str], objs := [], rcut := c78z, rvars := [.tmp 2, .tmp 3], keep := [] }
noncomputable def n_78 (v : ByteArray × Unit) : Option (Int × Bool × Unit) :=
  if v.1.size ≤ 1000000000000 then (match Lib.atoiAll v.1.data.toList with | .ok n => some (n, false, ()) | .range => some (Lib.atoiSat v.1.data.toList, true, ()) | _ => some (0, true, ())) else none
theorem n_78_ok : SigOk Tryz.prog 78 sig78 n_78 := fun v r x h hx => by
  obtain ⟨s, u⟩ := v
  unfold n_78 at h
  split at h
  · rename_i hc
    simp only at hc h
    cases hq : Lib.atoiAll s.data.toList with
    | ok n =>
      simp only [hq] at h
      cases h; cases hx
      exact kcast (by kernel_rfl) (FnOk.pure (P := Tryz.prog) (f := 78) (args := [.d (.v (.string s))]) (r := .tup [.d (.v (.int .i64 n)), .d (.er false)]) (by kernel_rfl) fun E M w vs hg hm hv => by
        obtain ⟨v1, rfl, h1⟩ := hreps_one hv
        rw [h1.dv]
        exact (Tryz.strconv_Atoi_ok s (by omega) n hq w).mono fun e w' ⟨he, hw⟩ => ⟨_, he, hrep_er .ern, below_bytes hw⟩)
    | range =>
      simp only [hq] at h
      cases h; cases hx
      exact kcast (by kernel_rfl) (FnOk.pure (P := Tryz.prog) (f := 78) (args := [.d (.v (.string s))]) (r := .tup [.d (.v (.int .i64 (Lib.atoiSat s.data.toList))), .d (.er true)]) (by kernel_rfl) fun E M w vs hg hm hv => by
        obtain ⟨v1, rfl, h1⟩ := hreps_one hv
        rw [h1.dv]
        obtain ⟨te, pe, hev⟩ := gm_range hg hm
        exact (Tryz.strconv_Atoi_range s (by omega) hq _ w hev (.inr ⟨te, pe, rfl⟩)).mono fun e w' ⟨N, he, _, _, hw⟩ => ⟨_, he, hrep_er (.ere _ _), hw⟩)
    | _ =>
      simp only [hq] at h
      cases h; cases hx
      exact kcast (by kernel_rfl) (FnOk.pure (P := Tryz.prog) (f := 78) (args := [.d (.v (.string s))]) (r := .tup [.d (.v (.int .i64 0)), .d (.er true)]) (by kernel_rfl) fun E M w vs hg hm hv => by
        obtain ⟨v1, rfl, h1⟩ := hreps_one hv
        rw [h1.dv]
        obtain ⟨te, pe, hev⟩ := gm_syntax hg hm
        exact (Tryz.strconv_Atoi_syntax s (by omega) ⟨fun n hn => (by rw [hq] at hn; cases hn), fun hn => (by rw [hq] at hn; cases hn)⟩ _ w hev (.inr ⟨te, pe, rfl⟩)).mono fun e w' ⟨N, he, _, _, hw⟩ => ⟨_, he, hrep_er (.ere _ _), hw⟩)
  · cases h

noncomputable def c79z : Cut SN := { slots := [(2, .dat .str)], objs := [] }
noncomputable def sh79 : Shape vw := { exits := fun _ => { slots := [], objs := [] }, rcut := c79z }
noncomputable def sig79 : Sig vw := { params := [.dat (.int .i64)], objs := [], rcut := c79z, rvars := [.tmp 2], keep := [] }
noncomputable def n_79 (v : Int × Unit) : Option (ByteArray × Unit) :=
  if -9223372036854775808 ≤ v.1 ∧ v.1 ≤ 9223372036854775807 then some (⟨(Lib.itoa v.1).toArray⟩, ()) else none
theorem n_79_ok : SigOk Tryz.prog 79 sig79 n_79 := fun v r x h hx => by
  obtain ⟨n, u⟩ := v
  unfold n_79 at h
  split at h
  · rename_i hc
    obtain ⟨h0, h1⟩ := hc
    simp only at h0 h1
    cases h; cases hx
    exact kcast (by kernel_rfl) (FnOk.pure (P := Tryz.prog) (f := 79) (args := [.d (.v (.int .i64 n))]) (r := .d (.v (.string ⟨(Lib.itoa n).toArray⟩))) (by kernel_rfl) fun E M w vs hg hm hv => by
      obtain ⟨v1, rfl, h2⟩ := hreps_one hv
      rw [h2.dv]
      exact (Tryz.strconv_Itoa n h0 h1 w (tab_pow10 hg hm)).mono fun e w' ⟨he, k, os, hw⟩ => ⟨_, he, .d (.v _), hw ▸ Lib.below_grow _ w (Nat.le_refl _) k os⟩)
  · cases h

noncomputable def c55r4 : Cut SN := { slots := [(5, .dat (.int .i64)), (42, .dat .bool)], objs := [] }
noncomputable def c55z : Cut SN := { slots := [(4, .dat (.int .i64))], objs := [] }
noncomputable def sh55 : Shape vw := { exits := fun _ => { slots := [], objs := [] }, rcut := c55z }
noncomputable def sig55 : Sig vw := { params := [.dat (.st .tagT), .dat .str], objs := [], rcut := c55z, rvars := [.tmp 4], keep := [] }
noncomputable def n_55 (v : Tag × ByteArray × Unit) : Option (Int × Unit) :=
  if (v.fst.kind == (6 : Int)) = true then
    n_77 (v.fst.names, v.snd.fst, ()) >>= fun x1 =>
    some ((x1.fst, ()))
  else n_78 (v.snd.fst, ()) >>= fun x1 =>
  (if (v.fst.kind != (5 : Int)) = true then
      some ((x1.fst, true, ()))
    else if x1.snd.fst = true then
      some ((x1.fst, true, ()))
    else if decide (x1.fst < (0 : Int)) = true then
      some ((x1.fst, true, ()))
    else if decide (x1.fst > (↑v.fst.parts.length : Int)) = true then
      some ((x1.fst, true, ()))
    else n_79 (x1.fst, ()) >>= fun x2 =>
    some ((x1.fst, !x2.fst.toList == v.snd.fst.toList, ()))) >>= fun x2 =>
  if x2.snd.fst = true then
    some (((-1 : Int), ()))
  else some ((x2.fst, ()))
noncomputable def call55 : Caller vw := fun A fid args S k => match fid with | 77 => callPure Tryz.prog sig77 n_77 A args S k | 78 => callPure Tryz.prog sig78 n_78 A args S k | 79 => callPure Tryz.prog sig79 n_79 A args S k | _ => none
noncomputable def x55 : Xc vw := { P := Tryz.prog, n := 44, nm := id, call := call55, pre := fun _ => false, sh := sh55, joins := fun _ => none, regs := fun k => match k with | 4 => some c55r4 | _ => none, loops := fun _ => none }
theorem call55_ok : CallerOk Tryz.prog call55 := fun A fid args S dst k r h => by
  unfold call55 at h
  split at h
  · exact callPure_ok (n_77_ok) rfl rfl h
  · exact callPure_ok (n_78_ok) rfl rfl h
  · exact callPure_ok (n_79_ok) rfl rfl h
  · cases h
theorem n_55_ok : SigOk Tryz.prog 55 sig55 n_55 := fun v r x h hx =>
  fn_ok (X := x55) (sig := sig55) rfl Tryz.func55 (c := bodyOf Tryz.f55) (by kernel_rfl) Tryz.ntmps55 (by kernel_rfl) (by kernel_rfl) rfl Ty.mixed call55_ok rfl (fun C hP hN => (lok_all (X := x55) (c := (bodyOf Tryz.f55)) (kcast (by kernel_rfl : True = AllB (LoopsP C (x55)) (loopsIn (bodyOf Tryz.f55))) trivial))) (kcast (by kernel_rfl) h) x hx

noncomputable def c44l2 : Cut SN := { slots := [(2, .bp 2 0), (4, .bp 4 0), (9, .dat (.sl .str)), (10, .dat (.int .i64)), (11, .dat (.int .i64))], objs := [(2, .st .tagT), (4, .st .tagT)] }
noncomputable def c44r5 : Cut SN := { slots := [(2, .bp 2 0), (4, .bp 4 0), (8, .dat (.int .i64)), (9, .dat (.sl .str)), (10, .dat (.int .i64)), (11, .dat (.int .i64)), (26, .dat .bool)], objs := [(2, .st .tagT), (4, .st .tagT)] }
noncomputable def c44e0 : Cut SN := { slots := [(2, .bp 2 0), (4, .bp 4 0)], objs := [(2, .st .tagT), (4, .st .tagT)] }
noncomputable def c44z : Cut SN := { slots := [(4, .bp 4 0), (5, .dat .bool)], objs := [(4, .st .tagT)] }
noncomputable def sh44 : Shape vw := { exits := fun id => match id with | 0 => c44e0 | _ => { slots := [], objs := [] }, rcut := c44z }
noncomputable def sig44 : Sig vw := { params := [.dat (.st .tagT), .dat (.sl .str)], objs := [], rcut := c44z, rvars := [.cell 4 25, .tmp 5], keep := [] }
noncomputable def n_44l2 (v : (List ByteArray) × Int × Int × Tag × Tag × Unit) : Option (((Bool × Tag × Unit) ⊕ (Tag × Tag × Unit))) :=
  if decide (v.snd.snd.fst < v.snd.fst) = true then
    if (0 : Int) ≤ v.snd.snd.fst then
      v.fst[v.snd.snd.fst.toNat]? >>= fun x1 =>
      n_55 (v.snd.snd.snd.fst, x1, ()) >>= fun x2 =>
      (if decide (x2.fst < (0 : Int)) = true then
          some ((x2.fst, v.fst, v.snd.fst, v.snd.snd.fst, true, v.snd.snd.snd.fst, v.snd.snd.snd.snd.fst, ()))
        else some ((x2.fst, v.fst, v.snd.fst, v.snd.snd.fst, decide (x2.fst ≥ (↑v.snd.snd.snd.fst.parts.length : Int)), v.snd.snd.snd.fst, v.snd.snd.snd.snd.fst, ()))) >>= fun x3 =>
      if x3.snd.snd.snd.snd.fst = true then
        some (Sum.inl (false, Tag.mk (0 : Int) (0 : Int) (ByteArray.mk #[]) [] [], ()))
      else if (0 : Int) ≤ x3.fst then
        x3.snd.snd.snd.snd.snd.fst.parts[x3.fst.toNat]? >>= fun x4 =>
        n_44l2 (x3.snd.fst, x3.snd.snd.fst, IntKind.i64.wrap (x3.snd.snd.snd.fst + (1 : Int)), x4, x3.snd.snd.snd.snd.snd.snd.fst, ())
      else none
    else none
  else some (Sum.inr (v.snd.snd.snd.fst, v.snd.snd.snd.snd.fst, ()))
  partial_fixpoint
noncomputable def n_44 (v : Tag × (List ByteArray) × Unit) : Option (Bool × Tag × Unit) :=
  n_44l2 (v.snd.fst, (↑v.snd.fst.length : Int), (0 : Int), v.fst, Tag.mk (0 : Int) (0 : Int) (ByteArray.mk #[]) [] [], ()) >>= fun x1 => match x1 with
    | .inl y1 => some y1
    | .inr y1 => some ((true, y1.fst, ()))
noncomputable def call44 : Caller vw := fun A fid args S k => match fid with | 55 => callPure Tryz.prog sig55 n_55 A args S k | _ => none
noncomputable def x44 : Xc vw := { P := Tryz.prog, n := 35, nm := id, call := call44, pre := fun _ => false, sh := sh44, joins := fun _ => none, regs := fun k => match k with | 5 => some c44r5 | _ => none, loops := fun k => match k with | 2 => some { cut := c44l2, alts := [.ret, .exit 0], F := n_44l2 } | _ => none }
theorem call44_ok : CallerOk Tryz.prog call44 := fun A fid args S dst k r h => by
  unfold call44 at h
  split at h
  · exact callPure_ok (n_55_ok) rfl rfl h
  · cases h
theorem n_44l2_ok (C : Ctx) (hP : C.P = Tryz.prog) (hN : C.N = 35) : LoopOk C (loopNo (bodyOf Tryz.f44) 0) (sh := sh44) { cut := c44l2, alts := [.ret, .exit 0], F := n_44l2 } :=
  n_44l2.partial_correctness (motive := fun v out => AWpL C (loopNo (bodyOf Tryz.f44) 0) (encS vw (conc vw c44l2 v)) (OutQ sh44 [.ret, .exit 0] out)) fun F ih v out h =>
    loop_step (X := x44) (b := (loopNo (bodyOf Tryz.f44) 0)) hP hN Ty.mixed call44_ok (lok_all (X := x44) (c := (loopNo (bodyOf Tryz.f44) 0)) (kcast (by kernel_rfl : True = AllB (LoopsP C (x44)) (loopsIn (loopNo (bodyOf Tryz.f44) 0))) trivial)) ih (kcast (by kernel_rfl) h)
theorem n_44_ok : SigOk Tryz.prog 44 sig44 n_44 := fun v r x h hx =>
  fn_ok (X := x44) (sig := sig44) rfl Tryz.func44 (c := bodyOf Tryz.f44) (by kernel_rfl) Tryz.ntmps44 (by kernel_rfl) (by kernel_rfl) rfl Ty.mixed call44_ok rfl (fun C hP hN => (lok_all (X := x44) (c := (bodyOf Tryz.f44)) (kcast (by kernel_rfl : AllB (LoopsP C (x44)) [(loopNo (bodyOf Tryz.f44) 0)] = AllB (LoopsP C (x44)) (loopsIn (bodyOf Tryz.f44))) ⟨loop_at (X := x44) (b := (loopNo (bodyOf Tryz.f44) 0)) (by kernel_rfl) (n_44l2_ok C hP hN), trivial⟩))) (kcast (by kernel_rfl) h) x hx

noncomputable def c75z : Cut SN := { slots := [(2, .dat (.sl .str))], objs := [] }
noncomputable def sh75 : Shape vw := { exits := fun _ => { slots := [], objs := [] }, rcut := c75z }
noncomputable def sig75 : Sig vw := { params := [.dat (.sl .str)], objs := [], rcut := c75z, rvars := [.tmp 2], keep := [] }
noncomputable def n_75 (v : (List ByteArray) × Unit) : Option ((List ByteArray) × Unit) :=
  if v.fst.length ≤ 4294967296 then some (v.fst, ()) else none
noncomputable def call75 : Caller vw := fun _ _ _ _ _ => none
noncomputable def x75 : Xc vw := { P := Tryz.prog, n := 8, nm := fun d => match d with | 5 => 40005 | _ => d, call := call75, pre := fun _ => false, sh := sh75, joins := fun _ => none, regs := fun _ => none, loops := fun _ => none }
theorem call75_ok : CallerOk Tryz.prog call75 := call_none
theorem n_75_ok : SigOk Tryz.prog 75 sig75 n_75 := fun v r x h hx => by
  unfold n_75 at h
  split at h
  · rename_i hlen
    cases h; cases hx
    refine kcast (by kernel_rfl) (fn_split (P := Tryz.prog) (f := 75) (sz := 1) (rows := (v.fst.map fun y => encR szN encN .str y)) (r := .d (.sl 1 (v.fst.map fun y => encR szN encN .str y))) (own' := []) (fun hne => ?_) (fun he => ?_) (fun he a cap => ?_))
    · obtain ⟨l, u⟩ := v
      cases l with
      | nil => simp at hne
      | cons y ys =>
        have e : exF x75 sig75 rfl (bodyOf Tryz.f75) (y :: ys, ()) = if ([] : (List ByteArray)).length + (y :: ys).length ≤ most then some ([] ++ (y :: ys), ()) else none := by kernel_rfl
        rw [if_pos (by simp only [List.length_nil, Nat.zero_add]; exact hlen)] at e
        exact kcast (by kernel_rfl) (fn_ok (X := x75) (sig := sig75) rfl Tryz.func75 (c := bodyOf Tryz.f75) (by kernel_rfl) Tryz.ntmps75 (by kernel_rfl) (by kernel_rfl) rfl Ty.mixed call75_ok rfl (fun C hP hN => (lok_all (X := x75) (c := (bodyOf Tryz.f75)) (kcast (by kernel_rfl : True = AllB (LoopsP C (x75)) (loopsIn (bodyOf Tryz.f75))) trivial))) (v := (y :: ys, ())) e (.lf (.sl .str) (y :: ys)) rfl)
    · have hv : v.fst = [] := by simpa using he
      obtain ⟨l, u⟩ := v
      cases hv
      exact kcast (by kernel_rfl) (fn_okS (X := x75) (sig := sig75) rfl Tryz.func75 (c := bodyOf Tryz.f75) (by kernel_rfl) Tryz.ntmps75 (by kernel_rfl) (by kernel_rfl) Ty.mixed call75_ok rfl (fun C hP hN => (lok_all (X := x75) (c := (bodyOf Tryz.f75)) (kcast (by kernel_rfl : True = AllB (LoopsP C (x75)) (loopsIn (bodyOf Tryz.f75))) trivial))) (xs := [.raw (.slice none 0 0)]) (by kernel_rfl) (r := ([], ())) (by kernel_rfl) (.lf (.sl .str) []) rfl)
    · have hv : v.fst = [] := by simpa using he
      obtain ⟨l, u⟩ := v
      cases hv
      exact kcast (by kernel_rfl) (fn_okS (X := x75) (sig := sig75) rfl Tryz.func75 (c := bodyOf Tryz.f75) (by kernel_rfl) Tryz.ntmps75 (by kernel_rfl) (by kernel_rfl) Ty.mixed call75_ok rfl (fun C hP hN => (lok_all (X := x75) (c := (bodyOf Tryz.f75)) (kcast (by kernel_rfl : True = AllB (LoopsP C (x75)) (loopsIn (bodyOf Tryz.f75))) trivial))) (xs := [.raw (.slice (some a) 0 cap)]) (by kernel_rfl) (r := ([], ())) (by kernel_rfl) (.lf (.sl .str) []) rfl)
  · cases h

noncomputable def c45l4 : Cut SN := { slots := [(1, .bp 1 0), (2, .bp 2 0), (3, .vh 1003), (11, .dat (.sl (.st .tagT))), (12, .dat (.int .i64)), (13, .dat (.int .i64))], objs := [(1, .st .tagT), (2, .st .tagT), (1003, .vec 25 (.st .tagT))] }
noncomputable def c45e0 : Cut SN := { slots := [(1, .bp 1 0), (2, .bp 2 0), (3, .vh 1003)], objs := [(1, .st .tagT), (2, .st .tagT), (1003, .vec 25 (.st .tagT))] }
noncomputable def c45z : Cut SN := { slots := [(2, .bp 2 0)], objs := [(2, .st .tagT)] }
noncomputable def sh45 : Shape vw := { exits := fun id => match id with | 0 => c45e0 | _ => { slots := [], objs := [] }, rcut := c45z }
noncomputable def sig45 : Sig vw := { params := [.dat (.st .tagT)], objs := [], rcut := c45z, rvars := [.cell 2 25], keep := [] }
mutual
noncomputable def n_45l4 (v : (List Tag) × Int × Int × Tag × Tag × (List Tag) × Unit) : Option ((Tag × Tag × (List Tag) × Unit)) :=
  if decide (v.snd.snd.fst < v.snd.fst) = true then
    if (0 : Int) ≤ v.snd.snd.fst then
      v.fst[v.snd.snd.fst.toNat]? >>= fun x1 =>
      n_45 (x1, ()) >>= fun x2 =>
      if v.snd.snd.snd.snd.snd.fst.length + [x2.fst].length ≤ (4294967296 : Nat) then
        n_45l4 (v.fst, v.snd.fst, IntKind.i64.wrap (v.snd.snd.fst + (1 : Int)), v.snd.snd.snd.fst, v.snd.snd.snd.snd.fst, v.snd.snd.snd.snd.snd.fst ++ [x2.fst], ())
      else none
    else none
  else some ((v.snd.snd.snd.fst, v.snd.snd.snd.snd.fst, v.snd.snd.snd.snd.snd.fst, ()))
  partial_fixpoint
noncomputable def n_45 (v : Tag × Unit) : Option (Tag × Unit) :=
  n_75 (v.fst.names, ()) >>= fun x1 =>
  n_45l4 (v.fst.parts, (↑v.fst.parts.length : Int), (0 : Int), Tag.mk v.fst.kind v.fst.n v.fst.text x1.fst v.fst.parts, Tag.mk (0 : Int) (0 : Int) (ByteArray.mk #[]) [] [], [], ()) >>= fun x2 =>
  some ((Tag.mk x2.fst.kind x2.fst.n x2.fst.text x2.fst.names x2.snd.snd.fst, ()))
  partial_fixpoint
end
noncomputable def call45 (n_45l4 : (List Tag) × Int × Int × Tag × Tag × (List Tag) × Unit → Option ((Tag × Tag × (List Tag) × Unit))) (n_45 : Tag × Unit → Option (Tag × Unit)) : Caller vw := fun A fid args S k => match fid with | 45 => callPure Tryz.prog sig45 n_45 A args S k | 75 => callPure Tryz.prog sig75 n_75 A args S k | _ => none
noncomputable def x45 (n_45l4 : (List Tag) × Int × Int × Tag × Tag × (List Tag) × Unit → Option ((Tag × Tag × (List Tag) × Unit))) (n_45 : Tag × Unit → Option (Tag × Unit)) : Xc vw := { P := Tryz.prog, n := 26, nm := id, call := call45 n_45l4 n_45, pre := fun _ => false, sh := sh45, joins := fun _ => none, regs := fun _ => none, loops := fun k => match k with | 4 => some { cut := c45l4, alts := [.exit 0], F := n_45l4 } | _ => none }
abbrev mn_45l4 (v : (List Tag) × Int × Int × Tag × Tag × (List Tag) × Unit) (r : (Tag × Tag × (List Tag) × Unit)) : Prop := (fun v out => ∀ C : Ctx, C.P = Tryz.prog → C.N = 26 → AWpL C (loopNo (bodyOf Tryz.f45) 0) (encS vw (conc vw c45l4 v)) (OutQ sh45 [.exit 0] out)) v r
abbrev mn_45 (v : Tag × Unit) (r : Tag × Unit) : Prop := (fun v r => ∀ x, resV Tryz.prog sig45 r = some x → FnOk Tryz.prog 45 (encL vw (startS sig45 v).len (startOs sig45 v).1) (encOs (startS sig45 v).len (startS sig45 v).own) (encV vw (conc vw sig45.rcut r).len x) (encOs (conc vw sig45.rcut r).len (kept sig45 r))) v r
theorem cn_45l4 (f0 : (List Tag) × Int × Int × Tag × Tag × (List Tag) × Unit → Option ((Tag × Tag × (List Tag) × Unit))) (f1 : Tag × Unit → Option (Tag × Unit)) (h0 : ∀ v r, f0 v = some r → mn_45l4 v r) (h1 : ∀ v r, f1 v = some r → mn_45 v r) : CallerOk Tryz.prog (x45 f0 f1).call := (by
        intro A fid args S dst k r h
        unfold x45 call45 at h
        simp only at h
        split at h
        · exact callPure_ok ((fun v r x h hx => h1 v r h x hx)) rfl rfl h
        · exact callPure_ok (n_75_ok) rfl rfl h
        · cases h)
theorem sn_45l4 (f0 : (List Tag) × Int × Int × Tag × Tag × (List Tag) × Unit → Option ((Tag × Tag × (List Tag) × Unit))) (f1 : Tag × Unit → Option (Tag × Unit)) (h0 : ∀ v r, f0 v = some r → mn_45l4 v r) (h1 : ∀ v r, f1 v = some r → mn_45 v r) (v : (List Tag) × Int × Int × Tag × Tag × (List Tag) × Unit) (r : (Tag × Tag × (List Tag) × Unit)) (h : exL (x45 f0 f1) (loopNo (bodyOf Tryz.f45) 0) c45l4 [.exit 0] f0 v = some r) : mn_45l4 v r := fun C hP hN => loop_step (X := x45 f0 f1) (b := (loopNo (bodyOf Tryz.f45) 0)) hP hN Ty.mixed (cn_45l4 f0 f1 h0 h1) (lok_all (X := x45 f0 f1) (c := (loopNo (bodyOf Tryz.f45) 0)) (kcast (by kernel_rfl : True = AllB (LoopsP C (x45 f0 f1)) (loopsIn (loopNo (bodyOf Tryz.f45) 0))) trivial)) (cut := c45l4) (alts := [.exit 0]) (F := f0) (fun v out h => h0 v out h C hP hN) h
theorem cn_45 (f0 : (List Tag) × Int × Int × Tag × Tag × (List Tag) × Unit → Option ((Tag × Tag × (List Tag) × Unit))) (h0 : ∀ v r, f0 v = some r → mn_45l4 v r) : CallerOk Tryz.prog (x45 f0 (fun _ => none)).call := (by
        intro A fid args S dst k r h
        unfold x45 call45 at h
        simp only at h
        split at h
        · exact callPure_ok ((fun v r x h hx => by cases h)) rfl rfl h
        · exact callPure_ok (n_75_ok) rfl rfl h
        · cases h)
theorem sn_45 (f0 : (List Tag) × Int × Int × Tag × Tag × (List Tag) × Unit → Option ((Tag × Tag × (List Tag) × Unit))) (h0 : ∀ v r, f0 v = some r → mn_45l4 v r) (v : Tag × Unit) (r : Tag × Unit) (h : exF (x45 f0 (fun _ => none)) sig45 rfl (bodyOf Tryz.f45) v = some r) : mn_45 v r := fun x hx => fn_ok (X := x45 f0 (fun _ => none)) (sig := sig45) rfl Tryz.func45 (c := bodyOf Tryz.f45) (by kernel_rfl) Tryz.ntmps45 (by kernel_rfl) (by kernel_rfl) rfl Ty.mixed (cn_45 f0 h0) rfl (fun C hP hN => (lok_all (X := x45 f0 (fun _ => none)) (c := (bodyOf Tryz.f45)) (kcast (by kernel_rfl : AllB (LoopsP C (x45 f0 (fun _ => none))) [(loopNo (bodyOf Tryz.f45) 0)] = AllB (LoopsP C (x45 f0 (fun _ => none))) (loopsIn (bodyOf Tryz.f45))) ⟨loop_at (X := x45 f0 (fun _ => none)) (b := (loopNo (bodyOf Tryz.f45) 0)) (by kernel_rfl) (show LoopOk C (loopNo (bodyOf Tryz.f45) 0) (sh := sh45) { cut := c45l4, alts := [.exit 0], F := f0 } from fun v out h => h0 v out h C hP hN), trivial⟩))) h x hx
theorem n_45l4_all : (∀ v r, n_45l4 v = some r → mn_45l4 v r) ∧ (∀ v r, n_45 v = some r → mn_45 v r) := by
  refine n_45l4.mutual_partial_correctness
    (motive_1 := mn_45l4)
    (motive_2 := mn_45)
    ?_ ?_
  · exact (fun f0 f1 h0 h1 v r h => sn_45l4 f0 f1 h0 h1 v r (kcast (by kernel_rfl) h))
  · exact (fun f0 h0 v r h => sn_45 f0 h0 v r (kcast (by kernel_rfl) h))
theorem n_45l4_pc : ∀ v out, n_45l4 v = some out → (fun v out => ∀ C : Ctx, C.P = Tryz.prog → C.N = 26 → AWpL C (loopNo (bodyOf Tryz.f45) 0) (encS vw (conc vw c45l4 v)) (OutQ sh45 [.exit 0] out)) v out := n_45l4_all.1
theorem n_45_ok : SigOk Tryz.prog 45 sig45 n_45 := fun v r x h hx => n_45l4_all.2 v r h x hx

noncomputable def c16z : Cut SN := { slots := [(4, .bp 4 0), (5, .dat .bool), (6, .dat (.int .i64))], objs := [(4, .st .tagT)] }
noncomputable def sh16 : Shape vw := { exits := fun _ => { slots := [], objs := [] }, rcut := c16z }
noncomputable def sig16 : Sig vw := { params := [.dat (.st .tagT), .dat (.sl .str)], objs := [], rcut := c16z, rvars := [.cell 4 25, .tmp 5, .tmp 6], keep := [] }
noncomputable def n_16 (v : Tag × (List ByteArray) × Unit) : Option (Bool × Int × Tag × Unit) :=
  n_29 (v.fst, ()) >>= fun x1 =>
  if (x1.fst != (0 : Int)) = true then
    some ((false, x1.fst, Tag.mk (0 : Int) (0 : Int) (ByteArray.mk #[]) [] [], ()))
  else n_44 (v.fst, v.snd.fst, ()) >>= fun x2 =>
  n_45 (x2.snd.fst, ()) >>= fun x3 =>
  some ((x2.fst, (0 : Int), x3.fst, ()))
noncomputable def call16 : Caller vw := fun A fid args S k => match fid with | 29 => callPure Tryz.prog sig29 n_29 A args S k | 44 => callPure Tryz.prog sig44 n_44 A args S k | 45 => callPure Tryz.prog sig45 n_45 A args S k | _ => none
noncomputable def x16 : Xc vw := { P := Tryz.prog, n := 25, nm := id, call := call16, pre := fun _ => false, sh := sh16, joins := fun _ => none, regs := fun _ => none, loops := fun _ => none }
theorem call16_ok : CallerOk Tryz.prog call16 := fun A fid args S dst k r h => by
  unfold call16 at h
  split at h
  · exact callPure_ok (n_29_ok) rfl rfl h
  · exact callPure_ok (n_44_ok) rfl rfl h
  · exact callPure_ok (n_45_ok) rfl rfl h
  · cases h
theorem n_16_ok : SigOk Tryz.prog 16 sig16 n_16 := fun v r x h hx =>
  fn_ok (X := x16) (sig := sig16) rfl Tryz.func16 (c := bodyOf Tryz.f16) (by kernel_rfl) Tryz.ntmps16 (by kernel_rfl) (by kernel_rfl) rfl Ty.mixed call16_ok rfl (fun C hP hN => (lok_all (X := x16) (c := (bodyOf Tryz.f16)) (kcast (by kernel_rfl : True = AllB (LoopsP C (x16)) (loopsIn (bodyOf Tryz.f16))) trivial))) (kcast (by kernel_rfl) h) x hx

noncomputable def c66s0e1dl0 : Cut SN := { slots := [(0, .bp 100000 0)], objs := [(100000, .st .readerT)] }
noncomputable def c66s0e1de0 : Cut SN := { slots := [(0, .bp 100000 0)], objs := [(100000, .st .readerT)] }
noncomputable def c66s0e1dz : Cut SN := { slots := [(0, .bp 100000 0)], objs := [(100000, .st .readerT)] }
noncomputable def sh66s0e1d : Shape vw := { exits := fun id => match id with | 0 => c66s0e1de0 | _ => { slots := [], objs := [] }, rcut := c66s0e1dz }
noncomputable def sig66s0e1d : Sig vw := { params := [.bp 100000 0], objs := [(100000, .st .readerT)], rcut := c66s0e1dz, rvars := [], keep := [100000] }
noncomputable def n_66s0e1dl0 (v : Reader × Unit) : Option ((Reader × Unit)) :=
  n_97s5bd0 (ByteArray.mk #[(32 : UInt8), (10 : UInt8), (9 : UInt8), (13 : UInt8)], v.fst, ()) >>= fun x1 =>
  if x1.fst = true then
    n_66s0e1dl0 (x1.snd.fst, ())
  else some ((x1.snd.fst, ()))
  partial_fixpoint
noncomputable def n_66s0e1d (v : Reader × Unit) : Option (Reader × Unit) :=
  n_66s0e1dl0 (v.fst, ()) >>= fun x1 =>
  some ((x1.fst, ()))
noncomputable def call66s0e1d : Caller vw := fun A fid args S k => match fid with | 97 => callObj Tryz.prog sig97s5bd0 n_97s5bd0 A args S k | _ => none
noncomputable def x66s0e1d : Xc vw := { P := Tryz.prog, n := 4, nm := id, call := call66s0e1d, pre := fun _ => false, sh := sh66s0e1d, joins := fun _ => none, regs := fun _ => none, loops := fun k => match k with | 0 => some { cut := c66s0e1dl0, alts := [.exit 0], F := n_66s0e1dl0 } | _ => none }
theorem call66s0e1d_ok : CallerOk Tryz.prog call66s0e1d := fun A fid args S dst k r h => by
  unfold call66s0e1d at h
  split at h
  · exact callObj_ok (n_97s5bd0_ok) h
  · cases h
theorem n_66s0e1dl0_ok (C : Ctx) (hP : C.P = Tryz.prog) (hN : C.N = 4) : LoopOk C (loopNo (bodyOf Tryz.f66) 0) (sh := sh66s0e1d) { cut := c66s0e1dl0, alts := [.exit 0], F := n_66s0e1dl0 } :=
  n_66s0e1dl0.partial_correctness (motive := fun v out => AWpL C (loopNo (bodyOf Tryz.f66) 0) (encS vw (conc vw c66s0e1dl0 v)) (OutQ sh66s0e1d [.exit 0] out)) fun F ih v out h =>
    loop_step (X := x66s0e1d) (b := (loopNo (bodyOf Tryz.f66) 0)) hP hN Ty.mixed call66s0e1d_ok (lok_all (X := x66s0e1d) (c := (loopNo (bodyOf Tryz.f66) 0)) (kcast (by kernel_rfl : True = AllB (LoopsP C (x66s0e1d)) (loopsIn (loopNo (bodyOf Tryz.f66) 0))) trivial)) ih (kcast (by kernel_rfl) h)
theorem n_66s0e1d_ok : SigOk Tryz.prog 66 sig66s0e1d n_66s0e1d := fun v r x h hx =>
  fn_ok (X := x66s0e1d) (sig := sig66s0e1d) rfl Tryz.func66 (c := bodyOf Tryz.f66) (by kernel_rfl) Tryz.ntmps66 (by kernel_rfl) (by kernel_rfl) rfl Ty.mixed call66s0e1d_ok rfl (fun C hP hN => (lok_all (X := x66s0e1d) (c := (bodyOf Tryz.f66)) (kcast (by kernel_rfl : AllB (LoopsP C (x66s0e1d)) [(loopNo (bodyOf Tryz.f66) 0)] = AllB (LoopsP C (x66s0e1d)) (loopsIn (bodyOf Tryz.f66))) ⟨loop_at (X := x66s0e1d) (b := (loopNo (bodyOf Tryz.f66) 0)) (by kernel_rfl) (n_66s0e1dl0_ok C hP hN), trivial⟩))) (kcast (by kernel_rfl) h) x hx

noncomputable def c93s0e1dl6 : Cut SN := { slots := [(0, .bp 100000 0), (2, .bp 2 0), (4, .dat .bool), (5, .dat (.int .i64))], objs := [(100000, .st .readerT), (2, .st .tagT)] }
noncomputable def c93s0e1dj9 : Cut SN := { slots := [(0, .bp 100000 0), (2, .bp 2 0), (4, .dat .bool), (5, .dat (.int .i64))], objs := [(100000, .st .readerT), (2, .st .tagT)] }
noncomputable def c93s0e1dj11 : Cut SN := { slots := [(0, .bp 100000 0), (2, .bp 2 0), (5, .dat (.int .i64))], objs := [(100000, .st .readerT), (2, .st .tagT)] }
noncomputable def c93s0e1dr5 : Cut SN := { slots := [(0, .bp 100000 0), (2, .bp 2 0), (4, .dat .bool), (5, .dat (.int .i64)), (12, .dat .bool)], objs := [(100000, .st .readerT), (2, .st .tagT)] }
noncomputable def c93s0e1dr6 : Cut SN := { slots := [(0, .bp 100000 0), (2, .bp 2 0), (4, .dat .bool), (5, .dat (.int .i64)), (28, .dat .bool)], objs := [(100000, .st .readerT), (2, .st .tagT)] }
noncomputable def c93s0e1de1 : Cut SN := { slots := [(0, .bp 100000 0), (2, .bp 2 0), (4, .dat .bool), (5, .dat (.int .i64))], objs := [(100000, .st .readerT), (2, .st .tagT)] }
noncomputable def c93s0e1dz : Cut SN := { slots := [(0, .bp 100000 0), (2, .bp 2 0), (3, .dat .bool)], objs := [(100000, .st .readerT), (2, .st .tagT)] }
noncomputable def sh93s0e1d : Shape vw := { exits := fun id => match id with | 1 => c93s0e1de1 | _ => { slots := [], objs := [] }, rcut := c93s0e1dz }
noncomputable def sig93s0e1d : Sig vw := { params := [.bp 100000 0], objs := [(100000, .st .readerT)], rcut := c93s0e1dz, rvars := [.cell 2 25, .tmp 3], keep := [100000] }
noncomputable def n_93s0e1dl6 (v : Bool × Int × Reader × Tag × Unit) : Option ((Bool × Int × Reader × Tag × Unit)) :=
  (n_91s0e1d (v.snd.snd.fst, ()) >>= fun x1 =>
    if decide (x1.fst ≥ (48 : Int)) = true then
      n_91s0e1d (x1.snd.fst, ()) >>= fun x2 =>
      some ((v.fst, v.snd.fst, decide (x2.fst ≤ (57 : Int)), x2.snd.fst, v.snd.snd.snd.fst, ()))
    else some ((v.fst, v.snd.fst, false, x1.snd.fst, v.snd.snd.snd.fst, ()))) >>= fun x1 =>
  if x1.snd.snd.fst = true then
    n_91s0e1d (x1.snd.snd.snd.fst, ()) >>= fun x2 =>
    n_93s0e1dl6 (x1.fst, min (IntKind.i64.wrap (IntKind.i64.wrap ((10 : Int) * x1.snd.fst) + IntKind.i64.wrap (IntKind.u8.wrap (x2.fst - (48 : Int))))) (576460752303423488 : Int), Reader.mk x2.snd.fst.s (IntKind.i64.wrap (x2.snd.fst.at0 + (1 : Int))), x1.snd.snd.snd.snd.fst, ())
  else some ((x1.fst, x1.snd.fst, x1.snd.snd.snd.fst, x1.snd.snd.snd.snd.fst, ()))
  partial_fixpoint
noncomputable def n_93s0e1d (v : Reader × Unit) : Option (Bool × Reader × Tag × Unit) :=
  n_97s5bd0 (ByteArray.mk #[(45 : UInt8)], v.fst, ()) >>= fun x1 =>
  (n_97s5bd0 (ByteArray.mk #[(48 : UInt8)], x1.snd.fst, ()) >>= fun x2 =>
    if x2.fst = true then
      some (Sum.inl (x1.fst, (0 : Int), x2.snd.fst, Tag.mk (0 : Int) (0 : Int) (ByteArray.mk #[]) [] [], ()))
    else (n_91s0e1d (x2.snd.fst, ()) >>= fun x3 =>
      if decide (x3.fst ≥ (49 : Int)) = true then
        n_91s0e1d (x3.snd.fst, ()) >>= fun x4 =>
        some ((x1.fst, (0 : Int), decide (x4.fst ≤ (57 : Int)), x4.snd.fst, Tag.mk (0 : Int) (0 : Int) (ByteArray.mk #[]) [] [], ()))
      else some ((x1.fst, (0 : Int), false, x3.snd.fst, Tag.mk (0 : Int) (0 : Int) (ByteArray.mk #[]) [] [], ()))) >>= fun x3 =>
    if x3.snd.snd.fst = true then
      n_93s0e1dl6 (x3.fst, x3.snd.fst, x3.snd.snd.snd.fst, x3.snd.snd.snd.snd.fst, ()) >>= fun x4 =>
      some (Sum.inl (x4.fst, x4.snd.fst, x4.snd.snd.fst, x4.snd.snd.snd.fst, ()))
    else some (Sum.inr (false, x3.snd.snd.snd.fst, Tag.mk (0 : Int) (0 : Int) (ByteArray.mk #[]) [] [], ()))) >>= fun x2 => match x2 with
    | .inl y2 => (if y2.fst = true then
          some ((IntKind.i64.wrap ((0 : Int) - y2.snd.fst), y2.snd.snd.fst, y2.snd.snd.snd.fst, ()))
        else some ((y2.snd.fst, y2.snd.snd.fst, y2.snd.snd.snd.fst, ()))) >>= fun x3 =>
      some ((true, x3.snd.fst, Tag.mk (3 : Int) x3.fst (ByteArray.mk #[]) [] [], ()))
    | .inr y2 => some y2
noncomputable def call93s0e1d : Caller vw := fun A fid args S k => match fid with | 91 => callObj Tryz.prog sig91s0e1d n_91s0e1d A args S k | 97 => callObj Tryz.prog sig97s5bd0 n_97s5bd0 A args S k | _ => none
noncomputable def x93s0e1d : Xc vw := { P := Tryz.prog, n := 49, nm := id, call := call93s0e1d, pre := fun _ => false, sh := sh93s0e1d, joins := fun k => match k with | 9 => some (c93s0e1dj9, [.norm, .ret]) | 11 => some (c93s0e1dj11, [.norm]) | _ => none, regs := fun k => match k with | 5 => some c93s0e1dr5 | 6 => some c93s0e1dr6 | _ => none, loops := fun k => match k with | 6 => some { cut := c93s0e1dl6, alts := [.exit 1], F := n_93s0e1dl6 } | _ => none }
theorem call93s0e1d_ok : CallerOk Tryz.prog call93s0e1d := fun A fid args S dst k r h => by
  unfold call93s0e1d at h
  split at h
  · exact callObj_ok (n_91s0e1d_ok) h
  · exact callObj_ok (n_97s5bd0_ok) h
  · cases h
theorem n_93s0e1dl6_ok (C : Ctx) (hP : C.P = Tryz.prog) (hN : C.N = 49) : LoopOk C (loopNo (bodyOf Tryz.f93) 0) (sh := sh93s0e1d) { cut := c93s0e1dl6, alts := [.exit 1], F := n_93s0e1dl6 } :=
  n_93s0e1dl6.partial_correctness (motive := fun v out => AWpL C (loopNo (bodyOf Tryz.f93) 0) (encS vw (conc vw c93s0e1dl6 v)) (OutQ sh93s0e1d [.exit 1] out)) fun F ih v out h =>
    loop_step (X := x93s0e1d) (b := (loopNo (bodyOf Tryz.f93) 0)) hP hN Ty.mixed call93s0e1d_ok (lok_all (X := x93s0e1d) (c := (loopNo (bodyOf Tryz.f93) 0)) (kcast (by kernel_rfl : True = AllB (LoopsP C (x93s0e1d)) (loopsIn (loopNo (bodyOf Tryz.f93) 0))) trivial)) ih (kcast (by kernel_rfl) h)
theorem n_93s0e1d_ok : SigOk Tryz.prog 93 sig93s0e1d n_93s0e1d := fun v r x h hx =>
  fn_ok (X := x93s0e1d) (sig := sig93s0e1d) rfl Tryz.func93 (c := bodyOf Tryz.f93) (by kernel_rfl) Tryz.ntmps93 (by kernel_rfl) (by kernel_rfl) rfl Ty.mixed call93s0e1d_ok rfl (fun C hP hN => (lok_all (X := x93s0e1d) (c := (bodyOf Tryz.f93)) (kcast (by kernel_rfl : AllB (LoopsP C (x93s0e1d)) [(loopNo (bodyOf Tryz.f93) 0)] = AllB (LoopsP C (x93s0e1d)) (loopsIn (bodyOf Tryz.f93))) ⟨loop_at (X := x93s0e1d) (b := (loopNo (bodyOf Tryz.f93) 0)) (by kernel_rfl) (n_93s0e1dl6_ok C hP hN), trivial⟩))) (kcast (by kernel_rfl) h) x hx

noncomputable def c83s143fz : Cut SN := { slots := [(2, .dat .str)], objs := [] }
noncomputable def sh83s143f : Shape vw := { exits := fun _ => { slots := [], objs := [] }, rcut := c83s143fz }
noncomputable def sig83s143f : Sig vw := { params := [.bp 100000 0], objs := [(100000, .box (some 93) [.np 100000, .vh 100001]), (100001, .vec 5 (.int .u8))], rcut := c83s143fz, rvars := [.tmp 2], keep := [] }
noncomputable def n_83s143f (v : Bool × (List Int) × Unit) : Option (ByteArray × Unit) :=
  if (↑v.snd.fst.length : Int) = (↑v.snd.fst.length : Int) ∧ v.snd.fst.length ≤ (4294967296 : Nat) then
    some ((Bs.bytes v.snd.fst, ()))
  else none
noncomputable def call83s143f : Caller vw := fun _ _ _ _ _ => none
noncomputable def x83s143f : Xc vw := { P := Tryz.prog, n := 14, nm := id, call := call83s143f, pre := fun _ => false, sh := sh83s143f, joins := fun _ => none, regs := fun _ => none, loops := fun _ => none }
theorem call83s143f_ok : CallerOk Tryz.prog call83s143f := call_none
theorem n_83s143f_ok : SigOk Tryz.prog 83 sig83s143f n_83s143f := fun v r x h hx =>
  fn_ok (X := x83s143f) (sig := sig83s143f) rfl Tryz.func83 (c := bodyOf Tryz.f83) (by kernel_rfl) Tryz.ntmps83 (by kernel_rfl) (by kernel_rfl) rfl Ty.mixed call83s143f_ok rfl (fun C hP hN => (lok_all (X := x83s143f) (c := (bodyOf Tryz.f83)) (kcast (by kernel_rfl : True = AllB (LoopsP C (x83s143f)) (loopsIn (bodyOf Tryz.f83))) trivial))) (kcast (by kernel_rfl) h) x hx

noncomputable def c94s0e1dl3 : Cut SN := { slots := [(0, .bp 100000 0), (4, .bp 4 0)], objs := [(100000, .st .readerT), (4, .box (some 93) [.np 4, .vh 3041]), (3041, .vec 5 (.int .u8))] }
noncomputable def c94s0e1dr1 : Cut SN := { slots := [(0, .bp 100000 0), (4, .bp 4 0)], objs := [(100000, .st .readerT), (4, .box (some 93) [.np 4, .vh 3041]), (3041, .vec 5 (.int .u8))] }
noncomputable def c94s0e1dz : Cut SN := { slots := [(0, .bp 100000 0), (2, .dat .str), (3, .dat .bool)], objs := [(100000, .st .readerT)] }
noncomputable def sh94s0e1d : Shape vw := { exits := fun _ => { slots := [], objs := [] }, rcut := c94s0e1dz }
noncomputable def sig94s0e1d : Sig vw := { params := [.bp 100000 0], objs := [(100000, .st .readerT)], rcut := c94s0e1dz, rvars := [.tmp 2, .tmp 3], keep := [100000] }
noncomputable def n_94s0e1dl3 (v : Reader × Bool × (List Int) × Unit) : Option ((ByteArray × Bool × Reader × Unit)) :=
  n_91s0e1d (v.fst, ()) >>= fun x1 =>
  if (x1.fst == (34 : Int)) = true then
    n_83s143f (v.snd.fst, v.snd.snd.fst, ()) >>= fun x2 =>
    some ((x2.fst, true, Reader.mk x1.snd.fst.s (IntKind.i64.wrap (x1.snd.fst.at0 + (1 : Int))), ()))
  else if decide (x1.fst < (32 : Int)) = true then
    some ((ByteArray.mk #[], false, x1.snd.fst, ()))
  else if (x1.fst == (92 : Int)) = true then
    n_119s0e1d (Reader.mk x1.snd.fst.s (IntKind.i64.wrap (x1.snd.fst.at0 + (1 : Int))), ()) >>= fun x2 =>
    if (!x2.snd.fst) = true then
      some ((ByteArray.mk #[], false, x2.snd.snd.fst, ()))
    else n_120s6702 (x2.fst, v.snd.fst, v.snd.snd.fst, ()) >>= fun x3 =>
    n_94s0e1dl3 (x2.snd.snd.fst, x3.snd.fst, x3.snd.snd.fst, ())
  else n_121s0e1d (x1.snd.fst, ()) >>= fun x2 =>
  if (!x2.fst) = true then
    some ((ByteArray.mk #[], false, x2.snd.fst, ()))
  else if (0 : Int) ≤ x1.snd.fst.at0 ∧ x1.snd.fst.at0 ≤ x2.snd.fst.at0 ∧ x2.snd.fst.at0 ≤ (↑x2.snd.fst.s.size : Int) then
    n_113s555c (x2.snd.fst.s.extract x1.snd.fst.at0.toNat x2.snd.fst.at0.toNat, v.snd.fst, v.snd.snd.fst, ()) >>= fun x3 =>
    n_94s0e1dl3 (x2.snd.fst, x3.snd.fst, x3.snd.snd.fst, ())
  else none
  partial_fixpoint
noncomputable def n_94s0e1d (v : Reader × Unit) : Option (ByteArray × Bool × Reader × Unit) :=
  some (v.fst, false, [], ()) >>= fun x1 =>
  n_94s0e1dl3 (Reader.mk x1.fst.s (IntKind.i64.wrap (x1.fst.at0 + (1 : Int))), x1.snd.fst, x1.snd.snd.fst, ()) >>= fun x2 =>
  some x2
noncomputable def call94s0e1d : Caller vw := fun A fid args S k => match fid with | 83 => callObj Tryz.prog sig83s143f n_83s143f A args S k | 91 => callObj Tryz.prog sig91s0e1d n_91s0e1d A args S k | 113 => callObj Tryz.prog sig113s555c n_113s555c A args S k | 119 => callObj Tryz.prog sig119s0e1d n_119s0e1d A args S k | 120 => callObj Tryz.prog sig120s6702 n_120s6702 A args S k | 121 => callObj Tryz.prog sig121s0e1d n_121s0e1d A args S k | _ => none
noncomputable def x94s0e1d : Xc vw := { P := Tryz.prog, n := 69, nm := id, call := call94s0e1d, pre := fun _ => false, sh := sh94s0e1d, joins := fun _ => none, regs := fun k => match k with | 1 => some c94s0e1dr1 | _ => none, loops := fun k => match k with | 3 => some { cut := c94s0e1dl3, alts := [.ret], F := n_94s0e1dl3 } | _ => none }
theorem call94s0e1d_ok : CallerOk Tryz.prog call94s0e1d := fun A fid args S dst k r h => by
  unfold call94s0e1d at h
  split at h
  · exact callObj_ok (n_83s143f_ok) h
  · exact callObj_ok (n_91s0e1d_ok) h
  · exact callObj_ok (n_113s555c_ok) h
  · exact callObj_ok (n_119s0e1d_ok) h
  · exact callObj_ok (n_120s6702_ok) h
  · exact callObj_ok (n_121s0e1d_ok) h
  · cases h
theorem n_94s0e1dl3_ok (C : Ctx) (hP : C.P = Tryz.prog) (hN : C.N = 69) : LoopOk C (loopNo (bodyOf Tryz.f94) 0) (sh := sh94s0e1d) { cut := c94s0e1dl3, alts := [.ret], F := n_94s0e1dl3 } :=
  n_94s0e1dl3.partial_correctness (motive := fun v out => AWpL C (loopNo (bodyOf Tryz.f94) 0) (encS vw (conc vw c94s0e1dl3 v)) (OutQ sh94s0e1d [.ret] out)) fun F ih v out h =>
    loop_step (X := x94s0e1d) (b := (loopNo (bodyOf Tryz.f94) 0)) hP hN Ty.mixed call94s0e1d_ok (lok_all (X := x94s0e1d) (c := (loopNo (bodyOf Tryz.f94) 0)) (kcast (by kernel_rfl : True = AllB (LoopsP C (x94s0e1d)) (loopsIn (loopNo (bodyOf Tryz.f94) 0))) trivial)) ih (kcast (by kernel_rfl) h)
theorem n_94s0e1d_ok : SigOk Tryz.prog 94 sig94s0e1d n_94s0e1d := fun v r x h hx =>
  fn_ok (X := x94s0e1d) (sig := sig94s0e1d) rfl Tryz.func94 (c := bodyOf Tryz.f94) (by kernel_rfl) Tryz.ntmps94 (by kernel_rfl) (by kernel_rfl) rfl Ty.mixed call94s0e1d_ok rfl (fun C hP hN => (lok_all (X := x94s0e1d) (c := (bodyOf Tryz.f94)) (kcast (by kernel_rfl : AllB (LoopsP C (x94s0e1d)) [(loopNo (bodyOf Tryz.f94) 0)] = AllB (LoopsP C (x94s0e1d)) (loopsIn (bodyOf Tryz.f94))) ⟨loop_at (X := x94s0e1d) (b := (loopNo (bodyOf Tryz.f94) 0)) (by kernel_rfl) (n_94s0e1dl3_ok C hP hN), trivial⟩))) (kcast (by kernel_rfl) h) x hx

noncomputable def c65s0e1dr9 : Cut SN := { slots := [(0, .bp 100000 0), (2, .bp 2 0), (4, .dat (.int .u8)), (29, .dat .bool)], objs := [(100000, .st .readerT), (2, .st .tagT)] }
noncomputable def c65s0e1dz : Cut SN := { slots := [(0, .bp 100000 0), (2, .bp 2 0), (3, .dat .bool)], objs := [(100000, .st .readerT), (2, .st .tagT)] }
noncomputable def sh65s0e1d : Shape vw := { exits := fun _ => { slots := [], objs := [] }, rcut := c65s0e1dz }
noncomputable def sig65s0e1d : Sig vw := { params := [.bp 100000 0], objs := [(100000, .st .readerT)], rcut := c65s0e1dz, rvars := [.cell 2 25, .tmp 3], keep := [100000] }
noncomputable def c95s0e1dg1 : Cut SN := { slots := [(0, .bp 100000 0), (2, .bp 2 0), (4, .bp 4 0)], objs := [(100000, .st .readerT), (2, .st .tagT), (4, .box none [.dat (.int .i64), .dat (.int .i64), .dat .str, .vh 3043, .vh 3044]), (3043, .vec 9 .str), (3044, .vec 25 (.st .tagT))] }
noncomputable def c95s0e1dr1 : Cut SN := { slots := [(0, .bp 100000 0), (2, .bp 2 0), (4, .bp 4 0)], objs := [(100000, .st .readerT), (2, .st .tagT), (4, .box none [.dat (.int .i64), .dat (.int .i64), .dat .str, .vh 3043, .vh 3044]), (3043, .vec 9 .str), (3044, .vec 25 (.st .tagT))] }
noncomputable def c95s0e1de1000000 : Cut SN := { slots := [(0, .bp 100000 0), (2, .bp 2 0), (4, .bp 4 0)], objs := [(100000, .st .readerT), (2, .st .tagT), (4, .box none [.dat (.int .i64), .dat (.int .i64), .dat .str, .vh 3043, .vh 3044]), (3043, .vec 9 .str), (3044, .vec 25 (.st .tagT))] }
noncomputable def c95s0e1dz : Cut SN := { slots := [(0, .bp 100000 0), (2, .bp 2 0), (3, .dat .bool)], objs := [(100000, .st .readerT), (2, .st .tagT)] }
noncomputable def sh95s0e1d : Shape vw := { exits := fun id => match id with | 1000000 => c95s0e1de1000000 | _ => { slots := [], objs := [] }, rcut := c95s0e1dz }
noncomputable def sig95s0e1d : Sig vw := { params := [.bp 100000 0], objs := [(100000, .st .readerT)], rcut := c95s0e1dz, rvars := [.cell 2 25, .tmp 3], keep := [100000] }
noncomputable def c96s0e1dg1 : Cut SN := { slots := [(0, .bp 100000 0), (2, .bp 2 0), (4, .bp 4 0)], objs := [(100000, .st .readerT), (2, .st .tagT), (4, .box none [.dat (.int .i64), .dat (.int .i64), .dat .str, .vh 3043, .vh 3044]), (3043, .vec 9 .str), (3044, .vec 25 (.st .tagT))] }
noncomputable def c96s0e1dr1 : Cut SN := { slots := [(0, .bp 100000 0), (2, .bp 2 0), (4, .bp 4 0)], objs := [(100000, .st .readerT), (2, .st .tagT), (4, .box none [.dat (.int .i64), .dat (.int .i64), .dat .str, .vh 3043, .vh 3044]), (3043, .vec 9 .str), (3044, .vec 25 (.st .tagT))] }
noncomputable def c96s0e1de1000000 : Cut SN := { slots := [(0, .bp 100000 0), (2, .bp 2 0), (4, .bp 4 0)], objs := [(100000, .st .readerT), (2, .st .tagT), (4, .box none [.dat (.int .i64), .dat (.int .i64), .dat .str, .vh 3043, .vh 3044]), (3043, .vec 9 .str), (3044, .vec 25 (.st .tagT))] }
noncomputable def c96s0e1dz : Cut SN := { slots := [(0, .bp 100000 0), (2, .bp 2 0), (3, .dat .bool)], objs := [(100000, .st .readerT), (2, .st .tagT)] }
noncomputable def sh96s0e1d : Shape vw := { exits := fun id => match id with | 1000000 => c96s0e1de1000000 | _ => { slots := [], objs := [] }, rcut := c96s0e1dz }
noncomputable def sig96s0e1d : Sig vw := { params := [.bp 100000 0], objs := [(100000, .st .readerT)], rcut := c96s0e1dz, rvars := [.cell 2 25, .tmp 3], keep := [100000] }
mutual
noncomputable def n_65s0e1d (v : Reader × Unit) : Option (Bool × Reader × Tag × Unit) :=
  n_66s0e1d (v.fst, ()) >>= fun x1 =>
  n_91s0e1d (x1.fst, ()) >>= fun x2 =>
  if (x2.fst == (110 : Int)) = true then
    n_92s5bd0 (ByteArray.mk #[(110 : UInt8), (117 : UInt8), (108 : UInt8), (108 : UInt8)], x2.snd.fst, ()) >>= fun x3 =>
    some ((x3.fst, x3.snd.fst, Tag.mk (0 : Int) (0 : Int) (ByteArray.mk #[]) [] [], ()))
  else if (x2.fst == (102 : Int)) = true then
    n_92s5bd0 (ByteArray.mk #[(102 : UInt8), (97 : UInt8), (108 : UInt8), (115 : UInt8), (101 : UInt8)], x2.snd.fst, ()) >>= fun x3 =>
    some ((x3.fst, x3.snd.fst, Tag.mk (1 : Int) (0 : Int) (ByteArray.mk #[]) [] [], ()))
  else if (x2.fst == (116 : Int)) = true then
    n_92s5bd0 (ByteArray.mk #[(116 : UInt8), (114 : UInt8), (117 : UInt8), (101 : UInt8)], x2.snd.fst, ()) >>= fun x3 =>
    some ((x3.fst, x3.snd.fst, Tag.mk (2 : Int) (0 : Int) (ByteArray.mk #[]) [] [], ()))
  else (if (x2.fst == (45 : Int)) = true then
      some ((x2.fst, true, x2.snd.fst, Tag.mk (0 : Int) (0 : Int) (ByteArray.mk #[]) [] [], ()))
    else if decide (x2.fst ≥ (48 : Int)) = true then
      some ((x2.fst, decide (x2.fst ≤ (57 : Int)), x2.snd.fst, Tag.mk (0 : Int) (0 : Int) (ByteArray.mk #[]) [] [], ()))
    else some ((x2.fst, false, x2.snd.fst, Tag.mk (0 : Int) (0 : Int) (ByteArray.mk #[]) [] [], ()))) >>= fun x3 =>
  if x3.snd.fst = true then
    n_93s0e1d (x3.snd.snd.fst, ()) >>= fun x4 =>
    some ((x4.fst, x4.snd.fst, x4.snd.snd.fst, ()))
  else if (x3.fst == (34 : Int)) = true then
    n_94s0e1d (x3.snd.snd.fst, ()) >>= fun x4 =>
    some ((x4.snd.fst, x4.snd.snd.fst, Tag.mk (4 : Int) (0 : Int) x4.fst [] [], ()))
  else if (x3.fst == (91 : Int)) = true then
    n_95s0e1d (x3.snd.snd.fst, ()) >>= fun x4 =>
    some ((x4.fst, x4.snd.fst, x4.snd.snd.fst, ()))
  else if (x3.fst == (123 : Int)) = true then
    n_96s0e1d (x3.snd.snd.fst, ()) >>= fun x4 =>
    some ((x4.fst, x4.snd.fst, x4.snd.snd.fst, ()))
  else some ((false, x3.snd.snd.fst, Tag.mk (0 : Int) (0 : Int) (ByteArray.mk #[]) [] [], ()))
  partial_fixpoint
noncomputable def n_96s0e1d (v : Reader × Unit) : Option (Bool × Reader × Tag × Unit) :=
  some (v.fst, Tag.mk (0 : Int) (0 : Int) (ByteArray.mk #[]) [] [], (6 : Int), (0 : Int), ByteArray.mk #[], [], [], ()) >>= fun x1 =>
  n_66s0e1d (Reader.mk x1.fst.s (IntKind.i64.wrap (x1.fst.at0 + (1 : Int))), ()) >>= fun x2 =>
  n_97s5bd0 (ByteArray.mk #[(125 : UInt8)], x2.fst, ()) >>= fun x3 =>
  if x3.fst = true then
    some ((true, x3.snd.fst, Tag.mk x1.snd.snd.fst x1.snd.snd.snd.fst x1.snd.snd.snd.snd.fst x1.snd.snd.snd.snd.snd.fst x1.snd.snd.snd.snd.snd.snd.fst, ()))
  else n_66s0e1d (x3.snd.fst, ()) >>= fun x4 =>
  n_91s0e1d (x4.fst, ()) >>= fun x5 =>
  if (x5.fst != (34 : Int)) = true then
    some ((false, x5.snd.fst, Tag.mk (0 : Int) (0 : Int) (ByteArray.mk #[]) [] [], ()))
  else n_94s0e1d (x5.snd.fst, ()) >>= fun x6 =>
  if (!x6.snd.fst) = true then
    some ((false, x6.snd.snd.fst, Tag.mk (0 : Int) (0 : Int) (ByteArray.mk #[]) [] [], ()))
  else n_66s0e1d (x6.snd.snd.fst, ()) >>= fun x7 =>
  n_97s5bd0 (ByteArray.mk #[(58 : UInt8)], x7.fst, ()) >>= fun x8 =>
  if (!x8.fst) = true then
    some ((false, x8.snd.fst, Tag.mk (0 : Int) (0 : Int) (ByteArray.mk #[]) [] [], ()))
  else n_65s0e1d (x8.snd.fst, ()) >>= fun x9 =>
  if (!x9.fst) = true then
    some ((false, x9.snd.fst, Tag.mk (0 : Int) (0 : Int) (ByteArray.mk #[]) [] [], ()))
  else if x1.snd.snd.snd.snd.snd.fst.length + [x6.fst].length ≤ (4294967296 : Nat) then
    if x1.snd.snd.snd.snd.snd.snd.fst.length + [x9.snd.snd.fst].length ≤ (4294967296 : Nat) then
      n_66s0e1d (x9.snd.fst, ()) >>= fun x10 =>
      n_97s5bd0 (ByteArray.mk #[(44 : UInt8)], x10.fst, ()) >>= fun x11 =>
      if x11.fst = true then
        n_96s0e1dg1 (x11.snd.fst, x1.snd.fst, x1.snd.snd.fst, x1.snd.snd.snd.fst, x1.snd.snd.snd.snd.fst, x1.snd.snd.snd.snd.snd.fst ++ [x6.fst], x1.snd.snd.snd.snd.snd.snd.fst ++ [x9.snd.snd.fst], ()) >>= fun x12 =>
        some x12
      else n_97s5bd0 (ByteArray.mk #[(125 : UInt8)], x11.snd.fst, ()) >>= fun x12 =>
      some ((x12.fst, x12.snd.fst, Tag.mk x1.snd.snd.fst x1.snd.snd.snd.fst x1.snd.snd.snd.snd.fst (x1.snd.snd.snd.snd.snd.fst ++ [x6.fst]) (x1.snd.snd.snd.snd.snd.snd.fst ++ [x9.snd.snd.fst]), ()))
    else none
  else none
  partial_fixpoint
noncomputable def n_96s0e1dg1 (v : Reader × Tag × Int × Int × ByteArray × (List ByteArray) × (List Tag) × Unit) : Option ((Bool × Reader × Tag × Unit)) :=
  n_66s0e1d (v.fst, ()) >>= fun x1 =>
  n_91s0e1d (x1.fst, ()) >>= fun x2 =>
  if (x2.fst != (34 : Int)) = true then
    some ((false, x2.snd.fst, Tag.mk (0 : Int) (0 : Int) (ByteArray.mk #[]) [] [], ()))
  else n_94s0e1d (x2.snd.fst, ()) >>= fun x3 =>
  if (!x3.snd.fst) = true then
    some ((false, x3.snd.snd.fst, Tag.mk (0 : Int) (0 : Int) (ByteArray.mk #[]) [] [], ()))
  else n_66s0e1d (x3.snd.snd.fst, ()) >>= fun x4 =>
  n_97s5bd0 (ByteArray.mk #[(58 : UInt8)], x4.fst, ()) >>= fun x5 =>
  if (!x5.fst) = true then
    some ((false, x5.snd.fst, Tag.mk (0 : Int) (0 : Int) (ByteArray.mk #[]) [] [], ()))
  else n_65s0e1d (x5.snd.fst, ()) >>= fun x6 =>
  if (!x6.fst) = true then
    some ((false, x6.snd.fst, Tag.mk (0 : Int) (0 : Int) (ByteArray.mk #[]) [] [], ()))
  else if v.snd.snd.snd.snd.snd.fst.length + [x3.fst].length ≤ (4294967296 : Nat) then
    if v.snd.snd.snd.snd.snd.snd.fst.length + [x6.snd.snd.fst].length ≤ (4294967296 : Nat) then
      n_66s0e1d (x6.snd.fst, ()) >>= fun x7 =>
      n_97s5bd0 (ByteArray.mk #[(44 : UInt8)], x7.fst, ()) >>= fun x8 =>
      if x8.fst = true then
        n_96s0e1dg1 (x8.snd.fst, v.snd.fst, v.snd.snd.fst, v.snd.snd.snd.fst, v.snd.snd.snd.snd.fst, v.snd.snd.snd.snd.snd.fst ++ [x3.fst], v.snd.snd.snd.snd.snd.snd.fst ++ [x6.snd.snd.fst], ())
      else n_97s5bd0 (ByteArray.mk #[(125 : UInt8)], x8.snd.fst, ()) >>= fun x9 =>
      some ((x9.fst, x9.snd.fst, Tag.mk v.snd.snd.fst v.snd.snd.snd.fst v.snd.snd.snd.snd.fst (v.snd.snd.snd.snd.snd.fst ++ [x3.fst]) (v.snd.snd.snd.snd.snd.snd.fst ++ [x6.snd.snd.fst]), ()))
    else none
  else none
  partial_fixpoint
noncomputable def n_95s0e1d (v : Reader × Unit) : Option (Bool × Reader × Tag × Unit) :=
  some (v.fst, Tag.mk (0 : Int) (0 : Int) (ByteArray.mk #[]) [] [], (5 : Int), (0 : Int), ByteArray.mk #[], [], [], ()) >>= fun x1 =>
  n_66s0e1d (Reader.mk x1.fst.s (IntKind.i64.wrap (x1.fst.at0 + (1 : Int))), ()) >>= fun x2 =>
  n_97s5bd0 (ByteArray.mk #[(93 : UInt8)], x2.fst, ()) >>= fun x3 =>
  if x3.fst = true then
    some ((true, x3.snd.fst, Tag.mk x1.snd.snd.fst x1.snd.snd.snd.fst x1.snd.snd.snd.snd.fst x1.snd.snd.snd.snd.snd.fst x1.snd.snd.snd.snd.snd.snd.fst, ()))
  else n_65s0e1d (x3.snd.fst, ()) >>= fun x4 =>
  if (!x4.fst) = true then
    some ((false, x4.snd.fst, Tag.mk (0 : Int) (0 : Int) (ByteArray.mk #[]) [] [], ()))
  else if x1.snd.snd.snd.snd.snd.snd.fst.length + [x4.snd.snd.fst].length ≤ (4294967296 : Nat) then
    n_66s0e1d (x4.snd.fst, ()) >>= fun x5 =>
    n_97s5bd0 (ByteArray.mk #[(44 : UInt8)], x5.fst, ()) >>= fun x6 =>
    if x6.fst = true then
      n_95s0e1dg1 (x6.snd.fst, x1.snd.fst, x1.snd.snd.fst, x1.snd.snd.snd.fst, x1.snd.snd.snd.snd.fst, x1.snd.snd.snd.snd.snd.fst, x1.snd.snd.snd.snd.snd.snd.fst ++ [x4.snd.snd.fst], ()) >>= fun x7 =>
      some x7
    else n_97s5bd0 (ByteArray.mk #[(93 : UInt8)], x6.snd.fst, ()) >>= fun x7 =>
    some ((x7.fst, x7.snd.fst, Tag.mk x1.snd.snd.fst x1.snd.snd.snd.fst x1.snd.snd.snd.snd.fst x1.snd.snd.snd.snd.snd.fst (x1.snd.snd.snd.snd.snd.snd.fst ++ [x4.snd.snd.fst]), ()))
  else none
  partial_fixpoint
noncomputable def n_95s0e1dg1 (v : Reader × Tag × Int × Int × ByteArray × (List ByteArray) × (List Tag) × Unit) : Option ((Bool × Reader × Tag × Unit)) :=
  n_65s0e1d (v.fst, ()) >>= fun x1 =>
  if (!x1.fst) = true then
    some ((false, x1.snd.fst, Tag.mk (0 : Int) (0 : Int) (ByteArray.mk #[]) [] [], ()))
  else if v.snd.snd.snd.snd.snd.snd.fst.length + [x1.snd.snd.fst].length ≤ (4294967296 : Nat) then
    n_66s0e1d (x1.snd.fst, ()) >>= fun x2 =>
    n_97s5bd0 (ByteArray.mk #[(44 : UInt8)], x2.fst, ()) >>= fun x3 =>
    if x3.fst = true then
      n_95s0e1dg1 (x3.snd.fst, v.snd.fst, v.snd.snd.fst, v.snd.snd.snd.fst, v.snd.snd.snd.snd.fst, v.snd.snd.snd.snd.snd.fst, v.snd.snd.snd.snd.snd.snd.fst ++ [x1.snd.snd.fst], ())
    else n_97s5bd0 (ByteArray.mk #[(93 : UInt8)], x3.snd.fst, ()) >>= fun x4 =>
    some ((x4.fst, x4.snd.fst, Tag.mk v.snd.snd.fst v.snd.snd.snd.fst v.snd.snd.snd.snd.fst v.snd.snd.snd.snd.snd.fst (v.snd.snd.snd.snd.snd.snd.fst ++ [x1.snd.snd.fst]), ()))
  else none
  partial_fixpoint
end
noncomputable def call65s0e1d (n_65s0e1d : Reader × Unit → Option (Bool × Reader × Tag × Unit)) (n_96s0e1d : Reader × Unit → Option (Bool × Reader × Tag × Unit)) (n_96s0e1dg1 : Reader × Tag × Int × Int × ByteArray × (List ByteArray) × (List Tag) × Unit → Option ((Bool × Reader × Tag × Unit))) (n_95s0e1d : Reader × Unit → Option (Bool × Reader × Tag × Unit)) (n_95s0e1dg1 : Reader × Tag × Int × Int × ByteArray × (List ByteArray) × (List Tag) × Unit → Option ((Bool × Reader × Tag × Unit))) : Caller vw := fun A fid args S k => match fid with | 66 => callObj Tryz.prog sig66s0e1d n_66s0e1d A args S k | 91 => callObj Tryz.prog sig91s0e1d n_91s0e1d A args S k | 92 => callObj Tryz.prog sig92s5bd0 n_92s5bd0 A args S k | 93 => callObj Tryz.prog sig93s0e1d n_93s0e1d A args S k | 94 => callObj Tryz.prog sig94s0e1d n_94s0e1d A args S k | 95 => callObj Tryz.prog sig95s0e1d n_95s0e1d A args S k | 96 => callObj Tryz.prog sig96s0e1d n_96s0e1d A args S k | _ => none
noncomputable def x65s0e1d (n_65s0e1d : Reader × Unit → Option (Bool × Reader × Tag × Unit)) (n_96s0e1d : Reader × Unit → Option (Bool × Reader × Tag × Unit)) (n_96s0e1dg1 : Reader × Tag × Int × Int × ByteArray × (List ByteArray) × (List Tag) × Unit → Option ((Bool × Reader × Tag × Unit))) (n_95s0e1d : Reader × Unit → Option (Bool × Reader × Tag × Unit)) (n_95s0e1dg1 : Reader × Tag × Int × Int × ByteArray × (List ByteArray) × (List Tag) × Unit → Option ((Bool × Reader × Tag × Unit))) : Xc vw := { P := Tryz.prog, n := 70, nm := id, call := call65s0e1d n_65s0e1d n_96s0e1d n_96s0e1dg1 n_95s0e1d n_95s0e1dg1, pre := fun _ => false, sh := sh65s0e1d, joins := fun _ => none, regs := fun k => match k with | 9 => some c65s0e1dr9 | _ => none, loops := fun _ => none }
noncomputable def call95s0e1d (n_65s0e1d : Reader × Unit → Option (Bool × Reader × Tag × Unit)) (n_96s0e1d : Reader × Unit → Option (Bool × Reader × Tag × Unit)) (n_96s0e1dg1 : Reader × Tag × Int × Int × ByteArray × (List ByteArray) × (List Tag) × Unit → Option ((Bool × Reader × Tag × Unit))) (n_95s0e1d : Reader × Unit → Option (Bool × Reader × Tag × Unit)) (n_95s0e1dg1 : Reader × Tag × Int × Int × ByteArray × (List ByteArray) × (List Tag) × Unit → Option ((Bool × Reader × Tag × Unit))) : Caller vw := fun A fid args S k => match fid with | 65 => callObj Tryz.prog sig65s0e1d n_65s0e1d A args S k | 66 => callObj Tryz.prog sig66s0e1d n_66s0e1d A args S k | 97 => callObj Tryz.prog sig97s5bd0 n_97s5bd0 A args S k | _ => none
noncomputable def x95s0e1d (n_65s0e1d : Reader × Unit → Option (Bool × Reader × Tag × Unit)) (n_96s0e1d : Reader × Unit → Option (Bool × Reader × Tag × Unit)) (n_96s0e1dg1 : Reader × Tag × Int × Int × ByteArray × (List ByteArray) × (List Tag) × Unit → Option ((Bool × Reader × Tag × Unit))) (n_95s0e1d : Reader × Unit → Option (Bool × Reader × Tag × Unit)) (n_95s0e1dg1 : Reader × Tag × Int × Int × ByteArray × (List ByteArray) × (List Tag) × Unit → Option ((Bool × Reader × Tag × Unit))) : Xc vw := { P := Tryz.prog, n := 41, nm := fun d => match d with | 7 => 40007 | _ => d, call := call95s0e1d n_65s0e1d n_96s0e1d n_96s0e1dg1 n_95s0e1d n_95s0e1dg1, pre := fun _ => false, sh := sh95s0e1d, joins := fun _ => none, regs := fun k => match k with | 1 => some c95s0e1dr1 | _ => none, loops := fun _ => none, jumps := fun k => match k with | 1 => some (0, { cut := c95s0e1dg1, alts := [.ret], F := n_95s0e1dg1 }) | _ => none }
noncomputable def call96s0e1d (n_65s0e1d : Reader × Unit → Option (Bool × Reader × Tag × Unit)) (n_96s0e1d : Reader × Unit → Option (Bool × Reader × Tag × Unit)) (n_96s0e1dg1 : Reader × Tag × Int × Int × ByteArray × (List ByteArray) × (List Tag) × Unit → Option ((Bool × Reader × Tag × Unit))) (n_95s0e1d : Reader × Unit → Option (Bool × Reader × Tag × Unit)) (n_95s0e1dg1 : Reader × Tag × Int × Int × ByteArray × (List ByteArray) × (List Tag) × Unit → Option ((Bool × Reader × Tag × Unit))) : Caller vw := fun A fid args S k => match fid with | 65 => callObj Tryz.prog sig65s0e1d n_65s0e1d A args S k | 66 => callObj Tryz.prog sig66s0e1d n_66s0e1d A args S k | 91 => callObj Tryz.prog sig91s0e1d n_91s0e1d A args S k | 94 => callObj Tryz.prog sig94s0e1d n_94s0e1d A args S k | 97 => callObj Tryz.prog sig97s5bd0 n_97s5bd0 A args S k | _ => none
noncomputable def x96s0e1d (n_65s0e1d : Reader × Unit → Option (Bool × Reader × Tag × Unit)) (n_96s0e1d : Reader × Unit → Option (Bool × Reader × Tag × Unit)) (n_96s0e1dg1 : Reader × Tag × Int × Int × ByteArray × (List ByteArray) × (List Tag) × Unit → Option ((Bool × Reader × Tag × Unit))) (n_95s0e1d : Reader × Unit → Option (Bool × Reader × Tag × Unit)) (n_95s0e1dg1 : Reader × Tag × Int × Int × ByteArray × (List ByteArray) × (List Tag) × Unit → Option ((Bool × Reader × Tag × Unit))) : Xc vw := { P := Tryz.prog, n := 68, nm := fun d => match d with | 8 => 40008 | _ => d, call := call96s0e1d n_65s0e1d n_96s0e1d n_96s0e1dg1 n_95s0e1d n_95s0e1dg1, pre := fun _ => false, sh := sh96s0e1d, joins := fun _ => none, regs := fun k => match k with | 1 => some c96s0e1dr1 | _ => none, loops := fun _ => none, jumps := fun k => match k with | 1 => some (0, { cut := c96s0e1dg1, alts := [.ret], F := n_96s0e1dg1 }) | _ => none }
abbrev mn_65s0e1d (v : Reader × Unit) (r : Bool × Reader × Tag × Unit) : Prop := (fun v r => ∀ x, resV Tryz.prog sig65s0e1d r = some x → FnOk Tryz.prog 65 (encL vw (startS sig65s0e1d v).len (startOs sig65s0e1d v).1) (encOs (startS sig65s0e1d v).len (startS sig65s0e1d v).own) (encV vw (conc vw sig65s0e1d.rcut r).len x) (encOs (conc vw sig65s0e1d.rcut r).len (kept sig65s0e1d r))) v r
abbrev mn_96s0e1d (v : Reader × Unit) (r : Bool × Reader × Tag × Unit) : Prop := (fun v r => ∀ x, resV Tryz.prog sig96s0e1d r = some x → FnOk Tryz.prog 96 (encL vw (startS sig96s0e1d v).len (startOs sig96s0e1d v).1) (encOs (startS sig96s0e1d v).len (startS sig96s0e1d v).own) (encV vw (conc vw sig96s0e1d.rcut r).len x) (encOs (conc vw sig96s0e1d.rcut r).len (kept sig96s0e1d r))) v r
abbrev mn_96s0e1dg1 (v : Reader × Tag × Int × Int × ByteArray × (List ByteArray) × (List Tag) × Unit) (r : (Bool × Reader × Tag × Unit)) : Prop := (fun v out => ∀ C : Ctx, C.P = Tryz.prog → C.N = 68 → AWpJ C (scopeNo (bodyOf Tryz.f96) 0) (restOf (scopeNo (bodyOf Tryz.f96) 0) 0) (encS vw (conc vw c96s0e1dg1 v)) (OutQ sh96s0e1d [.ret] out)) v r
abbrev mn_95s0e1d (v : Reader × Unit) (r : Bool × Reader × Tag × Unit) : Prop := (fun v r => ∀ x, resV Tryz.prog sig95s0e1d r = some x → FnOk Tryz.prog 95 (encL vw (startS sig95s0e1d v).len (startOs sig95s0e1d v).1) (encOs (startS sig95s0e1d v).len (startS sig95s0e1d v).own) (encV vw (conc vw sig95s0e1d.rcut r).len x) (encOs (conc vw sig95s0e1d.rcut r).len (kept sig95s0e1d r))) v r
abbrev mn_95s0e1dg1 (v : Reader × Tag × Int × Int × ByteArray × (List ByteArray) × (List Tag) × Unit) (r : (Bool × Reader × Tag × Unit)) : Prop := (fun v out => ∀ C : Ctx, C.P = Tryz.prog → C.N = 41 → AWpJ C (scopeNo (bodyOf Tryz.f95) 0) (restOf (scopeNo (bodyOf Tryz.f95) 0) 0) (encS vw (conc vw c95s0e1dg1 v)) (OutQ sh95s0e1d [.ret] out)) v r
theorem cn_65s0e1d (f0 : Reader × Unit → Option (Bool × Reader × Tag × Unit)) (f1 : Reader × Unit → Option (Bool × Reader × Tag × Unit)) (h0 : ∀ v r, f0 v = some r → mn_96s0e1d v r) (h1 : ∀ v r, f1 v = some r → mn_95s0e1d v r) : CallerOk Tryz.prog (x65s0e1d (fun _ => none) f0 (fun _ => none) f1 (fun _ => none)).call := (by
        intro A fid args S dst k r h
        unfold x65s0e1d call65s0e1d at h
        simp only at h
        split at h
        · exact callObj_ok (n_66s0e1d_ok) h
        · exact callObj_ok (n_91s0e1d_ok) h
        · exact callObj_ok (n_92s5bd0_ok) h
        · exact callObj_ok (n_93s0e1d_ok) h
        · exact callObj_ok (n_94s0e1d_ok) h
        · exact callObj_ok ((fun v r x h hx => h1 v r h x hx)) h
        · exact callObj_ok ((fun v r x h hx => h0 v r h x hx)) h
        · cases h)
theorem sn_65s0e1d (f0 : Reader × Unit → Option (Bool × Reader × Tag × Unit)) (f1 : Reader × Unit → Option (Bool × Reader × Tag × Unit)) (h0 : ∀ v r, f0 v = some r → mn_96s0e1d v r) (h1 : ∀ v r, f1 v = some r → mn_95s0e1d v r) (v : Reader × Unit) (r : Bool × Reader × Tag × Unit) (h : exF (x65s0e1d (fun _ => none) f0 (fun _ => none) f1 (fun _ => none)) sig65s0e1d rfl (bodyOf Tryz.f65) v = some r) : mn_65s0e1d v r := fun x hx => fn_ok (X := x65s0e1d (fun _ => none) f0 (fun _ => none) f1 (fun _ => none)) (sig := sig65s0e1d) rfl Tryz.func65 (c := bodyOf Tryz.f65) (by kernel_rfl) Tryz.ntmps65 (by kernel_rfl) (by kernel_rfl) rfl Ty.mixed (cn_65s0e1d f0 f1 h0 h1) rfl (fun C hP hN => (lok_all (X := x65s0e1d (fun _ => none) f0 (fun _ => none) f1 (fun _ => none)) (c := (bodyOf Tryz.f65)) (kcast (by kernel_rfl : True = AllB (LoopsP C (x65s0e1d (fun _ => none) f0 (fun _ => none) f1 (fun _ => none))) (loopsIn (bodyOf Tryz.f65))) trivial))) h x hx
theorem cn_96s0e1d (f0 : Reader × Unit → Option (Bool × Reader × Tag × Unit)) (f1 : Reader × Tag × Int × Int × ByteArray × (List ByteArray) × (List Tag) × Unit → Option ((Bool × Reader × Tag × Unit))) (h0 : ∀ v r, f0 v = some r → mn_65s0e1d v r) (h1 : ∀ v r, f1 v = some r → mn_96s0e1dg1 v r) : CallerOk Tryz.prog (x96s0e1d f0 (fun _ => none) f1 (fun _ => none) (fun _ => none)).call := (by
        intro A fid args S dst k r h
        unfold x96s0e1d call96s0e1d at h
        simp only at h
        split at h
        · exact callObj_ok ((fun v r x h hx => h0 v r h x hx)) h
        · exact callObj_ok (n_66s0e1d_ok) h
        · exact callObj_ok (n_91s0e1d_ok) h
        · exact callObj_ok (n_94s0e1d_ok) h
        · exact callObj_ok (n_97s5bd0_ok) h
        · cases h)
theorem sn_96s0e1d (f0 : Reader × Unit → Option (Bool × Reader × Tag × Unit)) (f1 : Reader × Tag × Int × Int × ByteArray × (List ByteArray) × (List Tag) × Unit → Option ((Bool × Reader × Tag × Unit))) (h0 : ∀ v r, f0 v = some r → mn_65s0e1d v r) (h1 : ∀ v r, f1 v = some r → mn_96s0e1dg1 v r) (v : Reader × Unit) (r : Bool × Reader × Tag × Unit) (h : exF (x96s0e1d f0 (fun _ => none) f1 (fun _ => none) (fun _ => none)) sig96s0e1d rfl (bodyOf Tryz.f96) v = some r) : mn_96s0e1d v r := fun x hx => fn_ok (X := x96s0e1d f0 (fun _ => none) f1 (fun _ => none) (fun _ => none)) (sig := sig96s0e1d) rfl Tryz.func96 (c := bodyOf Tryz.f96) (by kernel_rfl) Tryz.ntmps96 (by kernel_rfl) (by kernel_rfl) rfl Ty.mixed (cn_96s0e1d f0 f1 h0 h1) rfl (fun C hP hN => (lok_all2 (X := x96s0e1d f0 (fun _ => none) f1 (fun _ => none) (fun _ => none)) (c := (bodyOf Tryz.f96)) (kcast (by kernel_rfl : AllB (LoopsP C (x96s0e1d f0 (fun _ => none) f1 (fun _ => none) (fun _ => none))) [] = AllB (LoopsP C (x96s0e1d f0 (fun _ => none) f1 (fun _ => none) (fun _ => none))) (loopsIn (bodyOf Tryz.f96))) trivial) (kcast (by kernel_rfl : AllB (JumpsP C (x96s0e1d f0 (fun _ => none) f1 (fun _ => none) (fun _ => none))) [(scopeNo (bodyOf Tryz.f96) 0)] = AllB (JumpsP C (x96s0e1d f0 (fun _ => none) f1 (fun _ => none) (fun _ => none))) (jumpsIn (bodyOf Tryz.f96))) ⟨jump_at (X := x96s0e1d f0 (fun _ => none) f1 (fun _ => none) (fun _ => none)) (x := (scopeNo (bodyOf Tryz.f96) 0)) (l := 0) (by kernel_rfl) (show JumpOk C (scopeNo (bodyOf Tryz.f96) 0) 0 (sh := sh96s0e1d) { cut := c96s0e1dg1, alts := [.ret], F := f1 } from ⟨(restOf (scopeNo (bodyOf Tryz.f96) 0) 0), by kernel_rfl, fun v out h => h1 v out h C hP hN⟩), trivial⟩))) h x hx
theorem cn_96s0e1dg1 (f0 : Reader × Unit → Option (Bool × Reader × Tag × Unit)) (f1 : Reader × Tag × Int × Int × ByteArray × (List ByteArray) × (List Tag) × Unit → Option ((Bool × Reader × Tag × Unit))) (h0 : ∀ v r, f0 v = some r → mn_65s0e1d v r) (h1 : ∀ v r, f1 v = some r → mn_96s0e1dg1 v r) : CallerOk Tryz.prog (x96s0e1d f0 (fun _ => none) f1 (fun _ => none) (fun _ => none)).call := (by
        intro A fid args S dst k r h
        unfold x96s0e1d call96s0e1d at h
        simp only at h
        split at h
        · exact callObj_ok ((fun v r x h hx => h0 v r h x hx)) h
        · exact callObj_ok (n_66s0e1d_ok) h
        · exact callObj_ok (n_91s0e1d_ok) h
        · exact callObj_ok (n_94s0e1d_ok) h
        · exact callObj_ok (n_97s5bd0_ok) h
        · cases h)
theorem sn_96s0e1dg1 (f0 : Reader × Unit → Option (Bool × Reader × Tag × Unit)) (f1 : Reader × Tag × Int × Int × ByteArray × (List ByteArray) × (List Tag) × Unit → Option ((Bool × Reader × Tag × Unit))) (h0 : ∀ v r, f0 v = some r → mn_65s0e1d v r) (h1 : ∀ v r, f1 v = some r → mn_96s0e1dg1 v r) (v : Reader × Tag × Int × Int × ByteArray × (List ByteArray) × (List Tag) × Unit) (r : (Bool × Reader × Tag × Unit)) (h : exJ (x96s0e1d f0 (fun _ => none) f1 (fun _ => none) (fun _ => none)) (restOf (scopeNo (bodyOf Tryz.f96) 0) 0) 0 c96s0e1dg1 [.ret] f1 v = some r) : mn_96s0e1dg1 v r := fun C hP hN => jump_step (X := x96s0e1d f0 (fun _ => none) f1 (fun _ => none) (fun _ => none)) (x := (scopeNo (bodyOf Tryz.f96) 0)) (b := (restOf (scopeNo (bodyOf Tryz.f96) 0) 0)) (l := 0) hP hN Ty.mixed (cn_96s0e1dg1 f0 f1 h0 h1) (by kernel_rfl) (lok_all2 (X := x96s0e1d f0 (fun _ => none) f1 (fun _ => none) (fun _ => none)) (c := (restOf (scopeNo (bodyOf Tryz.f96) 0) 0)) (kcast (by kernel_rfl : AllB (LoopsP C (x96s0e1d f0 (fun _ => none) f1 (fun _ => none) (fun _ => none))) [] = AllB (LoopsP C (x96s0e1d f0 (fun _ => none) f1 (fun _ => none) (fun _ => none))) (loopsIn (restOf (scopeNo (bodyOf Tryz.f96) 0) 0))) trivial) (kcast (by kernel_rfl : AllB (JumpsP C (x96s0e1d f0 (fun _ => none) f1 (fun _ => none) (fun _ => none))) [] = AllB (JumpsP C (x96s0e1d f0 (fun _ => none) f1 (fun _ => none) (fun _ => none))) (jumpsIn (restOf (scopeNo (bodyOf Tryz.f96) 0) 0))) trivial)) (cut := c96s0e1dg1) (alts := [.ret]) (F := f1) (fun v out h => h1 v out h C hP hN) h
theorem cn_95s0e1d (f0 : Reader × Unit → Option (Bool × Reader × Tag × Unit)) (f1 : Reader × Tag × Int × Int × ByteArray × (List ByteArray) × (List Tag) × Unit → Option ((Bool × Reader × Tag × Unit))) (h0 : ∀ v r, f0 v = some r → mn_65s0e1d v r) (h1 : ∀ v r, f1 v = some r → mn_95s0e1dg1 v r) : CallerOk Tryz.prog (x95s0e1d f0 (fun _ => none) (fun _ => none) (fun _ => none) f1).call := (by
        intro A fid args S dst k r h
        unfold x95s0e1d call95s0e1d at h
        simp only at h
        split at h
        · exact callObj_ok ((fun v r x h hx => h0 v r h x hx)) h
        · exact callObj_ok (n_66s0e1d_ok) h
        · exact callObj_ok (n_97s5bd0_ok) h
        · cases h)
theorem sn_95s0e1d (f0 : Reader × Unit → Option (Bool × Reader × Tag × Unit)) (f1 : Reader × Tag × Int × Int × ByteArray × (List ByteArray) × (List Tag) × Unit → Option ((Bool × Reader × Tag × Unit))) (h0 : ∀ v r, f0 v = some r → mn_65s0e1d v r) (h1 : ∀ v r, f1 v = some r → mn_95s0e1dg1 v r) (v : Reader × Unit) (r : Bool × Reader × Tag × Unit) (h : exF (x95s0e1d f0 (fun _ => none) (fun _ => none) (fun _ => none) f1) sig95s0e1d rfl (bodyOf Tryz.f95) v = some r) : mn_95s0e1d v r := fun x hx => fn_ok (X := x95s0e1d f0 (fun _ => none) (fun _ => none) (fun _ => none) f1) (sig := sig95s0e1d) rfl Tryz.func95 (c := bodyOf Tryz.f95) (by kernel_rfl) Tryz.ntmps95 (by kernel_rfl) (by kernel_rfl) rfl Ty.mixed (cn_95s0e1d f0 f1 h0 h1) rfl (fun C hP hN => (lok_all2 (X := x95s0e1d f0 (fun _ => none) (fun _ => none) (fun _ => none) f1) (c := (bodyOf Tryz.f95)) (kcast (by kernel_rfl : AllB (LoopsP C (x95s0e1d f0 (fun _ => none) (fun _ => none) (fun _ => none) f1)) [] = AllB (LoopsP C (x95s0e1d f0 (fun _ => none) (fun _ => none) (fun _ => none) f1)) (loopsIn (bodyOf Tryz.f95))) trivial) (kcast (by kernel_rfl : AllB (JumpsP C (x95s0e1d f0 (fun _ => none) (fun _ => none) (fun _ => none) f1)) [(scopeNo (bodyOf Tryz.f95) 0)] = AllB (JumpsP C (x95s0e1d f0 (fun _ => none) (fun _ => none) (fun _ => none) f1)) (jumpsIn (bodyOf Tryz.f95))) ⟨jump_at (X := x95s0e1d f0 (fun _ => none) (fun _ => none) (fun _ => none) f1) (x := (scopeNo (bodyOf Tryz.f95) 0)) (l := 0) (by kernel_rfl) (show JumpOk C (scopeNo (bodyOf Tryz.f95) 0) 0 (sh := sh95s0e1d) { cut := c95s0e1dg1, alts := [.ret], F := f1 } from ⟨(restOf (scopeNo (bodyOf Tryz.f95) 0) 0), by kernel_rfl, fun v out h => h1 v out h C hP hN⟩), trivial⟩))) h x hx
theorem cn_95s0e1dg1 (f0 : Reader × Unit → Option (Bool × Reader × Tag × Unit)) (f1 : Reader × Tag × Int × Int × ByteArray × (List ByteArray) × (List Tag) × Unit → Option ((Bool × Reader × Tag × Unit))) (h0 : ∀ v r, f0 v = some r → mn_65s0e1d v r) (h1 : ∀ v r, f1 v = some r → mn_95s0e1dg1 v r) : CallerOk Tryz.prog (x95s0e1d f0 (fun _ => none) (fun _ => none) (fun _ => none) f1).call := (by
        intro A fid args S dst k r h
        unfold x95s0e1d call95s0e1d at h
        simp only at h
        split at h
        · exact callObj_ok ((fun v r x h hx => h0 v r h x hx)) h
        · exact callObj_ok (n_66s0e1d_ok) h
        · exact callObj_ok (n_97s5bd0_ok) h
        · cases h)
theorem sn_95s0e1dg1 (f0 : Reader × Unit → Option (Bool × Reader × Tag × Unit)) (f1 : Reader × Tag × Int × Int × ByteArray × (List ByteArray) × (List Tag) × Unit → Option ((Bool × Reader × Tag × Unit))) (h0 : ∀ v r, f0 v = some r → mn_65s0e1d v r) (h1 : ∀ v r, f1 v = some r → mn_95s0e1dg1 v r) (v : Reader × Tag × Int × Int × ByteArray × (List ByteArray) × (List Tag) × Unit) (r : (Bool × Reader × Tag × Unit)) (h : exJ (x95s0e1d f0 (fun _ => none) (fun _ => none) (fun _ => none) f1) (restOf (scopeNo (bodyOf Tryz.f95) 0) 0) 0 c95s0e1dg1 [.ret] f1 v = some r) : mn_95s0e1dg1 v r := fun C hP hN => jump_step (X := x95s0e1d f0 (fun _ => none) (fun _ => none) (fun _ => none) f1) (x := (scopeNo (bodyOf Tryz.f95) 0)) (b := (restOf (scopeNo (bodyOf Tryz.f95) 0) 0)) (l := 0) hP hN Ty.mixed (cn_95s0e1dg1 f0 f1 h0 h1) (by kernel_rfl) (lok_all2 (X := x95s0e1d f0 (fun _ => none) (fun _ => none) (fun _ => none) f1) (c := (restOf (scopeNo (bodyOf Tryz.f95) 0) 0)) (kcast (by kernel_rfl : AllB (LoopsP C (x95s0e1d f0 (fun _ => none) (fun _ => none) (fun _ => none) f1)) [] = AllB (LoopsP C (x95s0e1d f0 (fun _ => none) (fun _ => none) (fun _ => none) f1)) (loopsIn (restOf (scopeNo (bodyOf Tryz.f95) 0) 0))) trivial) (kcast (by kernel_rfl : AllB (JumpsP C (x95s0e1d f0 (fun _ => none) (fun _ => none) (fun _ => none) f1)) [] = AllB (JumpsP C (x95s0e1d f0 (fun _ => none) (fun _ => none) (fun _ => none) f1)) (jumpsIn (restOf (scopeNo (bodyOf Tryz.f95) 0) 0))) trivial)) (cut := c95s0e1dg1) (alts := [.ret]) (F := f1) (fun v out h => h1 v out h C hP hN) h
theorem n_65s0e1d_all : (∀ v r, n_65s0e1d v = some r → mn_65s0e1d v r) ∧ (∀ v r, n_96s0e1d v = some r → mn_96s0e1d v r) ∧ (∀ v r, n_96s0e1dg1 v = some r → mn_96s0e1dg1 v r) ∧ (∀ v r, n_95s0e1d v = some r → mn_95s0e1d v r) ∧ (∀ v r, n_95s0e1dg1 v = some r → mn_95s0e1dg1 v r) := by
  refine n_65s0e1d.mutual_partial_correctness
    (motive_1 := mn_65s0e1d)
    (motive_2 := mn_96s0e1d)
    (motive_3 := mn_96s0e1dg1)
    (motive_4 := mn_95s0e1d)
    (motive_5 := mn_95s0e1dg1)
    ?_ ?_ ?_ ?_ ?_
  · exact (fun f0 f1 h0 h1 v r h => sn_65s0e1d f0 f1 h0 h1 v r (kcast (by kernel_rfl) h))
  · exact (fun f0 f1 h0 h1 v r h => sn_96s0e1d f0 f1 h0 h1 v r (kcast (by kernel_rfl) h))
  · exact (fun f0 f1 h0 h1 v r h => sn_96s0e1dg1 f0 f1 h0 h1 v r (kcast (by kernel_rfl) h))
  · exact (fun f0 f1 h0 h1 v r h => sn_95s0e1d f0 f1 h0 h1 v r (kcast (by kernel_rfl) h))
  · exact (fun f0 f1 h0 h1 v r h => sn_95s0e1dg1 f0 f1 h0 h1 v r (kcast (by kernel_rfl) h))
theorem n_65s0e1d_ok : SigOk Tryz.prog 65 sig65s0e1d n_65s0e1d := fun v r x h hx => n_65s0e1d_all.1 v r h x hx
theorem n_96s0e1d_ok : SigOk Tryz.prog 96 sig96s0e1d n_96s0e1d := fun v r x h hx => n_65s0e1d_all.2.1 v r h x hx
theorem n_96s0e1dg1_pc : ∀ v out, n_96s0e1dg1 v = some out → (fun v out => ∀ C : Ctx, C.P = Tryz.prog → C.N = 68 → AWpJ C (scopeNo (bodyOf Tryz.f96) 0) (restOf (scopeNo (bodyOf Tryz.f96) 0) 0) (encS vw (conc vw c96s0e1dg1 v)) (OutQ sh96s0e1d [.ret] out)) v out := n_65s0e1d_all.2.2.1
theorem n_95s0e1d_ok : SigOk Tryz.prog 95 sig95s0e1d n_95s0e1d := fun v r x h hx => n_65s0e1d_all.2.2.2.1 v r h x hx
theorem n_95s0e1dg1_pc : ∀ v out, n_95s0e1dg1 v = some out → (fun v out => ∀ C : Ctx, C.P = Tryz.prog → C.N = 41 → AWpJ C (scopeNo (bodyOf Tryz.f95) 0) (restOf (scopeNo (bodyOf Tryz.f95) 0) 0) (encS vw (conc vw c95s0e1dg1 v)) (OutQ sh95s0e1d [.ret] out)) v out := n_65s0e1d_all.2.2.2.2

noncomputable def c31j7 : Cut SN := { slots := [(0, .dat .str), (2, .bp 2 0), (5, .bp 15 0), (6, .bp 6 0), (7, .dat .bool)], objs := [(2, .st .tagT), (15, .st .readerT), (6, .st .tagT)] }
noncomputable def c31r7 : Cut SN := { slots := [(0, .dat .str), (2, .bp 2 0), (5, .bp 15 0), (6, .bp 6 0), (34, .dat .bool)], objs := [(2, .st .tagT), (15, .st .readerT), (6, .st .tagT)] }
noncomputable def c31z : Cut SN := { slots := [(2, .bp 2 0), (3, .dat (.int .i64)), (4, .dat (.int .i64))], objs := [(2, .st .tagT)] }
noncomputable def sh31 : Shape vw := { exits := fun _ => { slots := [], objs := [] }, rcut := c31z }
noncomputable def sig31 : Sig vw := { params := [.dat .str], objs := [], rcut := c31z, rvars := [.cell 2 25, .tmp 3, .tmp 4], keep := [] }
noncomputable def n_31 (v : ByteArray × Unit) : Option (Int × Int × Tag × Unit) :=
  if decide ((↑v.fst.size : Int) > (65536 : Int)) = true then
    some (((0 : Int), (3 : Int), Tag.mk (0 : Int) (0 : Int) (ByteArray.mk #[]) [] [], ()))
  else n_65s0e1d (Reader.mk v.fst (0 : Int), ()) >>= fun x1 =>
  (if x1.fst = true then
      n_66s0e1d (x1.snd.fst, ()) >>= fun x2 =>
      some ((v.fst, x1.fst, Tag.mk (0 : Int) (0 : Int) (ByteArray.mk #[]) [] [], x2.fst, x1.snd.snd.fst, ()))
    else some ((v.fst, x1.fst, Tag.mk (0 : Int) (0 : Int) (ByteArray.mk #[]) [] [], x1.snd.fst, x1.snd.snd.fst, ()))) >>= fun x2 =>
  (if (!x2.snd.fst) = true then
      some ((x2.fst, true, x2.snd.snd.fst, x2.snd.snd.snd.fst, x2.snd.snd.snd.snd.fst, ()))
    else some ((x2.fst, decide (x2.snd.snd.snd.fst.at0 < (↑x2.fst.size : Int)), x2.snd.snd.fst, x2.snd.snd.snd.fst, x2.snd.snd.snd.snd.fst, ()))) >>= fun x3 =>
  if x3.snd.fst = true then
    some ((x3.snd.snd.snd.fst.at0, (2 : Int), Tag.mk (0 : Int) (0 : Int) (ByteArray.mk #[]) [] [], ()))
  else n_29 (x3.snd.snd.snd.snd.fst, ()) >>= fun x4 =>
  if (x4.fst != (0 : Int)) = true then
    some (((0 : Int), x4.fst, Tag.mk (0 : Int) (0 : Int) (ByteArray.mk #[]) [] [], ()))
  else some (((↑x3.fst.size : Int), (0 : Int), x3.snd.snd.snd.snd.fst, ()))
noncomputable def call31 : Caller vw := fun A fid args S k => match fid with | 29 => callPure Tryz.prog sig29 n_29 A args S k | 65 => callObj Tryz.prog sig65s0e1d n_65s0e1d A args S k | 66 => callObj Tryz.prog sig66s0e1d n_66s0e1d A args S k | _ => none
noncomputable def x31 : Xc vw := { P := Tryz.prog, n := 49, nm := id, call := call31, pre := fun _ => false, sh := sh31, joins := fun k => match k with | 7 => some (c31j7, [.norm]) | _ => none, regs := fun k => match k with | 7 => some c31r7 | _ => none, loops := fun _ => none }
theorem call31_ok : CallerOk Tryz.prog call31 := fun A fid args S dst k r h => by
  unfold call31 at h
  split at h
  · exact callPure_ok (n_29_ok) rfl rfl h
  · exact callObj_ok (n_65s0e1d_ok) h
  · exact callObj_ok (n_66s0e1d_ok) h
  · cases h
theorem n_31_ok : SigOk Tryz.prog 31 sig31 n_31 := fun v r x h hx =>
  fn_ok (X := x31) (sig := sig31) rfl Tryz.func31 (c := bodyOf Tryz.f31) (by kernel_rfl) Tryz.ntmps31 (by kernel_rfl) (by kernel_rfl) rfl Ty.mixed call31_ok rfl (fun C hP hN => (lok_all (X := x31) (c := (bodyOf Tryz.f31)) (kcast (by kernel_rfl : True = AllB (LoopsP C (x31)) (loopsIn (bodyOf Tryz.f31))) trivial))) (kcast (by kernel_rfl) h) x hx

noncomputable def c15r4 : Cut SN := { slots := [(0, .dat .bool)], objs := [] }
noncomputable def c15z : Cut SN := { slots := [(0, .dat .bool)], objs := [] }
noncomputable def sh15 : Shape vw := { exits := fun _ => { slots := [], objs := [] }, rcut := c15z }
noncomputable def sig15 : Sig vw := { params := [], objs := [], rcut := c15z, rvars := [.tmp 0], keep := [] }
noncomputable def n_15 (v : Unit) : Option (Bool × Unit) :=
  n_31 (ByteArray.mk #[(123 : UInt8), (34 : UInt8), (97 : UInt8), (34 : UInt8), (58 : UInt8), (91 : UInt8), (49 : UInt8), (44 : UInt8), (50 : UInt8), (93 : UInt8), (125 : UInt8)], ()) >>= fun x1 =>
  n_16 (x1.snd.snd.fst, [ByteArray.mk #[(97 : UInt8)], ByteArray.mk #[(49 : UInt8)]], ()) >>= fun x2 =>
  n_31 (ByteArray.mk #[(91 : UInt8), (49 : UInt8), (44 : UInt8), (93 : UInt8)], ()) >>= fun x3 =>
  (if (x1.snd.fst == (0 : Int)) = true then
      if (x1.fst == (11 : Int)) = true then
        if (x2.snd.fst == (0 : Int)) = true then
          if x2.fst = true then
            if (x2.snd.snd.fst.kind == (3 : Int)) = true then
              if (x2.snd.snd.fst.n == (2 : Int)) = true then
                if (x3.snd.fst == (2 : Int)) = true then
                  some ((x3.fst == (3 : Int), ()))
                else some ((false, ()))
              else some ((false, ()))
            else some ((false, ()))
          else some ((false, ()))
        else some ((false, ()))
      else some ((false, ()))
    else some ((false, ()))) >>= fun x4 =>
  some ((x4.fst, ()))
noncomputable def call15 : Caller vw := fun A fid args S k => match fid with | 16 => callPure Tryz.prog sig16 n_16 A args S k | 31 => callPure Tryz.prog sig31 n_31 A args S k | _ => none
noncomputable def x15 : Xc vw := { P := Tryz.prog, n := 58, nm := id, call := call15, pre := fun _ => false, sh := sh15, joins := fun _ => none, regs := fun k => match k with | 4 => some c15r4 | _ => none, loops := fun _ => none }
theorem call15_ok : CallerOk Tryz.prog call15 := fun A fid args S dst k r h => by
  unfold call15 at h
  split at h
  · exact callPure_ok (n_16_ok) rfl rfl h
  · exact callPure_ok (n_31_ok) rfl rfl h
  · cases h
theorem n_15_ok : SigOk Tryz.prog 15 sig15 n_15 := fun v r x h hx =>
  fn_ok (X := x15) (sig := sig15) rfl Tryz.func15 (c := bodyOf Tryz.f15) (by kernel_rfl) Tryz.ntmps15 (by kernel_rfl) (by kernel_rfl) rfl Ty.mixed call15_ok rfl (fun C hP hN => (lok_all (X := x15) (c := (bodyOf Tryz.f15)) (kcast (by kernel_rfl : True = AllB (LoopsP C (x15)) (loopsIn (bodyOf Tryz.f15))) trivial))) (kcast (by kernel_rfl) h) x hx
end Go.Proofs.YtdmggfegkaiaiaaGreatDoor
