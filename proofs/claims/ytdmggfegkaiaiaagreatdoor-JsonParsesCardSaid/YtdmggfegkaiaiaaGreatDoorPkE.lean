/-
  Texts of this claim, joined by a program of mine: what the theorem uses.
-/
import Derived.Test.YtdmggfegkaiaiaaGreatDoorPkC
import Derived.Test.YtdmggfegkaiaiaaGreatDoorPkB
import Derived.Test.YtdmggfegkaiaiaaGreatDoorPkD
set_option linter.unusedVariables false
set_option linter.unusedSimpArgs false
section
namespace Go.Proofs.YtdmggfegkaiaiaaGreatDoor
open Go.Awp Go.Tx
open IntKind (u64)
open IntKind (u8)
open IntKind (i64)
open Go.Proofs.Tryz (prog)
set_option maxRecDepth 100000
noncomputable def sh148 : Shape vw := { rcut := c144z }
noncomputable def sig148 : Sig vw := { params := [.dat (.int .i64), .dat (.int .i64)], rcut := c144z, rvars := [.tmp 4] }
noncomputable def n_148 (v : Int × Int × Unit) : Option (ByteArray × Unit) :=
 n_144 (v.1, v.2.1, ()) >>= fun x1 =>
 some ((x1.1, ()))
noncomputable def call148 : Caller vw := fun A fid args S k => match fid with | 144 => callPure prog sig144 n_144 A args S k | _ => none
noncomputable def x148 : Xc vw := { P := prog, n := 8, call := call148, sh := sh148 }
theorem call148_ok : CallerOk prog call148 := fun A fid args S dst k r h => by
 unfold call148 at h
 split at h
 ·exact callPure_ok (n_144_ok) rfl rfl h
 ·cases h
theorem n_148_ok : SigOk prog 148 sig148 n_148 := fun v r x h hx =>
 fn_ok (X := x148) (sig := sig148) rfl Tryz.func148 (c := bodyOf Tryz.f148) (by kernel_rfl) Tryz.ntmps148 (by kernel_rfl) (by kernel_rfl) rfl Ty.mixed call148_ok rfl (fun C hP hN => (lok_all (kcast (by kernel_rfl) trivial))) (kcast (by kernel_rfl) h) x hx
noncomputable def c114l4 : Cut SN := ⟨[(3, .bp 3 0), (9, .dat (.sl (.int .u8))), (10, .dat (.int .i64)), (11, .dat (.int .i64))], [(3, .box (some 93) [.np 3, .vh 3031]), (3031, .vec 5 (.int .u8))]⟩
noncomputable def c114r1 : Cut SN := ⟨[(0, .dat .str), (3, .bp 3 0)], [(3, .box (some 93) [.np 3, .vh 3031]), (3031, .vec 5 (.int .u8))]⟩
noncomputable def c114e0 : Cut SN := ⟨[(3, .bp 3 0)], [(3, .box (some 93) [.np 3, .vh 3031]), (3031, .vec 5 (.int .u8))]⟩
noncomputable def sh114 : Shape vw := { exits := fun id => match id with | 0 => c114e0 | _ => ⟨[], []⟩, rcut := c79z }
noncomputable def sig114 : Sig vw := { params := [.dat .str], rcut := c79z, rvars := [.tmp 2] }
noncomputable def n_114l4 (v : (List Int) × Int × Int × Bool × (List Int) × Unit) : Option ((Bool × (List Int) × Unit)) :=
 if decide (v.2.2.1 < v.2.1) = true then
  (if (0 : Int) ≤ v.2.2.1 then
     v.1[v.2.2.1.toNat]? >>= fun x1 =>
     n_147 (ByteArray.mk #[34, 92, 10, 13, 9, 8, 12], x1, ()) >>= fun x2 =>
     if decide (x2.1 ≥ (0 : Int)) = true then
      if (0 : Int) ≤ x2.1 ∧ x2.1 ≤ i64.wrap (x2.1 + (1 : Int)) ∧ i64.wrap (x2.1 + (1 : Int)) ≤ (↑(ByteArray.mk #[34, 92, 110, 114, 116, 98, 102]).size : Int) then
       if (ByteArray.mk #[92]).size + ((ByteArray.mk #[34, 92, 110, 114, 116, 98, 102]).extract x2.1.toNat (i64.wrap (x2.1 + (1 : Int))).toNat).size ≤ (4294967296 : Nat) then
        n_113s555c (ByteArray.mk #[92] ++ (ByteArray.mk #[34, 92, 110, 114, 116, 98, 102]).extract x2.1.toNat (i64.wrap (x2.1 + (1 : Int))).toNat, v.2.2.2.1, v.2.2.2.2.1, ()) >>= fun x3 =>
        some ((v.1, v.2.1, v.2.2.1, x3.2.1, x3.2.2.1, ()))
       else none
      else none
     else if decide (x1 < (32 : Int)) = true then
      n_148 (i64.wrap (Bs.ishr u8 x1 (4 : Int)), (16 : Int), ()) >>= fun x3 =>
      if (ByteArray.mk #[92, 117, 48, 48]).size + x3.1.size ≤ (4294967296 : Nat) then
       n_148 (i64.wrap (Bs.iand u8 x1 (15 : Int)), (16 : Int), ()) >>= fun x4 =>
       if (ByteArray.mk #[92, 117, 48, 48] ++ x3.1).size + x4.1.size ≤ (4294967296 : Nat) then
        n_113s555c (ByteArray.mk #[92, 117, 48, 48] ++ x3.1 ++ x4.1, v.2.2.2.1, v.2.2.2.2.1, ()) >>= fun x5 =>
        some ((v.1, v.2.1, v.2.2.1, x5.2.1, x5.2.2.1, ()))
       else none
      else none
     else n_146s8b9e (x1, v.2.2.2.1, v.2.2.2.2.1, ()) >>= fun x3 =>
     some ((v.1, v.2.1, v.2.2.1, x3.1, x3.2.1, ()))
    else none) >>= fun x1 =>
  n_114l4 (x1.1, x1.2.1, i64.wrap (x1.2.2.1 + (1 : Int)), x1.2.2.2.1, x1.2.2.2.2.1, ())
 else some ((v.2.2.2.1, v.2.2.2.2.1, ()))
 partial_fixpoint
noncomputable def n_114 (v : ByteArray × Unit) : Option (ByteArray × Unit) :=
 some (v.1, false, [], ()) >>= fun x1 =>
 n_146s8b9e ((34 : Int), x1.2.1, x1.2.2.1, ()) >>= fun x2 =>
 n_114l4 (Bs.ints x1.1, (↑(Bs.ints x1.1).length : Int), (0 : Int), x2.1, x2.2.1, ()) >>= fun x3 =>
 n_146s8b9e ((34 : Int), x3.1, x3.2.1, ()) >>= fun x4 =>
 n_83s143f (x4.1, x4.2.1, ()) >>= fun x5 =>
 some ((x5.1, ()))
noncomputable def call114 : Caller vw := fun A fid args S k => match fid with | 83 => callObj prog sig83s143f n_83s143f A args S k | 113 => callObj prog sig113s555c n_113s555c A args S k | 146 => callObj prog sig146s8b9e n_146s8b9e A args S k | 147 => callPure prog sig147 n_147 A args S k | 148 => callPure prog sig148 n_148 A args S k | _ => none
noncomputable def x114 : Xc vw := { P := prog, n := 45, call := call114, sh := sh114, joins := fun k => match k with | 12 => some (c114l4, [.norm]) | _ => none, regs := fun k => match k with | 1 => some c114r1 | _ => none, loops := fun k => match k with | 4 => some { cut := c114l4, alts := [.exit 0], F := n_114l4 } | _ => none }
theorem call114_ok : CallerOk prog call114 := fun A fid args S dst k r h => by
 unfold call114 at h
 split at h
 ·exact callObj_ok (n_83s143f_ok) h
 ·exact callObj_ok (n_113s555c_ok) h
 ·exact callObj_ok (n_146s8b9e_ok) h
 ·exact callPure_ok (n_147_ok) rfl rfl h
 ·exact callPure_ok (n_148_ok) rfl rfl h
 ·cases h
theorem n_114l4_ok (C : Ctx) (hP : C.P = prog) (hN : C.N = 45) : LoopOk C (loopNo (bodyOf Tryz.f114) 0) (sh := sh114) { cut := c114l4, alts := [.exit 0], F := n_114l4 } :=
 n_114l4.partial_correctness (motive := fun v out => AWpL C (loopNo (bodyOf Tryz.f114) 0) (encS vw (conc vw c114l4 v)) (OutQ sh114 [.exit 0] out)) fun F ih v out h =>
  loop_step (X := x114) (b := (loopNo (bodyOf Tryz.f114) 0)) hP hN Ty.mixed call114_ok (lok_all (X := x114) (c := (loopNo (bodyOf Tryz.f114) 0)) (kcast (by kernel_rfl : True = AllB (LoopsP C (x114)) (loopsIn (loopNo (bodyOf Tryz.f114) 0))) trivial)) ih (kcast (by kernel_rfl) h)
theorem n_114_ok : SigOk prog 114 sig114 n_114 := fun v r x h hx =>
 fn_ok (X := x114) (sig := sig114) rfl Tryz.func114 (c := bodyOf Tryz.f114) (by kernel_rfl) Tryz.ntmps114 (by kernel_rfl) (by kernel_rfl) rfl Ty.mixed call114_ok rfl (fun C hP hN => (lok_all (kcast (by kernel_rfl : AllB (LoopsP C (x114)) [(loopNo (bodyOf Tryz.f114) 0)] = AllB (LoopsP C (x114)) (loopsIn (bodyOf Tryz.f114))) ⟨loop_at (X := x114) (b := (loopNo (bodyOf Tryz.f114) 0)) (by kernel_rfl) (n_114l4_ok C hP hN), trivial⟩))) (kcast (by kernel_rfl) h) x hx
noncomputable def c146s968az : Cut SN := ⟨[(0, .bp 100000 0), (4, .nif)], [(100000, .box (some 95) [.np 100000, .vh 3001, .dat .bool, .dat (.int .i64)]), (3001, .vec 5 (.int .u8))]⟩
noncomputable def sh146s968a : Shape vw := { rcut := c146s968az }
noncomputable def sig146s968a : Sig vw := { params := [.bp 100000 0, .dat (.int .u8)], objs := [(100000, .box (some 95) [.np 100000, .vh 100001, .dat .bool, .dat (.int .i64)]), (100001, .vec 5 (.int .u8))], rcut := c146s968az, rvars := [.tmp 4], keep := [100000, 3001] }
noncomputable def n_146s968a (v : Int × Bool × Bool × Int × (List Int) × Unit) : Option (Bool × Bool × Int × (List Int) × Unit) :=
 n_145s1ccb (v.2.1, v.2.2.1, v.2.2.2.1, v.2.2.2.2.1, ()) >>= fun x1 =>
 if x1.2.2.2.1.length + [v.1].length ≤ (4294967296 : Nat) then
  some ((x1.1, x1.2.1, x1.2.2.1, x1.2.2.2.1 ++ [v.1], ()))
 else none
noncomputable def call146s968a : Caller vw := fun A fid args S k => match fid with | 145 => callObj prog sig145s1ccb n_145s1ccb A args S k | _ => none
noncomputable def x146s968a : Xc vw := { P := prog, n := 17, call := call146s968a, sh := sh146s968a }
theorem call146s968a_ok : CallerOk prog call146s968a := fun A fid args S dst k r h => by
 unfold call146s968a at h
 split at h
 ·exact callObj_ok (n_145s1ccb_ok) h
 ·cases h
theorem n_146s968a_ok : SigOk prog 146 sig146s968a n_146s968a := fun v r x h hx =>
 fn_ok (X := x146s968a) (sig := sig146s968a) rfl Tryz.func146 (c := bodyOf Tryz.f146) (by kernel_rfl) Tryz.ntmps146 (by kernel_rfl) (by kernel_rfl) rfl Ty.mixed call146s968a_ok rfl (fun C hP hN => (lok_all (kcast (by kernel_rfl) trivial))) (kcast (by kernel_rfl) h) x hx
noncomputable def sig172 : Sig vw := { params := [.dat .str, .dat (.int .i64)], rcut := c144z, rvars := [.tmp 4] }
noncomputable def n_172 (v : ByteArray × Int × Unit) : Option (ByteArray × Unit) :=
 if 0 ≤ v.2.1 ∧ v.2.1 ≤ 4294967296 ∧ (v.1.size : Int) * v.2.1 ≤ 140737488355328 then some (⟨(Lib.repeatL v.1.data.toList v.2.1.toNat).toArray⟩, ()) else none
theorem n_172_ok : SigOk prog 172 sig172 n_172 := fun v r x h hx => by
 obtain ⟨s, c, u⟩ := v
 unfold n_172 at h
 split at h
 ·rename_i hc
  obtain ⟨h0, h1, h2⟩ := hc
  simp only at h0 h1 h2
  cases h; cases hx
  obtain ⟨k, rfl⟩ : ∃ k : Nat, c = k := ⟨c.toNat, (Int.toNat_of_nonneg h0).symm⟩
  have hm : s.size * k ≤ 140737488355328 := by
   have : ((s.size * k : Nat) : Int) ≤ 140737488355328 := by rw [Int.natCast_mul]; exact h2
   omega
  have hk : k ≤ 9223372036854775807 := by omega
  exact kcast (by kernel_rfl) (FnOk.pure (P := prog) (f := 172) (args := [.d (.v (.string s)), .d (.v (.int .i64 (k : Int)))]) (r := .d (.v (.string ⟨(Lib.repeatL s.data.toList (k : Int).toNat).toArray⟩))) (by kernel_rfl) fun E M w vs _ _ hv => by
   obtain ⟨v1, v2, rfl, h1, h2⟩ := hreps_two hv
   rw [h1.dv, h2.dv]
   exact (Tryz.strings_Repeat s k w hk hm).mono fun e w' ⟨he, hw⟩ => ⟨_, he, .d (.v _), hw⟩)
 ·cases h
noncomputable def sh149s1ccb : Shape vw := { rcut := c145s1ccbz }
noncomputable def sig149s1ccb : Sig vw := { params := [.bp 100000 0], objs := [(100000, .box (some 95) [.np 100000, .vh 100001, .dat .bool, .dat (.int .i64)]), (100001, .vec 5 (.int .u8))], rcut := c145s1ccbz, rvars := [], keep := [100000, 3001] }
noncomputable def n_149s1ccb (v : Bool × Bool × Int × (List Int) × Unit) : Option (Bool × Bool × Int × (List Int) × Unit) :=
 if v.2.1 = true then
  n_172 (ByteArray.mk #[32, 32], v.2.2.1, ()) >>= fun x1 =>
  if (ByteArray.mk #[10]).size + x1.1.size ≤ (4294967296 : Nat) then
   n_113sf4d8 (ByteArray.mk #[10] ++ x1.1, v.1, v.2.1, v.2.2.1, v.2.2.2.1, ()) >>= fun x2 =>
   some ((x2.2.1, x2.2.2.1, x2.2.2.2.1, x2.2.2.2.2.1, ()))
  else none
 else some ((v.1, v.2.1, v.2.2.1, v.2.2.2.1, ()))
noncomputable def call149s1ccb : Caller vw := fun A fid args S k => match fid with | 113 => callObj prog sig113sf4d8 n_113sf4d8 A args S k | 172 => callPure prog sig172 n_172 A args S k | _ => none
noncomputable def x149s1ccb : Xc vw := { P := prog, n := 16, call := call149s1ccb, sh := sh149s1ccb }
theorem call149s1ccb_ok : CallerOk prog call149s1ccb := fun A fid args S dst k r h => by
 unfold call149s1ccb at h
 split at h
 ·exact callObj_ok (n_113sf4d8_ok) h
 ·exact callPure_ok (n_172_ok) rfl rfl h
 ·cases h
theorem n_149s1ccb_ok : SigOk prog 149 sig149s1ccb n_149s1ccb := fun v r x h hx =>
 fn_ok (X := x149s1ccb) (sig := sig149s1ccb) rfl Tryz.func149 (c := bodyOf Tryz.f149) (by kernel_rfl) Tryz.ntmps149 (by kernel_rfl) (by kernel_rfl) rfl Ty.mixed call149s1ccb_ok rfl (fun C hP hN => (lok_all (kcast (by kernel_rfl) trivial))) (kcast (by kernel_rfl) h) x hx
noncomputable def c115sb3cdl4 : Cut SN := ⟨[(0, .bp 100000 0), (1, .dat .str), (5, .bp 5 0), (22, .dat (.sl (.st .tagT))), (23, .dat (.int .i64)), (24, .dat (.int .i64))], [(100000, .box (some 95) [.np 100000, .vh 3001, .dat .bool, .dat (.int .i64)]), (5, .st .tagT), (3001, .vec 5 (.int .u8))]⟩
noncomputable def c115sb3cdj8 : Cut SN := ⟨[(0, .bp 100000 0), (1, .dat .str), (5, .bp 5 0), (6, .dat (.int .i64)), (7, .bp 7 0), (22, .dat (.sl (.st .tagT))), (23, .dat (.int .i64)), (24, .dat (.int .i64))], [(100000, .box (some 95) [.np 100000, .vh 3001, .dat .bool, .dat (.int .i64)]), (5, .st .tagT), (7, .st .tagT), (3001, .vec 5 (.int .u8))]⟩
noncomputable def c115sb3cdj13 : Cut SN := ⟨[(0, .bp 100000 0), (1, .dat .str), (5, .bp 5 0), (7, .bp 7 0), (22, .dat (.sl (.st .tagT))), (23, .dat (.int .i64)), (24, .dat (.int .i64))], [(100000, .box (some 95) [.np 100000, .vh 3001, .dat .bool, .dat (.int .i64)]), (5, .st .tagT), (7, .st .tagT), (3001, .vec 5 (.int .u8))]⟩
noncomputable def c115sb3cdj18 : Cut SN := ⟨[(0, .bp 100000 0), (1, .dat .str)], [(100000, .box (some 95) [.np 100000, .vh 3001, .dat .bool, .dat (.int .i64)]), (3001, .vec 5 (.int .u8))]⟩
noncomputable def c115sb3cde0 : Cut SN := ⟨[(0, .bp 100000 0), (1, .dat .str), (5, .bp 5 0)], [(100000, .box (some 95) [.np 100000, .vh 3001, .dat .bool, .dat (.int .i64)]), (5, .st .tagT), (3001, .vec 5 (.int .u8))]⟩
noncomputable def sh115sb3cd : Shape vw := { exits := fun id => match id with | 0 => c115sb3cde0 | _ => ⟨[], []⟩, rcut := c145s1ccbz }
noncomputable def sig115sb3cd : Sig vw := { params := [.bp 100000 0, .dat .str, .dat (.st .tagT)], objs := [(100000, .box (some 95) [.np 100000, .vh 100001, .dat .bool, .dat (.int .i64)]), (100001, .vec 5 (.int .u8))], rcut := c145s1ccbz, rvars := [], keep := [100000, 3001] }
noncomputable def c82s5190j5 : Cut SN := ⟨[(0, .bp 100000 0), (3, .bp 3 0), (5, .dat (.int .i64)), (6, .dat .bool)], [(100000, .box (some 95) [.np 100000, .vh 3001, .dat .bool, .dat (.int .i64)]), (3, .st .tagT), (3001, .vec 5 (.int .u8))]⟩
noncomputable def sh82s5190 : Shape vw := { rcut := c145s1ccbz }
noncomputable def sig82s5190 : Sig vw := { params := [.bp 100000 0, .dat (.st .tagT)], objs := [(100000, .box (some 95) [.np 100000, .vh 100001, .dat .bool, .dat (.int .i64)]), (100001, .vec 5 (.int .u8))], rcut := c145s1ccbz, rvars := [], keep := [100000, 3001] }
mutual
noncomputable def n_115sb3cdl4 (v : ByteArray × (List Tag) × Int × Int × Bool × Bool × Int × Tag × (List Int) × Unit) : Option ((ByteArray × Bool × Bool × Int × Tag × (List Int) × Unit)) :=
 if decide (v.2.2.2.1 < v.2.2.1) = true then
  if (0 : Int) ≤ v.2.2.2.1 then
   v.2.1[v.2.2.2.1.toNat]? >>= fun x1 =>
   (if decide (v.2.2.2.1 > (0 : Int)) = true then
      n_146s968a ((44 : Int), v.2.2.2.2.1, v.2.2.2.2.2.1, v.2.2.2.2.2.2.1, v.2.2.2.2.2.2.2.2.1, ()) >>= fun x2 =>
      some ((v.1, v.2.2.2.1, v.2.1, v.2.2.1, v.2.2.2.1, x2.1, x2.2.1, x2.2.2.1, v.2.2.2.2.2.2.2.1, x1, x2.2.2.2.1, ()))
     else some ((v.1, v.2.2.2.1, v.2.1, v.2.2.1, v.2.2.2.1, v.2.2.2.2.1, v.2.2.2.2.2.1, v.2.2.2.2.2.2.1, v.2.2.2.2.2.2.2.1, x1, v.2.2.2.2.2.2.2.2.1, ()))) >>= fun x2 =>
   n_149s1ccb (x2.2.2.2.2.2.1, x2.2.2.2.2.2.2.1, x2.2.2.2.2.2.2.2.1, x2.2.2.2.2.2.2.2.2.2.2.1, ()) >>= fun x3 =>
   (if (x2.2.2.2.2.2.2.2.2.1.kind == (6 : Int)) = true then
      if (0 : Int) ≤ x2.2.1 then
       x2.2.2.2.2.2.2.2.2.1.names[x2.2.1.toNat]? >>= fun x4 =>
       n_114 (x4, ()) >>= fun x5 =>
       if x5.1.size + (ByteArray.mk #[58]).size ≤ (4294967296 : Nat) then
        n_113sf4d8 (x5.1 ++ ByteArray.mk #[58], x3.1, x3.2.1, x3.2.2.1, x3.2.2.2.1, ()) >>= fun x6 =>
        if x6.2.2.1 = true then
         n_146s968a ((32 : Int), x6.2.1, x6.2.2.1, x6.2.2.2.1, x6.2.2.2.2.1, ()) >>= fun x7 =>
         some ((x2.1, x2.2.2.1, x2.2.2.2.1, x2.2.2.2.2.1, x7.1, x7.2.1, x7.2.2.1, x2.2.2.2.2.2.2.2.2.1, x2.2.2.2.2.2.2.2.2.2.1, x7.2.2.2.1, ()))
        else some ((x2.1, x2.2.2.1, x2.2.2.2.1, x2.2.2.2.2.1, x6.2.1, x6.2.2.1, x6.2.2.2.1, x2.2.2.2.2.2.2.2.2.1, x2.2.2.2.2.2.2.2.2.2.1, x6.2.2.2.2.1, ()))
       else none
      else none
     else some ((x2.1, x2.2.2.1, x2.2.2.2.1, x2.2.2.2.2.1, x3.1, x3.2.1, x3.2.2.1, x2.2.2.2.2.2.2.2.2.1, x2.2.2.2.2.2.2.2.2.2.1, x3.2.2.2.1, ()))) >>= fun x4 =>
   n_82s5190 (x4.2.2.2.2.2.2.2.2.1, x4.2.2.2.2.1, x4.2.2.2.2.2.1, x4.2.2.2.2.2.2.1, x4.2.2.2.2.2.2.2.2.2.1, ()) >>= fun x5 =>
   n_115sb3cdl4 (x4.1, x4.2.1, x4.2.2.1, i64.wrap (x4.2.2.2.1 + (1 : Int)), x5.1, x5.2.1, x5.2.2.1, x4.2.2.2.2.2.2.2.1, x5.2.2.2.1, ())
  else none
 else some ((v.1, v.2.2.2.2.1, v.2.2.2.2.2.1, v.2.2.2.2.2.2.1, v.2.2.2.2.2.2.2.1, v.2.2.2.2.2.2.2.2.1, ()))
 partial_fixpoint
noncomputable def n_82s5190 (v : Tag × Bool × Bool × Int × (List Int) × Unit) : Option (Bool × Bool × Int × (List Int) × Unit) :=
 (if (v.1.kind == (0 : Int)) = true then
    some ((v.1.kind, true, v.2.1, v.2.2.1, v.2.2.2.1, v.1, v.2.2.2.2.1, ()))
   else if (v.1.kind == (1 : Int)) = true then
    some ((v.1.kind, true, v.2.1, v.2.2.1, v.2.2.2.1, v.1, v.2.2.2.2.1, ()))
   else some ((v.1.kind, v.1.kind == (2 : Int), v.2.1, v.2.2.1, v.2.2.2.1, v.1, v.2.2.2.2.1, ()))) >>= fun x1 =>
 if x1.2.1 = true then
  if (0 : Int) ≤ x1.2.2.2.2.2.1.kind then
   [ByteArray.mk #[110, 117, 108, 108], ByteArray.mk #[102, 97, 108, 115, 101], ByteArray.mk #[116, 114, 117, 101]][x1.2.2.2.2.2.1.kind.toNat]? >>= fun x2 =>
   n_113sf4d8 (x2, x1.2.2.1, x1.2.2.2.1, x1.2.2.2.2.1, x1.2.2.2.2.2.2.1, ()) >>= fun x3 =>
   some ((x3.2.1, x3.2.2.1, x3.2.2.2.1, x3.2.2.2.2.1, ()))
  else none
 else if (x1.1 == (3 : Int)) = true then
  n_79 (x1.2.2.2.2.2.1.n, ()) >>= fun x2 =>
  n_113sf4d8 (x2.1, x1.2.2.1, x1.2.2.2.1, x1.2.2.2.2.1, x1.2.2.2.2.2.2.1, ()) >>= fun x3 =>
  some ((x3.2.1, x3.2.2.1, x3.2.2.2.1, x3.2.2.2.2.1, ()))
 else if (x1.1 == (4 : Int)) = true then
  n_114 (x1.2.2.2.2.2.1.text, ()) >>= fun x2 =>
  n_113sf4d8 (x2.1, x1.2.2.1, x1.2.2.2.1, x1.2.2.2.2.1, x1.2.2.2.2.2.2.1, ()) >>= fun x3 =>
  some ((x3.2.1, x3.2.2.1, x3.2.2.2.1, x3.2.2.2.2.1, ()))
 else if (x1.1 == (5 : Int)) = true then
  n_115sb3cd (ByteArray.mk #[91, 93], x1.2.2.2.2.2.1, x1.2.2.1, x1.2.2.2.1, x1.2.2.2.2.1, x1.2.2.2.2.2.2.1, ()) >>= fun x2 =>
  some ((x2.1, x2.2.1, x2.2.2.1, x2.2.2.2.1, ()))
 else if (x1.1 == (6 : Int)) = true then
  n_115sb3cd (ByteArray.mk #[123, 125], x1.2.2.2.2.2.1, x1.2.2.1, x1.2.2.2.1, x1.2.2.2.2.1, x1.2.2.2.2.2.2.1, ()) >>= fun x2 =>
  some ((x2.1, x2.2.1, x2.2.2.1, x2.2.2.2.1, ()))
 else some ((x1.2.2.1, x1.2.2.2.1, x1.2.2.2.2.1, x1.2.2.2.2.2.2.1, ()))
 partial_fixpoint
noncomputable def n_115sb3cd (v : ByteArray × Tag × Bool × Bool × Int × (List Int) × Unit) : Option (Bool × Bool × Int × (List Int) × Unit) :=
 v.1[Int.toNat (0 : Int)]? >>= fun x1 =>
 n_146s968a ((↑x1.toNat : Int), v.2.2.1, v.2.2.2.1, v.2.2.2.2.1, v.2.2.2.2.2.1, ()) >>= fun x2 =>
 n_115sb3cdl4 (v.1, v.2.1.parts, (↑v.2.1.parts.length : Int), (0 : Int), x2.1, x2.2.1, i64.wrap (x2.2.2.1 + (1 : Int)), v.2.1, x2.2.2.2.1, ()) >>= fun x3 =>
 (if decide ((↑x3.2.2.2.2.1.parts.length : Int) > (0 : Int)) = true then
    n_149s1ccb (x3.2.1, x3.2.2.1, i64.wrap (x3.2.2.2.1 - (1 : Int)), x3.2.2.2.2.2.1, ()) >>= fun x4 =>
    some ((x3.1, x4.1, x4.2.1, x4.2.2.1, x4.2.2.2.1, ()))
   else some ((x3.1, x3.2.1, x3.2.2.1, i64.wrap (x3.2.2.2.1 - (1 : Int)), x3.2.2.2.2.2.1, ()))) >>= fun x4 =>
 x4.1[Int.toNat (1 : Int)]? >>= fun x5 =>
 n_146s968a ((↑x5.toNat : Int), x4.2.1, x4.2.2.1, x4.2.2.2.1, x4.2.2.2.2.1, ()) >>= fun x6 =>
 some ((x6.1, x6.2.1, x6.2.2.1, x6.2.2.2.1, ()))
 partial_fixpoint
end
noncomputable def call115sb3cd (n_115sb3cdl4 : ByteArray × (List Tag) × Int × Int × Bool × Bool × Int × Tag × (List Int) × Unit → Option ((ByteArray × Bool × Bool × Int × Tag × (List Int) × Unit))) (n_82s5190 : Tag × Bool × Bool × Int × (List Int) × Unit → Option (Bool × Bool × Int × (List Int) × Unit)) (n_115sb3cd : ByteArray × Tag × Bool × Bool × Int × (List Int) × Unit → Option (Bool × Bool × Int × (List Int) × Unit)) : Caller vw := fun A fid args S k => match fid with | 82 => callObj prog sig82s5190 n_82s5190 A args S k | 113 => callObj prog sig113sf4d8 n_113sf4d8 A args S k | 114 => callPure prog sig114 n_114 A args S k | 146 => callObj prog sig146s968a n_146s968a A args S k | 149 => callObj prog sig149s1ccb n_149s1ccb A args S k | _ => none
noncomputable def x115sb3cd (n_115sb3cdl4 : ByteArray × (List Tag) × Int × Int × Bool × Bool × Int × Tag × (List Int) × Unit → Option ((ByteArray × Bool × Bool × Int × Tag × (List Int) × Unit))) (n_82s5190 : Tag × Bool × Bool × Int × (List Int) × Unit → Option (Bool × Bool × Int × (List Int) × Unit)) (n_115sb3cd : ByteArray × Tag × Bool × Bool × Int × (List Int) × Unit → Option (Bool × Bool × Int × (List Int) × Unit)) : Xc vw := { P := prog, n := 82, call := call115sb3cd n_115sb3cdl4 n_82s5190 n_115sb3cd, sh := sh115sb3cd, joins := fun k => match k with | 8 => some (c115sb3cdj8, [.norm]) | 13 => some (c115sb3cdj13, [.norm]) | 18 => some (c115sb3cdj18, [.norm]) | _ => none, loops := fun k => match k with | 4 => some { cut := c115sb3cdl4, alts := [.exit 0], F := n_115sb3cdl4 } | _ => none }
noncomputable def call82s5190 (n_115sb3cdl4 : ByteArray × (List Tag) × Int × Int × Bool × Bool × Int × Tag × (List Int) × Unit → Option ((ByteArray × Bool × Bool × Int × Tag × (List Int) × Unit))) (n_82s5190 : Tag × Bool × Bool × Int × (List Int) × Unit → Option (Bool × Bool × Int × (List Int) × Unit)) (n_115sb3cd : ByteArray × Tag × Bool × Bool × Int × (List Int) × Unit → Option (Bool × Bool × Int × (List Int) × Unit)) : Caller vw := fun A fid args S k => match fid with | 79 => callPure prog sig79 n_79 A args S k | 113 => callObj prog sig113sf4d8 n_113sf4d8 A args S k | 114 => callPure prog sig114 n_114 A args S k | 115 => callObj prog sig115sb3cd n_115sb3cd A args S k | _ => none
noncomputable def x82s5190 (n_115sb3cdl4 : ByteArray × (List Tag) × Int × Int × Bool × Bool × Int × Tag × (List Int) × Unit → Option ((ByteArray × Bool × Bool × Int × Tag × (List Int) × Unit))) (n_82s5190 : Tag × Bool × Bool × Int × (List Int) × Unit → Option (Bool × Bool × Int × (List Int) × Unit)) (n_115sb3cd : ByteArray × Tag × Bool × Bool × Int × (List Int) × Unit → Option (Bool × Bool × Int × (List Int) × Unit)) : Xc vw := { P := prog, n := 47, call := call82s5190 n_115sb3cdl4 n_82s5190 n_115sb3cd, sh := sh82s5190, joins := fun k => match k with | 5 => some (c82s5190j5, [.norm]) | _ => none }
abbrev mn_115sb3cdl4 (v : ByteArray × (List Tag) × Int × Int × Bool × Bool × Int × Tag × (List Int) × Unit) (r : (ByteArray × Bool × Bool × Int × Tag × (List Int) × Unit)) : Prop := (fun v out => ∀ C : Ctx, C.P = prog → C.N = 82 → AWpL C (loopNo (bodyOf Tryz.f115) 0) (encS vw (conc vw c115sb3cdl4 v)) (OutQ sh115sb3cd [.exit 0] out)) v r
abbrev mn_82s5190 (v : Tag × Bool × Bool × Int × (List Int) × Unit) (r : Bool × Bool × Int × (List Int) × Unit) : Prop := (fun v r => ∀ x, resV prog sig82s5190 r = some x → FnOk prog 82 (encL vw (startS sig82s5190 v).len (startOs sig82s5190 v).1) (encOs (startS sig82s5190 v).len (startS sig82s5190 v).own) (encV vw (conc vw sig82s5190.rcut r).len x) (encOs (conc vw sig82s5190.rcut r).len (kept sig82s5190 r))) v r
abbrev mn_115sb3cd (v : ByteArray × Tag × Bool × Bool × Int × (List Int) × Unit) (r : Bool × Bool × Int × (List Int) × Unit) : Prop := (fun v r => ∀ x, resV prog sig115sb3cd r = some x → FnOk prog 115 (encL vw (startS sig115sb3cd v).len (startOs sig115sb3cd v).1) (encOs (startS sig115sb3cd v).len (startS sig115sb3cd v).own) (encV vw (conc vw sig115sb3cd.rcut r).len x) (encOs (conc vw sig115sb3cd.rcut r).len (kept sig115sb3cd r))) v r
theorem cn_115sb3cdl4 (f0 : ByteArray × (List Tag) × Int × Int × Bool × Bool × Int × Tag × (List Int) × Unit → Option ((ByteArray × Bool × Bool × Int × Tag × (List Int) × Unit))) (f1 : Tag × Bool × Bool × Int × (List Int) × Unit → Option (Bool × Bool × Int × (List Int) × Unit)) (h0 : ∀ v r, f0 v = some r → mn_115sb3cdl4 v r) (h1 : ∀ v r, f1 v = some r → mn_82s5190 v r) : CallerOk prog (x115sb3cd f0 f1 (fun _ => none)).call := (by
    intro A fid args S dst k r h
    unfold x115sb3cd call115sb3cd at h
    simp only at h
    split at h
    ·exact callObj_ok ((fun v r x h hx => h1 v r h x hx)) h
    ·exact callObj_ok (n_113sf4d8_ok) h
    ·exact callPure_ok (n_114_ok) rfl rfl h
    ·exact callObj_ok (n_146s968a_ok) h
    ·exact callObj_ok (n_149s1ccb_ok) h
    ·cases h)
theorem sn_115sb3cdl4 (f0 : ByteArray × (List Tag) × Int × Int × Bool × Bool × Int × Tag × (List Int) × Unit → Option ((ByteArray × Bool × Bool × Int × Tag × (List Int) × Unit))) (f1 : Tag × Bool × Bool × Int × (List Int) × Unit → Option (Bool × Bool × Int × (List Int) × Unit)) (h0 : ∀ v r, f0 v = some r → mn_115sb3cdl4 v r) (h1 : ∀ v r, f1 v = some r → mn_82s5190 v r) (v : ByteArray × (List Tag) × Int × Int × Bool × Bool × Int × Tag × (List Int) × Unit) (r : (ByteArray × Bool × Bool × Int × Tag × (List Int) × Unit)) (h : exL (x115sb3cd f0 f1 (fun _ => none)) (loopNo (bodyOf Tryz.f115) 0) c115sb3cdl4 [.exit 0] f0 v = some r) : mn_115sb3cdl4 v r := fun C hP hN => loop_step (X := x115sb3cd f0 f1 (fun _ => none)) (b := (loopNo (bodyOf Tryz.f115) 0)) hP hN Ty.mixed (cn_115sb3cdl4 f0 f1 h0 h1) (lok_all (X := x115sb3cd f0 f1 (fun _ => none)) (c := (loopNo (bodyOf Tryz.f115) 0)) (kcast (by kernel_rfl : True = AllB (LoopsP C (x115sb3cd f0 f1 (fun _ => none))) (loopsIn (loopNo (bodyOf Tryz.f115) 0))) trivial)) (cut := c115sb3cdl4) (alts := [.exit 0]) (F := f0) (fun v out h => h0 v out h C hP hN) h
theorem cn_82s5190 (f0 : ByteArray × Tag × Bool × Bool × Int × (List Int) × Unit → Option (Bool × Bool × Int × (List Int) × Unit)) (h0 : ∀ v r, f0 v = some r → mn_115sb3cd v r) : CallerOk prog (x82s5190 (fun _ => none) (fun _ => none) f0).call := (by
    intro A fid args S dst k r h
    unfold x82s5190 call82s5190 at h
    simp only at h
    split at h
    ·exact callPure_ok (n_79_ok) rfl rfl h
    ·exact callObj_ok (n_113sf4d8_ok) h
    ·exact callPure_ok (n_114_ok) rfl rfl h
    ·exact callObj_ok ((fun v r x h hx => h0 v r h x hx)) h
    ·cases h)
theorem sn_82s5190 (f0 : ByteArray × Tag × Bool × Bool × Int × (List Int) × Unit → Option (Bool × Bool × Int × (List Int) × Unit)) (h0 : ∀ v r, f0 v = some r → mn_115sb3cd v r) (v : Tag × Bool × Bool × Int × (List Int) × Unit) (r : Bool × Bool × Int × (List Int) × Unit) (h : exF (x82s5190 (fun _ => none) (fun _ => none) f0) sig82s5190 rfl (bodyOf Tryz.f82) v = some r) : mn_82s5190 v r := fun x hx => fn_ok (X := x82s5190 (fun _ => none) (fun _ => none) f0) (sig := sig82s5190) rfl Tryz.func82 (c := bodyOf Tryz.f82) (by kernel_rfl) Tryz.ntmps82 (by kernel_rfl) (by kernel_rfl) rfl Ty.mixed (cn_82s5190 f0 h0) rfl (fun C hP hN => (lok_all (X := x82s5190 (fun _ => none) (fun _ => none) f0) (c := (bodyOf Tryz.f82)) (kcast (by kernel_rfl : True = AllB (LoopsP C (x82s5190 (fun _ => none) (fun _ => none) f0)) (loopsIn (bodyOf Tryz.f82))) trivial))) h x hx
theorem cn_115sb3cd (f0 : ByteArray × (List Tag) × Int × Int × Bool × Bool × Int × Tag × (List Int) × Unit → Option ((ByteArray × Bool × Bool × Int × Tag × (List Int) × Unit))) (h0 : ∀ v r, f0 v = some r → mn_115sb3cdl4 v r) : CallerOk prog (x115sb3cd f0 (fun _ => none) (fun _ => none)).call := (by
    intro A fid args S dst k r h
    unfold x115sb3cd call115sb3cd at h
    simp only at h
    split at h
    ·exact callObj_ok ((fun v r x h hx => by cases h)) h
    ·exact callObj_ok (n_113sf4d8_ok) h
    ·exact callPure_ok (n_114_ok) rfl rfl h
    ·exact callObj_ok (n_146s968a_ok) h
    ·exact callObj_ok (n_149s1ccb_ok) h
    ·cases h)
theorem sn_115sb3cd (f0 : ByteArray × (List Tag) × Int × Int × Bool × Bool × Int × Tag × (List Int) × Unit → Option ((ByteArray × Bool × Bool × Int × Tag × (List Int) × Unit))) (h0 : ∀ v r, f0 v = some r → mn_115sb3cdl4 v r) (v : ByteArray × Tag × Bool × Bool × Int × (List Int) × Unit) (r : Bool × Bool × Int × (List Int) × Unit) (h : exF (x115sb3cd f0 (fun _ => none) (fun _ => none)) sig115sb3cd rfl (bodyOf Tryz.f115) v = some r) : mn_115sb3cd v r := fun x hx => fn_ok (X := x115sb3cd f0 (fun _ => none) (fun _ => none)) (sig := sig115sb3cd) rfl Tryz.func115 (c := bodyOf Tryz.f115) (by kernel_rfl) Tryz.ntmps115 (by kernel_rfl) (by kernel_rfl) rfl Ty.mixed (cn_115sb3cd f0 h0) rfl (fun C hP hN => (lok_all (X := x115sb3cd f0 (fun _ => none) (fun _ => none)) (c := (bodyOf Tryz.f115)) (kcast (by kernel_rfl : AllB (LoopsP C (x115sb3cd f0 (fun _ => none) (fun _ => none))) [(loopNo (bodyOf Tryz.f115) 0)] = AllB (LoopsP C (x115sb3cd f0 (fun _ => none) (fun _ => none))) (loopsIn (bodyOf Tryz.f115))) ⟨loop_at (X := x115sb3cd f0 (fun _ => none) (fun _ => none)) (b := (loopNo (bodyOf Tryz.f115) 0)) (by kernel_rfl) (show LoopOk C (loopNo (bodyOf Tryz.f115) 0) (sh := sh115sb3cd) { cut := c115sb3cdl4, alts := [.exit 0], F := f0 } from fun v out h => h0 v out h C hP hN), trivial⟩))) h x hx
theorem n_115sb3cdl4_all : (∀ v r, n_115sb3cdl4 v = some r → mn_115sb3cdl4 v r) ∧ (∀ v r, n_82s5190 v = some r → mn_82s5190 v r) ∧ (∀ v r, n_115sb3cd v = some r → mn_115sb3cd v r) := by
 refine n_115sb3cdl4.mutual_partial_correctness
  (motive_1 := mn_115sb3cdl4)
  (motive_2 := mn_82s5190)
  (motive_3 := mn_115sb3cd)
  ?_ ?_ ?_
 ·exact (fun f0 f1 h0 h1 v r h => sn_115sb3cdl4 f0 f1 h0 h1 v r (kcast (by kernel_rfl) h))
 ·exact (fun f0 h0 v r h => sn_82s5190 f0 h0 v r (kcast (by kernel_rfl) h))
 ·exact (fun f0 h0 v r h => sn_115sb3cd f0 h0 v r (kcast (by kernel_rfl) h))
theorem n_82s5190_ok : SigOk prog 82 sig82s5190 n_82s5190 := fun v r x h hx => n_115sb3cdl4_all.2.1 v r h x hx
noncomputable def sh83s1ccb : Shape vw := { rcut := c79z }
noncomputable def sig83s1ccb : Sig vw := { params := [.bp 100000 0], objs := [(100000, .box (some 95) [.np 100000, .vh 100001, .dat .bool, .dat (.int .i64)]), (100001, .vec 5 (.int .u8))], rcut := c79z, rvars := [.tmp 2] }
noncomputable def n_83s1ccb (v : Bool × Bool × Int × (List Int) × Unit) : Option (ByteArray × Unit) :=
 if (↑v.2.2.2.1.length : Int) = (↑v.2.2.2.1.length : Int) ∧ v.2.2.2.1.length ≤ (4294967296 : Nat) then
  some ((Bs.bytes v.2.2.2.1, ()))
 else none
noncomputable def call83s1ccb : Caller vw := fun _ _ _ _ _ => none
noncomputable def x83s1ccb : Xc vw := { P := prog, n := 14, call := call83s1ccb, sh := sh83s1ccb }
theorem call83s1ccb_ok : CallerOk prog call83s1ccb := call_none
theorem n_83s1ccb_ok : SigOk prog 83 sig83s1ccb n_83s1ccb := fun v r x h hx =>
 fn_ok (X := x83s1ccb) (sig := sig83s1ccb) rfl Tryz.func83 (c := bodyOf Tryz.f83) (by kernel_rfl) Tryz.ntmps83 (by kernel_rfl) (by kernel_rfl) rfl Ty.mixed call83s1ccb_ok rfl (fun C hP hN => (lok_all (kcast (by kernel_rfl) trivial))) (kcast (by kernel_rfl) h) x hx
noncomputable def c59r4 : Cut SN := ⟨[(2, .bp 2 0), (7, .bp 15 0)], [(2, .st .tagT), (15, .box (some 95) [.np 15, .vh 3151, .dat .bool, .dat (.int .i64)]), (3151, .vec 5 (.int .u8))]⟩
noncomputable def c59z : Cut SN := ⟨[(4, .dat .str), (5, .dat (.int .i64))], []⟩
noncomputable def sh59 : Shape vw := { rcut := c59z }
noncomputable def sig59 : Sig vw := { params := [.dat (.st .tagT), .dat .bool], rcut := c59z, rvars := [.tmp 4, .tmp 5] }
noncomputable def n_59 (v : Tag × Bool × Unit) : Option (ByteArray × Int × Unit) :=
 n_29 (v.1, ()) >>= fun x1 =>
 if (x1.1 != (0 : Int)) = true then
  some ((ByteArray.mk #[], x1.1, ()))
 else some (v.1, false, v.2.1, (0 : Int), [], ()) >>= fun x2 =>
 n_82s5190 (x2.1, x2.2.1, x2.2.2.1, x2.2.2.2.1, x2.2.2.2.2.1, ()) >>= fun x3 =>
 n_83s1ccb (x3.1, x3.2.1, x3.2.2.1, x3.2.2.2.1, ()) >>= fun x4 =>
 some ((x4.1, (0 : Int), ()))
noncomputable def call59 : Caller vw := fun A fid args S k => match fid with | 29 => callPure prog sig29 n_29 A args S k | 82 => callObj prog sig82s5190 n_82s5190 A args S k | 83 => callObj prog sig83s1ccb n_83s1ccb A args S k | _ => none
noncomputable def x59 : Xc vw := { P := prog, n := 23, call := call59, sh := sh59, regs := fun k => match k with | 4 => some c59r4 | _ => none }
theorem call59_ok : CallerOk prog call59 := fun A fid args S dst k r h => by
 unfold call59 at h
 split at h
 ·exact callPure_ok (n_29_ok) rfl rfl h
 ·exact callObj_ok (n_82s5190_ok) h
 ·exact callObj_ok (n_83s1ccb_ok) h
 ·cases h
theorem n_59_ok : SigOk prog 59 sig59 n_59 := fun v r x h hx =>
 fn_ok (X := x59) (sig := sig59) rfl Tryz.func59 (c := bodyOf Tryz.f59) (by kernel_rfl) Tryz.ntmps59 (by kernel_rfl) (by kernel_rfl) rfl Ty.mixed call59_ok rfl (fun C hP hN => (lok_all (kcast (by kernel_rfl) trivial))) (kcast (by kernel_rfl) h) x hx
noncomputable def c27z : Cut SN := ⟨[(2, .dat .str), (3, .dat (.int .i64))], []⟩
noncomputable def sh27 : Shape vw := { rcut := c27z }
noncomputable def sig27 : Sig vw := { params := [.dat (.st .tagT)], rcut := c27z, rvars := [.tmp 2, .tmp 3] }
noncomputable def n_27 (v : Tag × Unit) : Option (ByteArray × Int × Unit) :=
 n_59 (v.1, false, ()) >>= fun x1 =>
 some ((x1.1, x1.2.1, ()))
noncomputable def call27 : Caller vw := fun A fid args S k => match fid with | 59 => callPure prog sig59 n_59 A args S k | _ => none
noncomputable def x27 : Xc vw := { P := prog, n := 8, call := call27, sh := sh27 }
theorem call27_ok : CallerOk prog call27 := fun A fid args S dst k r h => by
 unfold call27 at h
 split at h
 ·exact callPure_ok (n_59_ok) rfl rfl h
 ·cases h
theorem n_27_ok : SigOk prog 27 sig27 n_27 := fun v r x h hx =>
 fn_ok (X := x27) (sig := sig27) rfl Tryz.func27 (c := bodyOf Tryz.f27) (by kernel_rfl) Tryz.ntmps27 (by kernel_rfl) (by kernel_rfl) rfl Ty.mixed call27_ok rfl (fun C hP hN => (lok_all (kcast (by kernel_rfl) trivial))) (kcast (by kernel_rfl) h) x hx
noncomputable def c43l3 : Cut SN := ⟨[(1, .bp 1 0), (5, .dat (.int .i64)), (6, .dat (.int .i64)), (7, .dat (.int .i64)), (8, .dat (.int .i64))], [(1, .st .tagT)]⟩
noncomputable def c43l7 : Cut SN := ⟨[(1, .bp 1 0), (5, .dat (.int .i64)), (6, .dat (.int .i64)), (7, .dat (.int .i64)), (9, .dat (.int .i64))], [(1, .st .tagT)]⟩
noncomputable def c43e0 : Cut SN := ⟨[(1, .bp 1 0), (5, .dat (.int .i64)), (6, .dat (.int .i64)), (7, .dat (.int .i64))], [(1, .st .tagT)]⟩
noncomputable def c43e2 : Cut SN := ⟨[(5, .dat (.int .i64)), (6, .dat (.int .i64)), (7, .dat (.int .i64))], []⟩
noncomputable def c43z : Cut SN := ⟨[(2, .dat (.int .i64)), (3, .dat (.int .i64)), (4, .dat (.int .i64))], []⟩
noncomputable def sh43 : Shape vw := { exits := fun id => match id with | 0 => c43e0 | 2 => c43e2 | _ => ⟨[], []⟩, rcut := c43z }
noncomputable def sig43 : Sig vw := { params := [.dat (.st .tagT)], rcut := c43z, rvars := [.tmp 2, .tmp 3, .tmp 4] }
noncomputable def n_43l3 (v : Int × Int × Int × Int × Tag × Unit) : Option ((Int × Int × Int × Tag × Unit)) :=
 if decide (v.2.2.2.1 < (↑v.2.2.2.2.1.names.length : Int)) = true then
  if (0 : Int) ≤ v.2.2.2.1 then
   v.2.2.2.2.1.names[v.2.2.2.1.toNat]? >>= fun x1 =>
   n_43l3 (v.1, v.2.1, i64.wrap (v.2.2.1 + (↑x1.size : Int)), i64.wrap (v.2.2.2.1 + (1 : Int)), v.2.2.2.2.1, ())
  else none
 else some ((v.1, v.2.1, v.2.2.1, v.2.2.2.2.1, ()))
 partial_fixpoint
mutual
noncomputable def n_43l7 (v : Int × Int × Int × Int × Tag × Unit) : Option ((Int × Int × Int × Unit)) :=
 if decide (v.2.2.2.1 < (↑v.2.2.2.2.1.parts.length : Int)) = true then
  if (0 : Int) ≤ v.2.2.2.1 then
   v.2.2.2.2.1.parts[v.2.2.2.1.toNat]? >>= fun x1 =>
   n_43 (x1, ()) >>= fun x2 =>
   n_43l7 (i64.wrap (v.1 + x2.1), max v.2.1 x2.2.1, i64.wrap (v.2.2.1 + x2.2.2.1), i64.wrap (v.2.2.2.1 + (1 : Int)), v.2.2.2.2.1, ())
  else none
 else some ((v.1, v.2.1, v.2.2.1, ()))
 partial_fixpoint
noncomputable def n_43 (v : Tag × Unit) : Option (Int × Int × Int × Unit) :=
 n_43l3 ((1 : Int), (0 : Int), (↑v.1.text.size : Int), (0 : Int), v.1, ()) >>= fun x1 =>
 n_43l7 (x1.1, x1.2.1, x1.2.2.1, (0 : Int), x1.2.2.2.1, ()) >>= fun x2 =>
 some ((x2.1, i64.wrap (x2.2.1 + (1 : Int)), x2.2.2.1, ()))
 partial_fixpoint
end
noncomputable def call43 (n_43l3 : Int × Int × Int × Int × Tag × Unit → Option ((Int × Int × Int × Tag × Unit))) (n_43l7 : Int × Int × Int × Int × Tag × Unit → Option ((Int × Int × Int × Unit))) (n_43 : Tag × Unit → Option (Int × Int × Int × Unit)) : Caller vw := fun A fid args S k => match fid with | 43 => callPure prog sig43 n_43 A args S k | _ => none
noncomputable def x43 (n_43l3 : Int × Int × Int × Int × Tag × Unit → Option ((Int × Int × Int × Tag × Unit))) (n_43l7 : Int × Int × Int × Int × Tag × Unit → Option ((Int × Int × Int × Unit))) (n_43 : Tag × Unit → Option (Int × Int × Int × Unit)) : Xc vw := { P := prog, n := 61, call := call43 n_43l3 n_43l7 n_43, sh := sh43, loops := fun k => match k with | 3 => some { cut := c43l3, alts := [.exit 0], F := n_43l3 } | 7 => some { cut := c43l7, alts := [.exit 2], F := n_43l7 } | _ => none }
abbrev mn_43l3 (v : Int × Int × Int × Int × Tag × Unit) (r : (Int × Int × Int × Tag × Unit)) : Prop := (fun v out => ∀ C : Ctx, C.P = prog → C.N = 61 → AWpL C (loopNo (bodyOf Tryz.f43) 0) (encS vw (conc vw c43l3 v)) (OutQ sh43 [.exit 0] out)) v r
theorem cn_43l3 (f0 : Int × Int × Int × Int × Tag × Unit → Option ((Int × Int × Int × Tag × Unit))) (h0 : ∀ v r, f0 v = some r → mn_43l3 v r) : CallerOk prog (x43 f0 (fun _ => none) (fun _ => none)).call := (by
    intro A fid args S dst k r h
    unfold x43 call43 at h
    simp only at h
    split at h
    ·exact callPure_ok ((fun v r x h hx => by cases h)) rfl rfl h
    ·cases h)
theorem sn_43l3 (f0 : Int × Int × Int × Int × Tag × Unit → Option ((Int × Int × Int × Tag × Unit))) (h0 : ∀ v r, f0 v = some r → mn_43l3 v r) (v : Int × Int × Int × Int × Tag × Unit) (r : (Int × Int × Int × Tag × Unit)) (h : exL (x43 f0 (fun _ => none) (fun _ => none)) (loopNo (bodyOf Tryz.f43) 0) c43l3 [.exit 0] f0 v = some r) : mn_43l3 v r := fun C hP hN => loop_step (X := x43 f0 (fun _ => none) (fun _ => none)) (b := (loopNo (bodyOf Tryz.f43) 0)) hP hN Ty.mixed (cn_43l3 f0 h0) (lok_all (X := x43 f0 (fun _ => none) (fun _ => none)) (c := (loopNo (bodyOf Tryz.f43) 0)) (kcast (by kernel_rfl : True = AllB (LoopsP C (x43 f0 (fun _ => none) (fun _ => none))) (loopsIn (loopNo (bodyOf Tryz.f43) 0))) trivial)) (cut := c43l3) (alts := [.exit 0]) (F := f0) (fun v out h => h0 v out h C hP hN) h
theorem n_43l3_pc : ∀ v out, n_43l3 v = some out → (fun v out => ∀ C : Ctx, C.P = prog → C.N = 61 → AWpL C (loopNo (bodyOf Tryz.f43) 0) (encS vw (conc vw c43l3 v)) (OutQ sh43 [.exit 0] out)) v out := (n_43l3.partial_correctness (motive := mn_43l3) (fun f0 h0 v r h => sn_43l3 f0 h0 v r (kcast (by kernel_rfl) h)))
abbrev mn_43l7 (v : Int × Int × Int × Int × Tag × Unit) (r : (Int × Int × Int × Unit)) : Prop := (fun v out => ∀ C : Ctx, C.P = prog → C.N = 61 → AWpL C (loopNo (bodyOf Tryz.f43) 1) (encS vw (conc vw c43l7 v)) (OutQ sh43 [.exit 2] out)) v r
abbrev mn_43 (v : Tag × Unit) (r : Int × Int × Int × Unit) : Prop := (fun v r => ∀ x, resV prog sig43 r = some x → FnOk prog 43 (encL vw (startS sig43 v).len (startOs sig43 v).1) (encOs (startS sig43 v).len (startS sig43 v).own) (encV vw (conc vw sig43.rcut r).len x) (encOs (conc vw sig43.rcut r).len (kept sig43 r))) v r
theorem cn_43l7 (f0 : Int × Int × Int × Int × Tag × Unit → Option ((Int × Int × Int × Unit))) (f1 : Tag × Unit → Option (Int × Int × Int × Unit)) (h0 : ∀ v r, f0 v = some r → mn_43l7 v r) (h1 : ∀ v r, f1 v = some r → mn_43 v r) : CallerOk prog (x43 (fun _ => none) f0 f1).call := (by
    intro A fid args S dst k r h
    unfold x43 call43 at h
    simp only at h
    split at h
    ·exact callPure_ok ((fun v r x h hx => h1 v r h x hx)) rfl rfl h
    ·cases h)
theorem sn_43l7 (f0 : Int × Int × Int × Int × Tag × Unit → Option ((Int × Int × Int × Unit))) (f1 : Tag × Unit → Option (Int × Int × Int × Unit)) (h0 : ∀ v r, f0 v = some r → mn_43l7 v r) (h1 : ∀ v r, f1 v = some r → mn_43 v r) (v : Int × Int × Int × Int × Tag × Unit) (r : (Int × Int × Int × Unit)) (h : exL (x43 (fun _ => none) f0 f1) (loopNo (bodyOf Tryz.f43) 1) c43l7 [.exit 2] f0 v = some r) : mn_43l7 v r := fun C hP hN => loop_step (X := x43 (fun _ => none) f0 f1) (b := (loopNo (bodyOf Tryz.f43) 1)) hP hN Ty.mixed (cn_43l7 f0 f1 h0 h1) (lok_all (X := x43 (fun _ => none) f0 f1) (c := (loopNo (bodyOf Tryz.f43) 1)) (kcast (by kernel_rfl : True = AllB (LoopsP C (x43 (fun _ => none) f0 f1)) (loopsIn (loopNo (bodyOf Tryz.f43) 1))) trivial)) (cut := c43l7) (alts := [.exit 2]) (F := f0) (fun v out h => h0 v out h C hP hN) h
theorem cn_43 (f0 : Int × Int × Int × Int × Tag × Unit → Option ((Int × Int × Int × Unit))) (h0 : ∀ v r, f0 v = some r → mn_43l7 v r) : CallerOk prog (x43 n_43l3 f0 (fun _ => none)).call := (by
    intro A fid args S dst k r h
    unfold x43 call43 at h
    simp only at h
    split at h
    ·exact callPure_ok ((fun v r x h hx => by cases h)) rfl rfl h
    ·cases h)
theorem sn_43 (f0 : Int × Int × Int × Int × Tag × Unit → Option ((Int × Int × Int × Unit))) (h0 : ∀ v r, f0 v = some r → mn_43l7 v r) (v : Tag × Unit) (r : Int × Int × Int × Unit) (h : exF (x43 n_43l3 f0 (fun _ => none)) sig43 rfl (bodyOf Tryz.f43) v = some r) : mn_43 v r := fun x hx => fn_ok (X := x43 n_43l3 f0 (fun _ => none)) (sig := sig43) rfl Tryz.func43 (c := bodyOf Tryz.f43) (by kernel_rfl) Tryz.ntmps43 (by kernel_rfl) (by kernel_rfl) rfl Ty.mixed (cn_43 f0 h0) rfl (fun C hP hN => (lok_all (X := x43 n_43l3 f0 (fun _ => none)) (c := (bodyOf Tryz.f43)) (kcast (by kernel_rfl : AllB (LoopsP C (x43 n_43l3 f0 (fun _ => none))) [(loopNo (bodyOf Tryz.f43) 0), (loopNo (bodyOf Tryz.f43) 1)] = AllB (LoopsP C (x43 n_43l3 f0 (fun _ => none))) (loopsIn (bodyOf Tryz.f43))) ⟨loop_at (X := x43 n_43l3 f0 (fun _ => none)) (b := (loopNo (bodyOf Tryz.f43) 0)) (by kernel_rfl) (show LoopOk C (loopNo (bodyOf Tryz.f43) 0) (sh := sh43) { cut := c43l3, alts := [.exit 0], F := n_43l3 } from fun v out h => n_43l3_pc v out h C hP hN), loop_at (X := x43 n_43l3 f0 (fun _ => none)) (b := (loopNo (bodyOf Tryz.f43) 1)) (by kernel_rfl) (show LoopOk C (loopNo (bodyOf Tryz.f43) 1) (sh := sh43) { cut := c43l7, alts := [.exit 2], F := f0 } from fun v out h => h0 v out h C hP hN), trivial⟩))) h x hx
theorem n_43l7_all : (∀ v r, n_43l7 v = some r → mn_43l7 v r) ∧ (∀ v r, n_43 v = some r → mn_43 v r) := by
 refine n_43l7.mutual_partial_correctness
  (motive_1 := mn_43l7)
  (motive_2 := mn_43)
  ?_ ?_
 ·exact (fun f0 f1 h0 h1 v r h => sn_43l7 f0 f1 h0 h1 v r (kcast (by kernel_rfl) h))
 ·exact (fun f0 h0 v r h => sn_43 f0 h0 v r (kcast (by kernel_rfl) h))
theorem n_43_ok : SigOk prog 43 sig43 n_43 := fun v r x h hx => n_43l7_all.2 v r h x hx
noncomputable def c63l6 : Cut SN := ⟨[(1, .bp 1 0), (3, .dat (.int .i64))], [(1, .st .tagT)]⟩
noncomputable def c63l11 : Cut SN := ⟨[(1, .bp 1 0), (4, .dat (.int .i64))], [(1, .st .tagT)]⟩
noncomputable def c63r1 : Cut SN := ⟨[(1, .bp 1 0), (54, .dat .bool)], [(1, .st .tagT)]⟩
noncomputable def c63r3 : Cut SN := ⟨[(1, .bp 1 0), (82, .dat .bool)], [(1, .st .tagT)]⟩
noncomputable def sh63 : Shape vw := { exits := fun id => match id with | 0 => c62e0 | 2 => c117c86e0 | _ => ⟨[], []⟩, rcut := c87z }
noncomputable def sig63 : Sig vw := { params := [.dat (.st .tagT)], rcut := c87z, rvars := [.tmp 2] }
noncomputable def n_63l6 (v : Int × Tag × Unit) : Option (((Bool × Unit) ⊕ (Tag × Unit))) :=
 if decide (v.1 < (↑v.2.1.names.length : Int)) = true then
  if (0 : Int) ≤ v.1 then
   v.2.1.names[v.1.toNat]? >>= fun x1 =>
   n_87 (x1, ()) >>= fun x2 =>
   if (!x2.1) = true then
    some (Sum.inl (false, ()))
   else n_63l6 (i64.wrap (v.1 + (1 : Int)), v.2.1, ())
  else none
 else some (Sum.inr (v.2.1, ()))
 partial_fixpoint
mutual
noncomputable def n_63l11 (v : Int × Tag × Unit) : Option (((Bool × Unit) ⊕ (Unit))) :=
 if decide (v.1 < (↑v.2.1.parts.length : Int)) = true then
  if (0 : Int) ≤ v.1 then
   v.2.1.parts[v.1.toNat]? >>= fun x1 =>
   n_63 (x1, ()) >>= fun x2 =>
   if (!x2.1) = true then
    some (Sum.inl (false, ()))
   else n_63l11 (i64.wrap (v.1 + (1 : Int)), v.2.1, ())
  else none
 else some (Sum.inr ())
 partial_fixpoint
noncomputable def n_63 (v : Tag × Unit) : Option (Bool × Unit) :=
 (if decide (v.1.kind < (0 : Int)) = true then
    some ((true, v.1, ()))
   else if decide (v.1.kind > (6 : Int)) = true then
    some ((true, v.1, ()))
   else if (v.1.kind != (3 : Int)) = true then
    if (v.1.n != (0 : Int)) = true then
     some ((true, v.1, ()))
    else if (v.1.kind != (4 : Int)) = true then
     if (!v.1.text.toList == (ByteArray.mk #[]).toList) = true then
      some ((true, v.1, ()))
     else if (v.1.kind != (6 : Int)) = true then
      if decide ((↑v.1.names.length : Int) > (0 : Int)) = true then
       some ((true, v.1, ()))
      else if decide (v.1.kind < (5 : Int)) = true then
       some ((decide ((↑v.1.parts.length : Int) > (0 : Int)), v.1, ()))
      else some ((false, v.1, ()))
     else if decide (v.1.kind < (5 : Int)) = true then
      some ((decide ((↑v.1.parts.length : Int) > (0 : Int)), v.1, ()))
     else some ((false, v.1, ()))
    else if (v.1.kind != (6 : Int)) = true then
     if decide ((↑v.1.names.length : Int) > (0 : Int)) = true then
      some ((true, v.1, ()))
     else if decide (v.1.kind < (5 : Int)) = true then
      some ((decide ((↑v.1.parts.length : Int) > (0 : Int)), v.1, ()))
     else some ((false, v.1, ()))
    else if decide (v.1.kind < (5 : Int)) = true then
     some ((decide ((↑v.1.parts.length : Int) > (0 : Int)), v.1, ()))
    else some ((false, v.1, ()))
   else if (v.1.kind != (4 : Int)) = true then
    if (!v.1.text.toList == (ByteArray.mk #[]).toList) = true then
     some ((true, v.1, ()))
    else if (v.1.kind != (6 : Int)) = true then
     if decide ((↑v.1.names.length : Int) > (0 : Int)) = true then
      some ((true, v.1, ()))
     else if decide (v.1.kind < (5 : Int)) = true then
      some ((decide ((↑v.1.parts.length : Int) > (0 : Int)), v.1, ()))
     else some ((false, v.1, ()))
    else if decide (v.1.kind < (5 : Int)) = true then
     some ((decide ((↑v.1.parts.length : Int) > (0 : Int)), v.1, ()))
    else some ((false, v.1, ()))
   else if (v.1.kind != (6 : Int)) = true then
    if decide ((↑v.1.names.length : Int) > (0 : Int)) = true then
     some ((true, v.1, ()))
    else if decide (v.1.kind < (5 : Int)) = true then
     some ((decide ((↑v.1.parts.length : Int) > (0 : Int)), v.1, ()))
    else some ((false, v.1, ()))
   else if decide (v.1.kind < (5 : Int)) = true then
    some ((decide ((↑v.1.parts.length : Int) > (0 : Int)), v.1, ()))
   else some ((false, v.1, ()))) >>= fun x1 =>
 if x1.1 = true then
  some ((false, ()))
 else (if decide (x1.2.1.n < (-9007199254740992 : Int)) = true then
   some ((true, x1.2.1, ()))
  else if decide (x1.2.1.n > (9007199254740992 : Int)) = true then
   some ((true, x1.2.1, ()))
  else n_87 (x1.2.1.text, ()) >>= fun x2 =>
  if (!x2.1) = true then
   some ((true, x1.2.1, ()))
  else if (x1.2.1.kind == (6 : Int)) = true then
   some (((↑x1.2.1.names.length : Int) != (↑x1.2.1.parts.length : Int), x1.2.1, ()))
  else some ((false, x1.2.1, ()))) >>= fun x2 =>
 if x2.1 = true then
  some ((false, ()))
 else n_63l6 ((0 : Int), x2.2.1, ()) >>= fun x3 => match x3 with
  | .inl y3 => some y3
  | .inr y3 => n_63l11 ((0 : Int), y3.1, ()) >>= fun x4 => match x4 with
    | .inl y4 => some y4
    | .inr y4 => some ((true, ()))
 partial_fixpoint
end
noncomputable def call63 (n_63l6 : Int × Tag × Unit → Option (((Bool × Unit) ⊕ (Tag × Unit)))) (n_63l11 : Int × Tag × Unit → Option (((Bool × Unit) ⊕ (Unit)))) (n_63 : Tag × Unit → Option (Bool × Unit)) : Caller vw := fun A fid args S k => match fid with | 63 => callPure prog sig63 n_63 A args S k | 87 => callPure prog sig87 n_87 A args S k | _ => none
noncomputable def x63 (n_63l6 : Int × Tag × Unit → Option (((Bool × Unit) ⊕ (Tag × Unit)))) (n_63l11 : Int × Tag × Unit → Option (((Bool × Unit) ⊕ (Unit)))) (n_63 : Tag × Unit → Option (Bool × Unit)) : Xc vw := { P := prog, n := 111, call := call63 n_63l6 n_63l11 n_63, sh := sh63, regs := fun k => match k with | 1 => some c63r1 | 3 => some c63r3 | _ => none, loops := fun k => match k with | 6 => some { cut := c63l6, alts := [.ret, .exit 0], F := n_63l6 } | 11 => some { cut := c63l11, alts := [.ret, .exit 2], F := n_63l11 } | _ => none }
abbrev mn_63l6 (v : Int × Tag × Unit) (r : ((Bool × Unit) ⊕ (Tag × Unit))) : Prop := (fun v out => ∀ C : Ctx, C.P = prog → C.N = 111 → AWpL C (loopNo (bodyOf Tryz.f63) 0) (encS vw (conc vw c63l6 v)) (OutQ sh63 [.ret, .exit 0] out)) v r
theorem cn_63l6 (f0 : Int × Tag × Unit → Option (((Bool × Unit) ⊕ (Tag × Unit)))) (h0 : ∀ v r, f0 v = some r → mn_63l6 v r) : CallerOk prog (x63 f0 (fun _ => none) (fun _ => none)).call := (by
    intro A fid args S dst k r h
    unfold x63 call63 at h
    simp only at h
    split at h
    ·exact callPure_ok ((fun v r x h hx => by cases h)) rfl rfl h
    ·exact callPure_ok (n_87_ok) rfl rfl h
    ·cases h)
theorem sn_63l6 (f0 : Int × Tag × Unit → Option (((Bool × Unit) ⊕ (Tag × Unit)))) (h0 : ∀ v r, f0 v = some r → mn_63l6 v r) (v : Int × Tag × Unit) (r : ((Bool × Unit) ⊕ (Tag × Unit))) (h : exL (x63 f0 (fun _ => none) (fun _ => none)) (loopNo (bodyOf Tryz.f63) 0) c63l6 [.ret, .exit 0] f0 v = some r) : mn_63l6 v r := fun C hP hN => loop_step (X := x63 f0 (fun _ => none) (fun _ => none)) (b := (loopNo (bodyOf Tryz.f63) 0)) hP hN Ty.mixed (cn_63l6 f0 h0) (lok_all (X := x63 f0 (fun _ => none) (fun _ => none)) (c := (loopNo (bodyOf Tryz.f63) 0)) (kcast (by kernel_rfl : True = AllB (LoopsP C (x63 f0 (fun _ => none) (fun _ => none))) (loopsIn (loopNo (bodyOf Tryz.f63) 0))) trivial)) (cut := c63l6) (alts := [.ret, .exit 0]) (F := f0) (fun v out h => h0 v out h C hP hN) h
theorem n_63l6_pc : ∀ v out, n_63l6 v = some out → (fun v out => ∀ C : Ctx, C.P = prog → C.N = 111 → AWpL C (loopNo (bodyOf Tryz.f63) 0) (encS vw (conc vw c63l6 v)) (OutQ sh63 [.ret, .exit 0] out)) v out := (n_63l6.partial_correctness (motive := mn_63l6) (fun f0 h0 v r h => sn_63l6 f0 h0 v r (kcast (by kernel_rfl) h)))
abbrev mn_63l11 (v : Int × Tag × Unit) (r : ((Bool × Unit) ⊕ (Unit))) : Prop := (fun v out => ∀ C : Ctx, C.P = prog → C.N = 111 → AWpL C (loopNo (bodyOf Tryz.f63) 1) (encS vw (conc vw c63l11 v)) (OutQ sh63 [.ret, .exit 2] out)) v r
abbrev mn_63 (v : Tag × Unit) (r : Bool × Unit) : Prop := (fun v r => ∀ x, resV prog sig63 r = some x → FnOk prog 63 (encL vw (startS sig63 v).len (startOs sig63 v).1) (encOs (startS sig63 v).len (startS sig63 v).own) (encV vw (conc vw sig63.rcut r).len x) (encOs (conc vw sig63.rcut r).len (kept sig63 r))) v r
theorem cn_63l11 (f0 : Int × Tag × Unit → Option (((Bool × Unit) ⊕ (Unit)))) (f1 : Tag × Unit → Option (Bool × Unit)) (h0 : ∀ v r, f0 v = some r → mn_63l11 v r) (h1 : ∀ v r, f1 v = some r → mn_63 v r) : CallerOk prog (x63 (fun _ => none) f0 f1).call := (by
    intro A fid args S dst k r h
    unfold x63 call63 at h
    simp only at h
    split at h
    ·exact callPure_ok ((fun v r x h hx => h1 v r h x hx)) rfl rfl h
    ·exact callPure_ok (n_87_ok) rfl rfl h
    ·cases h)
theorem sn_63l11 (f0 : Int × Tag × Unit → Option (((Bool × Unit) ⊕ (Unit)))) (f1 : Tag × Unit → Option (Bool × Unit)) (h0 : ∀ v r, f0 v = some r → mn_63l11 v r) (h1 : ∀ v r, f1 v = some r → mn_63 v r) (v : Int × Tag × Unit) (r : ((Bool × Unit) ⊕ (Unit))) (h : exL (x63 (fun _ => none) f0 f1) (loopNo (bodyOf Tryz.f63) 1) c63l11 [.ret, .exit 2] f0 v = some r) : mn_63l11 v r := fun C hP hN => loop_step (X := x63 (fun _ => none) f0 f1) (b := (loopNo (bodyOf Tryz.f63) 1)) hP hN Ty.mixed (cn_63l11 f0 f1 h0 h1) (lok_all (X := x63 (fun _ => none) f0 f1) (c := (loopNo (bodyOf Tryz.f63) 1)) (kcast (by kernel_rfl : True = AllB (LoopsP C (x63 (fun _ => none) f0 f1)) (loopsIn (loopNo (bodyOf Tryz.f63) 1))) trivial)) (cut := c63l11) (alts := [.ret, .exit 2]) (F := f0) (fun v out h => h0 v out h C hP hN) h
theorem cn_63 (f0 : Int × Tag × Unit → Option (((Bool × Unit) ⊕ (Unit)))) (h0 : ∀ v r, f0 v = some r → mn_63l11 v r) : CallerOk prog (x63 n_63l6 f0 (fun _ => none)).call := (by
    intro A fid args S dst k r h
    unfold x63 call63 at h
    simp only at h
    split at h
    ·exact callPure_ok ((fun v r x h hx => by cases h)) rfl rfl h
    ·exact callPure_ok (n_87_ok) rfl rfl h
    ·cases h)
theorem sn_63 (f0 : Int × Tag × Unit → Option (((Bool × Unit) ⊕ (Unit)))) (h0 : ∀ v r, f0 v = some r → mn_63l11 v r) (v : Tag × Unit) (r : Bool × Unit) (h : exF (x63 n_63l6 f0 (fun _ => none)) sig63 rfl (bodyOf Tryz.f63) v = some r) : mn_63 v r := fun x hx => fn_ok (X := x63 n_63l6 f0 (fun _ => none)) (sig := sig63) rfl Tryz.func63 (c := bodyOf Tryz.f63) (by kernel_rfl) Tryz.ntmps63 (by kernel_rfl) (by kernel_rfl) rfl Ty.mixed (cn_63 f0 h0) rfl (fun C hP hN => (lok_all (X := x63 n_63l6 f0 (fun _ => none)) (c := (bodyOf Tryz.f63)) (kcast (by kernel_rfl : AllB (LoopsP C (x63 n_63l6 f0 (fun _ => none))) [(loopNo (bodyOf Tryz.f63) 0), (loopNo (bodyOf Tryz.f63) 1)] = AllB (LoopsP C (x63 n_63l6 f0 (fun _ => none))) (loopsIn (bodyOf Tryz.f63))) ⟨loop_at (X := x63 n_63l6 f0 (fun _ => none)) (b := (loopNo (bodyOf Tryz.f63) 0)) (by kernel_rfl) (show LoopOk C (loopNo (bodyOf Tryz.f63) 0) (sh := sh63) { cut := c63l6, alts := [.ret, .exit 0], F := n_63l6 } from fun v out h => n_63l6_pc v out h C hP hN), loop_at (X := x63 n_63l6 f0 (fun _ => none)) (b := (loopNo (bodyOf Tryz.f63) 1)) (by kernel_rfl) (show LoopOk C (loopNo (bodyOf Tryz.f63) 1) (sh := sh63) { cut := c63l11, alts := [.ret, .exit 2], F := f0 } from fun v out h => h0 v out h C hP hN), trivial⟩))) h x hx
theorem n_63l11_all : (∀ v r, n_63l11 v = some r → mn_63l11 v r) ∧ (∀ v r, n_63 v = some r → mn_63 v r) := by
 refine n_63l11.mutual_partial_correctness
  (motive_1 := mn_63l11)
  (motive_2 := mn_63)
  ?_ ?_
 ·exact (fun f0 f1 h0 h1 v r h => sn_63l11 f0 f1 h0 h1 v r (kcast (by kernel_rfl) h))
 ·exact (fun f0 h0 v r h => sn_63 f0 h0 v r (kcast (by kernel_rfl) h))
theorem n_63_ok : SigOk prog 63 sig63 n_63 := fun v r x h hx => n_63l11_all.2 v r h x hx
noncomputable def c64l5 : Cut SN := ⟨[(1, .bp 1 0), (3, .dat (.int .i64)), (4, .dat (.int .i64))], [(1, .st .tagT)]⟩
noncomputable def c64l10 : Cut SN := ⟨[(1, .bp 1 0), (5, .dat (.int .i64))], [(1, .st .tagT)]⟩
noncomputable def sh64 : Shape vw := { exits := fun id => match id with | 0 => c62e0 | 2 => c63l6 | 4 => c117c86e0 | _ => ⟨[], []⟩, rcut := c87z }
noncomputable def sig64 : Sig vw := { params := [.dat (.st .tagT)], rcut := c87z, rvars := [.tmp 2] }
noncomputable def n_64l5 (v : Int × Int × Tag × Unit) : Option (((Bool × Unit) ⊕ (Int × Tag × Unit))) :=
 if decide (v.2.1 < v.1) = true then
  if (0 : Int) ≤ v.1 then
   v.2.2.1.names[v.1.toNat]? >>= fun x1 =>
   if (0 : Int) ≤ v.2.1 then
    v.2.2.1.names[v.2.1.toNat]? >>= fun x2 =>
    if (x1.toList == x2.toList) = true then
     some (Sum.inl (true, ()))
    else n_64l5 (v.1, i64.wrap (v.2.1 + (1 : Int)), v.2.2.1, ())
   else none
  else none
 else some (Sum.inr (v.1, v.2.2.1, ()))
 partial_fixpoint
noncomputable def n_64l2 (v : Int × Tag × Unit) : Option (((Bool × Unit) ⊕ (Tag × Unit))) :=
 if decide (v.1 < (↑v.2.1.names.length : Int)) = true then
  n_64l5 (v.1, (0 : Int), v.2.1, ()) >>= fun x1 => match x1 with
   | .inl y1 => some (Sum.inl y1)
   | .inr y1 => n_64l2 (i64.wrap (y1.1 + (1 : Int)), y1.2.1, ())
 else some (Sum.inr (v.2.1, ()))
 partial_fixpoint
mutual
noncomputable def n_64l10 (v : Int × Tag × Unit) : Option (((Bool × Unit) ⊕ (Unit))) :=
 if decide (v.1 < (↑v.2.1.parts.length : Int)) = true then
  if (0 : Int) ≤ v.1 then
   v.2.1.parts[v.1.toNat]? >>= fun x1 =>
   n_64 (x1, ()) >>= fun x2 =>
   if x2.1 = true then
    some (Sum.inl (true, ()))
   else n_64l10 (i64.wrap (v.1 + (1 : Int)), v.2.1, ())
  else none
 else some (Sum.inr ())
 partial_fixpoint
noncomputable def n_64 (v : Tag × Unit) : Option (Bool × Unit) :=
 n_64l2 ((0 : Int), v.1, ()) >>= fun x1 => match x1 with
  | .inl y1 => some y1
  | .inr y1 => n_64l10 ((0 : Int), y1.1, ()) >>= fun x2 => match x2 with
    | .inl y2 => some y2
    | .inr y2 => some ((false, ()))
 partial_fixpoint
end
noncomputable def call64 (n_64l5 : Int × Int × Tag × Unit → Option (((Bool × Unit) ⊕ (Int × Tag × Unit)))) (n_64l2 : Int × Tag × Unit → Option (((Bool × Unit) ⊕ (Tag × Unit)))) (n_64l10 : Int × Tag × Unit → Option (((Bool × Unit) ⊕ (Unit)))) (n_64 : Tag × Unit → Option (Bool × Unit)) : Caller vw := fun A fid args S k => match fid with | 64 => callPure prog sig64 n_64 A args S k | _ => none
noncomputable def x64 (n_64l5 : Int × Int × Tag × Unit → Option (((Bool × Unit) ⊕ (Int × Tag × Unit)))) (n_64l2 : Int × Tag × Unit → Option (((Bool × Unit) ⊕ (Tag × Unit)))) (n_64l10 : Int × Tag × Unit → Option (((Bool × Unit) ⊕ (Unit)))) (n_64 : Tag × Unit → Option (Bool × Unit)) : Xc vw := { P := prog, n := 42, call := call64 n_64l5 n_64l2 n_64l10 n_64, sh := sh64, loops := fun k => match k with | 2 => some { cut := c63l6, alts := [.ret, .exit 0], F := n_64l2 } | 5 => some { cut := c64l5, alts := [.ret, .exit 2], F := n_64l5 } | 10 => some { cut := c64l10, alts := [.ret, .exit 4], F := n_64l10 } | _ => none }
abbrev mn_64l5 (v : Int × Int × Tag × Unit) (r : ((Bool × Unit) ⊕ (Int × Tag × Unit))) : Prop := (fun v out => ∀ C : Ctx, C.P = prog → C.N = 42 → AWpL C (loopNo (loopNo (bodyOf Tryz.f64) 0) 0) (encS vw (conc vw c64l5 v)) (OutQ sh64 [.ret, .exit 2] out)) v r
theorem cn_64l5 (f0 : Int × Int × Tag × Unit → Option (((Bool × Unit) ⊕ (Int × Tag × Unit)))) (h0 : ∀ v r, f0 v = some r → mn_64l5 v r) : CallerOk prog (x64 f0 (fun _ => none) (fun _ => none) (fun _ => none)).call := (by
    intro A fid args S dst k r h
    unfold x64 call64 at h
    simp only at h
    split at h
    ·exact callPure_ok ((fun v r x h hx => by cases h)) rfl rfl h
    ·cases h)
theorem sn_64l5 (f0 : Int × Int × Tag × Unit → Option (((Bool × Unit) ⊕ (Int × Tag × Unit)))) (h0 : ∀ v r, f0 v = some r → mn_64l5 v r) (v : Int × Int × Tag × Unit) (r : ((Bool × Unit) ⊕ (Int × Tag × Unit))) (h : exL (x64 f0 (fun _ => none) (fun _ => none) (fun _ => none)) (loopNo (loopNo (bodyOf Tryz.f64) 0) 0) c64l5 [.ret, .exit 2] f0 v = some r) : mn_64l5 v r := fun C hP hN => loop_step (X := x64 f0 (fun _ => none) (fun _ => none) (fun _ => none)) (b := (loopNo (loopNo (bodyOf Tryz.f64) 0) 0)) hP hN Ty.mixed (cn_64l5 f0 h0) (lok_all (X := x64 f0 (fun _ => none) (fun _ => none) (fun _ => none)) (c := (loopNo (loopNo (bodyOf Tryz.f64) 0) 0)) (kcast (by kernel_rfl : True = AllB (LoopsP C (x64 f0 (fun _ => none) (fun _ => none) (fun _ => none))) (loopsIn (loopNo (loopNo (bodyOf Tryz.f64) 0) 0))) trivial)) (cut := c64l5) (alts := [.ret, .exit 2]) (F := f0) (fun v out h => h0 v out h C hP hN) h
theorem n_64l5_pc : ∀ v out, n_64l5 v = some out → (fun v out => ∀ C : Ctx, C.P = prog → C.N = 42 → AWpL C (loopNo (loopNo (bodyOf Tryz.f64) 0) 0) (encS vw (conc vw c64l5 v)) (OutQ sh64 [.ret, .exit 2] out)) v out := (n_64l5.partial_correctness (motive := mn_64l5) (fun f0 h0 v r h => sn_64l5 f0 h0 v r (kcast (by kernel_rfl) h)))
abbrev mn_64l2 (v : Int × Tag × Unit) (r : ((Bool × Unit) ⊕ (Tag × Unit))) : Prop := (fun v out => ∀ C : Ctx, C.P = prog → C.N = 42 → AWpL C (loopNo (bodyOf Tryz.f64) 0) (encS vw (conc vw c63l6 v)) (OutQ sh64 [.ret, .exit 0] out)) v r
theorem cn_64l2 (f0 : Int × Tag × Unit → Option (((Bool × Unit) ⊕ (Tag × Unit)))) (h0 : ∀ v r, f0 v = some r → mn_64l2 v r) : CallerOk prog (x64 n_64l5 f0 (fun _ => none) (fun _ => none)).call := (by
    intro A fid args S dst k r h
    unfold x64 call64 at h
    simp only at h
    split at h
    ·exact callPure_ok ((fun v r x h hx => by cases h)) rfl rfl h
    ·cases h)
theorem sn_64l2 (f0 : Int × Tag × Unit → Option (((Bool × Unit) ⊕ (Tag × Unit)))) (h0 : ∀ v r, f0 v = some r → mn_64l2 v r) (v : Int × Tag × Unit) (r : ((Bool × Unit) ⊕ (Tag × Unit))) (h : exL (x64 n_64l5 f0 (fun _ => none) (fun _ => none)) (loopNo (bodyOf Tryz.f64) 0) c63l6 [.ret, .exit 0] f0 v = some r) : mn_64l2 v r := fun C hP hN => loop_step (X := x64 n_64l5 f0 (fun _ => none) (fun _ => none)) (b := (loopNo (bodyOf Tryz.f64) 0)) hP hN Ty.mixed (cn_64l2 f0 h0) (lok_all (X := x64 n_64l5 f0 (fun _ => none) (fun _ => none)) (c := (loopNo (bodyOf Tryz.f64) 0)) (kcast (by kernel_rfl : AllB (LoopsP C (x64 n_64l5 f0 (fun _ => none) (fun _ => none))) [(loopNo (loopNo (bodyOf Tryz.f64) 0) 0)] = AllB (LoopsP C (x64 n_64l5 f0 (fun _ => none) (fun _ => none))) (loopsIn (loopNo (bodyOf Tryz.f64) 0))) ⟨loop_at (X := x64 n_64l5 f0 (fun _ => none) (fun _ => none)) (b := (loopNo (loopNo (bodyOf Tryz.f64) 0) 0)) (by kernel_rfl) (show LoopOk C (loopNo (loopNo (bodyOf Tryz.f64) 0) 0) (sh := sh64) { cut := c64l5, alts := [.ret, .exit 2], F := n_64l5 } from fun v out h => n_64l5_pc v out h C hP hN), trivial⟩)) (cut := c63l6) (alts := [.ret, .exit 0]) (F := f0) (fun v out h => h0 v out h C hP hN) h
theorem n_64l2_pc : ∀ v out, n_64l2 v = some out → (fun v out => ∀ C : Ctx, C.P = prog → C.N = 42 → AWpL C (loopNo (bodyOf Tryz.f64) 0) (encS vw (conc vw c63l6 v)) (OutQ sh64 [.ret, .exit 0] out)) v out := (n_64l2.partial_correctness (motive := mn_64l2) (fun f0 h0 v r h => sn_64l2 f0 h0 v r (kcast (by kernel_rfl) h)))
abbrev mn_64l10 (v : Int × Tag × Unit) (r : ((Bool × Unit) ⊕ (Unit))) : Prop := (fun v out => ∀ C : Ctx, C.P = prog → C.N = 42 → AWpL C (loopNo (bodyOf Tryz.f64) 1) (encS vw (conc vw c64l10 v)) (OutQ sh64 [.ret, .exit 4] out)) v r
abbrev mn_64 (v : Tag × Unit) (r : Bool × Unit) : Prop := (fun v r => ∀ x, resV prog sig64 r = some x → FnOk prog 64 (encL vw (startS sig64 v).len (startOs sig64 v).1) (encOs (startS sig64 v).len (startS sig64 v).own) (encV vw (conc vw sig64.rcut r).len x) (encOs (conc vw sig64.rcut r).len (kept sig64 r))) v r
theorem cn_64l10 (f0 : Int × Tag × Unit → Option (((Bool × Unit) ⊕ (Unit)))) (f1 : Tag × Unit → Option (Bool × Unit)) (h0 : ∀ v r, f0 v = some r → mn_64l10 v r) (h1 : ∀ v r, f1 v = some r → mn_64 v r) : CallerOk prog (x64 (fun _ => none) (fun _ => none) f0 f1).call := (by
    intro A fid args S dst k r h
    unfold x64 call64 at h
    simp only at h
    split at h
    ·exact callPure_ok ((fun v r x h hx => h1 v r h x hx)) rfl rfl h
    ·cases h)
theorem sn_64l10 (f0 : Int × Tag × Unit → Option (((Bool × Unit) ⊕ (Unit)))) (f1 : Tag × Unit → Option (Bool × Unit)) (h0 : ∀ v r, f0 v = some r → mn_64l10 v r) (h1 : ∀ v r, f1 v = some r → mn_64 v r) (v : Int × Tag × Unit) (r : ((Bool × Unit) ⊕ (Unit))) (h : exL (x64 (fun _ => none) (fun _ => none) f0 f1) (loopNo (bodyOf Tryz.f64) 1) c64l10 [.ret, .exit 4] f0 v = some r) : mn_64l10 v r := fun C hP hN => loop_step (X := x64 (fun _ => none) (fun _ => none) f0 f1) (b := (loopNo (bodyOf Tryz.f64) 1)) hP hN Ty.mixed (cn_64l10 f0 f1 h0 h1) (lok_all (X := x64 (fun _ => none) (fun _ => none) f0 f1) (c := (loopNo (bodyOf Tryz.f64) 1)) (kcast (by kernel_rfl : True = AllB (LoopsP C (x64 (fun _ => none) (fun _ => none) f0 f1)) (loopsIn (loopNo (bodyOf Tryz.f64) 1))) trivial)) (cut := c64l10) (alts := [.ret, .exit 4]) (F := f0) (fun v out h => h0 v out h C hP hN) h
theorem cn_64 (f0 : Int × Tag × Unit → Option (((Bool × Unit) ⊕ (Unit)))) (h0 : ∀ v r, f0 v = some r → mn_64l10 v r) : CallerOk prog (x64 (fun _ => none) n_64l2 f0 (fun _ => none)).call := (by
    intro A fid args S dst k r h
    unfold x64 call64 at h
    simp only at h
    split at h
    ·exact callPure_ok ((fun v r x h hx => by cases h)) rfl rfl h
    ·cases h)
theorem sn_64 (f0 : Int × Tag × Unit → Option (((Bool × Unit) ⊕ (Unit)))) (h0 : ∀ v r, f0 v = some r → mn_64l10 v r) (v : Tag × Unit) (r : Bool × Unit) (h : exF (x64 (fun _ => none) n_64l2 f0 (fun _ => none)) sig64 rfl (bodyOf Tryz.f64) v = some r) : mn_64 v r := fun x hx => fn_ok (X := x64 (fun _ => none) n_64l2 f0 (fun _ => none)) (sig := sig64) rfl Tryz.func64 (c := bodyOf Tryz.f64) (by kernel_rfl) Tryz.ntmps64 (by kernel_rfl) (by kernel_rfl) rfl Ty.mixed (cn_64 f0 h0) rfl (fun C hP hN => (lok_all (X := x64 (fun _ => none) n_64l2 f0 (fun _ => none)) (c := (bodyOf Tryz.f64)) (kcast (by kernel_rfl : AllB (LoopsP C (x64 (fun _ => none) n_64l2 f0 (fun _ => none))) [(loopNo (bodyOf Tryz.f64) 0), (loopNo (bodyOf Tryz.f64) 1)] = AllB (LoopsP C (x64 (fun _ => none) n_64l2 f0 (fun _ => none))) (loopsIn (bodyOf Tryz.f64))) ⟨loop_at (X := x64 (fun _ => none) n_64l2 f0 (fun _ => none)) (b := (loopNo (bodyOf Tryz.f64) 0)) (by kernel_rfl) (show LoopOk C (loopNo (bodyOf Tryz.f64) 0) (sh := sh64) { cut := c63l6, alts := [.ret, .exit 0], F := n_64l2 } from fun v out h => n_64l2_pc v out h C hP hN), loop_at (X := x64 (fun _ => none) n_64l2 f0 (fun _ => none)) (b := (loopNo (bodyOf Tryz.f64) 1)) (by kernel_rfl) (show LoopOk C (loopNo (bodyOf Tryz.f64) 1) (sh := sh64) { cut := c64l10, alts := [.ret, .exit 4], F := f0 } from fun v out h => h0 v out h C hP hN), trivial⟩))) h x hx
theorem n_64l10_all : (∀ v r, n_64l10 v = some r → mn_64l10 v r) ∧ (∀ v r, n_64 v = some r → mn_64 v r) := by
 refine n_64l10.mutual_partial_correctness
  (motive_1 := mn_64l10)
  (motive_2 := mn_64)
  ?_ ?_
 ·exact (fun f0 f1 h0 h1 v r h => sn_64l10 f0 f1 h0 h1 v r (kcast (by kernel_rfl) h))
 ·exact (fun f0 h0 v r h => sn_64 f0 h0 v r (kcast (by kernel_rfl) h))
theorem n_64_ok : SigOk prog 64 sig64 n_64 := fun v r x h hx => n_64l10_all.2 v r h x hx
noncomputable def c30r2 : Cut SN := ⟨[(1, .bp 1 0), (21, .dat .bool)], [(1, .st .tagT)]⟩
noncomputable def sh30 : Shape vw := { rcut := c29z }
noncomputable def sig30 : Sig vw := { params := [.dat (.st .tagT)], rcut := c29z, rvars := [.tmp 2] }
noncomputable def n_30 (v : Tag × Unit) : Option (Int × Unit) :=
 n_43 (v.1, ()) >>= fun x1 =>
 (if decide (x1.1 > (500 : Int)) = true then
    some ((true, v.1, ()))
   else if decide (x1.2.1 > (20 : Int)) = true then
    some ((true, v.1, ()))
   else some ((decide (x1.2.2.1 > (4096 : Int)), v.1, ()))) >>= fun x2 =>
 if x2.1 = true then
  some (((3 : Int), ()))
 else n_63 (x2.2.1, ()) >>= fun x3 =>
 if (!x3.1) = true then
  some (((1 : Int), ()))
 else n_64 (x2.2.1, ()) >>= fun x4 =>
 if x4.1 = true then
  some (((5 : Int), ()))
 else some (((0 : Int), ()))
noncomputable def call30 : Caller vw := fun A fid args S k => match fid with | 43 => callPure prog sig43 n_43 A args S k | 63 => callPure prog sig63 n_63 A args S k | 64 => callPure prog sig64 n_64 A args S k | _ => none
noncomputable def x30 : Xc vw := { P := prog, n := 27, call := call30, sh := sh30, regs := fun k => match k with | 2 => some c30r2 | _ => none }
theorem call30_ok : CallerOk prog call30 := fun A fid args S dst k r h => by
 unfold call30 at h
 split at h
 ·exact callPure_ok (n_43_ok) rfl rfl h
 ·exact callPure_ok (n_63_ok) rfl rfl h
 ·exact callPure_ok (n_64_ok) rfl rfl h
 ·cases h
theorem n_30_ok : SigOk prog 30 sig30 n_30 := fun v r x h hx =>
 fn_ok (X := x30) (sig := sig30) rfl Tryz.func30 (c := bodyOf Tryz.f30) (by kernel_rfl) Tryz.ntmps30 (by kernel_rfl) (by kernel_rfl) rfl Ty.mixed call30_ok rfl (fun C hP hN => (lok_all (kcast (by kernel_rfl) trivial))) (kcast (by kernel_rfl) h) x hx
noncomputable def c100s1978r1 : Cut SN := ⟨[(0, .bp 100000 0), (6, .dat .bool)], [(100000, .st .mandrelref20ReaderT)]⟩
noncomputable def sh100s1978 : Shape vw := { rcut := c100s1978r1 }
noncomputable def sig100s1978 : Sig vw := { params := [.bp 100000 0, .dat (.int .u8), .dat (.int .u8)], objs := [(100000, .st .mandrelref20ReaderT)], rcut := c100s1978r1, rvars := [.tmp 6], keep := [100000] }
noncomputable def n_100s1978 (v : Int × Int × Mandrelref20Reader × Unit) : Option (Bool × Mandrelref20Reader × Unit) :=
 (if (!v.2.2.1.wrong) = true then
    if decide (v.2.2.1.at0 < (↑v.2.2.1.s.size : Int)) = true then
     if (0 : Int) ≤ v.2.2.1.at0 then
      v.2.2.1.s[v.2.2.1.at0.toNat]? >>= fun x1 =>
      if decide ((↑x1.toNat : Int) ≥ v.1) = true then
       if (0 : Int) ≤ v.2.2.1.at0 then
        v.2.2.1.s[v.2.2.1.at0.toNat]? >>= fun x2 =>
        some ((decide ((↑x2.toNat : Int) ≤ v.2.1), v.2.2.1, ()))
       else none
      else some ((false, v.2.2.1, ()))
     else none
    else some ((false, v.2.2.1, ()))
   else some ((false, v.2.2.1, ()))) >>= fun x1 =>
 some ((x1.1, x1.2.1, ()))
noncomputable def call100s1978 : Caller vw := fun _ _ _ _ _ => none
noncomputable def x100s1978 : Xc vw := { P := prog, n := 50, call := call100s1978, sh := sh100s1978, regs := fun k => match k with | 1 => some c100s1978r1 | _ => none }
theorem call100s1978_ok : CallerOk prog call100s1978 := call_none
theorem n_100s1978_ok : SigOk prog 100 sig100s1978 n_100s1978 := fun v r x h hx =>
 fn_ok (X := x100s1978) (sig := sig100s1978) rfl Tryz.func100 (c := bodyOf Tryz.f100) (by kernel_rfl) Tryz.ntmps100 (by kernel_rfl) (by kernel_rfl) rfl Ty.mixed call100s1978_ok rfl (fun C hP hN => (lok_all (kcast (by kernel_rfl) trivial))) (kcast (by kernel_rfl) h) x hx
noncomputable def c104sa2e4z : Cut SN := ⟨[(0, .bp 100000 0)], [(100000, .st .mandrelref20ReaderT)]⟩
noncomputable def sh104sa2e4 : Shape vw := { rcut := c104sa2e4z }
noncomputable def sig104sa2e4 : Sig vw := { params := [.bp 100000 0], objs := [(100000, .st .mandrelref20ReaderT)], rcut := c104sa2e4z, rvars := [], keep := [100000] }
noncomputable def n_104sa2e4 (v : Mandrelref20Reader × Unit) : Option (Mandrelref20Reader × Unit) :=
 some ((Mandrelref20Reader.mk v.1.s v.1.at0 true, ()))
noncomputable def call104sa2e4 : Caller vw := fun _ _ _ _ _ => none
noncomputable def x104sa2e4 : Xc vw := { P := prog, n := 5, call := call104sa2e4, sh := sh104sa2e4 }
theorem call104sa2e4_ok : CallerOk prog call104sa2e4 := call_none
theorem n_104sa2e4_ok : SigOk prog 104 sig104sa2e4 n_104sa2e4 := fun v r x h hx =>
 fn_ok (X := x104sa2e4) (sig := sig104sa2e4) rfl Tryz.func104 (c := bodyOf Tryz.f104) (by kernel_rfl) Tryz.ntmps104 (by kernel_rfl) (by kernel_rfl) rfl Ty.mixed call104sa2e4_ok rfl (fun C hP hN => (lok_all (kcast (by kernel_rfl) trivial))) (kcast (by kernel_rfl) h) x hx
noncomputable def c123s1978z : Cut SN := ⟨[(0, .bp 100000 0), (6, .dat (.int .u8))], [(100000, .st .mandrelref20ReaderT)]⟩
noncomputable def sh123s1978 : Shape vw := { rcut := c123s1978z }
noncomputable def sig123s1978 : Sig vw := { params := [.bp 100000 0, .dat (.int .u8), .dat (.int .u8)], objs := [(100000, .st .mandrelref20ReaderT)], rcut := c123s1978z, rvars := [.tmp 6], keep := [100000] }
noncomputable def n_123s1978 (v : Int × Int × Mandrelref20Reader × Unit) : Option (Int × Mandrelref20Reader × Unit) :=
 n_100s1978 (v.1, v.2.1, v.2.2.1, ()) >>= fun x1 =>
 if (!x1.1) = true then
  n_104sa2e4 (x1.2.1, ()) >>= fun x2 =>
  some (((0 : Int), x2.1, ()))
 else if (0 : Int) ≤ i64.wrap (i64.wrap (x1.2.1.at0 + (1 : Int)) - (1 : Int)) then
  x1.2.1.s[(i64.wrap (i64.wrap (x1.2.1.at0 + (1 : Int)) - (1 : Int))).toNat]? >>= fun x2 =>
  some (((↑x2.toNat : Int), Mandrelref20Reader.mk x1.2.1.s (i64.wrap (x1.2.1.at0 + (1 : Int))) x1.2.1.wrong, ()))
 else none
noncomputable def call123s1978 : Caller vw := fun A fid args S k => match fid with | 100 => callObj prog sig100s1978 n_100s1978 A args S k | 104 => callObj prog sig104sa2e4 n_104sa2e4 A args S k | _ => none
noncomputable def x123s1978 : Xc vw := { P := prog, n := 31, call := call123s1978, sh := sh123s1978 }
theorem call123s1978_ok : CallerOk prog call123s1978 := fun A fid args S dst k r h => by
 unfold call123s1978 at h
 split at h
 ·exact callObj_ok (n_100s1978_ok) h
 ·exact callObj_ok (n_104sa2e4_ok) h
 ·cases h
theorem n_123s1978_ok : SigOk prog 123 sig123s1978 n_123s1978 := fun v r x h hx =>
 fn_ok (X := x123s1978) (sig := sig123s1978) rfl Tryz.func123 (c := bodyOf Tryz.f123) (by kernel_rfl) Tryz.ntmps123 (by kernel_rfl) (by kernel_rfl) rfl Ty.mixed call123s1978_ok rfl (fun C hP hN => (lok_all (kcast (by kernel_rfl) trivial))) (kcast (by kernel_rfl) h) x hx
noncomputable def c98s5873l2 : Cut SN := ⟨[(0, .bp 100000 0), (1, .dat .str), (5, .dat (.int .i64))], [(100000, .st .mandrelref20ReaderT)]⟩
noncomputable def c98s5873r2 : Cut SN := ⟨[(0, .bp 100000 0), (1, .dat .str), (5, .dat (.int .i64)), (28, .dat .bool)], [(100000, .st .mandrelref20ReaderT)]⟩
noncomputable def c98s5873z : Cut SN := ⟨[(0, .bp 100000 0), (4, .dat .bool)], [(100000, .st .mandrelref20ReaderT)]⟩
noncomputable def sh98s5873 : Shape vw := { exits := fun id => match id with | 0 => c104sa2e4z | _ => ⟨[], []⟩, rcut := c98s5873z }
noncomputable def sig98s5873 : Sig vw := { params := [.bp 100000 0, .dat .str], objs := [(100000, .st .mandrelref20ReaderT)], rcut := c98s5873z, rvars := [.tmp 4], keep := [100000] }
noncomputable def n_98s5873l2 (v : ByteArray × Int × Mandrelref20Reader × Unit) : Option (((Bool × Mandrelref20Reader × Unit) ⊕ (Mandrelref20Reader × Unit))) :=
 (if decide (v.2.1 < (↑v.1.size : Int)) = true then
    if (!v.2.2.1.wrong) = true then
     some ((v.1, v.2.1, decide (v.2.2.1.at0 < (↑v.2.2.1.s.size : Int)), v.2.2.1, ()))
    else some ((v.1, v.2.1, false, v.2.2.1, ()))
   else some ((v.1, v.2.1, false, v.2.2.1, ()))) >>= fun x1 =>
 if x1.2.2.1 = true then
  if (0 : Int) ≤ x1.2.2.2.1.at0 then
   x1.2.2.2.1.s[x1.2.2.2.1.at0.toNat]? >>= fun x2 =>
   if (0 : Int) ≤ x1.2.1 then
    x1.1[x1.2.1.toNat]? >>= fun x3 =>
    if ((↑x2.toNat : Int) == (↑x3.toNat : Int)) = true then
     some (Sum.inl (true, x1.2.2.2.1, ()))
    else n_98s5873l2 (x1.1, i64.wrap (x1.2.1 + (1 : Int)), x1.2.2.2.1, ())
   else none
  else none
 else some (Sum.inr (x1.2.2.2.1, ()))
 partial_fixpoint
noncomputable def n_98s5873 (v : ByteArray × Mandrelref20Reader × Unit) : Option (Bool × Mandrelref20Reader × Unit) :=
 n_98s5873l2 (v.1, (0 : Int), v.2.1, ()) >>= fun x1 => match x1 with
  | .inl y1 => some y1
  | .inr y1 => some ((false, y1.1, ()))
noncomputable def call98s5873 : Caller vw := fun _ _ _ _ _ => none
noncomputable def x98s5873 : Xc vw := { P := prog, n := 44, call := call98s5873, sh := sh98s5873, regs := fun k => match k with | 2 => some c98s5873r2 | _ => none, loops := fun k => match k with | 2 => some { cut := c98s5873l2, alts := [.ret, .exit 0], F := n_98s5873l2 } | _ => none }
theorem call98s5873_ok : CallerOk prog call98s5873 := call_none
theorem n_98s5873l2_ok (C : Ctx) (hP : C.P = prog) (hN : C.N = 44) : LoopOk C (loopNo (bodyOf Tryz.f98) 0) (sh := sh98s5873) { cut := c98s5873l2, alts := [.ret, .exit 0], F := n_98s5873l2 } :=
 n_98s5873l2.partial_correctness (motive := fun v out => AWpL C (loopNo (bodyOf Tryz.f98) 0) (encS vw (conc vw c98s5873l2 v)) (OutQ sh98s5873 [.ret, .exit 0] out)) fun F ih v out h =>
  loop_step (X := x98s5873) (b := (loopNo (bodyOf Tryz.f98) 0)) hP hN Ty.mixed call98s5873_ok (lok_all (X := x98s5873) (c := (loopNo (bodyOf Tryz.f98) 0)) (kcast (by kernel_rfl : True = AllB (LoopsP C (x98s5873)) (loopsIn (loopNo (bodyOf Tryz.f98) 0))) trivial)) ih (kcast (by kernel_rfl) h)
theorem n_98s5873_ok : SigOk prog 98 sig98s5873 n_98s5873 := fun v r x h hx =>
 fn_ok (X := x98s5873) (sig := sig98s5873) rfl Tryz.func98 (c := bodyOf Tryz.f98) (by kernel_rfl) Tryz.ntmps98 (by kernel_rfl) (by kernel_rfl) rfl Ty.mixed call98s5873_ok rfl (fun C hP hN => (lok_all (kcast (by kernel_rfl : AllB (LoopsP C (x98s5873)) [(loopNo (bodyOf Tryz.f98) 0)] = AllB (LoopsP C (x98s5873)) (loopsIn (bodyOf Tryz.f98))) ⟨loop_at (X := x98s5873) (b := (loopNo (bodyOf Tryz.f98) 0)) (by kernel_rfl) (n_98s5873l2_ok C hP hN), trivial⟩))) (kcast (by kernel_rfl) h) x hx
noncomputable def c101sa2e4l9 : Cut SN := ⟨[(0, .bp 100000 0), (3, .dat (.int .i64)), (4, .dat (.int .i64))], [(100000, .st .mandrelref20ReaderT)]⟩
noncomputable def c101sa2e4j5 : Cut SN := ⟨[(0, .bp 100000 0), (3, .dat (.int .i64))], [(100000, .st .mandrelref20ReaderT)]⟩
noncomputable def c101sa2e4z : Cut SN := ⟨[(0, .bp 100000 0), (2, .dat (.int .i64))], [(100000, .st .mandrelref20ReaderT)]⟩
noncomputable def sh101sa2e4 : Shape vw := { exits := fun id => match id with | 0 => c101sa2e4l9 | _ => ⟨[], []⟩, rcut := c101sa2e4z }
noncomputable def sig101sa2e4 : Sig vw := { params := [.bp 100000 0], objs := [(100000, .st .mandrelref20ReaderT)], rcut := c101sa2e4z, rvars := [.tmp 2], keep := [100000] }
noncomputable def n_101sa2e4l9 (v : Int × Int × Mandrelref20Reader × Unit) : Option ((Int × Int × Mandrelref20Reader × Unit)) :=
 n_100s1978 ((48 : Int), (57 : Int), v.2.2.1, ()) >>= fun x1 =>
 if x1.1 = true then
  if (0 : Int) ≤ x1.2.1.at0 then
   x1.2.1.s[x1.2.1.at0.toNat]? >>= fun x2 =>
   n_101sa2e4l9 (v.1, min (i64.wrap (i64.wrap ((10 : Int) * v.2.1) + i64.wrap (u8.wrap ((↑x2.toNat : Int) - (48 : Int))))) (115292150460684697 : Int), Mandrelref20Reader.mk x1.2.1.s (i64.wrap (x1.2.1.at0 + (1 : Int))) x1.2.1.wrong, ())
  else none
 else some ((v.1, v.2.1, x1.2.1, ()))
 partial_fixpoint
noncomputable def n_101sa2e4 (v : Mandrelref20Reader × Unit) : Option (Int × Mandrelref20Reader × Unit) :=
 (n_98s5873 (ByteArray.mk #[45], v.1, ()) >>= fun x1 =>
   if x1.1 = true then
    some (((-1 : Int), Mandrelref20Reader.mk x1.2.1.s (i64.wrap (x1.2.1.at0 + (1 : Int))) x1.2.1.wrong, ()))
   else some (((1 : Int), x1.2.1, ()))) >>= fun x1 =>
 n_98s5873 (ByteArray.mk #[48], x1.2.1, ()) >>= fun x2 =>
 if x2.1 = true then
  some (((0 : Int), Mandrelref20Reader.mk x2.2.1.s (i64.wrap (x2.2.1.at0 + (1 : Int))) x2.2.1.wrong, ()))
 else n_123s1978 ((49 : Int), (57 : Int), x2.2.1, ()) >>= fun x3 =>
 n_101sa2e4l9 (x1.1, i64.wrap (i64.wrap x3.1 - (48 : Int)), x3.2.1, ()) >>= fun x4 =>
 some ((i64.wrap (x4.1 * x4.2.1), x4.2.2.1, ()))
noncomputable def call101sa2e4 : Caller vw := fun A fid args S k => match fid with | 98 => callObj prog sig98s5873 n_98s5873 A args S k | 100 => callObj prog sig100s1978 n_100s1978 A args S k | 123 => callObj prog sig123s1978 n_123s1978 A args S k | _ => none
noncomputable def x101sa2e4 : Xc vw := { P := prog, n := 54, call := call101sa2e4, sh := sh101sa2e4, joins := fun k => match k with | 5 => some (c101sa2e4j5, [.norm]) | _ => none, loops := fun k => match k with | 9 => some { cut := c101sa2e4l9, alts := [.exit 0], F := n_101sa2e4l9 } | _ => none }
theorem call101sa2e4_ok : CallerOk prog call101sa2e4 := fun A fid args S dst k r h => by
 unfold call101sa2e4 at h
 split at h
 ·exact callObj_ok (n_98s5873_ok) h
 ·exact callObj_ok (n_100s1978_ok) h
 ·exact callObj_ok (n_123s1978_ok) h
 ·cases h
theorem n_101sa2e4l9_ok (C : Ctx) (hP : C.P = prog) (hN : C.N = 54) : LoopOk C (loopNo (bodyOf Tryz.f101) 0) (sh := sh101sa2e4) { cut := c101sa2e4l9, alts := [.exit 0], F := n_101sa2e4l9 } :=
 n_101sa2e4l9.partial_correctness (motive := fun v out => AWpL C (loopNo (bodyOf Tryz.f101) 0) (encS vw (conc vw c101sa2e4l9 v)) (OutQ sh101sa2e4 [.exit 0] out)) fun F ih v out h =>
  loop_step (X := x101sa2e4) (b := (loopNo (bodyOf Tryz.f101) 0)) hP hN Ty.mixed call101sa2e4_ok (lok_all (X := x101sa2e4) (c := (loopNo (bodyOf Tryz.f101) 0)) (kcast (by kernel_rfl : True = AllB (LoopsP C (x101sa2e4)) (loopsIn (loopNo (bodyOf Tryz.f101) 0))) trivial)) ih (kcast (by kernel_rfl) h)
theorem n_101sa2e4_ok : SigOk prog 101 sig101sa2e4 n_101sa2e4 := fun v r x h hx =>
 fn_ok (X := x101sa2e4) (sig := sig101sa2e4) rfl Tryz.func101 (c := bodyOf Tryz.f101) (by kernel_rfl) Tryz.ntmps101 (by kernel_rfl) (by kernel_rfl) rfl Ty.mixed call101sa2e4_ok rfl (fun C hP hN => (lok_all (kcast (by kernel_rfl : AllB (LoopsP C (x101sa2e4)) [(loopNo (bodyOf Tryz.f101) 0)] = AllB (LoopsP C (x101sa2e4)) (loopsIn (bodyOf Tryz.f101))) ⟨loop_at (X := x101sa2e4) (b := (loopNo (bodyOf Tryz.f101) 0)) (by kernel_rfl) (n_101sa2e4l9_ok C hP hN), trivial⟩))) (kcast (by kernel_rfl) h) x hx
noncomputable def c178z : Cut SN := ⟨[(2, .dat (.int .u8))], []⟩
noncomputable def sh178 : Shape vw := { rcut := c178z }
noncomputable def sig178 : Sig vw := { params := [.dat (.int .u8)], rcut := c178z, rvars := [.tmp 2] }
noncomputable def n_178 (v : Int × Unit) : Option (Int × Unit) :=
 some ((Bs.ior u8 v.1 (32 : Int), ()))
noncomputable def call178 : Caller vw := fun _ _ _ _ _ => none
noncomputable def x178 : Xc vw := { P := prog, n := 5, call := call178, sh := sh178 }
theorem call178_ok : CallerOk prog call178 := call_none
theorem n_178_ok : SigOk prog 178 sig178 n_178 := fun v r x h hx =>
 fn_ok (X := x178) (sig := sig178) rfl Tryz.func178 (c := bodyOf Tryz.f178) (by kernel_rfl) Tryz.ntmps178 (by kernel_rfl) (by kernel_rfl) rfl Ty.mixed call178_ok rfl (fun C hP hN => (lok_all (kcast (by kernel_rfl) trivial))) (kcast (by kernel_rfl) h) x hx
noncomputable def c179l10 : Cut SN := ⟨[(0, .dat .str), (3, .dat (.int .i32)), (4, .dat (.int .i64)), (5, .dat .bool)], []⟩
noncomputable def c179j5 : Cut SN := ⟨[(0, .dat .str), (3, .dat (.int .i32)), (4, .dat (.int .i64))], []⟩
noncomputable def c179r3 : Cut SN := ⟨[(0, .dat .str), (3, .dat (.int .i32)), (4, .dat (.int .i64)), (18, .dat .bool)], []⟩
noncomputable def c179r6 : Cut SN := ⟨[(0, .dat .str), (3, .dat (.int .i32)), (4, .dat (.int .i64)), (5, .dat .bool), (46, .dat .bool)], []⟩
noncomputable def c179r12 : Cut SN := ⟨[(0, .dat .str), (3, .dat (.int .i32)), (4, .dat (.int .i64)), (5, .dat .bool), (83, .dat .bool)], []⟩
noncomputable def c179e0 : Cut SN := ⟨[(3, .dat (.int .i32))], []⟩
noncomputable def sh179 : Shape vw := { exits := fun id => match id with | 0 => c179e0 | _ => ⟨[], []⟩, rcut := c87z }
noncomputable def sig179 : Sig vw := { params := [.dat .str], rcut := c87z, rvars := [.tmp 2] }
noncomputable def n_179l10 (v : ByteArray × Int × Int × Bool × Unit) : Option (((Bool × Unit) ⊕ (Int × Unit))) :=
 if decide (v.2.2.1 < (↑v.1.size : Int)) = true then
  ((if (0 : Int) ≤ v.2.2.1 then
      v.1[v.2.2.1.toNat]? >>= fun x1 =>
      if decide ((48 : Int) ≤ (↑x1.toNat : Int)) = true then
       if (0 : Int) ≤ v.2.2.1 then
        v.1[v.2.2.1.toNat]? >>= fun x2 =>
        if decide ((↑x2.toNat : Int) ≤ (57 : Int)) = true then
         some ((v.1, v.2.1, v.2.2.1, v.2.2.2.1, true, ()))
        else if v.2.2.2.1 = true then
         if (0 : Int) ≤ v.2.2.1 then
          v.1[v.2.2.1.toNat]? >>= fun x3 =>
          n_178 ((↑x3.toNat : Int), ()) >>= fun x4 =>
          if decide ((97 : Int) ≤ x4.1) = true then
           if (0 : Int) ≤ v.2.2.1 then
            v.1[v.2.2.1.toNat]? >>= fun x5 =>
            n_178 ((↑x5.toNat : Int), ()) >>= fun x6 =>
            some ((v.1, v.2.1, v.2.2.1, v.2.2.2.1, decide (x6.1 ≤ (102 : Int)), ()))
           else none
          else some ((v.1, v.2.1, v.2.2.1, v.2.2.2.1, false, ()))
         else none
        else some ((v.1, v.2.1, v.2.2.1, v.2.2.2.1, false, ()))
       else none
      else if v.2.2.2.1 = true then
       if (0 : Int) ≤ v.2.2.1 then
        v.1[v.2.2.1.toNat]? >>= fun x2 =>
        n_178 ((↑x2.toNat : Int), ()) >>= fun x3 =>
        if decide ((97 : Int) ≤ x3.1) = true then
         if (0 : Int) ≤ v.2.2.1 then
          v.1[v.2.2.1.toNat]? >>= fun x4 =>
          n_178 ((↑x4.toNat : Int), ()) >>= fun x5 =>
          some ((v.1, v.2.1, v.2.2.1, v.2.2.2.1, decide (x5.1 ≤ (102 : Int)), ()))
         else none
        else some ((v.1, v.2.1, v.2.2.1, v.2.2.2.1, false, ()))
       else none
      else some ((v.1, v.2.1, v.2.2.1, v.2.2.2.1, false, ()))
     else none) >>= fun x1 =>
    if x1.2.2.2.2.1 = true then
     some (Sum.inl (x1.1, (48 : Int), x1.2.2.1, x1.2.2.2.1, ()))
    else if (0 : Int) ≤ x1.2.2.1 then
     x1.1[x1.2.2.1.toNat]? >>= fun x2 =>
     if ((↑x2.toNat : Int) == (95 : Int)) = true then
      if (x1.2.1 != (48 : Int)) = true then
       some (Sum.inr (false, ()))
      else some (Sum.inl (x1.1, (95 : Int), x1.2.2.1, x1.2.2.2.1, ()))
     else if (x1.2.1 == (95 : Int)) = true then
      some (Sum.inr (false, ()))
     else some (Sum.inl (x1.1, (33 : Int), x1.2.2.1, x1.2.2.2.1, ()))
    else none) >>= fun x1 => match x1 with
    | .inl y1 => n_179l10 (y1.1, y1.2.1, i64.wrap (y1.2.2.1 + (1 : Int)), y1.2.2.2.1, ())
    | .inr y1 => some (Sum.inl y1)
 else some (Sum.inr (v.2.1, ()))
 partial_fixpoint
noncomputable def n_179 (v : ByteArray × Unit) : Option (Bool × Unit) :=
 ((if decide ((↑v.1.size : Int) ≥ (1 : Int)) = true then
     v.1[Int.toNat (0 : Int)]? >>= fun x1 =>
     if ((↑x1.toNat : Int) == (45 : Int)) = true then
      some ((v.1, (94 : Int), (0 : Int), true, ()))
     else v.1[Int.toNat (0 : Int)]? >>= fun x2 =>
     some ((v.1, (94 : Int), (0 : Int), (↑x2.toNat : Int) == (43 : Int), ()))
    else some ((v.1, (94 : Int), (0 : Int), false, ()))) >>= fun x1 =>
   if x1.2.2.2.1 = true then
    if (0 : Int) ≤ (1 : Int) ∧ (1 : Int) ≤ (↑x1.1.size : Int) ∧ (↑x1.1.size : Int) ≤ (↑x1.1.size : Int) then
     some ((x1.1.extract (Int.toNat (1 : Int)) (↑x1.1.size : Int).toNat, x1.2.1, x1.2.2.1, ()))
    else none
   else some ((x1.1, x1.2.1, x1.2.2.1, ()))) >>= fun x1 =>
 ((if decide ((↑x1.1.size : Int) ≥ (2 : Int)) = true then
     x1.1[Int.toNat (0 : Int)]? >>= fun x2 =>
     if ((↑x2.toNat : Int) == (48 : Int)) = true then
      x1.1[Int.toNat (1 : Int)]? >>= fun x3 =>
      n_178 ((↑x3.toNat : Int), ()) >>= fun x4 =>
      if (x4.1 == (98 : Int)) = true then
       some ((x1.1, x1.2.1, x1.2.2.1, false, true, ()))
      else x1.1[Int.toNat (1 : Int)]? >>= fun x5 =>
      n_178 ((↑x5.toNat : Int), ()) >>= fun x6 =>
      if (x6.1 == (111 : Int)) = true then
       some ((x1.1, x1.2.1, x1.2.2.1, false, true, ()))
      else x1.1[Int.toNat (1 : Int)]? >>= fun x7 =>
      n_178 ((↑x7.toNat : Int), ()) >>= fun x8 =>
      some ((x1.1, x1.2.1, x1.2.2.1, false, x8.1 == (120 : Int), ()))
     else some ((x1.1, x1.2.1, x1.2.2.1, false, false, ()))
    else some ((x1.1, x1.2.1, x1.2.2.1, false, false, ()))) >>= fun x2 =>
   if x2.2.2.2.2.1 = true then
    x2.1[Int.toNat (1 : Int)]? >>= fun x3 =>
    n_178 ((↑x3.toNat : Int), ()) >>= fun x4 =>
    some ((x2.1, (48 : Int), (2 : Int), x4.1 == (120 : Int), ()))
   else some ((x2.1, x2.2.1, x2.2.2.1, x2.2.2.2.1, ()))) >>= fun x2 =>
 n_179l10 (x2.1, x2.2.1, x2.2.2.1, x2.2.2.2.1, ()) >>= fun x3 => match x3 with
  | .inl y3 => some y3
  | .inr y3 => some ((y3.1 != (95 : Int), ()))
noncomputable def call179 : Caller vw := fun A fid args S k => match fid with | 178 => callPure prog sig178 n_178 A args S k | _ => none
noncomputable def x179 : Xc vw := { P := prog, n := 94, call := call179, sh := sh179, joins := fun k => match k with | 5 => some (c179j5, [.norm]) | 10 => some (c179l10, [.norm]) | 11 => some (c179l10, [.norm, .ret]) | _ => none, regs := fun k => match k with | 3 => some c179r3 | 6 => some c179r6 | 12 => some c179r12 | _ => none, loops := fun k => match k with | 10 => some { cut := c179l10, alts := [.ret, .exit 0], F := n_179l10 } | _ => none }
theorem call179_ok : CallerOk prog call179 := fun A fid args S dst k r h => by
 unfold call179 at h
 split at h
 ·exact callPure_ok (n_178_ok) rfl rfl h
 ·cases h
theorem n_179l10_ok (C : Ctx) (hP : C.P = prog) (hN : C.N = 94) : LoopOk C (loopNo (bodyOf Tryz.f179) 0) (sh := sh179) { cut := c179l10, alts := [.ret, .exit 0], F := n_179l10 } :=
 n_179l10.partial_correctness (motive := fun v out => AWpL C (loopNo (bodyOf Tryz.f179) 0) (encS vw (conc vw c179l10 v)) (OutQ sh179 [.ret, .exit 0] out)) fun F ih v out h =>
  loop_step (X := x179) (b := (loopNo (bodyOf Tryz.f179) 0)) hP hN Ty.mixed call179_ok (lok_all (X := x179) (c := (loopNo (bodyOf Tryz.f179) 0)) (kcast (by kernel_rfl : True = AllB (LoopsP C (x179)) (loopsIn (loopNo (bodyOf Tryz.f179) 0))) trivial)) ih (kcast (by kernel_rfl) h)
theorem n_179_ok : SigOk prog 179 sig179 n_179 := fun v r x h hx =>
 fn_ok (X := x179) (sig := sig179) rfl Tryz.func179 (c := bodyOf Tryz.f179) (by kernel_rfl) Tryz.ntmps179 (by kernel_rfl) (by kernel_rfl) rfl Ty.mixed call179_ok rfl (fun C hP hN => (lok_all (kcast (by kernel_rfl : AllB (LoopsP C (x179)) [(loopNo (bodyOf Tryz.f179) 0)] = AllB (LoopsP C (x179)) (loopsIn (bodyOf Tryz.f179))) ⟨loop_at (X := x179) (b := (loopNo (bodyOf Tryz.f179) 0)) (by kernel_rfl) (n_179l10_ok C hP hN), trivial⟩))) (kcast (by kernel_rfl) h) x hx
noncomputable def c163l36 : Cut SN := ⟨[(1, .dat (.int .i64)), (8, .dat .bool), (9, .dat .str), (10, .dat (.int .u64)), (11, .dat (.int .u64)), (12, .dat .bool), (13, .dat (.int .u64)), (99, .dat (.sl (.int .u8))), (100, .dat (.int .i64)), (101, .dat (.int .i64))], []⟩
noncomputable def c163j21 : Cut SN := ⟨[(0, .dat .str), (1, .dat (.int .i64)), (2, .dat (.int .i64)), (8, .dat .bool), (9, .dat .str)], []⟩
noncomputable def c163j32 : Cut SN := ⟨[(0, .dat .str), (1, .dat (.int .i64)), (2, .dat (.int .i64)), (8, .dat .bool), (9, .dat .str), (10, .dat (.int .u64))], []⟩
noncomputable def c163j46 : Cut SN := ⟨[(1, .dat (.int .i64)), (8, .dat .bool), (9, .dat .str), (10, .dat (.int .u64)), (11, .dat (.int .u64)), (12, .dat .bool), (13, .dat (.int .u64)), (16, .dat (.int .u8)), (99, .dat (.sl (.int .u8))), (100, .dat (.int .i64)), (101, .dat (.int .i64))], []⟩
noncomputable def c163r6 : Cut SN := ⟨[(0, .dat .str), (1, .dat (.int .i64)), (2, .dat (.int .i64)), (8, .dat .bool), (9, .dat .str), (25, .dat .bool)], []⟩
noncomputable def c163r12 : Cut SN := ⟨[(0, .dat .str), (2, .dat (.int .i64)), (8, .dat .bool), (9, .dat .str), (40, .dat .bool)], []⟩
noncomputable def c163r15 : Cut SN := ⟨[(0, .dat .str), (2, .dat (.int .i64)), (8, .dat .bool), (9, .dat .str), (52, .dat .bool)], []⟩
noncomputable def c163r18 : Cut SN := ⟨[(0, .dat .str), (2, .dat (.int .i64)), (8, .dat .bool), (9, .dat .str), (64, .dat .bool)], []⟩
noncomputable def c163r23 : Cut SN := ⟨[(0, .dat .str), (1, .dat (.int .i64)), (2, .dat (.int .i64)), (8, .dat .bool), (9, .dat .str), (83, .dat .bool)], []⟩
noncomputable def c163r40 : Cut SN := ⟨[(1, .dat (.int .i64)), (8, .dat .bool), (9, .dat .str), (10, .dat (.int .u64)), (11, .dat (.int .u64)), (12, .dat .bool), (13, .dat (.int .u64)), (15, .dat (.int .u8)), (99, .dat (.sl (.int .u8))), (100, .dat (.int .i64)), (101, .dat (.int .i64)), (106, .dat .bool)], []⟩
noncomputable def c163r42 : Cut SN := ⟨[(1, .dat (.int .i64)), (8, .dat .bool), (9, .dat .str), (10, .dat (.int .u64)), (11, .dat (.int .u64)), (12, .dat .bool), (13, .dat (.int .u64)), (15, .dat (.int .u8)), (99, .dat (.sl (.int .u8))), (100, .dat (.int .i64)), (101, .dat (.int .i64)), (112, .dat .bool)], []⟩
noncomputable def c163r44 : Cut SN := ⟨[(1, .dat (.int .i64)), (8, .dat .bool), (9, .dat .str), (10, .dat (.int .u64)), (11, .dat (.int .u64)), (12, .dat .bool), (13, .dat (.int .u64)), (15, .dat (.int .u8)), (99, .dat (.sl (.int .u8))), (100, .dat (.int .i64)), (101, .dat (.int .i64)), (121, .dat .bool)], []⟩
noncomputable def c163r52 : Cut SN := ⟨[(1, .dat (.int .i64)), (8, .dat .bool), (9, .dat .str), (10, .dat (.int .u64)), (11, .dat (.int .u64)), (12, .dat .bool), (17, .dat (.int .u64)), (99, .dat (.sl (.int .u8))), (100, .dat (.int .i64)), (101, .dat (.int .i64)), (159, .dat .bool)], []⟩
noncomputable def c163r56 : Cut SN := ⟨[(13, .dat (.int .u64)), (169, .dat .bool)], []⟩
noncomputable def c163e3 : Cut SN := ⟨[(9, .dat .str), (12, .dat .bool), (13, .dat (.int .u64))], []⟩
noncomputable def c163z : Cut SN := ⟨[(6, .dat (.int .u64)), (7, .dat .er)], []⟩
noncomputable def sh163 : Shape vw := { exits := fun id => match id with | 3 => c163e3 | 4 => c163l36 | _ => ⟨[], []⟩, rcut := c163z }
noncomputable def sig163 : Sig vw := { params := [.dat .str, .dat (.int .i64), .dat (.int .i64)], rcut := c163z, rvars := [.tmp 6, .tmp 7] }
noncomputable def n_163l36 (v : Int × Bool × ByteArray × Int × Int × Bool × Int × (List Int) × Int × Int × Unit) : Option (((Int × Bool × Unit) ⊕ (ByteArray × Bool × Int × Unit))) :=
 if decide (v.2.2.2.2.2.2.2.2.2.1 < v.2.2.2.2.2.2.2.2.1) = true then
  (if (0 : Int) ≤ v.2.2.2.2.2.2.2.2.2.1 then
     v.2.2.2.2.2.2.2.1[v.2.2.2.2.2.2.2.2.2.1.toNat]? >>= fun x1 =>
     ((if (x1 == (95 : Int)) = true then
         some ((v.1, v.2.1, v.2.2.1, v.2.2.2.1, v.2.2.2.2.1, v.2.2.2.2.2.1, v.2.2.2.2.2.2.1, x1, v.2.2.2.2.2.2.2.1, v.2.2.2.2.2.2.2.2.1, v.2.2.2.2.2.2.2.2.2.1, v.2.1, ()))
        else some ((v.1, v.2.1, v.2.2.1, v.2.2.2.1, v.2.2.2.2.1, v.2.2.2.2.2.1, v.2.2.2.2.2.2.1, x1, v.2.2.2.2.2.2.2.1, v.2.2.2.2.2.2.2.2.1, v.2.2.2.2.2.2.2.2.2.1, false, ()))) >>= fun x2 =>
       if x2.2.2.2.2.2.2.2.2.2.2.2.1 = true then
        some (Sum.inr (Sum.inr (x2.1, x2.2.1, x2.2.2.1, x2.2.2.2.1, x2.2.2.2.2.1, true, x2.2.2.2.2.2.2.1, x2.2.2.2.2.2.2.2.2.1, x2.2.2.2.2.2.2.2.2.2.1, x2.2.2.2.2.2.2.2.2.2.2.1, ())))
       else (if decide ((48 : Int) ≤ x2.2.2.2.2.2.2.2.1) = true then
         some ((x2.1, x2.2.1, x2.2.2.1, x2.2.2.2.1, x2.2.2.2.2.1, x2.2.2.2.2.2.1, x2.2.2.2.2.2.2.1, x2.2.2.2.2.2.2.2.1, x2.2.2.2.2.2.2.2.2.1, x2.2.2.2.2.2.2.2.2.2.1, x2.2.2.2.2.2.2.2.2.2.2.1, decide (x2.2.2.2.2.2.2.2.1 ≤ (57 : Int)), ()))
        else some ((x2.1, x2.2.1, x2.2.2.1, x2.2.2.2.1, x2.2.2.2.2.1, x2.2.2.2.2.2.1, x2.2.2.2.2.2.2.1, x2.2.2.2.2.2.2.2.1, x2.2.2.2.2.2.2.2.2.1, x2.2.2.2.2.2.2.2.2.2.1, x2.2.2.2.2.2.2.2.2.2.2.1, false, ()))) >>= fun x3 =>
       if x3.2.2.2.2.2.2.2.2.2.2.2.1 = true then
        some (Sum.inl (x3.1, x3.2.1, x3.2.2.1, x3.2.2.2.1, x3.2.2.2.2.1, x3.2.2.2.2.2.1, x3.2.2.2.2.2.2.1, u8.wrap (x3.2.2.2.2.2.2.2.1 - (48 : Int)), x3.2.2.2.2.2.2.2.2.1, x3.2.2.2.2.2.2.2.2.2.1, x3.2.2.2.2.2.2.2.2.2.2.1, ()))
       else (n_178 (x3.2.2.2.2.2.2.2.1, ()) >>= fun x4 =>
        if decide ((97 : Int) ≤ x4.1) = true then
         n_178 (x3.2.2.2.2.2.2.2.1, ()) >>= fun x5 =>
         some ((x3.1, x3.2.1, x3.2.2.1, x3.2.2.2.1, x3.2.2.2.2.1, x3.2.2.2.2.2.1, x3.2.2.2.2.2.2.1, x3.2.2.2.2.2.2.2.1, x3.2.2.2.2.2.2.2.2.1, x3.2.2.2.2.2.2.2.2.2.1, x3.2.2.2.2.2.2.2.2.2.2.1, decide (x5.1 ≤ (122 : Int)), ()))
        else some ((x3.1, x3.2.1, x3.2.2.1, x3.2.2.2.1, x3.2.2.2.2.1, x3.2.2.2.2.2.1, x3.2.2.2.2.2.2.1, x3.2.2.2.2.2.2.2.1, x3.2.2.2.2.2.2.2.2.1, x3.2.2.2.2.2.2.2.2.2.1, x3.2.2.2.2.2.2.2.2.2.2.1, false, ()))) >>= fun x4 =>
       if x4.2.2.2.2.2.2.2.2.2.2.2.1 = true then
        n_178 (x4.2.2.2.2.2.2.2.1, ()) >>= fun x5 =>
        some (Sum.inl (x4.1, x4.2.1, x4.2.2.1, x4.2.2.2.1, x4.2.2.2.2.1, x4.2.2.2.2.2.1, x4.2.2.2.2.2.2.1, u8.wrap (u8.wrap (x5.1 - (97 : Int)) + (10 : Int)), x4.2.2.2.2.2.2.2.2.1, x4.2.2.2.2.2.2.2.2.2.1, x4.2.2.2.2.2.2.2.2.2.2.1, ()))
       else some (Sum.inr (Sum.inl ((0 : Int), true, ())))) >>= fun x2 => match x2 with
       | .inl y2 => if decide (y2.2.2.2.2.2.2.2.1 ≥ u8.wrap y2.1) = true then
         some (Sum.inr ((0 : Int), true, ()))
        else if decide (y2.2.2.2.2.2.2.1 ≥ y2.2.2.2.1) = true then
         some (Sum.inr (y2.2.2.2.2.1, true, ()))
        else (if decide (u64.wrap (u64.wrap (y2.2.2.2.2.2.2.1 * u64.wrap y2.1) + u64.wrap y2.2.2.2.2.2.2.2.1) < u64.wrap (y2.2.2.2.2.2.2.1 * u64.wrap y2.1)) = true then
          some ((y2.1, y2.2.1, y2.2.2.1, y2.2.2.2.1, y2.2.2.2.2.1, y2.2.2.2.2.2.1, u64.wrap (u64.wrap (y2.2.2.2.2.2.2.1 * u64.wrap y2.1) + u64.wrap y2.2.2.2.2.2.2.2.1), y2.2.2.2.2.2.2.2.2.1, y2.2.2.2.2.2.2.2.2.2.1, y2.2.2.2.2.2.2.2.2.2.2.1, true, ()))
         else some ((y2.1, y2.2.1, y2.2.2.1, y2.2.2.2.1, y2.2.2.2.2.1, y2.2.2.2.2.2.1, u64.wrap (u64.wrap (y2.2.2.2.2.2.2.1 * u64.wrap y2.1) + u64.wrap y2.2.2.2.2.2.2.2.1), y2.2.2.2.2.2.2.2.2.1, y2.2.2.2.2.2.2.2.2.2.1, y2.2.2.2.2.2.2.2.2.2.2.1, decide (u64.wrap (u64.wrap (y2.2.2.2.2.2.2.1 * u64.wrap y2.1) + u64.wrap y2.2.2.2.2.2.2.2.1) > y2.2.2.2.2.1), ()))) >>= fun x3 =>
        if x3.2.2.2.2.2.2.2.2.2.2.1 = true then
         some (Sum.inr (x3.2.2.2.2.1, true, ()))
        else some (Sum.inl (x3.1, x3.2.1, x3.2.2.1, x3.2.2.2.1, x3.2.2.2.2.1, x3.2.2.2.2.2.1, x3.2.2.2.2.2.2.1, x3.2.2.2.2.2.2.2.1, x3.2.2.2.2.2.2.2.2.1, x3.2.2.2.2.2.2.2.2.2.1, ()))
       | .inr (.inl y2) => some (Sum.inr y2)
       | .inr (.inr y2) => some (Sum.inl (y2.1, y2.2.1, y2.2.2.1, y2.2.2.2.1, y2.2.2.2.2.1, y2.2.2.2.2.2.1, y2.2.2.2.2.2.2.1, y2.2.2.2.2.2.2.2.1, y2.2.2.2.2.2.2.2.2.1, y2.2.2.2.2.2.2.2.2.2.1, ()))
    else none) >>= fun x1 => match x1 with
    | .inl y1 => n_163l36 (y1.1, y1.2.1, y1.2.2.1, y1.2.2.2.1, y1.2.2.2.2.1, y1.2.2.2.2.2.1, y1.2.2.2.2.2.2.1, y1.2.2.2.2.2.2.2.1, y1.2.2.2.2.2.2.2.2.1, i64.wrap (y1.2.2.2.2.2.2.2.2.2.1 + (1 : Int)), ())
    | .inr y1 => some (Sum.inl y1)
 else some (Sum.inr (v.2.2.1, v.2.2.2.2.2.1, v.2.2.2.2.2.2.1, ()))
 partial_fixpoint
noncomputable def n_163 (v : ByteArray × Int × Int × Unit) : Option (Int × Bool × Unit) :=
 if (v.1.toList == (ByteArray.mk #[]).toList) = true then
  some (((0 : Int), true, ()))
 else ((if decide ((2 : Int) ≤ v.2.1) = true then
    some ((v.1, v.2.1, v.2.2.1, v.2.1 == (0 : Int), v.1, decide (v.2.1 ≤ (36 : Int)), ()))
   else some ((v.1, v.2.1, v.2.2.1, v.2.1 == (0 : Int), v.1, false, ()))) >>= fun x1 =>
  if x1.2.2.2.2.2.1 = true then
   some (Sum.inl (x1.1, x1.2.1, x1.2.2.1, x1.2.2.2.1, x1.2.2.2.2.1, ()))
  else if (x1.2.1 == (0 : Int)) = true then
   x1.1[Int.toNat (0 : Int)]? >>= fun x2 =>
   if ((↑x2.toNat : Int) == (48 : Int)) = true then
    (if decide ((↑x1.1.size : Int) ≥ (3 : Int)) = true then
       x1.1[Int.toNat (1 : Int)]? >>= fun x3 =>
       n_178 ((↑x3.toNat : Int), ()) >>= fun x4 =>
       some ((x1.1, x1.2.2.1, x1.2.2.2.1, x1.2.2.2.2.1, x4.1 == (98 : Int), ()))
      else some ((x1.1, x1.2.2.1, x1.2.2.2.1, x1.2.2.2.2.1, false, ()))) >>= fun x3 =>
    if x3.2.2.2.2.1 = true then
     if (0 : Int) ≤ (2 : Int) ∧ (2 : Int) ≤ (↑x3.1.size : Int) ∧ (↑x3.1.size : Int) ≤ (↑x3.1.size : Int) then
      some (Sum.inl (x3.1.extract (Int.toNat (2 : Int)) (↑x3.1.size : Int).toNat, (2 : Int), x3.2.1, x3.2.2.1, x3.2.2.2.1, ()))
     else none
    else (if decide ((↑x3.1.size : Int) ≥ (3 : Int)) = true then
      x3.1[Int.toNat (1 : Int)]? >>= fun x4 =>
      n_178 ((↑x4.toNat : Int), ()) >>= fun x5 =>
      some ((x3.1, x3.2.1, x3.2.2.1, x3.2.2.2.1, x5.1 == (111 : Int), ()))
     else some ((x3.1, x3.2.1, x3.2.2.1, x3.2.2.2.1, false, ()))) >>= fun x4 =>
    if x4.2.2.2.2.1 = true then
     if (0 : Int) ≤ (2 : Int) ∧ (2 : Int) ≤ (↑x4.1.size : Int) ∧ (↑x4.1.size : Int) ≤ (↑x4.1.size : Int) then
      some (Sum.inl (x4.1.extract (Int.toNat (2 : Int)) (↑x4.1.size : Int).toNat, (8 : Int), x4.2.1, x4.2.2.1, x4.2.2.2.1, ()))
     else none
    else (if decide ((↑x4.1.size : Int) ≥ (3 : Int)) = true then
      x4.1[Int.toNat (1 : Int)]? >>= fun x5 =>
      n_178 ((↑x5.toNat : Int), ()) >>= fun x6 =>
      some ((x4.1, x4.2.1, x4.2.2.1, x4.2.2.2.1, x6.1 == (120 : Int), ()))
     else some ((x4.1, x4.2.1, x4.2.2.1, x4.2.2.2.1, false, ()))) >>= fun x5 =>
    if x5.2.2.2.2.1 = true then
     if (0 : Int) ≤ (2 : Int) ∧ (2 : Int) ≤ (↑x5.1.size : Int) ∧ (↑x5.1.size : Int) ≤ (↑x5.1.size : Int) then
      some (Sum.inl (x5.1.extract (Int.toNat (2 : Int)) (↑x5.1.size : Int).toNat, (16 : Int), x5.2.1, x5.2.2.1, x5.2.2.2.1, ()))
     else none
    else if (0 : Int) ≤ (1 : Int) ∧ (1 : Int) ≤ (↑x5.1.size : Int) ∧ (↑x5.1.size : Int) ≤ (↑x5.1.size : Int) then
     some (Sum.inl (x5.1.extract (Int.toNat (1 : Int)) (↑x5.1.size : Int).toNat, (8 : Int), x5.2.1, x5.2.2.1, x5.2.2.2.1, ()))
    else none
   else some (Sum.inl (x1.1, (10 : Int), x1.2.2.1, x1.2.2.2.1, x1.2.2.2.2.1, ()))
  else some (Sum.inr ((0 : Int), true, ()))) >>= fun x1 => match x1 with
  | .inl y1 => (if (y1.2.2.1 == (0 : Int)) = true then
     some (Sum.inl (y1.1, y1.2.1, (64 : Int), y1.2.2.2.1, y1.2.2.2.2.1, ()))
    else (if decide (y1.2.2.1 < (0 : Int)) = true then
      some ((y1.1, y1.2.1, y1.2.2.1, y1.2.2.2.1, y1.2.2.2.2.1, true, ()))
     else some ((y1.1, y1.2.1, y1.2.2.1, y1.2.2.2.1, y1.2.2.2.2.1, decide (y1.2.2.1 > (64 : Int)), ()))) >>= fun x2 =>
    if x2.2.2.2.2.2.1 = true then
     some (Sum.inr ((0 : Int), true, ()))
    else some (Sum.inl (x2.1, x2.2.1, x2.2.2.1, x2.2.2.2.1, x2.2.2.2.2.1, ()))) >>= fun x2 => match x2 with
    | .inl y2 => (if (y2.2.1 == (10 : Int)) = true then
       some ((y2.1, y2.2.1, y2.2.2.1, y2.2.2.2.1, y2.2.2.2.2.1, (1844674407370955162 : Int), ()))
      else if (y2.2.1 == (16 : Int)) = true then
       some ((y2.1, y2.2.1, y2.2.2.1, y2.2.2.2.1, y2.2.2.2.2.1, (1152921504606846976 : Int), ()))
      else if u64.wrap y2.2.1 = (0 : Int) then
       none
      else some ((y2.1, y2.2.1, y2.2.2.1, y2.2.2.2.1, y2.2.2.2.2.1, u64.wrap (u64.wrap (Int.tdiv (18446744073709551615 : Int) (u64.wrap y2.2.1)) + (1 : Int)), ()))) >>= fun x3 =>
     if (0 : Int) ≤ u64.wrap x3.2.2.1 then
      n_163l36 (x3.2.1, x3.2.2.2.1, x3.2.2.2.2.1, x3.2.2.2.2.2.1, u64.wrap (Bs.ishl u64 (1 : Int) (u64.wrap x3.2.2.1) - (1 : Int)), false, (0 : Int), Bs.ints x3.1, (↑(Bs.ints x3.1).length : Int), (0 : Int), ()) >>= fun x4 => match x4 with
       | .inl y4 => some y4
       | .inr y4 => (if y4.2.1 = true then
          n_179 (y4.1, ()) >>= fun x5 =>
          some ((y4.2.2.1, !x5.1, ()))
         else some ((y4.2.2.1, false, ()))) >>= fun x5 =>
        if x5.2.1 = true then
         some (((0 : Int), true, ()))
        else some ((x5.1, false, ()))
     else none
    | .inr y2 => some y2
  | .inr y1 => some y1
noncomputable def call163 : Caller vw := fun A fid args S k => match fid with | 178 => callPure prog sig178 n_178 A args S k | 179 => callPure prog sig179 n_179 A args S k | _ => none
noncomputable def x163 : Xc vw := { P := prog, n := 172, call := call163, sh := sh163, joins := fun k => match k with | 21 => some (c163j21, [.norm, .ret]) | 25 => some (c163j21, [.norm, .ret]) | 32 => some (c163j32, [.norm]) | 46 => some (c163j46, [.norm, .ret, .exit 4]) | 55 => some (c163l36, [.norm, .ret]) | _ => none, regs := fun k => match k with | 6 => some c163r6 | 12 => some c163r12 | 15 => some c163r15 | 18 => some c163r18 | 23 => some c163r23 | 40 => some c163r40 | 42 => some c163r42 | 44 => some c163r44 | 52 => some c163r52 | 56 => some c163r56 | _ => none, loops := fun k => match k with | 36 => some { cut := c163l36, alts := [.ret, .exit 3], F := n_163l36 } | _ => none }
theorem call163_ok : CallerOk prog call163 := fun A fid args S dst k r h => by
 unfold call163 at h
 split at h
 ·exact callPure_ok (n_178_ok) rfl rfl h
 ·exact callPure_ok (n_179_ok) rfl rfl h
 ·cases h
theorem n_163l36_ok (C : Ctx) (hP : C.P = prog) (hN : C.N = 172) : LoopOk C (loopNo (bodyOf Tryz.f163) 0) (sh := sh163) { cut := c163l36, alts := [.ret, .exit 3], F := n_163l36 } :=
 n_163l36.partial_correctness (motive := fun v out => AWpL C (loopNo (bodyOf Tryz.f163) 0) (encS vw (conc vw c163l36 v)) (OutQ sh163 [.ret, .exit 3] out)) fun F ih v out h =>
  loop_step (X := x163) (b := (loopNo (bodyOf Tryz.f163) 0)) hP hN Ty.mixed call163_ok (lok_all (X := x163) (c := (loopNo (bodyOf Tryz.f163) 0)) (kcast (by kernel_rfl : True = AllB (LoopsP C (x163)) (loopsIn (loopNo (bodyOf Tryz.f163) 0))) trivial)) ih (kcast (by kernel_rfl) h)
theorem n_163_ok : SigOk prog 163 sig163 n_163 := fun v r x h hx =>
 fn_ok (X := x163) (sig := sig163) rfl Tryz.func163 (c := bodyOf Tryz.f163) (by kernel_rfl) Tryz.ntmps163 (by kernel_rfl) (by kernel_rfl) rfl Ty.mixed call163_ok rfl (fun C hP hN => (lok_all (kcast (by kernel_rfl : AllB (LoopsP C (x163)) [(loopNo (bodyOf Tryz.f163) 0)] = AllB (LoopsP C (x163)) (loopsIn (bodyOf Tryz.f163))) ⟨loop_at (X := x163) (b := (loopNo (bodyOf Tryz.f163) 0)) (by kernel_rfl) (n_163l36_ok C hP hN), trivial⟩))) (kcast (by kernel_rfl) h) x hx
noncomputable def c176z : Cut SN := ⟨[(6, .dat (.int .u64)), (7, .nif)], []⟩
noncomputable def sh176 : Shape vw := { rcut := c176z }
noncomputable def sig176 : Sig vw := { params := [.dat .str, .dat (.int .i64), .dat (.int .i64)], rcut := c176z, rvars := [.tmp 6, .tmp 7] }
noncomputable def n_176 (v : ByteArray × Int × Int × Unit) : Option (Int × Unit) :=
 n_163 (v.1, v.2.1, v.2.2.1, ()) >>= fun x1 =>
 if x1.2.1 = true then
  none
 else some ((x1.1, ()))
noncomputable def call176 : Caller vw := fun A fid args S k => match fid with | 163 => callPure prog sig163 n_163 A args S k | _ => none
noncomputable def x176 : Xc vw := { P := prog, n := 26, call := call176, sh := sh176 }
theorem call176_ok : CallerOk prog call176 := fun A fid args S dst k r h => by
 unfold call176 at h
 split at h
 ·exact callPure_ok (n_163_ok) rfl rfl h
 ·cases h
theorem n_176_ok : SigOk prog 176 sig176 n_176 := fun v r x h hx =>
 fn_ok (X := x176) (sig := sig176) rfl Tryz.func176 (c := bodyOf Tryz.f176) (by kernel_rfl) Tryz.ntmps176 (by kernel_rfl) (by kernel_rfl) rfl Ty.mixed call176_ok rfl (fun C hP hN => (lok_all (kcast (by kernel_rfl) trivial))) (kcast (by kernel_rfl) h) x hx
noncomputable def c155s5873z : Cut SN := ⟨[(0, .bp 100000 0), (4, .dat (.int .i64))], [(100000, .st .mandrelref20ReaderT)]⟩
noncomputable def sh155s5873 : Shape vw := { rcut := c155s5873z }
noncomputable def sig155s5873 : Sig vw := { params := [.bp 100000 0, .dat .str], objs := [(100000, .st .mandrelref20ReaderT)], rcut := c155s5873z, rvars := [.tmp 4], keep := [100000] }
noncomputable def n_155s5873 (v : ByteArray × Mandrelref20Reader × Unit) : Option (Int × Mandrelref20Reader × Unit) :=
 n_98s5873 (v.1, v.2.1, ()) >>= fun x1 =>
 if (!x1.1) = true then
  n_104sa2e4 (x1.2.1, ()) >>= fun x2 =>
  some (((0 : Int), x2.1, ()))
 else if (0 : Int) ≤ x1.2.1.at0 then
  x1.2.1.s[x1.2.1.at0.toNat]? >>= fun x2 =>
  n_176 (Bs.bytes [(↑x2.toNat : Int)], (16 : Int), (8 : Int), ()) >>= fun x3 =>
  some ((i64.wrap x3.1, Mandrelref20Reader.mk x1.2.1.s (i64.wrap (x1.2.1.at0 + (1 : Int))) x1.2.1.wrong, ()))
 else none
noncomputable def call155s5873 : Caller vw := fun A fid args S k => match fid with | 98 => callObj prog sig98s5873 n_98s5873 A args S k | 104 => callObj prog sig104sa2e4 n_104sa2e4 A args S k | 176 => callPure prog sig176 n_176 A args S k | _ => none
noncomputable def x155s5873 : Xc vw := { P := prog, n := 39, call := call155s5873, sh := sh155s5873 }
theorem call155s5873_ok : CallerOk prog call155s5873 := fun A fid args S dst k r h => by
 unfold call155s5873 at h
 split at h
 ·exact callObj_ok (n_98s5873_ok) h
 ·exact callObj_ok (n_104sa2e4_ok) h
 ·exact callPure_ok (n_176_ok) rfl rfl h
 ·cases h
theorem n_155s5873_ok : SigOk prog 155 sig155s5873 n_155s5873 := fun v r x h hx =>
 fn_ok (X := x155s5873) (sig := sig155s5873) rfl Tryz.func155 (c := bodyOf Tryz.f155) (by kernel_rfl) Tryz.ntmps155 (by kernel_rfl) (by kernel_rfl) rfl Ty.mixed call155s5873_ok rfl (fun C hP hN => (lok_all (kcast (by kernel_rfl) trivial))) (kcast (by kernel_rfl) h) x hx
noncomputable def sh154sa2e4 : Shape vw := { rcut := c101sa2e4z }
noncomputable def sig154sa2e4 : Sig vw := { params := [.bp 100000 0], objs := [(100000, .st .mandrelref20ReaderT)], rcut := c101sa2e4z, rvars := [.tmp 2], keep := [100000] }
noncomputable def n_154sa2e4 (v : Mandrelref20Reader × Unit) : Option (Int × Mandrelref20Reader × Unit) :=
 n_155s5873 (ByteArray.mk #[48, 49, 50, 51, 52, 53, 54, 55, 56, 57, 97, 98, 99, 100, 101, 102, 65, 66, 67, 68, 69, 70], v.1, ()) >>= fun x1 =>
 (if (x1.1 == (13 : Int)) = true then
    n_155s5873 (ByteArray.mk #[48, 49, 50, 51, 52, 53, 54, 55, 56, 57, 97, 98, 65, 66], x1.2.1, ()) >>= fun x2 =>
    some ((i64.wrap (i64.wrap ((16 : Int) * x1.1) + x2.1), x2.2.1, ()))
   else n_155s5873 (ByteArray.mk #[48, 49, 50, 51, 52, 53, 54, 55, 56, 57, 97, 98, 99, 100, 101, 102, 65, 66, 67, 68, 69, 70], x1.2.1, ()) >>= fun x2 =>
   some ((i64.wrap (i64.wrap ((16 : Int) * x1.1) + x2.1), x2.2.1, ()))) >>= fun x2 =>
 n_155s5873 (ByteArray.mk #[48, 49, 50, 51, 52, 53, 54, 55, 56, 57, 97, 98, 99, 100, 101, 102, 65, 66, 67, 68, 69, 70], x2.2.1, ()) >>= fun x3 =>
 n_155s5873 (ByteArray.mk #[48, 49, 50, 51, 52, 53, 54, 55, 56, 57, 97, 98, 99, 100, 101, 102, 65, 66, 67, 68, 69, 70], x3.2.1, ()) >>= fun x4 =>
 some ((i64.wrap (i64.wrap ((16 : Int) * i64.wrap (i64.wrap ((16 : Int) * x2.1) + x3.1)) + x4.1), x4.2.1, ()))
noncomputable def call154sa2e4 : Caller vw := fun A fid args S k => match fid with | 155 => callObj prog sig155s5873 n_155s5873 A args S k | _ => none
noncomputable def x154sa2e4 : Xc vw := { P := prog, n := 28, call := call154sa2e4, sh := sh154sa2e4, joins := fun k => match k with | 5 => some (c101sa2e4j5, [.norm]) | _ => none }
theorem call154sa2e4_ok : CallerOk prog call154sa2e4 := fun A fid args S dst k r h => by
 unfold call154sa2e4 at h
 split at h
 ·exact callObj_ok (n_155s5873_ok) h
 ·cases h
theorem n_154sa2e4_ok : SigOk prog 154 sig154sa2e4 n_154sa2e4 := fun v r x h hx =>
 fn_ok (X := x154sa2e4) (sig := sig154sa2e4) rfl Tryz.func154 (c := bodyOf Tryz.f154) (by kernel_rfl) Tryz.ntmps154 (by kernel_rfl) (by kernel_rfl) rfl Ty.mixed call154sa2e4_ok rfl (fun C hP hN => (lok_all (kcast (by kernel_rfl) trivial))) (kcast (by kernel_rfl) h) x hx
noncomputable def c124sa2e4l4 : Cut SN := ⟨[(0, .bp 100000 0), (3, .dat .str), (4, .dat .str), (5, .dat (.int .i64))], [(100000, .st .mandrelref20ReaderT)]⟩
noncomputable def c124sa2e4j19 : Cut SN := ⟨[(0, .bp 100000 0), (6, .dat (.int .i64))], [(100000, .st .mandrelref20ReaderT)]⟩
noncomputable def c124sa2e4r11 : Cut SN := ⟨[(0, .bp 100000 0), (6, .dat (.int .i64)), (42, .dat .bool)], [(100000, .st .mandrelref20ReaderT)]⟩
noncomputable def c124sa2e4z : Cut SN := ⟨[(0, .bp 100000 0), (2, .dat .str)], [(100000, .st .mandrelref20ReaderT)]⟩
noncomputable def sh124sa2e4 : Shape vw := { exits := fun id => match id with | 0 => c104sa2e4z | _ => ⟨[], []⟩, rcut := c124sa2e4z }
noncomputable def sig124sa2e4 : Sig vw := { params := [.bp 100000 0], objs := [(100000, .st .mandrelref20ReaderT)], rcut := c124sa2e4z, rvars := [.tmp 2], keep := [100000] }
noncomputable def n_124sa2e4l4 (v : ByteArray × ByteArray × Int × Mandrelref20Reader × Unit) : Option (((ByteArray × Mandrelref20Reader × Unit) ⊕ (Mandrelref20Reader × Unit))) :=
 if decide (v.2.2.1 < (↑v.1.size : Int)) = true then
  if (0 : Int) ≤ v.2.2.1 ∧ v.2.2.1 ≤ i64.wrap (v.2.2.1 + (1 : Int)) ∧ i64.wrap (v.2.2.1 + (1 : Int)) ≤ (↑v.1.size : Int) then
   n_98s5873 (v.1.extract v.2.2.1.toNat (i64.wrap (v.2.2.1 + (1 : Int))).toNat, v.2.2.2.1, ()) >>= fun x1 =>
   if x1.1 = true then
    if (0 : Int) ≤ v.2.2.1 ∧ v.2.2.1 ≤ i64.wrap (v.2.2.1 + (1 : Int)) ∧ i64.wrap (v.2.2.1 + (1 : Int)) ≤ (↑v.2.1.size : Int) then
     some (Sum.inl (v.2.1.extract v.2.2.1.toNat (i64.wrap (v.2.2.1 + (1 : Int))).toNat, Mandrelref20Reader.mk x1.2.1.s (i64.wrap (x1.2.1.at0 + (1 : Int))) x1.2.1.wrong, ()))
    else none
   else n_124sa2e4l4 (v.1, v.2.1, i64.wrap (v.2.2.1 + (1 : Int)), x1.2.1, ())
  else none
 else some (Sum.inr (v.2.2.2.1, ()))
 partial_fixpoint
noncomputable def n_124sa2e4 (v : Mandrelref20Reader × Unit) : Option (ByteArray × Mandrelref20Reader × Unit) :=
 n_124sa2e4l4 (ByteArray.mk #[34, 92, 47, 110, 114, 116, 98, 102], ByteArray.mk #[34, 92, 47, 10, 13, 9, 8, 12], (0 : Int), v.1, ()) >>= fun x1 => match x1 with
  | .inl y1 => some y1
  | .inr y1 => n_123s1978 ((117 : Int), (117 : Int), y1.1, ()) >>= fun x2 =>
   n_154sa2e4 (x2.2.1, ()) >>= fun x3 =>
   ((if decide (x3.1 ≥ (55296 : Int)) = true then
       some ((x3.1, decide (x3.1 < (56320 : Int)), x3.2.1, ()))
      else some ((x3.1, false, x3.2.1, ()))) >>= fun x4 =>
     if x4.2.1 = true then
      n_123s1978 ((92 : Int), (92 : Int), x4.2.2.1, ()) >>= fun x5 =>
      n_123s1978 ((117 : Int), (117 : Int), x5.2.1, ()) >>= fun x6 =>
      n_155s5873 (ByteArray.mk #[100, 68], x6.2.1, ()) >>= fun x7 =>
      n_155s5873 (ByteArray.mk #[99, 100, 101, 102, 67, 68, 69, 70], x7.2.1, ()) >>= fun x8 =>
      n_155s5873 (ByteArray.mk #[48, 49, 50, 51, 52, 53, 54, 55, 56, 57, 97, 98, 99, 100, 101, 102, 65, 66, 67, 68, 69, 70], x8.2.1, ()) >>= fun x9 =>
      n_155s5873 (ByteArray.mk #[48, 49, 50, 51, 52, 53, 54, 55, 56, 57, 97, 98, 99, 100, 101, 102, 65, 66, 67, 68, 69, 70], x9.2.1, ()) >>= fun x10 =>
      some ((i64.wrap (i64.wrap (i64.wrap ((65536 : Int) + Bs.ishl i64 (i64.wrap (x4.1 - (55296 : Int))) (10 : Int)) + i64.wrap (i64.wrap ((16 : Int) * i64.wrap (i64.wrap ((16 : Int) * i64.wrap (i64.wrap ((16 : Int) * x7.1) + x8.1)) + x9.1)) + x10.1)) - (56320 : Int)), x10.2.1, ()))
     else some ((x4.1, x4.2.2.1, ()))) >>= fun x4 =>
   if x4.2.1.wrong = true then
    some ((ByteArray.mk #[], x4.2.1, ()))
   else some ((Bs.enc1 (IntKind.i32.wrap x4.1), x4.2.1, ()))
noncomputable def call124sa2e4 : Caller vw := fun A fid args S k => match fid with | 98 => callObj prog sig98s5873 n_98s5873 A args S k | 123 => callObj prog sig123s1978 n_123s1978 A args S k | 154 => callObj prog sig154sa2e4 n_154sa2e4 A args S k | 155 => callObj prog sig155s5873 n_155s5873 A args S k | _ => none
noncomputable def x124sa2e4 : Xc vw := { P := prog, n := 78, call := call124sa2e4, sh := sh124sa2e4, joins := fun k => match k with | 19 => some (c124sa2e4j19, [.norm]) | _ => none, regs := fun k => match k with | 11 => some c124sa2e4r11 | _ => none, loops := fun k => match k with | 4 => some { cut := c124sa2e4l4, alts := [.ret, .exit 0], F := n_124sa2e4l4 } | _ => none }
theorem call124sa2e4_ok : CallerOk prog call124sa2e4 := fun A fid args S dst k r h => by
 unfold call124sa2e4 at h
 split at h
 ·exact callObj_ok (n_98s5873_ok) h
 ·exact callObj_ok (n_123s1978_ok) h
 ·exact callObj_ok (n_154sa2e4_ok) h
 ·exact callObj_ok (n_155s5873_ok) h
 ·cases h
theorem n_124sa2e4l4_ok (C : Ctx) (hP : C.P = prog) (hN : C.N = 78) : LoopOk C (loopNo (bodyOf Tryz.f124) 0) (sh := sh124sa2e4) { cut := c124sa2e4l4, alts := [.ret, .exit 0], F := n_124sa2e4l4 } :=
 n_124sa2e4l4.partial_correctness (motive := fun v out => AWpL C (loopNo (bodyOf Tryz.f124) 0) (encS vw (conc vw c124sa2e4l4 v)) (OutQ sh124sa2e4 [.ret, .exit 0] out)) fun F ih v out h =>
  loop_step (X := x124sa2e4) (b := (loopNo (bodyOf Tryz.f124) 0)) hP hN Ty.mixed call124sa2e4_ok (lok_all (X := x124sa2e4) (c := (loopNo (bodyOf Tryz.f124) 0)) (kcast (by kernel_rfl : True = AllB (LoopsP C (x124sa2e4)) (loopsIn (loopNo (bodyOf Tryz.f124) 0))) trivial)) ih (kcast (by kernel_rfl) h)
theorem n_124sa2e4_ok : SigOk prog 124 sig124sa2e4 n_124sa2e4 := fun v r x h hx =>
 fn_ok (X := x124sa2e4) (sig := sig124sa2e4) rfl Tryz.func124 (c := bodyOf Tryz.f124) (by kernel_rfl) Tryz.ntmps124 (by kernel_rfl) (by kernel_rfl) rfl Ty.mixed call124sa2e4_ok rfl (fun C hP hN => (lok_all (kcast (by kernel_rfl : AllB (LoopsP C (x124sa2e4)) [(loopNo (bodyOf Tryz.f124) 0)] = AllB (LoopsP C (x124sa2e4)) (loopsIn (bodyOf Tryz.f124))) ⟨loop_at (X := x124sa2e4) (b := (loopNo (bodyOf Tryz.f124) 0)) (by kernel_rfl) (n_124sa2e4l4_ok C hP hN), trivial⟩))) (kcast (by kernel_rfl) h) x hx
noncomputable def c125sa2e4l23 : Cut SN := ⟨[(0, .bp 100000 0), (3, .dat (.int .i64)), (5, .dat (.int .u8)), (6, .dat (.int .u8)), (7, .dat (.int .i64)), (8, .dat (.int .i64))], [(100000, .st .mandrelref20ReaderT)]⟩
noncomputable def c125sa2e4j13 : Cut SN := ⟨[(0, .bp 100000 0), (3, .dat (.int .i64)), (4, .dat (.int .u8)), (5, .dat (.int .u8)), (6, .dat (.int .u8)), (7, .dat (.int .i64))], [(100000, .st .mandrelref20ReaderT)]⟩
noncomputable def c125sa2e4j22 : Cut SN := ⟨[(0, .bp 100000 0), (3, .dat (.int .i64)), (5, .dat (.int .u8)), (6, .dat (.int .u8)), (7, .dat (.int .i64))], [(100000, .st .mandrelref20ReaderT)]⟩
noncomputable def c125sa2e4r7 : Cut SN := ⟨[(0, .bp 100000 0), (3, .dat (.int .i64)), (4, .dat (.int .u8)), (5, .dat (.int .u8)), (6, .dat (.int .u8)), (7, .dat (.int .i64)), (27, .dat .bool)], [(100000, .st .mandrelref20ReaderT)]⟩
noncomputable def c125sa2e4r9 : Cut SN := ⟨[(0, .bp 100000 0), (3, .dat (.int .i64)), (4, .dat (.int .u8)), (5, .dat (.int .u8)), (6, .dat (.int .u8)), (7, .dat (.int .i64)), (34, .dat .bool)], [(100000, .st .mandrelref20ReaderT)]⟩
noncomputable def c125sa2e4r11 : Cut SN := ⟨[(0, .bp 100000 0), (3, .dat (.int .i64)), (4, .dat (.int .u8)), (5, .dat (.int .u8)), (6, .dat (.int .u8)), (7, .dat (.int .i64)), (41, .dat .bool)], [(100000, .st .mandrelref20ReaderT)]⟩
noncomputable def sh125sa2e4 : Shape vw := { exits := fun id => match id with | 2 => c101sa2e4j5 | _ => ⟨[], []⟩, rcut := c124sa2e4z }
noncomputable def sig125sa2e4 : Sig vw := { params := [.bp 100000 0], objs := [(100000, .st .mandrelref20ReaderT)], rcut := c124sa2e4z, rvars := [.tmp 2], keep := [100000] }
noncomputable def n_125sa2e4l23 (v : Int × Int × Int × Int × Int × Mandrelref20Reader × Unit) : Option ((Int × Mandrelref20Reader × Unit)) :=
 if decide (v.2.2.2.2.1 < v.2.2.2.1) = true then
  n_123s1978 (v.2.1, v.2.2.1, v.2.2.2.2.2.1, ()) >>= fun x1 =>
  n_125sa2e4l23 (v.1, (128 : Int), (191 : Int), v.2.2.2.1, i64.wrap (v.2.2.2.2.1 + (1 : Int)), x1.2.1, ())
 else some ((v.1, v.2.2.2.2.2.1, ()))
 partial_fixpoint
noncomputable def n_125sa2e4 (v : Mandrelref20Reader × Unit) : Option (ByteArray × Mandrelref20Reader × Unit) :=
 n_123s1978 ((32 : Int), (255 : Int), v.1, ()) >>= fun x1 =>
 (if decide (x1.1 < (128 : Int)) = true then
    some ((v.1.at0, x1.1, (128 : Int), (191 : Int), (0 : Int), x1.2.1, ()))
   else (if decide (x1.1 ≥ (194 : Int)) = true then
     some ((v.1.at0, x1.1, (128 : Int), (191 : Int), (0 : Int), decide (x1.1 ≤ (223 : Int)), x1.2.1, ()))
    else some ((v.1.at0, x1.1, (128 : Int), (191 : Int), (0 : Int), false, x1.2.1, ()))) >>= fun x2 =>
   if x2.2.2.2.2.2.1 = true then
    some ((x2.1, x2.2.1, x2.2.2.1, x2.2.2.2.1, (1 : Int), x2.2.2.2.2.2.2.1, ()))
   else (if decide (x2.2.1 ≥ (224 : Int)) = true then
     some ((x2.1, x2.2.1, x2.2.2.1, x2.2.2.2.1, x2.2.2.2.2.1, decide (x2.2.1 ≤ (239 : Int)), x2.2.2.2.2.2.2.1, ()))
    else some ((x2.1, x2.2.1, x2.2.2.1, x2.2.2.2.1, x2.2.2.2.2.1, false, x2.2.2.2.2.2.2.1, ()))) >>= fun x3 =>
   if x3.2.2.2.2.2.1 = true then
    some ((x3.1, x3.2.1, x3.2.2.1, x3.2.2.2.1, (2 : Int), x3.2.2.2.2.2.2.1, ()))
   else (if decide (x3.2.1 ≥ (240 : Int)) = true then
     some ((x3.1, x3.2.1, x3.2.2.1, x3.2.2.2.1, x3.2.2.2.2.1, decide (x3.2.1 ≤ (244 : Int)), x3.2.2.2.2.2.2.1, ()))
    else some ((x3.1, x3.2.1, x3.2.2.1, x3.2.2.2.1, x3.2.2.2.2.1, false, x3.2.2.2.2.2.2.1, ()))) >>= fun x4 =>
   if x4.2.2.2.2.2.1 = true then
    some ((x4.1, x4.2.1, x4.2.2.1, x4.2.2.2.1, (3 : Int), x4.2.2.2.2.2.2.1, ()))
   else n_104sa2e4 (Mandrelref20Reader.mk x4.2.2.2.2.2.2.1.s (i64.wrap (x4.2.2.2.2.2.2.1.at0 - (1 : Int))) x4.2.2.2.2.2.2.1.wrong, ()) >>= fun x5 =>
   some ((x4.1, x4.2.1, x4.2.2.1, x4.2.2.2.1, x4.2.2.2.2.1, x5.1, ()))) >>= fun x2 =>
 (if (x2.2.1 == (224 : Int)) = true then
    some ((x2.1, (160 : Int), x2.2.2.2.1, x2.2.2.2.2.1, x2.2.2.2.2.2.1, ()))
   else if (x2.2.1 == (237 : Int)) = true then
    some ((x2.1, x2.2.2.1, (159 : Int), x2.2.2.2.2.1, x2.2.2.2.2.2.1, ()))
   else if (x2.2.1 == (240 : Int)) = true then
    some ((x2.1, (144 : Int), x2.2.2.2.1, x2.2.2.2.2.1, x2.2.2.2.2.2.1, ()))
   else if (x2.2.1 == (244 : Int)) = true then
    some ((x2.1, x2.2.2.1, (143 : Int), x2.2.2.2.2.1, x2.2.2.2.2.2.1, ()))
   else some ((x2.1, x2.2.2.1, x2.2.2.2.1, x2.2.2.2.2.1, x2.2.2.2.2.2.1, ()))) >>= fun x3 =>
 n_125sa2e4l23 (x3.1, x3.2.1, x3.2.2.1, x3.2.2.2.1, (0 : Int), x3.2.2.2.2.1, ()) >>= fun x4 =>
 if x4.2.1.wrong = true then
  some ((ByteArray.mk #[], x4.2.1, ()))
 else if (0 : Int) ≤ x4.1 ∧ x4.1 ≤ x4.2.1.at0 ∧ x4.2.1.at0 ≤ (↑x4.2.1.s.size : Int) then
  some ((x4.2.1.s.extract x4.1.toNat x4.2.1.at0.toNat, x4.2.1, ()))
 else none
noncomputable def call125sa2e4 : Caller vw := fun A fid args S k => match fid with | 104 => callObj prog sig104sa2e4 n_104sa2e4 A args S k | 123 => callObj prog sig123s1978 n_123s1978 A args S k | _ => none
noncomputable def x125sa2e4 : Xc vw := { P := prog, n := 80, call := call125sa2e4, sh := sh125sa2e4, joins := fun k => match k with | 13 => some (c125sa2e4j13, [.norm]) | 22 => some (c125sa2e4j22, [.norm]) | _ => none, regs := fun k => match k with | 7 => some c125sa2e4r7 | 9 => some c125sa2e4r9 | 11 => some c125sa2e4r11 | _ => none, loops := fun k => match k with | 23 => some { cut := c125sa2e4l23, alts := [.exit 2], F := n_125sa2e4l23 } | _ => none }
theorem call125sa2e4_ok : CallerOk prog call125sa2e4 := fun A fid args S dst k r h => by
 unfold call125sa2e4 at h
 split at h
 ·exact callObj_ok (n_104sa2e4_ok) h
 ·exact callObj_ok (n_123s1978_ok) h
 ·cases h
theorem n_125sa2e4l23_ok (C : Ctx) (hP : C.P = prog) (hN : C.N = 80) : LoopOk C (loopNo (bodyOf Tryz.f125) 0) (sh := sh125sa2e4) { cut := c125sa2e4l23, alts := [.exit 2], F := n_125sa2e4l23 } :=
 n_125sa2e4l23.partial_correctness (motive := fun v out => AWpL C (loopNo (bodyOf Tryz.f125) 0) (encS vw (conc vw c125sa2e4l23 v)) (OutQ sh125sa2e4 [.exit 2] out)) fun F ih v out h =>
  loop_step (X := x125sa2e4) (b := (loopNo (bodyOf Tryz.f125) 0)) hP hN Ty.mixed call125sa2e4_ok (lok_all (X := x125sa2e4) (c := (loopNo (bodyOf Tryz.f125) 0)) (kcast (by kernel_rfl : True = AllB (LoopsP C (x125sa2e4)) (loopsIn (loopNo (bodyOf Tryz.f125) 0))) trivial)) ih (kcast (by kernel_rfl) h)
theorem n_125sa2e4_ok : SigOk prog 125 sig125sa2e4 n_125sa2e4 := fun v r x h hx =>
 fn_ok (X := x125sa2e4) (sig := sig125sa2e4) rfl Tryz.func125 (c := bodyOf Tryz.f125) (by kernel_rfl) Tryz.ntmps125 (by kernel_rfl) (by kernel_rfl) rfl Ty.mixed call125sa2e4_ok rfl (fun C hP hN => (lok_all (kcast (by kernel_rfl : AllB (LoopsP C (x125sa2e4)) [(loopNo (bodyOf Tryz.f125) 0)] = AllB (LoopsP C (x125sa2e4)) (loopsIn (bodyOf Tryz.f125))) ⟨loop_at (X := x125sa2e4) (b := (loopNo (bodyOf Tryz.f125) 0)) (by kernel_rfl) (n_125sa2e4l23_ok C hP hN), trivial⟩))) (kcast (by kernel_rfl) h) x hx
noncomputable def c102sa2e4l3 : Cut SN := ⟨[(0, .bp 100000 0), (3, .vh 1003)], [(100000, .st .mandrelref20ReaderT), (1003, .vec 5 (.int .u8))]⟩
noncomputable def c102sa2e4r3 : Cut SN := ⟨[(0, .bp 100000 0), (3, .vh 1003), (15, .dat .bool)], [(100000, .st .mandrelref20ReaderT), (1003, .vec 5 (.int .u8))]⟩
noncomputable def sh102sa2e4 : Shape vw := { exits := fun id => match id with | 0 => c102sa2e4l3 | _ => ⟨[], []⟩, rcut := c124sa2e4z }
noncomputable def sig102sa2e4 : Sig vw := { params := [.bp 100000 0], objs := [(100000, .st .mandrelref20ReaderT)], rcut := c124sa2e4z, rvars := [.tmp 2], keep := [100000] }
noncomputable def n_102sa2e4l3 (v : Mandrelref20Reader × (List Int) × Unit) : Option ((Mandrelref20Reader × (List Int) × Unit)) :=
 (if (!v.1.wrong) = true then
    n_98s5873 (ByteArray.mk #[34], v.1, ()) >>= fun x1 =>
    some ((!x1.1, x1.2.1, v.2.1, ()))
   else some ((false, v.1, v.2.1, ()))) >>= fun x1 =>
 if x1.1 = true then
  n_98s5873 (ByteArray.mk #[92], x1.2.1, ()) >>= fun x2 =>
  if x2.1 = true then
   n_124sa2e4 (Mandrelref20Reader.mk x2.2.1.s (i64.wrap (x2.2.1.at0 + (1 : Int))) x2.2.1.wrong, ()) >>= fun x3 =>
   if x1.2.2.1.length + x3.1.size ≤ (4294967296 : Nat) then
    n_102sa2e4l3 (x3.2.1, x1.2.2.1 ++ Bs.ints x3.1, ())
   else none
  else n_125sa2e4 (x2.2.1, ()) >>= fun x3 =>
  if x1.2.2.1.length + x3.1.size ≤ (4294967296 : Nat) then
   n_102sa2e4l3 (x3.2.1, x1.2.2.1 ++ Bs.ints x3.1, ())
  else none
 else some ((x1.2.1, x1.2.2.1, ()))
 partial_fixpoint
noncomputable def n_102sa2e4 (v : Mandrelref20Reader × Unit) : Option (ByteArray × Mandrelref20Reader × Unit) :=
 n_123s1978 ((34 : Int), (34 : Int), v.1, ()) >>= fun x1 =>
 n_102sa2e4l3 (x1.2.1, [], ()) >>= fun x2 =>
 n_123s1978 ((34 : Int), (34 : Int), x2.1, ()) >>= fun x3 =>
 some ((Bs.bytes x2.2.1, x3.2.1, ()))
noncomputable def call102sa2e4 : Caller vw := fun A fid args S k => match fid with | 98 => callObj prog sig98s5873 n_98s5873 A args S k | 123 => callObj prog sig123s1978 n_123s1978 A args S k | 124 => callObj prog sig124sa2e4 n_124sa2e4 A args S k | 125 => callObj prog sig125sa2e4 n_125sa2e4 A args S k | _ => none
noncomputable def x102sa2e4 : Xc vw := { P := prog, n := 37, call := call102sa2e4, sh := sh102sa2e4, regs := fun k => match k with | 3 => some c102sa2e4r3 | _ => none, loops := fun k => match k with | 3 => some { cut := c102sa2e4l3, alts := [.exit 0], F := n_102sa2e4l3 } | _ => none }
theorem call102sa2e4_ok : CallerOk prog call102sa2e4 := fun A fid args S dst k r h => by
 unfold call102sa2e4 at h
 split at h
 ·exact callObj_ok (n_98s5873_ok) h
 ·exact callObj_ok (n_123s1978_ok) h
 ·exact callObj_ok (n_124sa2e4_ok) h
 ·exact callObj_ok (n_125sa2e4_ok) h
 ·cases h
theorem n_102sa2e4l3_ok (C : Ctx) (hP : C.P = prog) (hN : C.N = 37) : LoopOk C (loopNo (bodyOf Tryz.f102) 0) (sh := sh102sa2e4) { cut := c102sa2e4l3, alts := [.exit 0], F := n_102sa2e4l3 } :=
 n_102sa2e4l3.partial_correctness (motive := fun v out => AWpL C (loopNo (bodyOf Tryz.f102) 0) (encS vw (conc vw c102sa2e4l3 v)) (OutQ sh102sa2e4 [.exit 0] out)) fun F ih v out h =>
  loop_step (X := x102sa2e4) (b := (loopNo (bodyOf Tryz.f102) 0)) hP hN Ty.mixed call102sa2e4_ok (lok_all (X := x102sa2e4) (c := (loopNo (bodyOf Tryz.f102) 0)) (kcast (by kernel_rfl : True = AllB (LoopsP C (x102sa2e4)) (loopsIn (loopNo (bodyOf Tryz.f102) 0))) trivial)) ih (kcast (by kernel_rfl) h)
theorem n_102sa2e4_ok : SigOk prog 102 sig102sa2e4 n_102sa2e4 := fun v r x h hx =>
 fn_ok (X := x102sa2e4) (sig := sig102sa2e4) rfl Tryz.func102 (c := bodyOf Tryz.f102) (by kernel_rfl) Tryz.ntmps102 (by kernel_rfl) (by kernel_rfl) rfl Ty.mixed call102sa2e4_ok rfl (fun C hP hN => (lok_all (kcast (by kernel_rfl : AllB (LoopsP C (x102sa2e4)) [(loopNo (bodyOf Tryz.f102) 0)] = AllB (LoopsP C (x102sa2e4)) (loopsIn (bodyOf Tryz.f102))) ⟨loop_at (X := x102sa2e4) (b := (loopNo (bodyOf Tryz.f102) 0)) (by kernel_rfl) (n_102sa2e4l3_ok C hP hN), trivial⟩))) (kcast (by kernel_rfl) h) x hx
noncomputable def sh68sa2e4 : Shape vw := { exits := fun id => match id with | 0 => c104sa2e4z | _ => ⟨[], []⟩, rcut := c104sa2e4z }
noncomputable def sig68sa2e4 : Sig vw := { params := [.bp 100000 0], objs := [(100000, .st .mandrelref20ReaderT)], rcut := c104sa2e4z, rvars := [], keep := [100000] }
noncomputable def n_68sa2e4l0 (v : Mandrelref20Reader × Unit) : Option ((Mandrelref20Reader × Unit)) :=
 n_98s5873 (ByteArray.mk #[32, 10, 9, 13], v.1, ()) >>= fun x1 =>
 if x1.1 = true then
  n_68sa2e4l0 (Mandrelref20Reader.mk x1.2.1.s (i64.wrap (x1.2.1.at0 + (1 : Int))) x1.2.1.wrong, ())
 else some ((x1.2.1, ()))
 partial_fixpoint
noncomputable def n_68sa2e4 (v : Mandrelref20Reader × Unit) : Option (Mandrelref20Reader × Unit) :=
 n_68sa2e4l0 (v.1, ()) >>= fun x1 =>
 some ((x1.1, ()))
noncomputable def call68sa2e4 : Caller vw := fun A fid args S k => match fid with | 98 => callObj prog sig98s5873 n_98s5873 A args S k | _ => none
noncomputable def x68sa2e4 : Xc vw := { P := prog, n := 11, call := call68sa2e4, sh := sh68sa2e4, loops := fun k => match k with | 0 => some { cut := c104sa2e4z, alts := [.exit 0], F := n_68sa2e4l0 } | _ => none }
theorem call68sa2e4_ok : CallerOk prog call68sa2e4 := fun A fid args S dst k r h => by
 unfold call68sa2e4 at h
 split at h
 ·exact callObj_ok (n_98s5873_ok) h
 ·cases h
theorem n_68sa2e4l0_ok (C : Ctx) (hP : C.P = prog) (hN : C.N = 11) : LoopOk C (loopNo (bodyOf Tryz.f68) 0) (sh := sh68sa2e4) { cut := c104sa2e4z, alts := [.exit 0], F := n_68sa2e4l0 } :=
 n_68sa2e4l0.partial_correctness (motive := fun v out => AWpL C (loopNo (bodyOf Tryz.f68) 0) (encS vw (conc vw c104sa2e4z v)) (OutQ sh68sa2e4 [.exit 0] out)) fun F ih v out h =>
  loop_step (X := x68sa2e4) (b := (loopNo (bodyOf Tryz.f68) 0)) hP hN Ty.mixed call68sa2e4_ok (lok_all (X := x68sa2e4) (c := (loopNo (bodyOf Tryz.f68) 0)) (kcast (by kernel_rfl : True = AllB (LoopsP C (x68sa2e4)) (loopsIn (loopNo (bodyOf Tryz.f68) 0))) trivial)) ih (kcast (by kernel_rfl) h)
theorem n_68sa2e4_ok : SigOk prog 68 sig68sa2e4 n_68sa2e4 := fun v r x h hx =>
 fn_ok (X := x68sa2e4) (sig := sig68sa2e4) rfl Tryz.func68 (c := bodyOf Tryz.f68) (by kernel_rfl) Tryz.ntmps68 (by kernel_rfl) (by kernel_rfl) rfl Ty.mixed call68sa2e4_ok rfl (fun C hP hN => (lok_all (kcast (by kernel_rfl : AllB (LoopsP C (x68sa2e4)) [(loopNo (bodyOf Tryz.f68) 0)] = AllB (LoopsP C (x68sa2e4)) (loopsIn (bodyOf Tryz.f68))) ⟨loop_at (X := x68sa2e4) (b := (loopNo (bodyOf Tryz.f68) 0)) (by kernel_rfl) (n_68sa2e4l0_ok C hP hN), trivial⟩))) (kcast (by kernel_rfl) h) x hx
noncomputable def c99s5873l1 : Cut SN := ⟨[(0, .bp 100000 0), (1, .dat .str), (4, .dat (.int .i64))], [(100000, .st .mandrelref20ReaderT)]⟩
noncomputable def sh99s5873 : Shape vw := { exits := fun id => match id with | 0 => c104sa2e4z | _ => ⟨[], []⟩, rcut := c104sa2e4z }
noncomputable def sig99s5873 : Sig vw := { params := [.bp 100000 0, .dat .str], objs := [(100000, .st .mandrelref20ReaderT)], rcut := c104sa2e4z, rvars := [], keep := [100000] }
noncomputable def n_99s5873l1 (v : ByteArray × Int × Mandrelref20Reader × Unit) : Option ((Mandrelref20Reader × Unit)) :=
 if decide (v.2.1 < (↑v.1.size : Int)) = true then
  if (0 : Int) ≤ v.2.1 then
   v.1[v.2.1.toNat]? >>= fun x1 =>
   if (0 : Int) ≤ v.2.1 then
    v.1[v.2.1.toNat]? >>= fun x2 =>
    n_123s1978 ((↑x1.toNat : Int), (↑x2.toNat : Int), v.2.2.1, ()) >>= fun x3 =>
    n_99s5873l1 (v.1, i64.wrap (v.2.1 + (1 : Int)), x3.2.1, ())
   else none
  else none
 else some ((v.2.2.1, ()))
 partial_fixpoint
noncomputable def n_99s5873 (v : ByteArray × Mandrelref20Reader × Unit) : Option (Mandrelref20Reader × Unit) :=
 n_99s5873l1 (v.1, (0 : Int), v.2.1, ()) >>= fun x1 =>
 some ((x1.1, ()))
noncomputable def call99s5873 : Caller vw := fun A fid args S k => match fid with | 123 => callObj prog sig123s1978 n_123s1978 A args S k | _ => none
noncomputable def x99s5873 : Xc vw := { P := prog, n := 19, call := call99s5873, sh := sh99s5873, loops := fun k => match k with | 1 => some { cut := c99s5873l1, alts := [.exit 0], F := n_99s5873l1 } | _ => none }
theorem call99s5873_ok : CallerOk prog call99s5873 := fun A fid args S dst k r h => by
 unfold call99s5873 at h
 split at h
 ·exact callObj_ok (n_123s1978_ok) h
 ·cases h
theorem n_99s5873l1_ok (C : Ctx) (hP : C.P = prog) (hN : C.N = 19) : LoopOk C (loopNo (bodyOf Tryz.f99) 0) (sh := sh99s5873) { cut := c99s5873l1, alts := [.exit 0], F := n_99s5873l1 } :=
 n_99s5873l1.partial_correctness (motive := fun v out => AWpL C (loopNo (bodyOf Tryz.f99) 0) (encS vw (conc vw c99s5873l1 v)) (OutQ sh99s5873 [.exit 0] out)) fun F ih v out h =>
  loop_step (X := x99s5873) (b := (loopNo (bodyOf Tryz.f99) 0)) hP hN Ty.mixed call99s5873_ok (lok_all (X := x99s5873) (c := (loopNo (bodyOf Tryz.f99) 0)) (kcast (by kernel_rfl : True = AllB (LoopsP C (x99s5873)) (loopsIn (loopNo (bodyOf Tryz.f99) 0))) trivial)) ih (kcast (by kernel_rfl) h)
theorem n_99s5873_ok : SigOk prog 99 sig99s5873 n_99s5873 := fun v r x h hx =>
 fn_ok (X := x99s5873) (sig := sig99s5873) rfl Tryz.func99 (c := bodyOf Tryz.f99) (by kernel_rfl) Tryz.ntmps99 (by kernel_rfl) (by kernel_rfl) rfl Ty.mixed call99s5873_ok rfl (fun C hP hN => (lok_all (kcast (by kernel_rfl : AllB (LoopsP C (x99s5873)) [(loopNo (bodyOf Tryz.f99) 0)] = AllB (LoopsP C (x99s5873)) (loopsIn (bodyOf Tryz.f99))) ⟨loop_at (X := x99s5873) (b := (loopNo (bodyOf Tryz.f99) 0)) (by kernel_rfl) (n_99s5873l1_ok C hP hN), trivial⟩))) (kcast (by kernel_rfl) h) x hx
noncomputable def c103sd34dl7 : Cut SN := ⟨[(0, .bp 100000 0), (1, .dat (.int .i64)), (2, .dat (.int .u8)), (6, .bp 6 0), (7, .bp 7 0)], [(100000, .st .mandrelref20ReaderT), (6, .st .tagT), (7, .box none [.dat (.int .i64), .dat (.int .i64), .dat .str, .vh 3073, .vh 3074]), (3073, .vec 9 .str), (3074, .vec 25 (.st .tagT))]⟩
noncomputable def c103sd34de0 : Cut SN := ⟨[(0, .bp 100000 0), (2, .dat (.int .u8)), (6, .bp 6 0), (7, .bp 7 0)], [(100000, .st .mandrelref20ReaderT), (6, .st .tagT), (7, .box none [.dat (.int .i64), .dat (.int .i64), .dat .str, .vh 3073, .vh 3074]), (3073, .vec 9 .str), (3074, .vec 25 (.st .tagT))]⟩
noncomputable def c103sd34dz : Cut SN := ⟨[(0, .bp 100000 0), (6, .bp 6 0)], [(100000, .st .mandrelref20ReaderT), (6, .st .tagT)]⟩
noncomputable def sh103sd34d : Shape vw := { exits := fun id => match id with | 0 => c103sd34de0 | _ => ⟨[], []⟩, rcut := c103sd34dz }
noncomputable def sig103sd34d : Sig vw := { params := [.bp 100000 0, .dat (.int .i64), .dat (.int .u8)], objs := [(100000, .st .mandrelref20ReaderT)], rcut := c103sd34dz, rvars := [.cell 6 25], keep := [100000] }
noncomputable def c67sa2e4r11 : Cut SN := ⟨[(0, .bp 100000 0), (2, .bp 2 0), (23, .dat .bool)], [(100000, .st .mandrelref20ReaderT), (2, .st .tagT)]⟩
noncomputable def c67sa2e4z : Cut SN := ⟨[(0, .bp 100000 0), (2, .bp 2 0)], [(100000, .st .mandrelref20ReaderT), (2, .st .tagT)]⟩
noncomputable def sh67sa2e4 : Shape vw := { rcut := c67sa2e4z }
noncomputable def sig67sa2e4 : Sig vw := { params := [.bp 100000 0], objs := [(100000, .st .mandrelref20ReaderT)], rcut := c67sa2e4z, rvars := [.cell 2 25], keep := [100000] }
mutual
noncomputable def n_103sd34dl7 (v : Int × Int × Mandrelref20Reader × Tag × Int × Int × ByteArray × (List ByteArray) × (List Tag) × Unit) : Option ((Int × Mandrelref20Reader × Tag × Int × Int × ByteArray × (List ByteArray) × (List Tag) × Unit)) :=
 if (!v.2.2.1.wrong) = true then
  n_68sa2e4 (v.2.2.1, ()) >>= fun x1 =>
  (if (v.1 == (6 : Int)) = true then
     n_102sa2e4 (x1.1, ()) >>= fun x2 =>
     if v.2.2.2.2.2.2.2.1.length + [x2.1].length ≤ (4294967296 : Nat) then
      n_68sa2e4 (x2.2.1, ()) >>= fun x3 =>
      n_123s1978 ((58 : Int), (58 : Int), x3.1, ()) >>= fun x4 =>
      some ((v.1, v.2.1, x4.2.1, v.2.2.2.1, v.2.2.2.2.1, v.2.2.2.2.2.1, v.2.2.2.2.2.2.1, v.2.2.2.2.2.2.2.1 ++ [x2.1], v.2.2.2.2.2.2.2.2.1, ()))
     else none
    else some ((v.1, v.2.1, x1.1, v.2.2.2.1, v.2.2.2.2.1, v.2.2.2.2.2.1, v.2.2.2.2.2.2.1, v.2.2.2.2.2.2.2.1, v.2.2.2.2.2.2.2.2.1, ()))) >>= fun x2 =>
  n_67sa2e4 (x2.2.2.1, ()) >>= fun x3 =>
  if x2.2.2.2.2.2.2.2.2.1.length + [x3.2.1].length ≤ (4294967296 : Nat) then
   n_68sa2e4 (x3.1, ()) >>= fun x4 =>
   n_98s5873 (ByteArray.mk #[44], x4.1, ()) >>= fun x5 =>
   if (!x5.1) = true then
    some ((x2.2.1, x5.2.1, x2.2.2.2.1, x2.2.2.2.2.1, x2.2.2.2.2.2.1, x2.2.2.2.2.2.2.1, x2.2.2.2.2.2.2.2.1, x2.2.2.2.2.2.2.2.2.1 ++ [x3.2.1], ()))
   else n_103sd34dl7 (x2.1, x2.2.1, Mandrelref20Reader.mk x5.2.1.s (i64.wrap (x5.2.1.at0 + (1 : Int))) x5.2.1.wrong, x2.2.2.2.1, x2.2.2.2.2.1, x2.2.2.2.2.2.1, x2.2.2.2.2.2.2.1, x2.2.2.2.2.2.2.2.1, x2.2.2.2.2.2.2.2.2.1 ++ [x3.2.1], ())
  else none
 else some ((v.2.1, v.2.2.1, v.2.2.2.1, v.2.2.2.2.1, v.2.2.2.2.2.1, v.2.2.2.2.2.2.1, v.2.2.2.2.2.2.2.1, v.2.2.2.2.2.2.2.2.1, ()))
 partial_fixpoint
noncomputable def n_67sa2e4 (v : Mandrelref20Reader × Unit) : Option (Mandrelref20Reader × Tag × Unit) :=
 n_68sa2e4 (v.1, ()) >>= fun x1 =>
 n_98s5873 (ByteArray.mk #[110], x1.1, ()) >>= fun x2 =>
 if x2.1 = true then
  n_99s5873 (ByteArray.mk #[110, 117, 108, 108], x2.2.1, ()) >>= fun x3 =>
  some ((x3.1, Tag.mk (0 : Int) (0 : Int) (ByteArray.mk #[]) [] [], ()))
 else n_98s5873 (ByteArray.mk #[102], x2.2.1, ()) >>= fun x3 =>
 if x3.1 = true then
  n_99s5873 (ByteArray.mk #[102, 97, 108, 115, 101], x3.2.1, ()) >>= fun x4 =>
  some ((x4.1, Tag.mk (1 : Int) (0 : Int) (ByteArray.mk #[]) [] [], ()))
 else n_98s5873 (ByteArray.mk #[116], x3.2.1, ()) >>= fun x4 =>
 if x4.1 = true then
  n_99s5873 (ByteArray.mk #[116, 114, 117, 101], x4.2.1, ()) >>= fun x5 =>
  some ((x5.1, Tag.mk (2 : Int) (0 : Int) (ByteArray.mk #[]) [] [], ()))
 else (n_98s5873 (ByteArray.mk #[45], x4.2.1, ()) >>= fun x5 =>
  if x5.1 = true then
   some ((true, x5.2.1, Tag.mk (0 : Int) (0 : Int) (ByteArray.mk #[]) [] [], ()))
  else n_100s1978 ((48 : Int), (57 : Int), x5.2.1, ()) >>= fun x6 =>
  some ((x6.1, x6.2.1, Tag.mk (0 : Int) (0 : Int) (ByteArray.mk #[]) [] [], ()))) >>= fun x5 =>
 if x5.1 = true then
  n_101sa2e4 (x5.2.1, ()) >>= fun x6 =>
  some ((x6.2.1, Tag.mk (3 : Int) x6.1 (ByteArray.mk #[]) [] [], ()))
 else n_98s5873 (ByteArray.mk #[34], x5.2.1, ()) >>= fun x6 =>
 if x6.1 = true then
  n_102sa2e4 (x6.2.1, ()) >>= fun x7 =>
  some ((x7.2.1, Tag.mk (4 : Int) (0 : Int) x7.1 [] [], ()))
 else n_98s5873 (ByteArray.mk #[91], x6.2.1, ()) >>= fun x7 =>
 if x7.1 = true then
  n_103sd34d ((5 : Int), (93 : Int), x7.2.1, ()) >>= fun x8 =>
  some ((x8.1, x8.2.1, ()))
 else n_98s5873 (ByteArray.mk #[123], x7.2.1, ()) >>= fun x8 =>
 if x8.1 = true then
  n_103sd34d ((6 : Int), (125 : Int), x8.2.1, ()) >>= fun x9 =>
  some ((x9.1, x9.2.1, ()))
 else n_104sa2e4 (x8.2.1, ()) >>= fun x9 =>
 some ((x9.1, Tag.mk (0 : Int) (0 : Int) (ByteArray.mk #[]) [] [], ()))
 partial_fixpoint
noncomputable def n_103sd34d (v : Int × Int × Mandrelref20Reader × Unit) : Option (Mandrelref20Reader × Tag × Unit) :=
 some (v.1, v.2.1, v.2.2.1, Tag.mk (0 : Int) (0 : Int) (ByteArray.mk #[]) [] [], v.1, (0 : Int), ByteArray.mk #[], [], [], ()) >>= fun x1 =>
 n_68sa2e4 (Mandrelref20Reader.mk x1.2.2.1.s (i64.wrap (x1.2.2.1.at0 + (1 : Int))) x1.2.2.1.wrong, ()) >>= fun x2 =>
 n_100s1978 (x1.2.1, x1.2.1, x2.1, ()) >>= fun x3 =>
 if x3.1 = true then
  some ((Mandrelref20Reader.mk x3.2.1.s (i64.wrap (x3.2.1.at0 + (1 : Int))) x3.2.1.wrong, Tag.mk x1.2.2.2.2.1 x1.2.2.2.2.2.1 x1.2.2.2.2.2.2.1 x1.2.2.2.2.2.2.2.1 x1.2.2.2.2.2.2.2.2.1, ()))
 else n_103sd34dl7 (x1.1, x1.2.1, x3.2.1, x1.2.2.2.1, x1.2.2.2.2.1, x1.2.2.2.2.2.1, x1.2.2.2.2.2.2.1, x1.2.2.2.2.2.2.2.1, x1.2.2.2.2.2.2.2.2.1, ()) >>= fun x4 =>
 n_123s1978 (x4.1, x4.1, x4.2.1, ()) >>= fun x5 =>
 some ((x5.2.1, Tag.mk x4.2.2.2.1 x4.2.2.2.2.1 x4.2.2.2.2.2.1 x4.2.2.2.2.2.2.1 x4.2.2.2.2.2.2.2.1, ()))
 partial_fixpoint
end
noncomputable def call103sd34d (n_103sd34dl7 : Int × Int × Mandrelref20Reader × Tag × Int × Int × ByteArray × (List ByteArray) × (List Tag) × Unit → Option ((Int × Mandrelref20Reader × Tag × Int × Int × ByteArray × (List ByteArray) × (List Tag) × Unit))) (n_67sa2e4 : Mandrelref20Reader × Unit → Option (Mandrelref20Reader × Tag × Unit)) (n_103sd34d : Int × Int × Mandrelref20Reader × Unit → Option (Mandrelref20Reader × Tag × Unit)) : Caller vw := fun A fid args S k => match fid with | 67 => callObj prog sig67sa2e4 n_67sa2e4 A args S k | 68 => callObj prog sig68sa2e4 n_68sa2e4 A args S k | 98 => callObj prog sig98s5873 n_98s5873 A args S k | 100 => callObj prog sig100s1978 n_100s1978 A args S k | 102 => callObj prog sig102sa2e4 n_102sa2e4 A args S k | 123 => callObj prog sig123s1978 n_123s1978 A args S k | _ => none
noncomputable def x103sd34d (n_103sd34dl7 : Int × Int × Mandrelref20Reader × Tag × Int × Int × ByteArray × (List ByteArray) × (List Tag) × Unit → Option ((Int × Mandrelref20Reader × Tag × Int × Int × ByteArray × (List ByteArray) × (List Tag) × Unit))) (n_67sa2e4 : Mandrelref20Reader × Unit → Option (Mandrelref20Reader × Tag × Unit)) (n_103sd34d : Int × Int × Mandrelref20Reader × Unit → Option (Mandrelref20Reader × Tag × Unit)) : Xc vw := { P := prog, n := 75, nm := fun d => match d with | 9 => 40009 | _ => d, call := call103sd34d n_103sd34dl7 n_67sa2e4 n_103sd34d, sh := sh103sd34d, joins := fun k => match k with | 13 => some (c103sd34dl7, [.norm]) | _ => none, regs := fun k => match k with | 1 => some c103sd34dl7 | _ => none, loops := fun k => match k with | 7 => some { cut := c103sd34dl7, alts := [.exit 0], F := n_103sd34dl7 } | _ => none }
noncomputable def call67sa2e4 (n_103sd34dl7 : Int × Int × Mandrelref20Reader × Tag × Int × Int × ByteArray × (List ByteArray) × (List Tag) × Unit → Option ((Int × Mandrelref20Reader × Tag × Int × Int × ByteArray × (List ByteArray) × (List Tag) × Unit))) (n_67sa2e4 : Mandrelref20Reader × Unit → Option (Mandrelref20Reader × Tag × Unit)) (n_103sd34d : Int × Int × Mandrelref20Reader × Unit → Option (Mandrelref20Reader × Tag × Unit)) : Caller vw := fun A fid args S k => match fid with | 68 => callObj prog sig68sa2e4 n_68sa2e4 A args S k | 98 => callObj prog sig98s5873 n_98s5873 A args S k | 99 => callObj prog sig99s5873 n_99s5873 A args S k | 100 => callObj prog sig100s1978 n_100s1978 A args S k | 101 => callObj prog sig101sa2e4 n_101sa2e4 A args S k | 102 => callObj prog sig102sa2e4 n_102sa2e4 A args S k | 103 => callObj prog sig103sd34d n_103sd34d A args S k | 104 => callObj prog sig104sa2e4 n_104sa2e4 A args S k | _ => none
noncomputable def x67sa2e4 (n_103sd34dl7 : Int × Int × Mandrelref20Reader × Tag × Int × Int × ByteArray × (List ByteArray) × (List Tag) × Unit → Option ((Int × Mandrelref20Reader × Tag × Int × Int × ByteArray × (List ByteArray) × (List Tag) × Unit))) (n_67sa2e4 : Mandrelref20Reader × Unit → Option (Mandrelref20Reader × Tag × Unit)) (n_103sd34d : Int × Int × Mandrelref20Reader × Unit → Option (Mandrelref20Reader × Tag × Unit)) : Xc vw := { P := prog, n := 52, call := call67sa2e4 n_103sd34dl7 n_67sa2e4 n_103sd34d, sh := sh67sa2e4, regs := fun k => match k with | 11 => some c67sa2e4r11 | _ => none }
abbrev mn_103sd34dl7 (v : Int × Int × Mandrelref20Reader × Tag × Int × Int × ByteArray × (List ByteArray) × (List Tag) × Unit) (r : (Int × Mandrelref20Reader × Tag × Int × Int × ByteArray × (List ByteArray) × (List Tag) × Unit)) : Prop := (fun v out => ∀ C : Ctx, C.P = prog → C.N = 75 → AWpL C (loopNo (bodyOf Tryz.f103) 0) (encS vw (conc vw c103sd34dl7 v)) (OutQ sh103sd34d [.exit 0] out)) v r
abbrev mn_67sa2e4 (v : Mandrelref20Reader × Unit) (r : Mandrelref20Reader × Tag × Unit) : Prop := (fun v r => ∀ x, resV prog sig67sa2e4 r = some x → FnOk prog 67 (encL vw (startS sig67sa2e4 v).len (startOs sig67sa2e4 v).1) (encOs (startS sig67sa2e4 v).len (startS sig67sa2e4 v).own) (encV vw (conc vw sig67sa2e4.rcut r).len x) (encOs (conc vw sig67sa2e4.rcut r).len (kept sig67sa2e4 r))) v r
abbrev mn_103sd34d (v : Int × Int × Mandrelref20Reader × Unit) (r : Mandrelref20Reader × Tag × Unit) : Prop := (fun v r => ∀ x, resV prog sig103sd34d r = some x → FnOk prog 103 (encL vw (startS sig103sd34d v).len (startOs sig103sd34d v).1) (encOs (startS sig103sd34d v).len (startS sig103sd34d v).own) (encV vw (conc vw sig103sd34d.rcut r).len x) (encOs (conc vw sig103sd34d.rcut r).len (kept sig103sd34d r))) v r
theorem cn_103sd34dl7 (f0 : Int × Int × Mandrelref20Reader × Tag × Int × Int × ByteArray × (List ByteArray) × (List Tag) × Unit → Option ((Int × Mandrelref20Reader × Tag × Int × Int × ByteArray × (List ByteArray) × (List Tag) × Unit))) (f1 : Mandrelref20Reader × Unit → Option (Mandrelref20Reader × Tag × Unit)) (h0 : ∀ v r, f0 v = some r → mn_103sd34dl7 v r) (h1 : ∀ v r, f1 v = some r → mn_67sa2e4 v r) : CallerOk prog (x103sd34d f0 f1 (fun _ => none)).call := (by
    intro A fid args S dst k r h
    unfold x103sd34d call103sd34d at h
    simp only at h
    split at h
    ·exact callObj_ok ((fun v r x h hx => h1 v r h x hx)) h
    ·exact callObj_ok (n_68sa2e4_ok) h
    ·exact callObj_ok (n_98s5873_ok) h
    ·exact callObj_ok (n_100s1978_ok) h
    ·exact callObj_ok (n_102sa2e4_ok) h
    ·exact callObj_ok (n_123s1978_ok) h
    ·cases h)
theorem sn_103sd34dl7 (f0 : Int × Int × Mandrelref20Reader × Tag × Int × Int × ByteArray × (List ByteArray) × (List Tag) × Unit → Option ((Int × Mandrelref20Reader × Tag × Int × Int × ByteArray × (List ByteArray) × (List Tag) × Unit))) (f1 : Mandrelref20Reader × Unit → Option (Mandrelref20Reader × Tag × Unit)) (h0 : ∀ v r, f0 v = some r → mn_103sd34dl7 v r) (h1 : ∀ v r, f1 v = some r → mn_67sa2e4 v r) (v : Int × Int × Mandrelref20Reader × Tag × Int × Int × ByteArray × (List ByteArray) × (List Tag) × Unit) (r : (Int × Mandrelref20Reader × Tag × Int × Int × ByteArray × (List ByteArray) × (List Tag) × Unit)) (h : exL (x103sd34d f0 f1 (fun _ => none)) (loopNo (bodyOf Tryz.f103) 0) c103sd34dl7 [.exit 0] f0 v = some r) : mn_103sd34dl7 v r := fun C hP hN => loop_step (X := x103sd34d f0 f1 (fun _ => none)) (b := (loopNo (bodyOf Tryz.f103) 0)) hP hN Ty.mixed (cn_103sd34dl7 f0 f1 h0 h1) (lok_all (X := x103sd34d f0 f1 (fun _ => none)) (c := (loopNo (bodyOf Tryz.f103) 0)) (kcast (by kernel_rfl : True = AllB (LoopsP C (x103sd34d f0 f1 (fun _ => none))) (loopsIn (loopNo (bodyOf Tryz.f103) 0))) trivial)) (cut := c103sd34dl7) (alts := [.exit 0]) (F := f0) (fun v out h => h0 v out h C hP hN) h
theorem cn_67sa2e4 (f0 : Int × Int × Mandrelref20Reader × Unit → Option (Mandrelref20Reader × Tag × Unit)) (h0 : ∀ v r, f0 v = some r → mn_103sd34d v r) : CallerOk prog (x67sa2e4 (fun _ => none) (fun _ => none) f0).call := (by
    intro A fid args S dst k r h
    unfold x67sa2e4 call67sa2e4 at h
    simp only at h
    split at h
    ·exact callObj_ok (n_68sa2e4_ok) h
    ·exact callObj_ok (n_98s5873_ok) h
    ·exact callObj_ok (n_99s5873_ok) h
    ·exact callObj_ok (n_100s1978_ok) h
    ·exact callObj_ok (n_101sa2e4_ok) h
    ·exact callObj_ok (n_102sa2e4_ok) h
    ·exact callObj_ok ((fun v r x h hx => h0 v r h x hx)) h
    ·exact callObj_ok (n_104sa2e4_ok) h
    ·cases h)
theorem sn_67sa2e4 (f0 : Int × Int × Mandrelref20Reader × Unit → Option (Mandrelref20Reader × Tag × Unit)) (h0 : ∀ v r, f0 v = some r → mn_103sd34d v r) (v : Mandrelref20Reader × Unit) (r : Mandrelref20Reader × Tag × Unit) (h : exF (x67sa2e4 (fun _ => none) (fun _ => none) f0) sig67sa2e4 rfl (bodyOf Tryz.f67) v = some r) : mn_67sa2e4 v r := fun x hx => fn_ok (X := x67sa2e4 (fun _ => none) (fun _ => none) f0) (sig := sig67sa2e4) rfl Tryz.func67 (c := bodyOf Tryz.f67) (by kernel_rfl) Tryz.ntmps67 (by kernel_rfl) (by kernel_rfl) rfl Ty.mixed (cn_67sa2e4 f0 h0) rfl (fun C hP hN => (lok_all (X := x67sa2e4 (fun _ => none) (fun _ => none) f0) (c := (bodyOf Tryz.f67)) (kcast (by kernel_rfl : True = AllB (LoopsP C (x67sa2e4 (fun _ => none) (fun _ => none) f0)) (loopsIn (bodyOf Tryz.f67))) trivial))) h x hx
theorem cn_103sd34d (f0 : Int × Int × Mandrelref20Reader × Tag × Int × Int × ByteArray × (List ByteArray) × (List Tag) × Unit → Option ((Int × Mandrelref20Reader × Tag × Int × Int × ByteArray × (List ByteArray) × (List Tag) × Unit))) (h0 : ∀ v r, f0 v = some r → mn_103sd34dl7 v r) : CallerOk prog (x103sd34d f0 (fun _ => none) (fun _ => none)).call := (by
    intro A fid args S dst k r h
    unfold x103sd34d call103sd34d at h
    simp only at h
    split at h
    ·exact callObj_ok ((fun v r x h hx => by cases h)) h
    ·exact callObj_ok (n_68sa2e4_ok) h
    ·exact callObj_ok (n_98s5873_ok) h
    ·exact callObj_ok (n_100s1978_ok) h
    ·exact callObj_ok (n_102sa2e4_ok) h
    ·exact callObj_ok (n_123s1978_ok) h
    ·cases h)
theorem sn_103sd34d (f0 : Int × Int × Mandrelref20Reader × Tag × Int × Int × ByteArray × (List ByteArray) × (List Tag) × Unit → Option ((Int × Mandrelref20Reader × Tag × Int × Int × ByteArray × (List ByteArray) × (List Tag) × Unit))) (h0 : ∀ v r, f0 v = some r → mn_103sd34dl7 v r) (v : Int × Int × Mandrelref20Reader × Unit) (r : Mandrelref20Reader × Tag × Unit) (h : exF (x103sd34d f0 (fun _ => none) (fun _ => none)) sig103sd34d rfl (bodyOf Tryz.f103) v = some r) : mn_103sd34d v r := fun x hx => fn_ok (X := x103sd34d f0 (fun _ => none) (fun _ => none)) (sig := sig103sd34d) rfl Tryz.func103 (c := bodyOf Tryz.f103) (by kernel_rfl) Tryz.ntmps103 (by kernel_rfl) (by kernel_rfl) rfl Ty.mixed (cn_103sd34d f0 h0) rfl (fun C hP hN => (lok_all (X := x103sd34d f0 (fun _ => none) (fun _ => none)) (c := (bodyOf Tryz.f103)) (kcast (by kernel_rfl : AllB (LoopsP C (x103sd34d f0 (fun _ => none) (fun _ => none))) [(loopNo (bodyOf Tryz.f103) 0)] = AllB (LoopsP C (x103sd34d f0 (fun _ => none) (fun _ => none))) (loopsIn (bodyOf Tryz.f103))) ⟨loop_at (X := x103sd34d f0 (fun _ => none) (fun _ => none)) (b := (loopNo (bodyOf Tryz.f103) 0)) (by kernel_rfl) (show LoopOk C (loopNo (bodyOf Tryz.f103) 0) (sh := sh103sd34d) { cut := c103sd34dl7, alts := [.exit 0], F := f0 } from fun v out h => h0 v out h C hP hN), trivial⟩))) h x hx
theorem n_103sd34dl7_all : (∀ v r, n_103sd34dl7 v = some r → mn_103sd34dl7 v r) ∧ (∀ v r, n_67sa2e4 v = some r → mn_67sa2e4 v r) ∧ (∀ v r, n_103sd34d v = some r → mn_103sd34d v r) := by
 refine n_103sd34dl7.mutual_partial_correctness
  (motive_1 := mn_103sd34dl7)
  (motive_2 := mn_67sa2e4)
  (motive_3 := mn_103sd34d)
  ?_ ?_ ?_
 ·exact (fun f0 f1 h0 h1 v r h => sn_103sd34dl7 f0 f1 h0 h1 v r (kcast (by kernel_rfl) h))
 ·exact (fun f0 h0 v r h => sn_67sa2e4 f0 h0 v r (kcast (by kernel_rfl) h))
 ·exact (fun f0 h0 v r h => sn_103sd34d f0 h0 v r (kcast (by kernel_rfl) h))
theorem n_67sa2e4_ok : SigOk prog 67 sig67sa2e4 n_67sa2e4 := fun v r x h hx => n_103sd34dl7_all.2.1 v r h x hx
noncomputable def c34r6 : Cut SN := ⟨[(0, .dat .str), (2, .bp 2 0), (5, .bp 14 0), (6, .bp 6 0), (31, .dat .bool)], [(2, .st .tagT), (14, .st .mandrelref20ReaderT), (6, .st .tagT)]⟩
noncomputable def sh34 : Shape vw := { rcut := c31z }
noncomputable def sig34 : Sig vw := { params := [.dat .str], rcut := c31z, rvars := [.cell 2 25, .tmp 3, .tmp 4] }
noncomputable def n_34 (v : ByteArray × Unit) : Option (Int × Int × Tag × Unit) :=
 if decide ((↑v.1.size : Int) > (65536 : Int)) = true then
  some (((0 : Int), (3 : Int), Tag.mk (0 : Int) (0 : Int) (ByteArray.mk #[]) [] [], ()))
 else n_67sa2e4 (Mandrelref20Reader.mk v.1 (0 : Int) false, ()) >>= fun x1 =>
 n_68sa2e4 (x1.1, ()) >>= fun x2 =>
 (if x2.1.wrong = true then
    some ((v.1, true, Tag.mk (0 : Int) (0 : Int) (ByteArray.mk #[]) [] [], x2.1, x1.2.1, ()))
   else some ((v.1, decide (x2.1.at0 < (↑v.1.size : Int)), Tag.mk (0 : Int) (0 : Int) (ByteArray.mk #[]) [] [], x2.1, x1.2.1, ()))) >>= fun x3 =>
 if x3.2.1 = true then
  some ((x3.2.2.2.1.at0, (2 : Int), Tag.mk (0 : Int) (0 : Int) (ByteArray.mk #[]) [] [], ()))
 else n_30 (x3.2.2.2.2.1, ()) >>= fun x4 =>
 if (x4.1 != (0 : Int)) = true then
  some (((0 : Int), x4.1, Tag.mk (0 : Int) (0 : Int) (ByteArray.mk #[]) [] [], ()))
 else some (((↑x3.1.size : Int), (0 : Int), x3.2.2.2.2.1, ()))
noncomputable def call34 : Caller vw := fun A fid args S k => match fid with | 30 => callPure prog sig30 n_30 A args S k | 67 => callObj prog sig67sa2e4 n_67sa2e4 A args S k | 68 => callObj prog sig68sa2e4 n_68sa2e4 A args S k | _ => none
noncomputable def x34 : Xc vw := { P := prog, n := 46, call := call34, sh := sh34, regs := fun k => match k with | 6 => some c34r6 | _ => none }
theorem call34_ok : CallerOk prog call34 := fun A fid args S dst k r h => by
 unfold call34 at h
 split at h
 ·exact callPure_ok (n_30_ok) rfl rfl h
 ·exact callObj_ok (n_67sa2e4_ok) h
 ·exact callObj_ok (n_68sa2e4_ok) h
 ·cases h
theorem n_34_ok : SigOk prog 34 sig34 n_34 := fun v r x h hx =>
 fn_ok (X := x34) (sig := sig34) rfl Tryz.func34 (c := bodyOf Tryz.f34) (by kernel_rfl) Tryz.ntmps34 (by kernel_rfl) (by kernel_rfl) rfl Ty.mixed call34_ok rfl (fun C hP hN => (lok_all (kcast (by kernel_rfl) trivial))) (kcast (by kernel_rfl) h) x hx
noncomputable def c10r5 : Cut SN := ⟨[(3, .bp 3 0), (5, .dat (.int .i64)), (43, .dat .bool)], [(3, .st .tagT)]⟩
noncomputable def sh10 : Shape vw := { rcut := c87z }
noncomputable def sig10 : Sig vw := { params := [.dat .str], rcut := c87z, rvars := [.tmp 2] }
noncomputable def n_10 (v : ByteArray × Unit) : Option (Bool × Unit) :=
 if decide ((↑v.1.size : Int) > (20000 : Int)) = true then
  n_15 () >>= fun x1 =>
  some ((x1.1, ()))
 else n_31 (v.1, ()) >>= fun x1 =>
 n_34 (v.1, ()) >>= fun x2 =>
 (n_18 (x1.2.2.1, x2.2.2.1, ()) >>= fun x3 =>
   if (!x3.1) = true then
    some ((x1.2.1, true, x1.2.2.1, ()))
   else if (x1.1 != x2.1) = true then
    some ((x1.2.1, true, x1.2.2.1, ()))
   else some ((x1.2.1, x1.2.1 != x2.2.1, x1.2.2.1, ()))) >>= fun x3 =>
 if x3.2.1 = true then
  some ((false, ()))
 else if (x3.1 != (0 : Int)) = true then
  n_15 () >>= fun x4 =>
  some ((x4.1, ()))
 else n_27 (x3.2.2.1, ()) >>= fun x4 =>
 n_31 (x4.1, ()) >>= fun x5 =>
 (if (x4.2.1 == (0 : Int)) = true then
    if (x5.2.1 == (0 : Int)) = true then
     n_18 (x5.2.2.1, x3.2.2.1, ()) >>= fun x6 =>
     if x6.1 = true then
      n_15 () >>= fun x7 =>
      some ((x7.1, ()))
     else some ((false, ()))
    else some ((false, ()))
   else some ((false, ()))) >>= fun x6 =>
 some ((x6.1, ()))
noncomputable def call10 : Caller vw := fun A fid args S k => match fid with | 15 => callPure prog sig15 n_15 A args S k | 18 => callPure prog sig18 n_18 A args S k | 27 => callPure prog sig27 n_27 A args S k | 31 => callPure prog sig31 n_31 A args S k | 34 => callPure prog sig34 n_34 A args S k | _ => none
noncomputable def x10 : Xc vw := { P := prog, n := 72, call := call10, sh := sh10, regs := fun k => match k with | 5 => some c10r5 | 11 => some c87z | _ => none }
theorem call10_ok : CallerOk prog call10 := fun A fid args S dst k r h => by
 unfold call10 at h
 split at h
 ·exact callPure_ok (n_15_ok) rfl rfl h
 ·exact callPure_ok (n_18_ok) rfl rfl h
 ·exact callPure_ok (n_27_ok) rfl rfl h
 ·exact callPure_ok (n_31_ok) rfl rfl h
 ·exact callPure_ok (n_34_ok) rfl rfl h
 ·cases h
theorem n_10_ok : SigOk prog 10 sig10 n_10 := fun v r x h hx =>
 fn_ok (X := x10) (sig := sig10) rfl Tryz.func10 (c := bodyOf Tryz.f10) (by kernel_rfl) Tryz.ntmps10 (by kernel_rfl) (by kernel_rfl) rfl Ty.mixed call10_ok rfl (fun C hP hN => (lok_all (kcast (by kernel_rfl) trivial))) (kcast (by kernel_rfl) h) x hx
end Go.Proofs.YtdmggfegkaiaiaaGreatDoor
end
section
namespace Go.Proofs.YtdmggfegkaiaiaaGreatDoor
open Go.Awp Go.Tx
open IntKind (i64)
set_option maxRecDepth 100000
noncomputable def n_85l3 (v : ByteArray × ByteArray × Int × Unit) : Option ((ByteArray × Unit)) :=
 if decide (v.2.2.1 < (↑v.1.size : Int)) = true then
  (if (0 : Int) ≤ v.2.2.1 then
     v.1[v.2.2.1.toNat]? >>= fun x1 =>
     if ((↑x1.toNat : Int) == (34 : Int)) = true then
      if v.2.1.size + (ByteArray.mk #[92, 34]).size ≤ (4294967296 : Nat) then
       some ((v.1, v.2.1 ++ ByteArray.mk #[92, 34], v.2.2.1, ()))
      else none
     else if ((↑x1.toNat : Int) == (92 : Int)) = true then
      if v.2.1.size + (ByteArray.mk #[92, 92]).size ≤ (4294967296 : Nat) then
       some ((v.1, v.2.1 ++ ByteArray.mk #[92, 92], v.2.2.1, ()))
      else none
     else if ((↑x1.toNat : Int) == (10 : Int)) = true then
      if v.2.1.size + (ByteArray.mk #[92, 110]).size ≤ (4294967296 : Nat) then
       some ((v.1, v.2.1 ++ ByteArray.mk #[92, 110], v.2.2.1, ()))
      else none
     else if ((↑x1.toNat : Int) == (13 : Int)) = true then
      if v.2.1.size + (ByteArray.mk #[92, 114]).size ≤ (4294967296 : Nat) then
       some ((v.1, v.2.1 ++ ByteArray.mk #[92, 114], v.2.2.1, ()))
      else none
     else if ((↑x1.toNat : Int) == (9 : Int)) = true then
      if v.2.1.size + (ByteArray.mk #[92, 116]).size ≤ (4294967296 : Nat) then
       some ((v.1, v.2.1 ++ ByteArray.mk #[92, 116], v.2.2.1, ()))
      else none
     else if ((↑x1.toNat : Int) == (8 : Int)) = true then
      if v.2.1.size + (ByteArray.mk #[92, 98]).size ≤ (4294967296 : Nat) then
       some ((v.1, v.2.1 ++ ByteArray.mk #[92, 98], v.2.2.1, ()))
      else none
     else if ((↑x1.toNat : Int) == (12 : Int)) = true then
      if v.2.1.size + (ByteArray.mk #[92, 102]).size ≤ (4294967296 : Nat) then
       some ((v.1, v.2.1 ++ ByteArray.mk #[92, 102], v.2.2.1, ()))
      else none
     else if decide ((↑x1.toNat : Int) < (32 : Int)) = true then
      (ByteArray.mk #[48, 49, 50, 51, 52, 53, 54, 55, 56, 57, 97, 98, 99, 100, 101, 102])[(IntKind.u8.wrap ((↑x1.toNat : Int).tdiv (16 : Int))).toNat]? >>= fun x2 =>
      if (ByteArray.mk #[92, 117, 48, 48]).size + (Bs.enc1 (↑x2.toNat : Int)).size ≤ (4294967296 : Nat) then
       (ByteArray.mk #[48, 49, 50, 51, 52, 53, 54, 55, 56, 57, 97, 98, 99, 100, 101, 102])[((↑x1.toNat : Int).tmod (16 : Int)).toNat]? >>= fun x3 =>
       if (ByteArray.mk #[92, 117, 48, 48] ++ Bs.enc1 (↑x2.toNat : Int)).size + (Bs.enc1 (↑x3.toNat : Int)).size ≤ (4294967296 : Nat) then
        if v.2.1.size + (ByteArray.mk #[92, 117, 48, 48] ++ Bs.enc1 (↑x2.toNat : Int) ++ Bs.enc1 (↑x3.toNat : Int)).size ≤ (4294967296 : Nat) then
         some ((v.1, v.2.1 ++ (ByteArray.mk #[92, 117, 48, 48] ++ Bs.enc1 (↑x2.toNat : Int) ++ Bs.enc1 (↑x3.toNat : Int)), v.2.2.1, ()))
        else none
       else none
      else none
     else if (0 : Int) ≤ v.2.2.1 ∧ v.2.2.1 ≤ i64.wrap (v.2.2.1 + (1 : Int)) ∧ i64.wrap (v.2.2.1 + (1 : Int)) ≤ (↑v.1.size : Int) then
      if v.2.1.size + (v.1.extract v.2.2.1.toNat (i64.wrap (v.2.2.1 + (1 : Int))).toNat).size ≤ (4294967296 : Nat) then
       some ((v.1, v.2.1 ++ v.1.extract v.2.2.1.toNat (i64.wrap (v.2.2.1 + (1 : Int))).toNat, v.2.2.1, ()))
      else none
     else none
    else none) >>= fun x1 =>
  n_85l3 (x1.1, x1.2.1, i64.wrap (x1.2.2.1 + (1 : Int)), ())
 else some ((v.2.1, ()))
 partial_fixpoint
noncomputable def n_85 (v : ByteArray × Unit) : Option (ByteArray × Unit) :=
 n_85l3 (v.1, ByteArray.mk #[34], (0 : Int), ()) >>= fun x1 =>
 if x1.1.size + (ByteArray.mk #[34]).size ≤ (4294967296 : Nat) then
  some ((x1.1 ++ ByteArray.mk #[34], ()))
 else none
end Go.Proofs.YtdmggfegkaiaiaaGreatDoor
end
section
namespace Go.Proofs.YtdmggfegkaiaiaaGreatDoor
open Go.Awp Go.Tx
set_option maxRecDepth 20000
theorem sW : (∀ {α β : Type} (x : Option α) (f : α → Option β), (x >>= f) = x.bind f) ∧ (∀ {α β : Type} (a : α) (f : α → Option β), (some a).bind f = f a) ∧ (∀ {α β : Type} (f : α → Option β), (none : Option α).bind f = none) ∧
 (∀ {α : Type} {h : Decidable True} (a b : α), @ite α True h a b = a) ∧ (∀ {α : Type} {h : Decidable False} (a b : α), @ite α False h a b = b) ∧ ((false = true) = False) ∧ ((true = false) = False) ∧ (∀ n : Nat, (n : Int).toNat = n) ∧ (∀ n : Nat, 0 ≤ (n : Int)) ∧
 (∀ {α : Type} [BEq α] [LawfulBEq α] {a b : α}, (a == b) = true ↔ a = b) ∧ (∀ {p : Prop} [Decidable p], decide p = true ↔ p) ∧ (∀ {n m : Nat}, (n : Int) < m ↔ n < m) :=
 ⟨fun _ _ => rfl, fun _ _ => rfl, fun _ => rfl, fun {α h} a b => @if_true α h a b, fun {α h} a b => @if_false α h a b, by simp, by simp, fun _ => rfl, Int.natCast_nonneg, beq_iff_eq, fun {p} _ => Iff.of_eq (decide_eq_true_eq (p := p)), Int.ofNat_lt⟩
theorem Tag.ind {P : Tag → Prop} (h : ∀ t : Tag, (∀ p ∈ t.parts, P p) → P t) (t : Tag) : P t := h t fun p hp => Tag.ind h p
termination_by SizeOf.sizeOf t
decreasing_by
 have := List.sizeOf_lt_of_mem hp
 cases t
 simp at *
 omega
theorem wrap64 {x : Int} (h1 : -9223372036854775808 ≤ x) (h2 : x ≤ 9223372036854775807) : IntKind.i64.wrap x = x := by
 unfold IntKind.wrap
 simp only [IntKind.bits, IntKind.signed, Bool.true_and]
 split <;> rename_i h <;> simp at h <;> omega
theorem wrap_succ {k n : Nat} (h : k < n) (hn : n ≤ 9223372036854775807) : IntKind.i64.wrap ((k : Int) + 1) = ((k + 1 : Nat) : Int) := by rw [wrap64 (by omega) (by omega)]; omega
theorem at_lt {α : Type} {xs : List α} {k : Nat} (h : k < xs.length) : ∃ p, xs[k]? = some p ∧ p ∈ xs ∧ xs.drop k = p :: xs.drop (k + 1) ∧ ((k : Int) < (xs.length : Int)) ∧ (0 : Int) ≤ (k : Int) :=
 ⟨xs[k], List.getElem?_eq_getElem h, List.getElem_mem h, List.drop_eq_getElem_cons h, by omega, by omega⟩
theorem at_end {α : Type} {xs : List α} {k : Nat} (h : ¬ k < xs.length) : xs.drop k = [] ∧ ¬ ((k : Int) < (xs.length : Int)) := ⟨List.drop_eq_nil_of_le (by omega), by omega⟩
inductive Tag.Wf : Tag → Prop
 | mk {t : Tag} : t.names.length ≤ 9223372036854775807 → t.parts.length ≤ 9223372036854775807 → (∀ p ∈ t.parts, Tag.Wf p) → Tag.Wf t
theorem Tag.Wf.names {t : Tag} (h : t.Wf) : t.names.length ≤ 9223372036854775807 := by cases h; assumption
theorem Tag.Wf.parts {t : Tag} (h : t.Wf) : t.parts.length ≤ 9223372036854775807 := by cases h; assumption
theorem Tag.Wf.part {t p : Tag} (h : t.Wf) (hp : p ∈ t.parts) : p.Wf := by cases h with | mk _ _ h => exact h p hp
theorem f43a (t : Tag) (ht : t.Wf) (a b : Int) : ∀ (m k : Nat) (c : Int), t.names.length - k = m → ∃ c', n_43l3 (a, b, c, (k : Int), t, ()) = some (a, b, c', t, ()) := by
 intro m
 induction m with
 | zero =>
  intro k c hk
  have hlt : ¬ k < t.names.length := by omega
  obtain ⟨hd, g1⟩ := at_end hlt
  rw [n_43l3]
  simp only [sW, hlt]
  exact ⟨_, rfl⟩
 | succ m ih =>
  intro k c hk
  have hlt : k < t.names.length := by omega
  obtain ⟨p, hp1, hm, hd, g1, g2⟩ := at_lt hlt
  rw [n_43l3]
  simp only [sW, g1, g2, hlt, hp1, wrap_succ hlt ht.names]
  exact ih (k + 1) _ (by omega)
theorem f43b (t : Tag) (ht : t.Wf) (hp : ∀ p ∈ t.parts, ∃ x, n_43 (p, ()) = some x) : ∀ (m k : Nat) (a b c : Int), t.parts.length - k = m → ∃ x, n_43l7 (a, b, c, (k : Int), t, ()) = some x := by
 intro m
 induction m with
 | zero =>
  intro k a b c hk
  have hlt : ¬ k < t.parts.length := by omega
  obtain ⟨hd, g1⟩ := at_end hlt
  rw [n_43l7]
  simp only [sW, hlt]
  exact ⟨_, rfl⟩
 | succ m ih =>
  intro k a b c hk
  have hlt : k < t.parts.length := by omega
  obtain ⟨p, hp1, hm, hd, g1, g2⟩ := at_lt hlt
  obtain ⟨x, hx⟩ := hp p hm
  rw [n_43l7]
  simp only [sW, g1, g2, hlt, hp1, hx, wrap_succ hlt ht.parts]
  exact ih (k + 1) _ _ _ (by omega)
theorem f43 : ∀ t : Tag, t.Wf → ∃ x, n_43 (t, ()) = some x := by
 refine Tag.ind fun t ih ht => ?_
 obtain ⟨c, hc⟩ := f43a t ht 1 0 _ 0 (t.text.size : Int) rfl
 obtain ⟨x, hx⟩ := f43b t ht (fun p hp => ih p hp (ht.part hp)) _ 0 1 0 c rfl
 simp only [Int.natCast_zero, Int.ofNat_eq_natCast, List.drop_zero] at hc hx
 rw [n_43]
 simp only [sW, hc, hx]
 exact ⟨_, rfl⟩
end Go.Proofs.YtdmggfegkaiaiaaGreatDoor
end
section
namespace Go.Proofs.YtdmggfegkaiaiaaGreatDoor
open Go.Awp Go.Tx
set_option maxRecDepth 20000
abbrev big : Nat := 9223372036854775807
inductive Tag.Fit (B : Nat) : Tag → Prop
 | mk {t : Tag} : t.text.size ≤ B → t.names.length ≤ B → (∀ s ∈ t.names, s.size ≤ B) → t.parts.length ≤ B → (∀ p ∈ t.parts, Tag.Fit B p) → Tag.Fit B t
section
variable {B : Nat} {t : Tag} (h : t.Fit B)
include h
theorem Tag.Fit.text : t.text.size ≤ B := by cases h; assumption
theorem Tag.Fit.names : t.names.length ≤ B := by cases h; assumption
theorem Tag.Fit.name {s : ByteArray} (hs : s ∈ t.names) : s.size ≤ B := by cases h with | mk _ _ h _ _ => exact h s hs
theorem Tag.Fit.parts : t.parts.length ≤ B := by cases h; assumption
theorem Tag.Fit.part {p : Tag} (hp : p ∈ t.parts) : p.Fit B := by cases h with | mk _ _ _ _ h => exact h p hp
end
theorem Tag.Fit.mono {B B' : Nat} (hB : B ≤ B') : ∀ t : Tag, t.Fit B → t.Fit B' :=
 Tag.ind fun t ih h => .mk (Nat.le_trans h.text hB) (Nat.le_trans h.names hB) (fun s hs => Nat.le_trans (h.name hs) hB) (Nat.le_trans h.parts hB) fun p hp => ih p hp (h.part hp)
theorem f58a (t : Tag) (ht : t.Fit big) (y : Size) (a b : Int) : ∀ (m k : Nat) (c : Int), t.names.length - k = m →
  ∃ c', n_43l3 (1, 0, c, (k : Int), t, ()) = some (1, 0, c', t, ()) ∧ n_58l3 (t.names, (t.names.length : Int), (k : Int), t, y, ⟨a, b, c⟩, ()) = some (t, y, ⟨a, b, c'⟩, ()) := by
 intro m
 induction m with
 | zero =>
  intro k c hk
  have hlt : ¬ k < t.names.length := by omega
  rw [n_43l3, n_58l3]
  simp only [sW, hlt]
  exact ⟨_, rfl, rfl⟩
 | succ m ih =>
  intro k c hk
  have hlt : k < t.names.length := by omega
  obtain ⟨p, hp1, hm, hd, g1, g2⟩ := at_lt hlt
  rw [n_43l3, n_58l3]
  simp only [sW, g1, g2, hlt, hp1, wrap_succ hlt ht.names]
  exact ih (k + 1) _ (by omega)
theorem f58b (t : Tag) (ht : t.Fit big) (y : Size) (hp : ∀ p ∈ t.parts, ∃ a d s, n_43 (p, ()) = some (a, d, s, ()) ∧ n_58 (p, ()) = some (⟨d, a, s⟩, ())) : ∀ (m k : Nat) (a b c : Int), t.parts.length - k = m →
  ∃ a' b' c', n_43l7 (a, b, c, (k : Int), t, ()) = some (a', b', c', ()) ∧ n_58l8 (t.parts, (t.parts.length : Int), (k : Int), y, ⟨b, a, c⟩, ()) = some (y, ⟨b', a', c'⟩, ()) := by
 intro m
 induction m with
 | zero =>
  intro k a b c hk
  have hlt : ¬ k < t.parts.length := by omega
  rw [n_43l7, n_58l8]
  simp only [sW, hlt]
  exact ⟨_, _, _, rfl, rfl⟩
 | succ m ih =>
  intro k a b c hk
  have hlt : k < t.parts.length := by omega
  obtain ⟨p, hp1, hm, hd, g1, g2⟩ := at_lt hlt
  obtain ⟨a1, d1, s1, e1, e2⟩ := hp p hm
  rw [n_43l7, n_58l8]
  simp only [sW, g1, g2, hlt, hp1, e1, e2, wrap_succ hlt ht.parts]
  exact ih (k + 1) _ _ _ (by omega)
theorem f58 : ∀ t : Tag, t.Fit big → ∃ a d s, n_43 (t, ()) = some (a, d, s, ()) ∧ n_58 (t, ()) = some (⟨d, a, s⟩, ()) := by
 refine Tag.ind fun t ih ht => ?_
 obtain ⟨c, h1, h2⟩ := f58a t ht ⟨0, 0, 0⟩ 0 1 _ 0 (t.text.size : Int) rfl
 obtain ⟨a', b', c', h3, h4⟩ := f58b t ht ⟨0, 0, 0⟩ (fun p hp => ih p hp (ht.part hp)) _ 0 1 0 c rfl
 simp only [Int.natCast_zero, Int.ofNat_eq_natCast, List.drop_zero] at h1 h2 h3 h4
 rw [n_43, n_58]
 simp only [sW, h1, h2, h3, h4]
 exact ⟨_, _, _, rfl, rfl⟩
theorem f87 {s : ByteArray} (h : s.size ≤ big) : n_87 (s, ()) = some (Lib.validD s.data.toList, ()) := by
 unfold n_87
 rw [if_pos h]
theorem f86 {s : ByteArray} (h : s.size ≤ big) : n_86 (s, ()) = some (!Lib.validD s.data.toList, ()) := by
 unfold n_86
 simp only [f87 h, sW]
theorem f88l (t : Tag) (ht : t.Fit big) : ∀ (m k : Nat), t.names.length - k = m → ∃ o : Option Nat,
  n_117c86l2 (t.names, (t.names.length : Int), (k : Int), ()) = some (match o with | some i => .inl ((i : Int), ()) | none => .inr ()) ∧ n_63l6 ((k : Int), t, ()) = some (match o with | some _ => .inl (false, ()) | none => .inr (t, ())) := by
 intro m
 induction m with
 | zero =>
  intro k hk
  have hlt : ¬ k < t.names.length := by omega
  rw [n_117c86l2, n_63l6]
  simp only [sW, hlt]
  exact ⟨none, rfl, rfl⟩
 | succ m ih =>
  intro k hk
  have hlt : k < t.names.length := by omega
  obtain ⟨p, hp1, hm, hd, g1, g2⟩ := at_lt hlt
  rw [n_117c86l2, n_63l6]
  simp only [sW, g1, g2, hlt, hp1, f86 (ht.name hm), f87 (ht.name hm), wrap_succ hlt ht.names]
  cases Lib.validD p.data.toList with
  | true => simp only [Bool.not_true, sW]; exact ih (k + 1) (by omega)
  | false => simp only [Bool.not_false, sW]; exact ⟨some k, rfl, rfl⟩
theorem f88 (t : Tag) (ht : t.Fit big) : ∃ b, n_88c86 (t.names, ()) = some (b, ()) ∧ n_63l6 (0, t, ()) = some (if b = true then .inl (false, ()) else .inr (t, ())) := by
 obtain ⟨o, h1, h2⟩ := f88l t ht _ 0 rfl
 simp only [Int.natCast_zero, Int.ofNat_eq_natCast, List.drop_zero] at h1 h2
 unfold n_88c86 n_117c86
 cases o with
 | none => simp only [h1, h2, sW]; exact ⟨_, rfl, rfl⟩
 | some i => simp only [h1, h2, sW]; exact ⟨_, rfl, by simp⟩
inductive Tag.Right : Tag → Prop
 | mk {t : Tag} : (t.kind ≠ 6 → t.names = []) → (t.kind = 6 → t.names.length = t.parts.length) → (∀ p ∈ t.parts, Tag.Right p) → Tag.Right t
theorem f61l (t : Tag) (ht : t.Fit big) (hp : ∀ p ∈ t.parts, ∃ b, n_61 (p, ()) = some (b, ()) ∧ n_63 (p, ()) = some (b, ()) ∧ (b = true → p.Right)) : ∀ (m k : Nat), t.parts.length - k = m → ∃ o : Option Nat,
  n_118c90l2 (t.parts, (t.parts.length : Int), (k : Int), ()) = some (match o with | some i => .inl ((i : Int), ()) | none => .inr ()) ∧ n_63l11 ((k : Int), t, ()) = some (match o with | some _ => .inl (false, ()) | none => .inr ()) ∧ (o = none → ∀ p ∈ t.parts.drop k, p.Right) := by
 intro m
 induction m with
 | zero =>
  intro k hk
  have hlt : ¬ k < t.parts.length := by omega
  rw [n_118c90l2, n_63l11]
  simp only [sW, hlt]
  refine ⟨.none, rfl, rfl, fun _ p hp => ?_⟩
  rw [(at_end hlt).1] at hp; cases hp
 | succ m ih =>
  intro k hk
  have hlt : k < t.parts.length := by omega
  obtain ⟨p, hp1, hm, hd, g1, g2⟩ := at_lt hlt
  obtain ⟨b, e1, e2, e3⟩ := hp p hm
  have e4 : n_90 (p, ()) = some (!b, ()) := by
   rw [n_90]
   simp only [e1, sW]
  rw [n_118c90l2, n_63l11]
  simp only [sW, g1, g2, hlt, hp1, e2, e4, wrap_succ hlt ht.parts]
  cases b with
  | true =>
   simp only [Bool.not_true, sW]
   obtain ⟨o, o1, o2, o3⟩ := ih (k + 1) (by omega)
   refine ⟨o, o1, o2, fun ho q hq => ?_⟩
   rw [hd] at hq
   rcases List.mem_cons.1 hq with rfl | hq
   ·exact e3 rfl
   ·exact o3 ho q hq
  | false => simp only [Bool.not_false, sW]; exact ⟨some k, rfl, rfl, fun h => by cases h⟩
theorem f61p (t : Tag) (ht : t.Fit big) (hp : ∀ p ∈ t.parts, ∃ b, n_61 (p, ()) = some (b, ()) ∧ n_63 (p, ()) = some (b, ()) ∧ (b = true → p.Right)) :
  ∃ b, n_89c90 (t.parts, ()) = some (b, ()) ∧ n_63l11 (0, t, ()) = some (if b = true then .inl (false, ()) else .inr ()) ∧ (b = false → ∀ p ∈ t.parts, p.Right) := by
 obtain ⟨o, h1, h2, h3⟩ := f61l t ht hp _ 0 rfl
 simp only [Int.natCast_zero, Int.ofNat_eq_natCast, List.drop_zero] at h1 h2 h3
 rw [n_89c90, n_118c90]
 cases o with
 | none => simp only [h1, h2, sW]; exact ⟨_, rfl, rfl, fun _ => h3 rfl⟩
 | some i => simp only [h1, h2, sW]; exact ⟨_, rfl, by simp, fun h => by simp at h⟩
end Go.Proofs.YtdmggfegkaiaiaaGreatDoor
end
section
namespace Go.Proofs.YtdmggfegkaiaiaaGreatDoor
open Go.Awp Go.Tx
set_option maxRecDepth 20000
theorem f61 : ∀ t : Tag, t.Fit big → ∃ b, n_61 (t, ()) = some (b, ()) ∧ n_63 (t, ()) = some (b, ()) ∧ (b = true → t.Right) := by
 refine Tag.ind fun t ih ht => ?_
 have e86 := f86 ht.text
 have e87 := f87 ht.text
 obtain ⟨bn, n1, n2⟩ := f88 t ht
 obtain ⟨bp, p1, p2, p3⟩ := f61p t ht fun p hp => ih p hp (ht.part hp)
 generalize Lib.validD t.text.data.toList = v at e86 e87
 rw [n_61, n_63]
 have bad : ∀ {x y : Option (Bool × Unit)}, x = some (false, ()) → y = some (false, ()) → ∃ b, x = some (b, ()) ∧ y = some (b, ()) ∧ (b = true → t.Right) := fun h1 h2 => ⟨false, h1, h2, fun h => by cases h⟩
 have good : ∀ {x y : Option (Bool × Unit)}, x = some (v && !bn && !bp, ()) → y = some (v && !bn && !bp, ()) → (t.kind ≠ 6 → t.names = []) → (t.kind = 6 → t.names.length = t.parts.length) → ∃ b, x = some (b, ()) ∧ y = some (b, ()) ∧ (b = true → t.Right) := fun h1 h2 h3 h4 =>
  ⟨_, h1, h2, fun h => .mk h3 h4 (p3 (by
   cases bp with
   | true => simp at h
   | false => rfl))⟩
 by_cases a1 : t.kind < 0
 ·exact bad (by simp [a1]) (by simp [a1])
 by_cases a2 : t.kind > 6
 ·exact bad (by simp [a1, a2]) (by simp [a1, a2])
 have hk : t.kind = 0 ∨ t.kind = 1 ∨ t.kind = 2 ∨ t.kind = 3 ∨ t.kind = 4 ∨ t.kind = 5 ∨ t.kind = 6 := by omega
 generalize (ByteArray.mk #[]).toList = X
 rcases hk with k | k | k | k | k | k | k
 ·by_cases c1 : t.n = 0
  case neg => exact bad (by simp [List.length_pos_iff, k, c1]) (by simp [List.length_pos_iff, k, c1])
  by_cases c2 : t.text.toList = X
  case neg => exact bad (by simp [List.length_pos_iff, k, c1, c2]) (by simp [List.length_pos_iff, k, c1, c2])
  by_cases c4 : t.parts = []
  case neg => exact bad (by simp [List.length_pos_iff, k, c1, c2, c4]) (by simp [List.length_pos_iff, k, c1, c2, c4])
  by_cases c3 : t.names = []
  case neg => exact bad (by simp [List.length_pos_iff, k, c1, c2, c4, c3]) (by simp [List.length_pos_iff, k, c1, c2, c4, c3])
  rw [c3] at n1
  rw [c4] at p1
  exact good (by cases v <;> cases bn <;> cases bp <;> simp [List.length_pos_iff, k, c1, c2, c4, c3, e86, e87, n1, n2, p1, p2]) (by cases v <;> cases bn <;> cases bp <;> simp [List.length_pos_iff, k, c1, c2, c4, c3, e86, e87, n1, n2, p1, p2]) (fun _ => c3) (fun h => by omega)
 ·by_cases c1 : t.n = 0
  case neg => exact bad (by simp [List.length_pos_iff, k, c1]) (by simp [List.length_pos_iff, k, c1])
  by_cases c2 : t.text.toList = X
  case neg => exact bad (by simp [List.length_pos_iff, k, c1, c2]) (by simp [List.length_pos_iff, k, c1, c2])
  by_cases c4 : t.parts = []
  case neg => exact bad (by simp [List.length_pos_iff, k, c1, c2, c4]) (by simp [List.length_pos_iff, k, c1, c2, c4])
  by_cases c3 : t.names = []
  case neg => exact bad (by simp [List.length_pos_iff, k, c1, c2, c4, c3]) (by simp [List.length_pos_iff, k, c1, c2, c4, c3])
  rw [c3] at n1
  rw [c4] at p1
  exact good (by cases v <;> cases bn <;> cases bp <;> simp [List.length_pos_iff, k, c1, c2, c4, c3, e86, e87, n1, n2, p1, p2]) (by cases v <;> cases bn <;> cases bp <;> simp [List.length_pos_iff, k, c1, c2, c4, c3, e86, e87, n1, n2, p1, p2]) (fun _ => c3) (fun h => by omega)
 ·by_cases c1 : t.n = 0
  case neg => exact bad (by simp [List.length_pos_iff, k, c1]) (by simp [List.length_pos_iff, k, c1])
  by_cases c2 : t.text.toList = X
  case neg => exact bad (by simp [List.length_pos_iff, k, c1, c2]) (by simp [List.length_pos_iff, k, c1, c2])
  by_cases c4 : t.parts = []
  case neg => exact bad (by simp [List.length_pos_iff, k, c1, c2, c4]) (by simp [List.length_pos_iff, k, c1, c2, c4])
  by_cases c3 : t.names = []
  case neg => exact bad (by simp [List.length_pos_iff, k, c1, c2, c4, c3]) (by simp [List.length_pos_iff, k, c1, c2, c4, c3])
  rw [c3] at n1
  rw [c4] at p1
  exact good (by cases v <;> cases bn <;> cases bp <;> simp [List.length_pos_iff, k, c1, c2, c4, c3, e86, e87, n1, n2, p1, p2]) (by cases v <;> cases bn <;> cases bp <;> simp [List.length_pos_iff, k, c1, c2, c4, c3, e86, e87, n1, n2, p1, p2]) (fun _ => c3) (fun h => by omega)
 ·by_cases c2 : t.text.toList = X
  case neg => exact bad (by simp [List.length_pos_iff, k, c2]) (by simp [List.length_pos_iff, k, c2])
  by_cases c4 : t.parts = []
  case neg => exact bad (by simp [List.length_pos_iff, k, c2, c4]) (by simp [List.length_pos_iff, k, c2, c4])
  by_cases c5 : t.n < -9007199254740992
  ·by_cases c3 : t.names = []
   ·exact bad (by simp [List.length_pos_iff, k, c2, c4, c5, c3]) (by simp [List.length_pos_iff, k, c2, c4, c5, c3])
   ·exact bad (by simp [List.length_pos_iff, k, c2, c4, c5, c3]) (by simp [List.length_pos_iff, k, c2, c4, c5, c3])
  by_cases c6 : t.n > 9007199254740992
  ·by_cases c3 : t.names = []
   ·exact bad (by simp [List.length_pos_iff, k, c2, c4, c5, c6, c3]) (by simp [List.length_pos_iff, k, c2, c4, c5, c6, c3])
   ·exact bad (by simp [List.length_pos_iff, k, c2, c4, c5, c6, c3]) (by simp [List.length_pos_iff, k, c2, c4, c5, c6, c3])
  by_cases c3 : t.names = []
  case neg => exact bad (by simp [List.length_pos_iff, k, c2, c4, c5, c6, c3]) (by simp [List.length_pos_iff, k, c2, c4, c5, c6, c3])
  rw [c3] at n1
  rw [c4] at p1
  exact good (by cases v <;> cases bn <;> cases bp <;> simp [List.length_pos_iff, k, c2, c4, c5, c6, c3, e86, e87, n1, n2, p1, p2]) (by cases v <;> cases bn <;> cases bp <;> simp [List.length_pos_iff, k, c2, c4, c5, c6, c3, e86, e87, n1, n2, p1, p2]) (fun _ => c3) (fun h => by omega)
 ·by_cases c1 : t.n = 0
  case neg => exact bad (by simp [List.length_pos_iff, k, c1]) (by simp [List.length_pos_iff, k, c1])
  by_cases c4 : t.parts = []
  case neg => exact bad (by simp [List.length_pos_iff, k, c1, c4]) (by simp [List.length_pos_iff, k, c1, c4])
  by_cases c3 : t.names = []
  case neg => exact bad (by simp [List.length_pos_iff, k, c1, c4, c3]) (by simp [List.length_pos_iff, k, c1, c4, c3])
  rw [c3] at n1
  rw [c4] at p1
  exact good (by cases v <;> cases bn <;> cases bp <;> simp [List.length_pos_iff, k, c1, c4, c3, e86, e87, n1, n2, p1, p2]) (by cases v <;> cases bn <;> cases bp <;> simp [List.length_pos_iff, k, c1, c4, c3, e86, e87, n1, n2, p1, p2]) (fun _ => c3) (fun h => by omega)
 ·by_cases c1 : t.n = 0
  case neg => exact bad (by simp [List.length_pos_iff, k, c1]) (by simp [List.length_pos_iff, k, c1])
  by_cases c2 : t.text.toList = X
  case neg => exact bad (by simp [List.length_pos_iff, k, c1, c2]) (by simp [List.length_pos_iff, k, c1, c2])
  by_cases c3 : t.names = []
  case neg => exact bad (by simp [List.length_pos_iff, k, c1, c2, c3]) (by simp [List.length_pos_iff, k, c1, c2, c3])
  rw [c3] at n1
  exact good (by cases v <;> cases bn <;> cases bp <;> simp [List.length_pos_iff, k, c1, c2, c3, e86, e87, n1, n2, p1, p2]) (by cases v <;> cases bn <;> cases bp <;> simp [List.length_pos_iff, k, c1, c2, c3, e86, e87, n1, n2, p1, p2]) (fun _ => c3) (fun h => by omega)
 ·by_cases c1 : t.n = 0
  case neg => exact bad (by simp [List.length_pos_iff, k, c1]) (by simp [List.length_pos_iff, k, c1])
  by_cases c2 : t.text.toList = X
  case neg => exact bad (by simp [List.length_pos_iff, k, c1, c2]) (by simp [List.length_pos_iff, k, c1, c2])
  by_cases c7 : (t.names.length : Int) = (t.parts.length : Int)
  case neg => exact bad (by simp [List.length_pos_iff, k, c1, c2, c7]) (by cases v <;> simp [List.length_pos_iff, k, c1, c2, c7, e87])
  exact good (by cases v <;> cases bn <;> cases bp <;> simp [List.length_pos_iff, k, c1, c2, c7, e86, e87, n1, n2, p1, p2]) (by cases v <;> cases bn <;> cases bp <;> simp [List.length_pos_iff, k, c1, c2, c7, e86, e87, n1, n2, p1, p2]) (fun h => (h k).elim) (fun _ => by omega)
theorem tl_eq {a b : ByteArray} : a.toList = b.toList ↔ a = b := by
 constructor
 ·intro h
  rw [ByteArray.toList_eq, ByteArray.toList_eq] at h
  obtain ⟨⟨a⟩⟩ := a
  obtain ⟨⟨b⟩⟩ := b
  simp only at h
  rw [h]
 ·rintro rfl; rfl
theorem seq_iff {a b : ByteArray} : Mp.seq a b = true ↔ a = b := by
 obtain ⟨a⟩ := a
 obtain ⟨b⟩ := b
 show (a == b) = true ↔ _
 simp
theorem get_set (s x : ByteArray) (y : Bool) : ∀ es : List (ByteArray × Bool), Mp.get Mp.seq s (Mp.set Mp.seq x y es) = if s = x then some y else Mp.get Mp.seq s es
 | [] => by
  simp only [Mp.set, Mp.get, seq_iff]
 | p :: r => by
  simp only [Mp.set, seq_iff]
  by_cases h : x = p.1
  ·rw [if_pos h]
   simp only [Mp.get, seq_iff]
   by_cases h2 : s = x
   ·rw [if_pos h2, if_pos h2]
   ·rw [if_neg h2, if_neg h2, if_neg (by rw [← h]; exact h2)]
  ·rw [if_neg h]
   simp only [Mp.get, seq_iff]
   by_cases h2 : s = p.1
   ·rw [if_pos h2, if_pos h2, if_neg (by rw [h2]; exact fun e => h e.symm)]
   ·rw [if_neg h2, if_neg h2]
    exact get_set s x y r
theorem f64a (t : Tag) (ht : t.Fit big) (i : Nat) (s : ByteArray) (hi : i < t.names.length) (hs : t.names[i]? = some s) : ∀ (m k : Nat), i - k = m →
  (s ∈ (t.names.take i).drop k → n_64l5 ((i : Int), (k : Int), t, ()) = some (.inl (true, ()))) ∧ (¬ s ∈ (t.names.take i).drop k → n_64l5 ((i : Int), (k : Int), t, ()) = some (.inr ((i : Int), t, ()))) := by
 intro m
 induction m with
 | zero =>
  intro k hk
  have hlt : ¬ k < i := by omega
  have hd : (t.names.take i).drop k = [] := List.drop_eq_nil_of_le (by simp; omega)
  rw [n_64l5, hd]
  simp [hlt]
 | succ m ih =>
  intro k hk
  have hlt : k < i := by omega
  obtain ⟨q, hq1, _, hd, _, _⟩ := at_lt (xs := t.names.take i) (k := k) (by simp; omega)
  have hq2 : t.names[k]? = some q := by
   rw [List.getElem?_take] at hq1
   simpa [hlt] using hq1
  have h0 : (0 : Int) ≤ (i : Int) := by omega
  have h1 : (0 : Int) ≤ (k : Int) := by omega
  have h2 : ((k : Int) < (i : Int)) := by omega
  rw [n_64l5, hd]
  simp only [sW, h0, h1, h2, hs, hq2, wrap_succ hlt (Nat.le_trans (Nat.le_of_lt hi) ht.names), List.mem_cons]
  by_cases e : s = q
  ·subst e
   simp
  ·have e2 : ¬ (s.toList = q.toList) := fun h => e (tl_eq.1 h)
   simp only [e2, e, false_or, sW]
   exact ih (k + 1) (by omega)
theorem f62l (t : Tag) (ht : t.Fit big) : ∀ (m k : Nat) (es : List (ByteArray × Bool)), t.names.length - k = m → (∀ s, (Mp.get Mp.seq s es).getD false = true ↔ s ∈ t.names.take k) →
  ∃ o : Bool, n_62l3 (t.names, (t.names.length : Int), (k : Int), t, es, ()) = some (if o = true then .inl (true, ()) else .inr (t, ())) ∧ n_64l2 ((k : Int), t, ()) = some (if o = true then .inl (true, ()) else .inr (t, ())) := by
 intro m
 induction m with
 | zero =>
  intro k es hk hes
  have hlt : ¬ k < t.names.length := by omega
  rw [n_62l3, n_64l2]
  simp only [sW, hlt]
  exact ⟨false, by simp, by simp⟩
 | succ m ih =>
  intro k es hk hes
  have hlt : k < t.names.length := by omega
  obtain ⟨p, hp1, hm, hd, g1, g2⟩ := at_lt hlt
  have h64 := f64a t ht k p hlt hp1 _ 0 rfl
  simp only [Int.natCast_zero, Int.ofNat_eq_natCast, List.drop_zero] at h64
  have hes2 : ∀ s, (Mp.get Mp.seq s (Mp.set Mp.seq p true es)).getD false = true ↔ s ∈ t.names.take (k + 1) := by
   intro s
   rw [get_set, List.take_add_one, hp1]
   by_cases e : s = p
   ·simp [e]
   ·rw [if_neg e, hes s]
    simp [e]
  obtain ⟨o, o1, o2⟩ := ih (k + 1) _ (by omega) hes2
  rw [n_62l3, n_64l2]
  simp only [sW, g1, g2, hlt, hp1, wrap_succ hlt ht.names]
  by_cases e : p ∈ t.names.take k
  ·refine ⟨true, by rw [if_pos ((hes p).2 e)]; rfl, ?_⟩
   simp only [h64.1 e, sW]
  ·refine ⟨o, by rw [if_neg fun h => e ((hes p).1 h)]; exact o1, ?_⟩
   simp only [h64.2 e, sW, wrap_succ hlt ht.names]
   exact o2
theorem f62p (t : Tag) (ht : t.Fit big) (hp : ∀ p ∈ t.parts, ∃ b, n_62 (p, ()) = some (b, ()) ∧ n_64 (p, ()) = some (b, ())) : ∀ (m k : Nat), t.parts.length - k = m → ∃ o : Option Nat,
  n_118c62l2 (t.parts, (t.parts.length : Int), (k : Int), ()) = some (match o with | some i => .inl ((i : Int), ()) | none => .inr ()) ∧ n_64l10 ((k : Int), t, ()) = some (match o with | some _ => .inl (true, ()) | none => .inr ()) := by
 intro m
 induction m with
 | zero =>
  intro k hk
  have hlt : ¬ k < t.parts.length := by omega
  rw [n_118c62l2, n_64l10]
  simp only [sW, hlt]
  exact ⟨.none, rfl, rfl⟩
 | succ m ih =>
  intro k hk
  have hlt : k < t.parts.length := by omega
  obtain ⟨p, hp1, hm, hd, g1, g2⟩ := at_lt hlt
  obtain ⟨b, e1, e2⟩ := hp p hm
  rw [n_118c62l2, n_64l10]
  simp only [sW, g1, g2, hlt, hp1, e1, e2, wrap_succ hlt ht.parts]
  cases b with
  | true => simp only [sW]; exact ⟨some k, rfl, rfl⟩
  | false => simp only [sW]; exact ih (k + 1) (by omega)
theorem f62 : ∀ t : Tag, t.Fit big → ∃ b, n_62 (t, ()) = some (b, ()) ∧ n_64 (t, ()) = some (b, ()) := by
 refine Tag.ind fun t ih ht => ?_
 obtain ⟨o, o1, o2⟩ := f62l t ht _ 0 [] rfl (fun s => by simp [Mp.get])
 obtain ⟨u, u1, u2⟩ := f62p t ht (fun p hp => ih p hp (ht.part hp)) _ 0 rfl
 simp only [Int.natCast_zero, Int.ofNat_eq_natCast, List.drop_zero] at o1 o2 u1 u2
 rw [n_62, n_64]
 cases o with
 | true => simp only [o1, o2, sW]; exact ⟨_, rfl, rfl⟩
 | false =>
  simp only [o1, o2, sW]
  rw [n_89c62, n_118c62]
  cases u with
  | none => simp only [u1, u2, sW]; exact ⟨_, rfl, rfl⟩
  | some i => simp only [u1, u2, sW]; exact ⟨_, rfl, by simp⟩
theorem f29 (t : Tag) (ht : t.Fit big) : ∃ e, n_29 (t, ()) = some (e, ()) ∧ n_30 (t, ()) = some (e, ()) ∧ (e = 0 → t.Right) := by
 obtain ⟨a, d, s, c1, c2⟩ := f58 t ht
 obtain ⟨b, b1, b2, b3⟩ := f61 t ht
 obtain ⟨w, w1, w2⟩ := f62 t ht
 unfold n_29 n_30
 simp only [c1, c2, sW]
 by_cases h1 : d > 20
 ·refine ⟨3, by simp [h1], ?_, fun h => by omega⟩
  by_cases h2 : a > 500 <;> simp [h1, h2]
 ·by_cases h2 : a > 500
  ·exact ⟨3, by simp [h1, h2], by simp [h1, h2], fun h => by omega⟩
  ·by_cases h3 : s > 4096
   ·exact ⟨3, by simp [h1, h2, h3], by simp [h1, h2, h3], fun h => by omega⟩
   ·cases b with
    | false => exact ⟨1, by simp [h1, h2, h3, b1], by simp [h1, h2, h3, b2], fun h => by omega⟩
    | true =>
     cases w with
     | true => exact ⟨5, by simp [h1, h2, h3, b1, w1], by simp [h1, h2, h3, b2, w2], fun h => by omega⟩
     | false => exact ⟨0, by simp [h1, h2, h3, b1, w1], by simp [h1, h2, h3, b2, w2], fun _ => b3 rfl⟩
end Go.Proofs.YtdmggfegkaiaiaaGreatDoor
end
section
namespace Go.Proofs.YtdmggfegkaiaiaaGreatDoor
open Go.Awp Go.Tx
set_option maxRecDepth 20000
mutual
def Tag.bulk : Tag → Nat
 | .mk _ _ t ns ps => 1 + t.size + (ns.map ByteArray.size).sum + bulkL ps
def bulkL : List Tag → Nat
 | [] => 0
 | p :: ps => p.bulk + bulkL ps
end
theorem bulkL_append : ∀ xs ys : List Tag, bulkL (xs ++ ys) = bulkL xs + bulkL ys
 | [], ys => by simp [bulkL]
 | x :: xs, ys => by
  rw [List.cons_append, bulkL, bulkL, bulkL_append xs ys]; omega
theorem bulkL_snoc (xs : List Tag) (x : Tag) : bulkL (xs ++ [x]) = bulkL xs + x.bulk := by
 rw [bulkL_append, bulkL, bulkL]; omega
theorem nsum_snoc (ns : List ByteArray) (s : ByteArray) : ((ns ++ [s]).map ByteArray.size).sum = (ns.map ByteArray.size).sum + s.size := by simp
theorem ba_size (s : ByteArray) : s.data.toList.length = s.size := Array.length_toList
theorem ba_ext {a b : ByteArray} (h : a.data.toList = b.data.toList) : a = b := by
 cases a; cases b; simp only at h; congr 1; exact Array.toList_inj.mp h
theorem ba_get (s : ByteArray) (i : Nat) : s[i]? = s.data.toList[i]? := by
 by_cases h : i < s.size
 ·rw [getElem?_pos s i h, List.getElem?_eq_getElem (by rw [ba_size]; exact h)]; rfl
 ·rw [getElem?_neg s i h, List.getElem?_eq_none (by rw [ba_size]; omega)]
theorem ba_extract (s : ByteArray) (a b : Nat) : (s.extract a b).data.toList = (s.data.toList.take b).drop a := by
 rw [ByteArray.data_extract, Array.toList_extract]; simp [List.extract, List.drop_take]
theorem ba_eta (s : ByteArray) : (⟨s.data.toList.toArray⟩ : ByteArray) = s := by cases s; simp
theorem ba_one {s : ByteArray} {k : Nat} {c : UInt8} (h : s[k]? = some c) : (s.extract k (k + 1)).data.toList = [c] := by
 rw [ba_get] at h
 obtain ⟨hk, h⟩ := List.getElem?_eq_some_iff.1 h
 rw [ba_extract, List.drop_take]
 have : k + 1 - k = 1 := by omega
 rw [this, List.drop_eq_getElem_cons hk, h]
 rfl
structure In (s : ByteArray) (k : Nat) : Prop where
 le : k ≤ s.size
 sz : s.size ≤ 65536
theorem get_lt {s : ByteArray} {k : Nat} {c : UInt8} (h : s[k]? = some c) : k < s.size := by
 rw [ba_get] at h
 have := (List.getElem?_eq_some_iff.1 h).1
 rw [ba_size] at this
 exact this
theorem get_none {s : ByteArray} {k : Nat} (hk : In s k) (h : s[k]? = none) : k = s.size := by
 have h1 := hk.le
 rw [ba_get] at h
 have := List.getElem?_eq_none_iff.1 h
 rw [ba_size] at this
 omega
theorem In.next {s : ByteArray} {k : Nat} {c : UInt8} (hk : In s k) (h : s[k]? = some c) : In s (k + 1) := ⟨get_lt h, hk.sz⟩
abbrev Rd (s : ByteArray) (k : Nat) : Reader := Reader.mk s (k : Int)
abbrev Rr (s : ByteArray) (k : Nat) (w : Bool) : Mandrelref20Reader := Mandrelref20Reader.mk s (k : Int) w
def hit (b s : ByteArray) (k : Nat) : Bool := match s[k]? with | some c => b.data.toList.contains c | none => false
def inr (lo hi : Int) (s : ByteArray) (k : Nat) : Bool := match s[k]? with | some c => decide (lo ≤ (c.toNat : Int)) && decide ((c.toNat : Int) ≤ hi) | none => false
theorem wk {s : ByteArray} {k : Nat} (hk : In s k) : IntKind.i64.wrap ((k : Int) + 1) = ((k + 1 : Nat) : Int) := by
 have h1 := hk.le
 have h2 := hk.sz
 rw [wrap64 (by omega) (by omega)]; omega
theorem ix_nn (l : List UInt8) (c : UInt8) : decide (0 ≤ Lib.indexByte l c) = l.contains c := by
 induction l with
 | nil => rfl
 | cons b l ih =>
  have hge := Lib.indexByte_ge l c
  unfold Lib.indexByte
  by_cases h : b = c
  ·subst h; simp
  ·have h2 : ¬ c = b := fun e => h e.symm
   simp only [beq_iff_eq, h, if_false, List.contains_cons, h2, beq_eq_false_iff_ne.2 h2, Bool.false_or, ← ih]
   split <;> rename_i h3
   ·simp [h3]
   ·congr 1
    apply propext
    constructor <;> intro h4 <;> omega
theorem hit_lt {b s : ByteArray} {k : Nat} (h : hit b s k = true) : k < s.size := by
 unfold hit at h
 split at h
 ·rename_i c hc; exact get_lt hc
 ·cases h
theorem inr_lt {lo hi : Int} {s : ByteArray} {k : Nat} (h : inr lo hi s k = true) : k < s.size := by
 unfold inr at h
 split at h
 ·rename_i c hc; exact get_lt hc
 ·cases h
theorem t97 (b s : ByteArray) {k : Nat} (hk : In s k) : n_97s5bd0 (b, Rd s k, ()) = some (hit b s k, Rd s (if hit b s k = true then k + 1 else k), ()) := by
 unfold n_97s5bd0 hit
 cases hc : s[k]? with
 | none =>
  have := get_none hk hc
  have e : ((k : Int) == (s.size : Int)) = true := by rw [beq_iff_eq]; omega
  simp [e]
 | some c =>
  have h1 := get_lt hc
  have h2 := hk.sz
  have e : ((k : Int) == (s.size : Int)) = false := by rw [beq_eq_false_iff_ne]; omega
  have e2 : ((k : Int) ≤ ((k + 1 : Nat) : Int) ∧ ((k + 1 : Nat) : Int) ≤ (s.size : Int)) = True := eq_true ⟨by omega, by omega⟩
  have e3 : n_122 (b, s.extract k (k + 1), ()) = some (b.data.toList.contains c, ()) := by
   unfold n_122
   simp only [ba_one hc, ix_nn]
  simp only [e, wk hk, e2, sW, e3, true_and]
  rcases Bool.eq_false_or_eq_true (b.data.toList.contains c) with h | h <;> simp only [h, sW, Bool.not_true, Bool.not_false]
def hv (s : ByteArray) (k : Nat) : Int := match s[k]? with | some c => (c.toNat : Int) | none => 0
theorem hv_some {s : ByteArray} {k : Nat} {c : UInt8} (h : s[k]? = some c) : hv s k = (c.toNat : Int) := by unfold hv; rw [h]
theorem hv_none {s : ByteArray} {k : Nat} (h : s[k]? = none) : hv s k = 0 := by unfold hv; rw [h]
theorem hv_rng (s : ByteArray) (k : Nat) : 0 ≤ hv s k ∧ hv s k ≤ 255 := by
 unfold hv
 cases s[k]? with
 | none => simp
 | some c => have := c.toNat_lt; dsimp only; omega
theorem inr_hv {lo hi : Int} (hlo : 0 < lo) (s : ByteArray) (k : Nat) : inr lo hi s k = true ↔ lo ≤ hv s k ∧ hv s k ≤ hi := by
 unfold inr hv
 cases s[k]? with
 | none => simp; omega
 | some c => simp
theorem inr_hvf {lo hi : Int} (hlo : 0 < lo) (s : ByteArray) (k : Nat) : inr lo hi s k = false ↔ ¬ (lo ≤ hv s k ∧ hv s k ≤ hi) := by
 rw [← inr_hv hlo, Bool.not_eq_true]
theorem t91 (s : ByteArray) {k : Nat} (hk : In s k) : n_91s0e1d (Rd s k, ()) = some (hv s k, Rd s k, ()) := by
 unfold n_91s0e1d
 cases hc : s[k]? with
 | none =>
  have := get_none hk hc
  have e : ((k : Int) == (s.size : Int)) = true := by rw [beq_iff_eq]; omega
  rw [hv_none hc]
  simp [e]
 | some c =>
  have h1 := get_lt hc
  have e : ((k : Int) == (s.size : Int)) = false := by rw [beq_eq_false_iff_ne]; omega
  rw [hv_some hc]
  simp only [e, sW, hc]
theorem t152 (lo hi : Int) (s : ByteArray) {k : Nat} (hk : In s k) : n_152s07d3 (lo, hi, Rd s k, ()) = some (inr lo hi s k, Rd s (if inr lo hi s k = true then k + 1 else k), ()) := by
 unfold n_152s07d3 inr
 cases hc : s[k]? with
 | none =>
  have := get_none hk hc
  have e : ((k : Int) == (s.size : Int)) = true := by rw [beq_iff_eq]; omega
  simp [e]
 | some c =>
  have h1 := get_lt hc
  have e : ((k : Int) == (s.size : Int)) = false := by rw [beq_eq_false_iff_ne]; omega
  simp only [e, sW, hc, wk hk]
  by_cases h2 : (c.toNat : Int) < lo
  ·have h3 : ¬ lo ≤ (c.toNat : Int) := by omega
   simp [h2, h3]
  ·have h3 : lo ≤ (c.toNat : Int) := by omega
   by_cases h4 : (c.toNat : Int) > hi
   ·have h5 : ¬ (c.toNat : Int) ≤ hi := by omega
    simp [h2, h3, h4, h5]
   ·have h5 : (c.toNat : Int) ≤ hi := by omega
    have := wk hk
    simp [h2, h3, h4, h5] at this ⊢
    exact this
theorem t100 (lo hi : Int) (s : ByteArray) (w : Bool) {k : Nat} (hk : In s k) : n_100s1978 (lo, hi, Rr s k w, ()) = some (!w && inr lo hi s k, Rr s k w, ()) := by
 unfold n_100s1978 inr
 cases w with
 | true => simp
 | false =>
  cases hc : s[k]? with
  | none =>
   have := get_none hk hc
   have e : ¬ k < s.size := by omega
   simp [e]
  | some c =>
   have h1 := get_lt hc
   simp only [sW, hc, h1, Bool.not_false]
   by_cases h2 : (c.toNat : Int) ≥ lo
   ·have h3 : lo ≤ (c.toNat : Int) := h2
    simp [h2, h3]
   ·have h3 : ¬ lo ≤ (c.toNat : Int) := h2
    simp [h2, h3]
theorem t123 (lo hi : Int) (s : ByteArray) {k : Nat} (hk : In s k) : n_123s1978 (lo, hi, Rr s k false, ()) = some (if inr lo hi s k = true then hv s k else 0, if inr lo hi s k = true then Rr s (k + 1) false else Rr s k true, ()) := by
 unfold n_123s1978
 simp only [t100 lo hi s false hk, sW, Bool.not_false, Bool.true_and]
 cases h : inr lo hi s k with
 | false =>
  unfold n_104sa2e4
  simp only [sW, Bool.not_false]
 | true =>
  have h1 := inr_lt h
  have h2 := hk.sz
  have e : IntKind.i64.wrap (((k + 1 : Nat) : Int) - 1) = (k : Int) := by rw [wrap64 (by omega) (by omega)]; omega
  cases hc : s[k]? with
  | none => unfold inr at h; rw [hc] at h; cases h
  | some c => simp only [sW, Bool.not_true, wk hk, e, hc, hv_some hc]
theorem t123w (lo hi : Int) (s : ByteArray) {k : Nat} (hk : In s k) : n_123s1978 (lo, hi, Rr s k true, ()) = some (0, Rr s k true, ()) := by
 unfold n_123s1978
 simp only [t100 lo hi s true hk, sW, Bool.not_true, Bool.false_and, Bool.not_false]
 rfl
theorem t98l (b s : ByteArray) (hb : b.size ≤ 65536) {k : Nat} (hk : In s k) : ∀ (m i : Nat), b.size - i = m →
  n_98s5873l2 (b, (i : Int), Rr s k false, ()) = some (if (match s[k]? with | some c => (b.data.toList.drop i).contains c | none => false) = true then .inl (true, Rr s k false, ()) else .inr (Rr s k false, ())) := by
 intro m
 induction m with
 | zero =>
  intro i hi
  have hlt : ¬ i < b.size := by omega
  have hd : b.data.toList.drop i = [] := List.drop_eq_nil_of_le (by rw [ba_size]; omega)
  rw [n_98s5873l2]
  simp only [sW, hlt, hd, List.contains_nil]
  cases s[k]? <;> simp
 | succ m ih =>
  intro i hi
  have hlt : i < b.size := by omega
  have hl : i < b.data.toList.length := by rw [ba_size]; exact hlt
  have hd := List.drop_eq_getElem_cons hl
  have hg : b[i]? = some b.data.toList[i] := by rw [ba_get, List.getElem?_eq_getElem hl]
  rw [n_98s5873l2]
  cases hc : s[k]? with
  | none =>
   have := get_none hk hc
   have e : ¬ k < s.size := by omega
   simp [hlt, e]
  | some c =>
   have h1 := get_lt hc
   have hi' := ih (i + 1) (by omega)
   rw [hc] at hi'
   simp only [sW, hlt, h1, hc, hg, Bool.not_false, wrap_succ hlt (by omega), hd, List.contains_cons, hi']
   by_cases h : c = b.data.toList[i]
   ·simp [← h]
   ·have h2 : ¬ ((c.toNat : Int) = (b.data.toList[i].toNat : Int)) := fun e => h (UInt8.toNat_inj.1 (by omega))
    simp only [h2, sW, beq_eq_false_iff_ne.2 h, Bool.false_or]
theorem t98 (b s : ByteArray) (hb : b.size ≤ 65536) {k : Nat} (hk : In s k) : n_98s5873 (b, Rr s k false, ()) = some (hit b s k, Rr s k false, ()) := by
 have h := t98l b s hb hk _ 0 rfl
 simp only [Int.natCast_zero, Int.ofNat_eq_natCast, List.drop_zero] at h
 unfold n_98s5873 hit
 simp only [h, sW]
 cases s[k]? with
 | none => rfl
 | some c =>
  dsimp only
  rcases Bool.eq_false_or_eq_true (b.data.toList.contains c) with h | h <;> simp only [h, sW]
theorem t98w (b s : ByteArray) {k : Nat} : n_98s5873 (b, Rr s k true, ()) = some (false, Rr s k true, ()) := by
 unfold n_98s5873
 rw [n_98s5873l2]
 cases decide ((0 : Int) < (b.size : Int)) <;> simp
end Go.Proofs.YtdmggfegkaiaiaaGreatDoor
end
section
namespace Go.Proofs.YtdmggfegkaiaiaaGreatDoor
open Go.Awp Go.Tx
open IntKind (i64)
set_option maxRecDepth 20000
abbrev bl : ByteArray := ByteArray.mk #[32, 10, 9, 13]
theorem hit_in {b s : ByteArray} {k : Nat} (hk : In s k) (h : hit b s k = true) : In s (k + 1) := ⟨hit_lt h, hk.sz⟩
theorem inr_in {lo hi : Int} {s : ByteArray} {k : Nat} (hk : In s k) (h : inr lo hi s k = true) : In s (k + 1) := ⟨inr_lt h, hk.sz⟩
theorem blanksl (s : ByteArray) : ∀ (m k : Nat), In s k → s.size - k = m → ∃ k', In s k' ∧ k ≤ k' ∧ n_66s0e1dl0 (Rd s k, ()) = some (Rd s k', ()) ∧ n_68sa2e4l0 (Rr s k false, ()) = some (Rr s k' false, ()) ∧ hit bl s k' = false := by
 intro m
 induction m with
 | zero =>
  intro k hk hm
  have h : hit bl s k = false := by
   rcases Bool.eq_false_or_eq_true (hit bl s k) with h | h
   ·have := hit_lt h; omega
   ·exact h
  refine ⟨k, hk, Nat.le_refl _, ?_, ?_, h⟩
  ·rw [n_66s0e1dl0]
   simp only [sW, t97 _ s hk, h]
  ·rw [n_68sa2e4l0]
   simp only [sW, t98 bl s (by decide) hk, h]
 | succ m ih =>
  intro k hk hm
  rcases Bool.eq_false_or_eq_true (hit bl s k) with h | h
  ·obtain ⟨k', a1, a2, a3, a4, a5⟩ := ih (k + 1) (hit_in hk h) (by omega)
   refine ⟨k', a1, by omega, ?_, ?_, a5⟩
   ·rw [n_66s0e1dl0]
    simp only [sW, t97 _ s hk, h]
    exact a3
   ·rw [n_68sa2e4l0]
    simp only [sW, t98 bl s (by decide) hk, h, wk hk]
    exact a4
  ·refine ⟨k, hk, Nat.le_refl _, ?_, ?_, h⟩
   ·rw [n_66s0e1dl0]
    simp only [sW, t97 _ s hk, h]
   ·rw [n_68sa2e4l0]
    simp only [sW, t98 bl s (by decide) hk, h]
theorem blanks {s : ByteArray} {k : Nat} (hk : In s k) : ∃ k', In s k' ∧ k ≤ k' ∧ n_66s0e1d (Rd s k, ()) = some (Rd s k', ()) ∧ n_68sa2e4 (Rr s k false, ()) = some (Rr s k' false, ()) ∧ hit bl s k' = false := by
 obtain ⟨k', a1, a2, a3, a4, a5⟩ := blanksl s _ k hk rfl
 refine ⟨k', a1, a2, ?_, ?_, a5⟩
 ·unfold n_66s0e1d; simp only [a3, sW]
 ·unfold n_68sa2e4; simp only [a4, sW]
theorem blanks_id {s : ByteArray} {k : Nat} (hk : In s k) (h : hit bl s k = false) : n_66s0e1d (Rd s k, ()) = some (Rd s k, ()) ∧ n_68sa2e4 (Rr s k false, ()) = some (Rr s k false, ()) := by
 constructor
 ·unfold n_66s0e1d
  rw [n_66s0e1dl0]
  simp only [sW, t97 bl s hk, h]
 ·unfold n_68sa2e4
  rw [n_68sa2e4l0]
  simp only [sW, t98 bl s (by decide) hk, h]
theorem blanksw (s : ByteArray) (k : Nat) : n_68sa2e4 (Rr s k true, ()) = some (Rr s k true, ()) := by
 unfold n_68sa2e4
 rw [n_68sa2e4l0]
 simp only [sW, t98w]
theorem hit_one {w s : ByteArray} {i k : Nat} {c : UInt8} (h : w[i]? = some c) : hit (w.extract i (i + 1)) s k = inr (c.toNat : Int) (c.toNat : Int) s k := by
 unfold hit inr
 rw [ba_one h]
 cases s[k]? with
 | none => rfl
 | some d =>
  simp only [List.contains_cons, List.contains_nil, Bool.or_false]
  by_cases e : d = c
  ·subst e; simp
  ·have h2 : ¬ ((c.toNat : Int) ≤ (d.toNat : Int) ∧ (d.toNat : Int) ≤ (c.toNat : Int)) := fun h => e (UInt8.toNat_inj.1 (by omega))
   rw [← Bool.decide_and, decide_eq_false h2]
   simpa using e
theorem wordw (w s : ByteArray) (hw : w.size ≤ 65536) {k : Nat} (hk : In s k) : ∀ (m i : Nat), w.size - i = m → n_99s5873l1 (w, (i : Int), Rr s k true, ()) = some (Rr s k true, ()) := by
 intro m
 induction m with
 | zero =>
  intro i hi
  have hlt : ¬ i < w.size := by omega
  rw [n_99s5873l1]
  simp only [sW, hlt]
 | succ m ih =>
  intro i hi
  have hlt : i < w.size := by omega
  obtain ⟨c, hc⟩ : ∃ c, w[i]? = some c := ⟨w[i], getElem?_pos w i hlt⟩
  rw [n_99s5873l1]
  simp only [sW, hlt, hc, t123w _ _ s hk, wrap_succ hlt (by omega)]
  exact ih (i + 1) (by omega)
theorem wordl (w s : ByteArray) (hw : w.size ≤ 65536) : ∀ (m i k : Nat), In s k → w.size - i = m → ∃ ok k', In s k' ∧ k ≤ k' ∧ (ok = true → k' = k + (w.size - i)) ∧
  n_92s5bd0l2 (w, (w.size : Int), (i : Int), Rd s k, ()) = some (if ok = true then .inr (Rd s k', ()) else .inl (false, Rd s k', ())) ∧ n_99s5873l1 (w, (i : Int), Rr s k false, ()) = some (Rr s k' (!ok), ()) := by
 intro m
 induction m with
 | zero =>
  intro i k hk hi
  have hlt : ¬ i < w.size := by omega
  refine ⟨true, k, hk, Nat.le_refl _, fun _ => by omega, ?_, ?_⟩
  ·rw [n_92s5bd0l2]; simp only [sW, hlt]
  ·rw [n_99s5873l1]; simp only [sW, hlt]; rfl
 | succ m ih =>
  intro i k hk hi
  have hlt : i < w.size := by omega
  obtain ⟨c, hc⟩ : ∃ c, w[i]? = some c := ⟨w[i], getElem?_pos w i hlt⟩
  have e2 : ((i : Int) ≤ ((i + 1 : Nat) : Int) ∧ ((i + 1 : Nat) : Int) ≤ (w.size : Int)) = True := eq_true ⟨by omega, by omega⟩
  rw [n_92s5bd0l2, n_99s5873l1]
  simp only [sW, hlt, hc, wrap_succ hlt (by omega), e2, true_and, t97 _ s hk, hit_one hc, t123 _ _ s hk]
  rcases Bool.eq_false_or_eq_true (inr (c.toNat : Int) (c.toNat : Int) s k) with h | h
  ·obtain ⟨ok, k', a1, a2, a0, a3, a4⟩ := ih (i + 1) (k + 1) (inr_in hk h) (by omega)
   refine ⟨ok, k', a1, by omega, fun h => by have := a0 h; omega, ?_, ?_⟩
   ·simp only [h, sW, Bool.not_true]; exact a3
   ·simp only [h, sW]; exact a4
  ·refine ⟨false, k, hk, Nat.le_refl _, fun h => (by cases h), ?_, ?_⟩
   ·simp only [h, sW, Bool.not_false]
   ·simp only [h, sW]; exact wordw w s hw hk _ (i + 1) rfl
theorem word (w : ByteArray) {s : ByteArray} (hw : w.size ≤ 65536) {k : Nat} (hk : In s k) : ∃ ok k', In s k' ∧ k ≤ k' ∧ (ok = true → k' = k + w.size) ∧
  n_92s5bd0 (w, Rd s k, ()) = some (ok, Rd s k', ()) ∧ n_99s5873 (w, Rr s k false, ()) = some (Rr s k' (!ok), ()) := by
 obtain ⟨ok, k', a1, a2, a0, a3, a4⟩ := wordl w s hw _ 0 k hk rfl
 simp only [Int.natCast_zero, Int.ofNat_eq_natCast, List.drop_zero] at a3 a4
 refine ⟨ok, k', a1, a2, fun h => by have := a0 h; omega, ?_, ?_⟩
 ·unfold n_92s5bd0
  simp only [a3, sW]
  cases ok <;> rfl
 ·unfold n_99s5873
  simp only [a4, sW]
def far (n : Int) : Prop := n < -9007199254740992 ∨ 9007199254740992 < n
def NE (n m : Int) : Prop := 0 ≤ n ∧ 0 ≤ m ∧ m ≤ 115292150460684697 ∧ n ≤ 576460752303423488 ∧ (n = m ∨ 9007199254740992 < n ∧ 9007199254740992 < m)
theorem u8w {x : Int} (h1 : 0 ≤ x) (h2 : x < 256) : IntKind.u8.wrap x = x := by
 unfold IntKind.wrap
 simp only [IntKind.bits, IntKind.signed, Bool.false_and]
 simp; omega
theorem NE.step {n m d : Int} (h : NE n m) (h1 : 0 ≤ d) (h2 : d ≤ 9) :
  NE (min (i64.wrap (i64.wrap (10 * n) + d)) 576460752303423488) (min (i64.wrap (i64.wrap (10 * m) + d)) 115292150460684697) := by
 obtain ⟨a1, a2, a3, a4, a5⟩ := h
 rw [wrap64 (x := 10 * n) (by omega) (by omega), wrap64 (x := 10 * m) (by omega) (by omega), wrap64 (by omega) (by omega), wrap64 (by omega) (by omega)]
 refine ⟨by omega, by omega, by omega, by omega, ?_⟩
 omega
theorem inr_get {lo hi : Int} {s : ByteArray} {k : Nat} (h : inr lo hi s k = true) : ∃ c, s[k]? = some c ∧ lo ≤ (c.toNat : Int) ∧ (c.toNat : Int) ≤ hi := by
 unfold inr at h
 split at h
 ·rename_i c hc; simp at h; exact ⟨c, hc, h.1, h.2⟩
 ·cases h
theorem digitsl (s : ByteArray) (b : Bool) (z : Tag) (sg : Int) : ∀ (m k : Nat) (n n' : Int), In s k → s.size - k = m → NE n n' → ∃ k' r r', In s k' ∧ k ≤ k' ∧ NE r r' ∧
  n_93s0e1dl6 (b, n, Rd s k, z, ()) = some (b, r, Rd s k', z, ()) ∧ n_101sa2e4l9 (sg, n', Rr s k false, ()) = some (sg, r', Rr s k' false, ()) := by
 intro m
 induction m with
 | zero =>
  intro k n n' hk hm hn
  have h : inr 48 57 s k = false := by
   rcases Bool.eq_false_or_eq_true (inr 48 57 s k) with h | h
   ·have := inr_lt h; omega
   ·exact h
  have hh := (inr_hvf (by decide) s k).1 h
  refine ⟨k, n, n', hk, Nat.le_refl _, hn, ?_, ?_⟩
  ·rw [n_93s0e1dl6]
   simp only [t91 s hk, sW]
   by_cases h1 : hv s k ≥ 48
   ·have h2 : ¬ hv s k ≤ 57 := fun h => hh ⟨h1, h⟩
    simp only [h1, h2, sW]
   ·simp only [h1, sW]
  ·rw [n_101sa2e4l9]
   simp only [sW, t100 _ _ s false hk, h, Bool.and_false]
 | succ m ih =>
  intro k n n' hk hm hn
  rcases Bool.eq_false_or_eq_true (inr 48 57 s k) with h | h
  ·obtain ⟨c, hc, _, _⟩ := inr_get h
   obtain ⟨h1, h2⟩ := (inr_hv (by decide) s k).1 h
   have hw : IntKind.u8.wrap (hv s k - 48) = hv s k - 48 := u8w (by omega) (by omega)
   have hw2 : i64.wrap (hv s k - 48) = hv s k - 48 := wrap64 (by omega) (by omega)
   have hw3 : (c.toNat : Int) = hv s k := (hv_some hc).symm
   obtain ⟨k', r, r', a1, a2, a3, a4, a5⟩ := ih (k + 1) _ _ (inr_in hk h) (by omega) (hn.step (d := hv s k - 48) (by omega) (by omega))
   refine ⟨k', r, r', a1, by omega, a3, ?_, ?_⟩
   ·rw [n_93s0e1dl6]
    have e1 : hv s k ≥ 48 := h1
    simp only [t91 s hk, sW, e1, h2, wk hk, hw, hw2]
    exact a4
   ·rw [n_101sa2e4l9]
    simp only [sW, t100 _ _ s false hk, h, Bool.not_false, Bool.true_and, hc, wk hk, hw3, hw, hw2]
    exact a5
  ·have hh := (inr_hvf (by decide) s k).1 h
   refine ⟨k, n, n', hk, Nat.le_refl _, hn, ?_, ?_⟩
   ·rw [n_93s0e1dl6]
    simp only [t91 s hk, sW]
    by_cases h1 : hv s k ≥ 48
    ·have h2 : ¬ hv s k ≤ 57 := fun h => hh ⟨h1, h⟩
     simp only [h1, h2, sW]
    ·simp only [h1, sW]
   ·rw [n_101sa2e4l9]
    simp only [sW, t100 _ _ s false hk, h, Bool.and_false]
end Go.Proofs.YtdmggfegkaiaiaaGreatDoor
end
