/-
  Functions of the program as functions of Lean, and that they say what the program does. Made by a program of mine.
-/
import Derived.Test.YtdmggfegkaiaiaaGreatDoorView
import Derived.Test.YtdmggfegkaiaiaaGreatDoorTxU
import Derived.Test.YtdmggfegkaiaiaaGreatDoorLib
import Derived.Test.YtdmggfegkaiaiaaGreatDoorNatA1
namespace Go.Proofs.YtdmggfegkaiaiaaGreatDoor
open Go.Awp Go.Tx
set_option linter.unusedVariables false
set_option maxRecDepth 100000
noncomputable def c63l6 : Cut SN := { slots := [(1, .bp 1 0), (3, .dat (.int .i64))], objs := [(1, .st .tagT)] }
noncomputable def c63l11 : Cut SN := { slots := [(1, .bp 1 0), (4, .dat (.int .i64))], objs := [(1, .st .tagT)] }
noncomputable def c63r1 : Cut SN := { slots := [(1, .bp 1 0), (54, .dat .bool)], objs := [(1, .st .tagT)] }
noncomputable def c63r3 : Cut SN := { slots := [(1, .bp 1 0), (82, .dat .bool)], objs := [(1, .st .tagT)] }
noncomputable def c63e0 : Cut SN := { slots := [(1, .bp 1 0)], objs := [(1, .st .tagT)] }
noncomputable def c63e2 : Cut SN := { slots := [], objs := [] }
noncomputable def c63z : Cut SN := { slots := [(2, .dat .bool)], objs := [] }
noncomputable def sh63 : Shape vw := { exits := fun id => match id with | 0 => c63e0 | 2 => c63e2 | _ => { slots := [], objs := [] }, rcut := c63z }
noncomputable def sig63 : Sig vw := { params := [.dat (.st .tagT)], objs := [], rcut := c63z, rvars := [.tmp 2], keep := [] }
noncomputable def n_63l6 (v : Int × Tag × Unit) : Option (((Bool × Unit) ⊕ (Tag × Unit))) :=
  if decide (v.fst < (↑v.snd.fst.names.length : Int)) = true then
    if (0 : Int) ≤ v.fst then
      v.snd.fst.names[v.fst.toNat]? >>= fun x1 =>
      n_87 (x1, ()) >>= fun x2 =>
      if (!x2.fst) = true then
        some (Sum.inl (false, ()))
      else n_63l6 (IntKind.i64.wrap (v.fst + (1 : Int)), v.snd.fst, ())
    else none
  else some (Sum.inr (v.snd.fst, ()))
  partial_fixpoint
mutual
noncomputable def n_63l11 (v : Int × Tag × Unit) : Option (((Bool × Unit) ⊕ (Unit))) :=
  if decide (v.fst < (↑v.snd.fst.parts.length : Int)) = true then
    if (0 : Int) ≤ v.fst then
      v.snd.fst.parts[v.fst.toNat]? >>= fun x1 =>
      n_63 (x1, ()) >>= fun x2 =>
      if (!x2.fst) = true then
        some (Sum.inl (false, ()))
      else n_63l11 (IntKind.i64.wrap (v.fst + (1 : Int)), v.snd.fst, ())
    else none
  else some (Sum.inr ())
  partial_fixpoint
noncomputable def n_63 (v : Tag × Unit) : Option (Bool × Unit) :=
  (if decide (v.fst.kind < (0 : Int)) = true then
      some ((true, v.fst, ()))
    else if decide (v.fst.kind > (6 : Int)) = true then
      some ((true, v.fst, ()))
    else if (v.fst.kind != (3 : Int)) = true then
      if (v.fst.n != (0 : Int)) = true then
        some ((true, v.fst, ()))
      else if (v.fst.kind != (4 : Int)) = true then
        if (!v.fst.text.toList == (ByteArray.mk #[]).toList) = true then
          some ((true, v.fst, ()))
        else if (v.fst.kind != (6 : Int)) = true then
          if decide ((↑v.fst.names.length : Int) > (0 : Int)) = true then
            some ((true, v.fst, ()))
          else if decide (v.fst.kind < (5 : Int)) = true then
            some ((decide ((↑v.fst.parts.length : Int) > (0 : Int)), v.fst, ()))
          else some ((false, v.fst, ()))
        else if decide (v.fst.kind < (5 : Int)) = true then
          some ((decide ((↑v.fst.parts.length : Int) > (0 : Int)), v.fst, ()))
        else some ((false, v.fst, ()))
      else if (v.fst.kind != (6 : Int)) = true then
        if decide ((↑v.fst.names.length : Int) > (0 : Int)) = true then
          some ((true, v.fst, ()))
        else if decide (v.fst.kind < (5 : Int)) = true then
          some ((decide ((↑v.fst.parts.length : Int) > (0 : Int)), v.fst, ()))
        else some ((false, v.fst, ()))
      else if decide (v.fst.kind < (5 : Int)) = true then
        some ((decide ((↑v.fst.parts.length : Int) > (0 : Int)), v.fst, ()))
      else some ((false, v.fst, ()))
    else if (v.fst.kind != (4 : Int)) = true then
      if (!v.fst.text.toList == (ByteArray.mk #[]).toList) = true then
        some ((true, v.fst, ()))
      else if (v.fst.kind != (6 : Int)) = true then
        if decide ((↑v.fst.names.length : Int) > (0 : Int)) = true then
          some ((true, v.fst, ()))
        else if decide (v.fst.kind < (5 : Int)) = true then
          some ((decide ((↑v.fst.parts.length : Int) > (0 : Int)), v.fst, ()))
        else some ((false, v.fst, ()))
      else if decide (v.fst.kind < (5 : Int)) = true then
        some ((decide ((↑v.fst.parts.length : Int) > (0 : Int)), v.fst, ()))
      else some ((false, v.fst, ()))
    else if (v.fst.kind != (6 : Int)) = true then
      if decide ((↑v.fst.names.length : Int) > (0 : Int)) = true then
        some ((true, v.fst, ()))
      else if decide (v.fst.kind < (5 : Int)) = true then
        some ((decide ((↑v.fst.parts.length : Int) > (0 : Int)), v.fst, ()))
      else some ((false, v.fst, ()))
    else if decide (v.fst.kind < (5 : Int)) = true then
      some ((decide ((↑v.fst.parts.length : Int) > (0 : Int)), v.fst, ()))
    else some ((false, v.fst, ()))) >>= fun x1 =>
  if x1.fst = true then
    some ((false, ()))
  else (if decide (x1.snd.fst.n < (-9007199254740992 : Int)) = true then
      some ((true, x1.snd.fst, ()))
    else if decide (x1.snd.fst.n > (9007199254740992 : Int)) = true then
      some ((true, x1.snd.fst, ()))
    else n_87 (x1.snd.fst.text, ()) >>= fun x2 =>
    if (!x2.fst) = true then
      some ((true, x1.snd.fst, ()))
    else if (x1.snd.fst.kind == (6 : Int)) = true then
      some (((↑x1.snd.fst.names.length : Int) != (↑x1.snd.fst.parts.length : Int), x1.snd.fst, ()))
    else some ((false, x1.snd.fst, ()))) >>= fun x2 =>
  if x2.fst = true then
    some ((false, ()))
  else n_63l6 ((0 : Int), x2.snd.fst, ()) >>= fun x3 => match x3 with
    | .inl y3 => some y3
    | .inr y3 => n_63l11 ((0 : Int), y3.fst, ()) >>= fun x4 => match x4 with
        | .inl y4 => some y4
        | .inr y4 => some ((true, ()))
  partial_fixpoint
end
noncomputable def call63 (n_63l6 : Int × Tag × Unit → Option (((Bool × Unit) ⊕ (Tag × Unit)))) (n_63l11 : Int × Tag × Unit → Option (((Bool × Unit) ⊕ (Unit)))) (n_63 : Tag × Unit → Option (Bool × Unit)) : Caller vw := fun A fid args S k => match fid with | 63 => callPure Tryz.prog sig63 n_63 A args S k | 87 => callPure Tryz.prog sig87 n_87 A args S k | _ => none
noncomputable def x63 (n_63l6 : Int × Tag × Unit → Option (((Bool × Unit) ⊕ (Tag × Unit)))) (n_63l11 : Int × Tag × Unit → Option (((Bool × Unit) ⊕ (Unit)))) (n_63 : Tag × Unit → Option (Bool × Unit)) : Xc vw := { P := Tryz.prog, n := 111, nm := id, call := call63 n_63l6 n_63l11 n_63, pre := fun _ => false, sh := sh63, joins := fun _ => none, regs := fun k => match k with | 1 => some c63r1 | 3 => some c63r3 | _ => none, loops := fun k => match k with | 6 => some { cut := c63l6, alts := [.ret, .exit 0], F := n_63l6 } | 11 => some { cut := c63l11, alts := [.ret, .exit 2], F := n_63l11 } | _ => none }
abbrev mn_63l6 (v : Int × Tag × Unit) (r : ((Bool × Unit) ⊕ (Tag × Unit))) : Prop := (fun v out => ∀ C : Ctx, C.P = Tryz.prog → C.N = 111 → AWpL C (loopNo (bodyOf Tryz.f63) 0) (encS vw (conc vw c63l6 v)) (OutQ sh63 [.ret, .exit 0] out)) v r
theorem cn_63l6 (f0 : Int × Tag × Unit → Option (((Bool × Unit) ⊕ (Tag × Unit)))) (h0 : ∀ v r, f0 v = some r → mn_63l6 v r) : CallerOk Tryz.prog (x63 f0 (fun _ => none) (fun _ => none)).call := (by
        intro A fid args S dst k r h
        unfold x63 call63 at h
        simp only at h
        split at h
        · exact callPure_ok ((fun v r x h hx => by cases h)) rfl rfl h
        · exact callPure_ok (n_87_ok) rfl rfl h
        · cases h)
theorem sn_63l6 (f0 : Int × Tag × Unit → Option (((Bool × Unit) ⊕ (Tag × Unit)))) (h0 : ∀ v r, f0 v = some r → mn_63l6 v r) (v : Int × Tag × Unit) (r : ((Bool × Unit) ⊕ (Tag × Unit))) (h : exL (x63 f0 (fun _ => none) (fun _ => none)) (loopNo (bodyOf Tryz.f63) 0) c63l6 [.ret, .exit 0] f0 v = some r) : mn_63l6 v r := fun C hP hN => loop_step (X := x63 f0 (fun _ => none) (fun _ => none)) (b := (loopNo (bodyOf Tryz.f63) 0)) hP hN Ty.mixed (cn_63l6 f0 h0) (lok_all (X := x63 f0 (fun _ => none) (fun _ => none)) (c := (loopNo (bodyOf Tryz.f63) 0)) (kcast (by kernel_rfl : True = AllB (LoopsP C (x63 f0 (fun _ => none) (fun _ => none))) (loopsIn (loopNo (bodyOf Tryz.f63) 0))) trivial)) (cut := c63l6) (alts := [.ret, .exit 0]) (F := f0) (fun v out h => h0 v out h C hP hN) h
theorem n_63l6_pc : ∀ v out, n_63l6 v = some out → (fun v out => ∀ C : Ctx, C.P = Tryz.prog → C.N = 111 → AWpL C (loopNo (bodyOf Tryz.f63) 0) (encS vw (conc vw c63l6 v)) (OutQ sh63 [.ret, .exit 0] out)) v out := (n_63l6.partial_correctness (motive := mn_63l6) (fun f0 h0 v r h => sn_63l6 f0 h0 v r (kcast (by kernel_rfl) h)))
abbrev mn_63l11 (v : Int × Tag × Unit) (r : ((Bool × Unit) ⊕ (Unit))) : Prop := (fun v out => ∀ C : Ctx, C.P = Tryz.prog → C.N = 111 → AWpL C (loopNo (bodyOf Tryz.f63) 1) (encS vw (conc vw c63l11 v)) (OutQ sh63 [.ret, .exit 2] out)) v r
abbrev mn_63 (v : Tag × Unit) (r : Bool × Unit) : Prop := (fun v r => ∀ x, resV Tryz.prog sig63 r = some x → FnOk Tryz.prog 63 (encL vw (startS sig63 v).len (startOs sig63 v).1) (encOs (startS sig63 v).len (startS sig63 v).own) (encV vw (conc vw sig63.rcut r).len x) (encOs (conc vw sig63.rcut r).len (kept sig63 r))) v r
theorem cn_63l11 (f0 : Int × Tag × Unit → Option (((Bool × Unit) ⊕ (Unit)))) (f1 : Tag × Unit → Option (Bool × Unit)) (h0 : ∀ v r, f0 v = some r → mn_63l11 v r) (h1 : ∀ v r, f1 v = some r → mn_63 v r) : CallerOk Tryz.prog (x63 (fun _ => none) f0 f1).call := (by
        intro A fid args S dst k r h
        unfold x63 call63 at h
        simp only at h
        split at h
        · exact callPure_ok ((fun v r x h hx => h1 v r h x hx)) rfl rfl h
        · exact callPure_ok (n_87_ok) rfl rfl h
        · cases h)
theorem sn_63l11 (f0 : Int × Tag × Unit → Option (((Bool × Unit) ⊕ (Unit)))) (f1 : Tag × Unit → Option (Bool × Unit)) (h0 : ∀ v r, f0 v = some r → mn_63l11 v r) (h1 : ∀ v r, f1 v = some r → mn_63 v r) (v : Int × Tag × Unit) (r : ((Bool × Unit) ⊕ (Unit))) (h : exL (x63 (fun _ => none) f0 f1) (loopNo (bodyOf Tryz.f63) 1) c63l11 [.ret, .exit 2] f0 v = some r) : mn_63l11 v r := fun C hP hN => loop_step (X := x63 (fun _ => none) f0 f1) (b := (loopNo (bodyOf Tryz.f63) 1)) hP hN Ty.mixed (cn_63l11 f0 f1 h0 h1) (lok_all (X := x63 (fun _ => none) f0 f1) (c := (loopNo (bodyOf Tryz.f63) 1)) (kcast (by kernel_rfl : True = AllB (LoopsP C (x63 (fun _ => none) f0 f1)) (loopsIn (loopNo (bodyOf Tryz.f63) 1))) trivial)) (cut := c63l11) (alts := [.ret, .exit 2]) (F := f0) (fun v out h => h0 v out h C hP hN) h
theorem cn_63 (f0 : Int × Tag × Unit → Option (((Bool × Unit) ⊕ (Unit)))) (h0 : ∀ v r, f0 v = some r → mn_63l11 v r) : CallerOk Tryz.prog (x63 n_63l6 f0 (fun _ => none)).call := (by
        intro A fid args S dst k r h
        unfold x63 call63 at h
        simp only at h
        split at h
        · exact callPure_ok ((fun v r x h hx => by cases h)) rfl rfl h
        · exact callPure_ok (n_87_ok) rfl rfl h
        · cases h)
theorem sn_63 (f0 : Int × Tag × Unit → Option (((Bool × Unit) ⊕ (Unit)))) (h0 : ∀ v r, f0 v = some r → mn_63l11 v r) (v : Tag × Unit) (r : Bool × Unit) (h : exF (x63 n_63l6 f0 (fun _ => none)) sig63 rfl (bodyOf Tryz.f63) v = some r) : mn_63 v r := fun x hx => fn_ok (X := x63 n_63l6 f0 (fun _ => none)) (sig := sig63) rfl Tryz.func63 (c := bodyOf Tryz.f63) (by kernel_rfl) Tryz.ntmps63 (by kernel_rfl) (by kernel_rfl) rfl Ty.mixed (cn_63 f0 h0) rfl (fun C hP hN => (lok_all (X := x63 n_63l6 f0 (fun _ => none)) (c := (bodyOf Tryz.f63)) (kcast (by kernel_rfl : AllB (LoopsP C (x63 n_63l6 f0 (fun _ => none))) [(loopNo (bodyOf Tryz.f63) 0), (loopNo (bodyOf Tryz.f63) 1)] = AllB (LoopsP C (x63 n_63l6 f0 (fun _ => none))) (loopsIn (bodyOf Tryz.f63))) ⟨loop_at (X := x63 n_63l6 f0 (fun _ => none)) (b := (loopNo (bodyOf Tryz.f63) 0)) (by kernel_rfl) (show LoopOk C (loopNo (bodyOf Tryz.f63) 0) (sh := sh63) { cut := c63l6, alts := [.ret, .exit 0], F := n_63l6 } from fun v out h => n_63l6_pc v out h C hP hN), loop_at (X := x63 n_63l6 f0 (fun _ => none)) (b := (loopNo (bodyOf Tryz.f63) 1)) (by kernel_rfl) (show LoopOk C (loopNo (bodyOf Tryz.f63) 1) (sh := sh63) { cut := c63l11, alts := [.ret, .exit 2], F := f0 } from fun v out h => h0 v out h C hP hN), trivial⟩))) h x hx
theorem n_63l11_all : (∀ v r, n_63l11 v = some r → mn_63l11 v r) ∧ (∀ v r, n_63 v = some r → mn_63 v r) := by
  refine n_63l11.mutual_partial_correctness
    (motive_1 := mn_63l11)
    (motive_2 := mn_63)
    ?_ ?_
  · exact (fun f0 f1 h0 h1 v r h => sn_63l11 f0 f1 h0 h1 v r (kcast (by kernel_rfl) h))
  · exact (fun f0 h0 v r h => sn_63 f0 h0 v r (kcast (by kernel_rfl) h))
theorem n_63l11_pc : ∀ v out, n_63l11 v = some out → (fun v out => ∀ C : Ctx, C.P = Tryz.prog → C.N = 111 → AWpL C (loopNo (bodyOf Tryz.f63) 1) (encS vw (conc vw c63l11 v)) (OutQ sh63 [.ret, .exit 2] out)) v out := n_63l11_all.1
theorem n_63_ok : SigOk Tryz.prog 63 sig63 n_63 := fun v r x h hx => n_63l11_all.2 v r h x hx

noncomputable def c64l2 : Cut SN := { slots := [(1, .bp 1 0), (3, .dat (.int .i64))], objs := [(1, .st .tagT)] }
noncomputable def c64l5 : Cut SN := { slots := [(1, .bp 1 0), (3, .dat (.int .i64)), (4, .dat (.int .i64))], objs := [(1, .st .tagT)] }
noncomputable def c64l10 : Cut SN := { slots := [(1, .bp 1 0), (5, .dat (.int .i64))], objs := [(1, .st .tagT)] }
noncomputable def c64e0 : Cut SN := { slots := [(1, .bp 1 0)], objs := [(1, .st .tagT)] }
noncomputable def c64e2 : Cut SN := { slots := [(1, .bp 1 0), (3, .dat (.int .i64))], objs := [(1, .st .tagT)] }
noncomputable def c64e4 : Cut SN := { slots := [], objs := [] }
noncomputable def c64z : Cut SN := { slots := [(2, .dat .bool)], objs := [] }
noncomputable def sh64 : Shape vw := { exits := fun id => match id with | 0 => c64e0 | 2 => c64e2 | 4 => c64e4 | _ => { slots := [], objs := [] }, rcut := c64z }
noncomputable def sig64 : Sig vw := { params := [.dat (.st .tagT)], objs := [], rcut := c64z, rvars := [.tmp 2], keep := [] }
noncomputable def n_64l5 (v : Int × Int × Tag × Unit) : Option (((Bool × Unit) ⊕ (Int × Tag × Unit))) :=
  if decide (v.snd.fst < v.fst) = true then
    if (0 : Int) ≤ v.fst then
      v.snd.snd.fst.names[v.fst.toNat]? >>= fun x1 =>
      if (0 : Int) ≤ v.snd.fst then
        v.snd.snd.fst.names[v.snd.fst.toNat]? >>= fun x2 =>
        if (x1.toList == x2.toList) = true then
          some (Sum.inl (true, ()))
        else n_64l5 (v.fst, IntKind.i64.wrap (v.snd.fst + (1 : Int)), v.snd.snd.fst, ())
      else none
    else none
  else some (Sum.inr (v.fst, v.snd.snd.fst, ()))
  partial_fixpoint
noncomputable def n_64l2 (v : Int × Tag × Unit) : Option (((Bool × Unit) ⊕ (Tag × Unit))) :=
  if decide (v.fst < (↑v.snd.fst.names.length : Int)) = true then
    n_64l5 (v.fst, (0 : Int), v.snd.fst, ()) >>= fun x1 => match x1 with
      | .inl y1 => some (Sum.inl y1)
      | .inr y1 => n_64l2 (IntKind.i64.wrap (y1.fst + (1 : Int)), y1.snd.fst, ())
  else some (Sum.inr (v.snd.fst, ()))
  partial_fixpoint
mutual
noncomputable def n_64l10 (v : Int × Tag × Unit) : Option (((Bool × Unit) ⊕ (Unit))) :=
  if decide (v.fst < (↑v.snd.fst.parts.length : Int)) = true then
    if (0 : Int) ≤ v.fst then
      v.snd.fst.parts[v.fst.toNat]? >>= fun x1 =>
      n_64 (x1, ()) >>= fun x2 =>
      if x2.fst = true then
        some (Sum.inl (true, ()))
      else n_64l10 (IntKind.i64.wrap (v.fst + (1 : Int)), v.snd.fst, ())
    else none
  else some (Sum.inr ())
  partial_fixpoint
noncomputable def n_64 (v : Tag × Unit) : Option (Bool × Unit) :=
  n_64l2 ((0 : Int), v.fst, ()) >>= fun x1 => match x1 with
    | .inl y1 => some y1
    | .inr y1 => n_64l10 ((0 : Int), y1.fst, ()) >>= fun x2 => match x2 with
        | .inl y2 => some y2
        | .inr y2 => some ((false, ()))
  partial_fixpoint
end
noncomputable def call64 (n_64l5 : Int × Int × Tag × Unit → Option (((Bool × Unit) ⊕ (Int × Tag × Unit)))) (n_64l2 : Int × Tag × Unit → Option (((Bool × Unit) ⊕ (Tag × Unit)))) (n_64l10 : Int × Tag × Unit → Option (((Bool × Unit) ⊕ (Unit)))) (n_64 : Tag × Unit → Option (Bool × Unit)) : Caller vw := fun A fid args S k => match fid with | 64 => callPure Tryz.prog sig64 n_64 A args S k | _ => none
noncomputable def x64 (n_64l5 : Int × Int × Tag × Unit → Option (((Bool × Unit) ⊕ (Int × Tag × Unit)))) (n_64l2 : Int × Tag × Unit → Option (((Bool × Unit) ⊕ (Tag × Unit)))) (n_64l10 : Int × Tag × Unit → Option (((Bool × Unit) ⊕ (Unit)))) (n_64 : Tag × Unit → Option (Bool × Unit)) : Xc vw := { P := Tryz.prog, n := 42, nm := id, call := call64 n_64l5 n_64l2 n_64l10 n_64, pre := fun _ => false, sh := sh64, joins := fun _ => none, regs := fun _ => none, loops := fun k => match k with | 2 => some { cut := c64l2, alts := [.ret, .exit 0], F := n_64l2 } | 5 => some { cut := c64l5, alts := [.ret, .exit 2], F := n_64l5 } | 10 => some { cut := c64l10, alts := [.ret, .exit 4], F := n_64l10 } | _ => none }
abbrev mn_64l5 (v : Int × Int × Tag × Unit) (r : ((Bool × Unit) ⊕ (Int × Tag × Unit))) : Prop := (fun v out => ∀ C : Ctx, C.P = Tryz.prog → C.N = 42 → AWpL C (loopNo (loopNo (bodyOf Tryz.f64) 0) 0) (encS vw (conc vw c64l5 v)) (OutQ sh64 [.ret, .exit 2] out)) v r
theorem cn_64l5 (f0 : Int × Int × Tag × Unit → Option (((Bool × Unit) ⊕ (Int × Tag × Unit)))) (h0 : ∀ v r, f0 v = some r → mn_64l5 v r) : CallerOk Tryz.prog (x64 f0 (fun _ => none) (fun _ => none) (fun _ => none)).call := (by
        intro A fid args S dst k r h
        unfold x64 call64 at h
        simp only at h
        split at h
        · exact callPure_ok ((fun v r x h hx => by cases h)) rfl rfl h
        · cases h)
theorem sn_64l5 (f0 : Int × Int × Tag × Unit → Option (((Bool × Unit) ⊕ (Int × Tag × Unit)))) (h0 : ∀ v r, f0 v = some r → mn_64l5 v r) (v : Int × Int × Tag × Unit) (r : ((Bool × Unit) ⊕ (Int × Tag × Unit))) (h : exL (x64 f0 (fun _ => none) (fun _ => none) (fun _ => none)) (loopNo (loopNo (bodyOf Tryz.f64) 0) 0) c64l5 [.ret, .exit 2] f0 v = some r) : mn_64l5 v r := fun C hP hN => loop_step (X := x64 f0 (fun _ => none) (fun _ => none) (fun _ => none)) (b := (loopNo (loopNo (bodyOf Tryz.f64) 0) 0)) hP hN Ty.mixed (cn_64l5 f0 h0) (lok_all (X := x64 f0 (fun _ => none) (fun _ => none) (fun _ => none)) (c := (loopNo (loopNo (bodyOf Tryz.f64) 0) 0)) (kcast (by kernel_rfl : True = AllB (LoopsP C (x64 f0 (fun _ => none) (fun _ => none) (fun _ => none))) (loopsIn (loopNo (loopNo (bodyOf Tryz.f64) 0) 0))) trivial)) (cut := c64l5) (alts := [.ret, .exit 2]) (F := f0) (fun v out h => h0 v out h C hP hN) h
theorem n_64l5_pc : ∀ v out, n_64l5 v = some out → (fun v out => ∀ C : Ctx, C.P = Tryz.prog → C.N = 42 → AWpL C (loopNo (loopNo (bodyOf Tryz.f64) 0) 0) (encS vw (conc vw c64l5 v)) (OutQ sh64 [.ret, .exit 2] out)) v out := (n_64l5.partial_correctness (motive := mn_64l5) (fun f0 h0 v r h => sn_64l5 f0 h0 v r (kcast (by kernel_rfl) h)))
abbrev mn_64l2 (v : Int × Tag × Unit) (r : ((Bool × Unit) ⊕ (Tag × Unit))) : Prop := (fun v out => ∀ C : Ctx, C.P = Tryz.prog → C.N = 42 → AWpL C (loopNo (bodyOf Tryz.f64) 0) (encS vw (conc vw c64l2 v)) (OutQ sh64 [.ret, .exit 0] out)) v r
theorem cn_64l2 (f0 : Int × Tag × Unit → Option (((Bool × Unit) ⊕ (Tag × Unit)))) (h0 : ∀ v r, f0 v = some r → mn_64l2 v r) : CallerOk Tryz.prog (x64 n_64l5 f0 (fun _ => none) (fun _ => none)).call := (by
        intro A fid args S dst k r h
        unfold x64 call64 at h
        simp only at h
        split at h
        · exact callPure_ok ((fun v r x h hx => by cases h)) rfl rfl h
        · cases h)
theorem sn_64l2 (f0 : Int × Tag × Unit → Option (((Bool × Unit) ⊕ (Tag × Unit)))) (h0 : ∀ v r, f0 v = some r → mn_64l2 v r) (v : Int × Tag × Unit) (r : ((Bool × Unit) ⊕ (Tag × Unit))) (h : exL (x64 n_64l5 f0 (fun _ => none) (fun _ => none)) (loopNo (bodyOf Tryz.f64) 0) c64l2 [.ret, .exit 0] f0 v = some r) : mn_64l2 v r := fun C hP hN => loop_step (X := x64 n_64l5 f0 (fun _ => none) (fun _ => none)) (b := (loopNo (bodyOf Tryz.f64) 0)) hP hN Ty.mixed (cn_64l2 f0 h0) (lok_all (X := x64 n_64l5 f0 (fun _ => none) (fun _ => none)) (c := (loopNo (bodyOf Tryz.f64) 0)) (kcast (by kernel_rfl : AllB (LoopsP C (x64 n_64l5 f0 (fun _ => none) (fun _ => none))) [(loopNo (loopNo (bodyOf Tryz.f64) 0) 0)] = AllB (LoopsP C (x64 n_64l5 f0 (fun _ => none) (fun _ => none))) (loopsIn (loopNo (bodyOf Tryz.f64) 0))) ⟨loop_at (X := x64 n_64l5 f0 (fun _ => none) (fun _ => none)) (b := (loopNo (loopNo (bodyOf Tryz.f64) 0) 0)) (by kernel_rfl) (show LoopOk C (loopNo (loopNo (bodyOf Tryz.f64) 0) 0) (sh := sh64) { cut := c64l5, alts := [.ret, .exit 2], F := n_64l5 } from fun v out h => n_64l5_pc v out h C hP hN), trivial⟩)) (cut := c64l2) (alts := [.ret, .exit 0]) (F := f0) (fun v out h => h0 v out h C hP hN) h
theorem n_64l2_pc : ∀ v out, n_64l2 v = some out → (fun v out => ∀ C : Ctx, C.P = Tryz.prog → C.N = 42 → AWpL C (loopNo (bodyOf Tryz.f64) 0) (encS vw (conc vw c64l2 v)) (OutQ sh64 [.ret, .exit 0] out)) v out := (n_64l2.partial_correctness (motive := mn_64l2) (fun f0 h0 v r h => sn_64l2 f0 h0 v r (kcast (by kernel_rfl) h)))
abbrev mn_64l10 (v : Int × Tag × Unit) (r : ((Bool × Unit) ⊕ (Unit))) : Prop := (fun v out => ∀ C : Ctx, C.P = Tryz.prog → C.N = 42 → AWpL C (loopNo (bodyOf Tryz.f64) 1) (encS vw (conc vw c64l10 v)) (OutQ sh64 [.ret, .exit 4] out)) v r
abbrev mn_64 (v : Tag × Unit) (r : Bool × Unit) : Prop := (fun v r => ∀ x, resV Tryz.prog sig64 r = some x → FnOk Tryz.prog 64 (encL vw (startS sig64 v).len (startOs sig64 v).1) (encOs (startS sig64 v).len (startS sig64 v).own) (encV vw (conc vw sig64.rcut r).len x) (encOs (conc vw sig64.rcut r).len (kept sig64 r))) v r
theorem cn_64l10 (f0 : Int × Tag × Unit → Option (((Bool × Unit) ⊕ (Unit)))) (f1 : Tag × Unit → Option (Bool × Unit)) (h0 : ∀ v r, f0 v = some r → mn_64l10 v r) (h1 : ∀ v r, f1 v = some r → mn_64 v r) : CallerOk Tryz.prog (x64 (fun _ => none) (fun _ => none) f0 f1).call := (by
        intro A fid args S dst k r h
        unfold x64 call64 at h
        simp only at h
        split at h
        · exact callPure_ok ((fun v r x h hx => h1 v r h x hx)) rfl rfl h
        · cases h)
theorem sn_64l10 (f0 : Int × Tag × Unit → Option (((Bool × Unit) ⊕ (Unit)))) (f1 : Tag × Unit → Option (Bool × Unit)) (h0 : ∀ v r, f0 v = some r → mn_64l10 v r) (h1 : ∀ v r, f1 v = some r → mn_64 v r) (v : Int × Tag × Unit) (r : ((Bool × Unit) ⊕ (Unit))) (h : exL (x64 (fun _ => none) (fun _ => none) f0 f1) (loopNo (bodyOf Tryz.f64) 1) c64l10 [.ret, .exit 4] f0 v = some r) : mn_64l10 v r := fun C hP hN => loop_step (X := x64 (fun _ => none) (fun _ => none) f0 f1) (b := (loopNo (bodyOf Tryz.f64) 1)) hP hN Ty.mixed (cn_64l10 f0 f1 h0 h1) (lok_all (X := x64 (fun _ => none) (fun _ => none) f0 f1) (c := (loopNo (bodyOf Tryz.f64) 1)) (kcast (by kernel_rfl : True = AllB (LoopsP C (x64 (fun _ => none) (fun _ => none) f0 f1)) (loopsIn (loopNo (bodyOf Tryz.f64) 1))) trivial)) (cut := c64l10) (alts := [.ret, .exit 4]) (F := f0) (fun v out h => h0 v out h C hP hN) h
theorem cn_64 (f0 : Int × Tag × Unit → Option (((Bool × Unit) ⊕ (Unit)))) (h0 : ∀ v r, f0 v = some r → mn_64l10 v r) : CallerOk Tryz.prog (x64 (fun _ => none) n_64l2 f0 (fun _ => none)).call := (by
        intro A fid args S dst k r h
        unfold x64 call64 at h
        simp only at h
        split at h
        · exact callPure_ok ((fun v r x h hx => by cases h)) rfl rfl h
        · cases h)
theorem sn_64 (f0 : Int × Tag × Unit → Option (((Bool × Unit) ⊕ (Unit)))) (h0 : ∀ v r, f0 v = some r → mn_64l10 v r) (v : Tag × Unit) (r : Bool × Unit) (h : exF (x64 (fun _ => none) n_64l2 f0 (fun _ => none)) sig64 rfl (bodyOf Tryz.f64) v = some r) : mn_64 v r := fun x hx => fn_ok (X := x64 (fun _ => none) n_64l2 f0 (fun _ => none)) (sig := sig64) rfl Tryz.func64 (c := bodyOf Tryz.f64) (by kernel_rfl) Tryz.ntmps64 (by kernel_rfl) (by kernel_rfl) rfl Ty.mixed (cn_64 f0 h0) rfl (fun C hP hN => (lok_all (X := x64 (fun _ => none) n_64l2 f0 (fun _ => none)) (c := (bodyOf Tryz.f64)) (kcast (by kernel_rfl : AllB (LoopsP C (x64 (fun _ => none) n_64l2 f0 (fun _ => none))) [(loopNo (bodyOf Tryz.f64) 0), (loopNo (bodyOf Tryz.f64) 1)] = AllB (LoopsP C (x64 (fun _ => none) n_64l2 f0 (fun _ => none))) (loopsIn (bodyOf Tryz.f64))) ⟨loop_at (X := x64 (fun _ => none) n_64l2 f0 (fun _ => none)) (b := (loopNo (bodyOf Tryz.f64) 0)) (by kernel_rfl) (show LoopOk C (loopNo (bodyOf Tryz.f64) 0) (sh := sh64) { cut := c64l2, alts := [.ret, .exit 0], F := n_64l2 } from fun v out h => n_64l2_pc v out h C hP hN), loop_at (X := x64 (fun _ => none) n_64l2 f0 (fun _ => none)) (b := (loopNo (bodyOf Tryz.f64) 1)) (by kernel_rfl) (show LoopOk C (loopNo (bodyOf Tryz.f64) 1) (sh := sh64) { cut := c64l10, alts := [.ret, .exit 4], F := f0 } from fun v out h => h0 v out h C hP hN), trivial⟩))) h x hx
theorem n_64l10_all : (∀ v r, n_64l10 v = some r → mn_64l10 v r) ∧ (∀ v r, n_64 v = some r → mn_64 v r) := by
  refine n_64l10.mutual_partial_correctness
    (motive_1 := mn_64l10)
    (motive_2 := mn_64)
    ?_ ?_
  · exact (fun f0 f1 h0 h1 v r h => sn_64l10 f0 f1 h0 h1 v r (kcast (by kernel_rfl) h))
  · exact (fun f0 h0 v r h => sn_64 f0 h0 v r (kcast (by kernel_rfl) h))
theorem n_64l10_pc : ∀ v out, n_64l10 v = some out → (fun v out => ∀ C : Ctx, C.P = Tryz.prog → C.N = 42 → AWpL C (loopNo (bodyOf Tryz.f64) 1) (encS vw (conc vw c64l10 v)) (OutQ sh64 [.ret, .exit 4] out)) v out := n_64l10_all.1
theorem n_64_ok : SigOk Tryz.prog 64 sig64 n_64 := fun v r x h hx => n_64l10_all.2 v r h x hx

noncomputable def c30r2 : Cut SN := { slots := [(1, .bp 1 0), (21, .dat .bool)], objs := [(1, .st .tagT)] }
noncomputable def c30z : Cut SN := { slots := [(2, .dat (.int .i64))], objs := [] }
noncomputable def sh30 : Shape vw := { exits := fun _ => { slots := [], objs := [] }, rcut := c30z }
noncomputable def sig30 : Sig vw := { params := [.dat (.st .tagT)], objs := [], rcut := c30z, rvars := [.tmp 2], keep := [] }
noncomputable def n_30 (v : Tag × Unit) : Option (Int × Unit) :=
  n_43 (v.fst, ()) >>= fun x1 =>
  (if decide (x1.fst > (500 : Int)) = true then
      some ((true, v.fst, ()))
    else if decide (x1.snd.fst > (20 : Int)) = true then
      some ((true, v.fst, ()))
    else some ((decide (x1.snd.snd.fst > (4096 : Int)), v.fst, ()))) >>= fun x2 =>
  if x2.fst = true then
    some (((3 : Int), ()))
  else n_63 (x2.snd.fst, ()) >>= fun x3 =>
  if (!x3.fst) = true then
    some (((1 : Int), ()))
  else n_64 (x2.snd.fst, ()) >>= fun x4 =>
  if x4.fst = true then
    some (((5 : Int), ()))
  else some (((0 : Int), ()))
noncomputable def call30 : Caller vw := fun A fid args S k => match fid with | 43 => callPure Tryz.prog sig43 n_43 A args S k | 63 => callPure Tryz.prog sig63 n_63 A args S k | 64 => callPure Tryz.prog sig64 n_64 A args S k | _ => none
noncomputable def x30 : Xc vw := { P := Tryz.prog, n := 27, nm := id, call := call30, pre := fun _ => false, sh := sh30, joins := fun _ => none, regs := fun k => match k with | 2 => some c30r2 | _ => none, loops := fun _ => none }
theorem call30_ok : CallerOk Tryz.prog call30 := fun A fid args S dst k r h => by
  unfold call30 at h
  split at h
  · exact callPure_ok (n_43_ok) rfl rfl h
  · exact callPure_ok (n_63_ok) rfl rfl h
  · exact callPure_ok (n_64_ok) rfl rfl h
  · cases h
theorem n_30_ok : SigOk Tryz.prog 30 sig30 n_30 := fun v r x h hx =>
  fn_ok (X := x30) (sig := sig30) rfl Tryz.func30 (c := bodyOf Tryz.f30) (by kernel_rfl) Tryz.ntmps30 (by kernel_rfl) (by kernel_rfl) rfl Ty.mixed call30_ok rfl (fun C hP hN => (lok_all (X := x30) (c := (bodyOf Tryz.f30)) (kcast (by kernel_rfl : True = AllB (LoopsP C (x30)) (loopsIn (bodyOf Tryz.f30))) trivial))) (kcast (by kernel_rfl) h) x hx

noncomputable def c76r2 : Cut SN := { slots := [(4, .dat (.int .i64)), (18, .dat .bool)], objs := [] }
noncomputable def c76z : Cut SN := { slots := [(2, .dat (.int .i64)), (3, .dat .bool)], objs := [] }
noncomputable def sh76 : Shape vw := { exits := fun _ => { slots := [], objs := [] }, rcut := c76z }
noncomputable def sig76 : Sig vw := { params := [.dat .str], objs := [], rcut := c76z, rvars := [.tmp 2, .tmp 3], keep := [] }
noncomputable def n_76 (v : ByteArray × Unit) : Option (Int × Bool × Unit) :=
  n_78 (v.fst, ()) >>= fun x1 =>
  (if decide (x1.fst < (0 : Int)) = true then
      some ((x1.fst, true, ()))
    else n_79 (x1.fst, ()) >>= fun x2 =>
    some ((x1.fst, !x2.fst.toList == v.fst.toList, ()))) >>= fun x2 =>
  if x2.snd.fst = true then
    some (((0 : Int), false, ()))
  else some ((x2.fst, true, ()))
noncomputable def call76 : Caller vw := fun A fid args S k => match fid with | 78 => callPure Tryz.prog sig78 n_78 A args S k | 79 => callPure Tryz.prog sig79 n_79 A args S k | _ => none
noncomputable def x76 : Xc vw := { P := Tryz.prog, n := 20, nm := id, call := call76, pre := fun _ => false, sh := sh76, joins := fun _ => none, regs := fun k => match k with | 2 => some c76r2 | _ => none, loops := fun _ => none }
theorem call76_ok : CallerOk Tryz.prog call76 := fun A fid args S dst k r h => by
  unfold call76 at h
  split at h
  · exact callPure_ok (n_78_ok) rfl rfl h
  · exact callPure_ok (n_79_ok) rfl rfl h
  · cases h
theorem n_76_ok : SigOk Tryz.prog 76 sig76 n_76 := fun v r x h hx =>
  fn_ok (X := x76) (sig := sig76) rfl Tryz.func76 (c := bodyOf Tryz.f76) (by kernel_rfl) Tryz.ntmps76 (by kernel_rfl) (by kernel_rfl) rfl Ty.mixed call76_ok rfl (fun C hP hN => (lok_all (X := x76) (c := (bodyOf Tryz.f76)) (kcast (by kernel_rfl : True = AllB (LoopsP C (x76)) (loopsIn (bodyOf Tryz.f76))) trivial))) (kcast (by kernel_rfl) h) x hx

noncomputable def c46l7 : Cut SN := { slots := [(1, .dat .str), (2, .bp 2 0), (7, .dat (.int .i64))], objs := [(2, .st .tagT)] }
noncomputable def c46r3 : Cut SN := { slots := [(5, .dat (.int .i64)), (23, .dat .bool)], objs := [] }
noncomputable def c46e0 : Cut SN := { slots := [], objs := [] }
noncomputable def c46z : Cut SN := { slots := [(4, .dat (.int .i64))], objs := [] }
noncomputable def sh46 : Shape vw := { exits := fun id => match id with | 0 => c46e0 | _ => { slots := [], objs := [] }, rcut := c46z }
noncomputable def sig46 : Sig vw := { params := [.dat (.st .tagT), .dat .str], objs := [], rcut := c46z, rvars := [.tmp 4], keep := [] }
noncomputable def n_46l7 (v : ByteArray × Int × Tag × Unit) : Option (((Int × Unit) ⊕ (Unit))) :=
  if decide (v.snd.fst < (↑v.snd.snd.fst.names.length : Int)) = true then
    if (0 : Int) ≤ v.snd.fst then
      v.snd.snd.fst.names[v.snd.fst.toNat]? >>= fun x1 =>
      if (x1.toList == v.fst.toList) = true then
        some (Sum.inl (v.snd.fst, ()))
      else n_46l7 (v.fst, IntKind.i64.wrap (v.snd.fst + (1 : Int)), v.snd.snd.fst, ())
    else none
  else some (Sum.inr ())
  partial_fixpoint
noncomputable def n_46 (v : Tag × ByteArray × Unit) : Option (Int × Unit) :=
  if (v.fst.kind == (5 : Int)) = true then
    n_76 (v.snd.fst, ()) >>= fun x1 =>
    (if x1.snd.fst = true then
        some ((x1.fst, decide (x1.fst < (↑v.fst.parts.length : Int)), ()))
      else some ((x1.fst, false, ()))) >>= fun x2 =>
    if x2.snd.fst = true then
      some ((x2.fst, ()))
    else some (((-1 : Int), ()))
  else n_46l7 (v.snd.fst, (0 : Int), v.fst, ()) >>= fun x1 => match x1 with
    | .inl y1 => some y1
    | .inr y1 => some (((-1 : Int), ()))
noncomputable def call46 : Caller vw := fun A fid args S k => match fid with | 76 => callPure Tryz.prog sig76 n_76 A args S k | _ => none
noncomputable def x46 : Xc vw := { P := Tryz.prog, n := 40, nm := id, call := call46, pre := fun _ => false, sh := sh46, joins := fun _ => none, regs := fun k => match k with | 3 => some c46r3 | _ => none, loops := fun k => match k with | 7 => some { cut := c46l7, alts := [.ret, .exit 0], F := n_46l7 } | _ => none }
theorem call46_ok : CallerOk Tryz.prog call46 := fun A fid args S dst k r h => by
  unfold call46 at h
  split at h
  · exact callPure_ok (n_76_ok) rfl rfl h
  · cases h
theorem n_46l7_ok (C : Ctx) (hP : C.P = Tryz.prog) (hN : C.N = 40) : LoopOk C (loopNo (bodyOf Tryz.f46) 0) (sh := sh46) { cut := c46l7, alts := [.ret, .exit 0], F := n_46l7 } :=
  n_46l7.partial_correctness (motive := fun v out => AWpL C (loopNo (bodyOf Tryz.f46) 0) (encS vw (conc vw c46l7 v)) (OutQ sh46 [.ret, .exit 0] out)) fun F ih v out h =>
    loop_step (X := x46) (b := (loopNo (bodyOf Tryz.f46) 0)) hP hN Ty.mixed call46_ok (lok_all (X := x46) (c := (loopNo (bodyOf Tryz.f46) 0)) (kcast (by kernel_rfl : True = AllB (LoopsP C (x46)) (loopsIn (loopNo (bodyOf Tryz.f46) 0))) trivial)) ih (kcast (by kernel_rfl) h)
theorem n_46_ok : SigOk Tryz.prog 46 sig46 n_46 := fun v r x h hx =>
  fn_ok (X := x46) (sig := sig46) rfl Tryz.func46 (c := bodyOf Tryz.f46) (by kernel_rfl) Tryz.ntmps46 (by kernel_rfl) (by kernel_rfl) rfl Ty.mixed call46_ok rfl (fun C hP hN => (lok_all (X := x46) (c := (bodyOf Tryz.f46)) (kcast (by kernel_rfl : AllB (LoopsP C (x46)) [(loopNo (bodyOf Tryz.f46) 0)] = AllB (LoopsP C (x46)) (loopsIn (bodyOf Tryz.f46))) ⟨loop_at (X := x46) (b := (loopNo (bodyOf Tryz.f46) 0)) (by kernel_rfl) (n_46l7_ok C hP hN), trivial⟩))) (kcast (by kernel_rfl) h) x hx

noncomputable def c17l5 : Cut SN := { slots := [(1, .dat (.sl .str)), (2, .bp 2 0), (4, .bp 4 0), (8, .dat (.int .i64))], objs := [(2, .st .tagT), (4, .st .tagT)] }
noncomputable def c17e0 : Cut SN := { slots := [(2, .bp 2 0), (4, .bp 4 0)], objs := [(2, .st .tagT), (4, .st .tagT)] }
noncomputable def c17z : Cut SN := { slots := [(4, .bp 4 0), (5, .dat .bool), (6, .dat (.int .i64))], objs := [(4, .st .tagT)] }
noncomputable def sh17 : Shape vw := { exits := fun id => match id with | 0 => c17e0 | _ => { slots := [], objs := [] }, rcut := c17z }
noncomputable def sig17 : Sig vw := { params := [.dat (.st .tagT), .dat (.sl .str)], objs := [], rcut := c17z, rvars := [.cell 4 25, .tmp 5, .tmp 6], keep := [] }
noncomputable def n_17l5 (v : (List ByteArray) × Int × Tag × Tag × Unit) : Option (((Bool × Int × Tag × Unit) ⊕ (Tag × Tag × Unit))) :=
  if decide (v.snd.fst < (↑v.fst.length : Int)) = true then
    if (0 : Int) ≤ v.snd.fst then
      v.fst[v.snd.fst.toNat]? >>= fun x1 =>
      n_46 (v.snd.snd.fst, x1, ()) >>= fun x2 =>
      if decide (x2.fst < (0 : Int)) = true then
        some (Sum.inl (false, (0 : Int), Tag.mk (0 : Int) (0 : Int) (ByteArray.mk #[]) [] [], ()))
      else if (0 : Int) ≤ x2.fst then
        v.snd.snd.fst.parts[x2.fst.toNat]? >>= fun x3 =>
        n_17l5 (v.fst, IntKind.i64.wrap (v.snd.fst + (1 : Int)), x3, v.snd.snd.snd.fst, ())
      else none
    else none
  else some (Sum.inr (v.snd.snd.fst, v.snd.snd.snd.fst, ()))
  partial_fixpoint
noncomputable def n_17 (v : Tag × (List ByteArray) × Unit) : Option (Bool × Int × Tag × Unit) :=
  n_30 (v.fst, ()) >>= fun x1 =>
  if (x1.fst != (0 : Int)) = true then
    some ((false, x1.fst, Tag.mk (0 : Int) (0 : Int) (ByteArray.mk #[]) [] [], ()))
  else n_17l5 (v.snd.fst, (0 : Int), v.fst, Tag.mk (0 : Int) (0 : Int) (ByteArray.mk #[]) [] [], ()) >>= fun x2 => match x2 with
    | .inl y2 => some y2
    | .inr y2 => some ((true, (0 : Int), y2.fst, ()))
noncomputable def call17 : Caller vw := fun A fid args S k => match fid with | 30 => callPure Tryz.prog sig30 n_30 A args S k | 46 => callPure Tryz.prog sig46 n_46 A args S k | _ => none
noncomputable def x17 : Xc vw := { P := Tryz.prog, n := 37, nm := id, call := call17, pre := fun _ => false, sh := sh17, joins := fun _ => none, regs := fun _ => none, loops := fun k => match k with | 5 => some { cut := c17l5, alts := [.ret, .exit 0], F := n_17l5 } | _ => none }
theorem call17_ok : CallerOk Tryz.prog call17 := fun A fid args S dst k r h => by
  unfold call17 at h
  split at h
  · exact callPure_ok (n_30_ok) rfl rfl h
  · exact callPure_ok (n_46_ok) rfl rfl h
  · cases h
theorem n_17l5_ok (C : Ctx) (hP : C.P = Tryz.prog) (hN : C.N = 37) : LoopOk C (loopNo (bodyOf Tryz.f17) 0) (sh := sh17) { cut := c17l5, alts := [.ret, .exit 0], F := n_17l5 } :=
  n_17l5.partial_correctness (motive := fun v out => AWpL C (loopNo (bodyOf Tryz.f17) 0) (encS vw (conc vw c17l5 v)) (OutQ sh17 [.ret, .exit 0] out)) fun F ih v out h =>
    loop_step (X := x17) (b := (loopNo (bodyOf Tryz.f17) 0)) hP hN Ty.mixed call17_ok (lok_all (X := x17) (c := (loopNo (bodyOf Tryz.f17) 0)) (kcast (by kernel_rfl : True = AllB (LoopsP C (x17)) (loopsIn (loopNo (bodyOf Tryz.f17) 0))) trivial)) ih (kcast (by kernel_rfl) h)
theorem n_17_ok : SigOk Tryz.prog 17 sig17 n_17 := fun v r x h hx =>
  fn_ok (X := x17) (sig := sig17) rfl Tryz.func17 (c := bodyOf Tryz.f17) (by kernel_rfl) Tryz.ntmps17 (by kernel_rfl) (by kernel_rfl) rfl Ty.mixed call17_ok rfl (fun C hP hN => (lok_all (X := x17) (c := (bodyOf Tryz.f17)) (kcast (by kernel_rfl : AllB (LoopsP C (x17)) [(loopNo (bodyOf Tryz.f17) 0)] = AllB (LoopsP C (x17)) (loopsIn (bodyOf Tryz.f17))) ⟨loop_at (X := x17) (b := (loopNo (bodyOf Tryz.f17) 0)) (by kernel_rfl) (n_17l5_ok C hP hN), trivial⟩))) (kcast (by kernel_rfl) h) x hx

noncomputable def c42l4 : Cut SN := { slots := [(0, .dat (.sl .str)), (1, .dat (.sl .str)), (5, .dat (.int .i64))], objs := [] }
noncomputable def c42e0 : Cut SN := { slots := [], objs := [] }
noncomputable def c42z : Cut SN := { slots := [(4, .dat .bool)], objs := [] }
noncomputable def sh42 : Shape vw := { exits := fun id => match id with | 0 => c42e0 | _ => { slots := [], objs := [] }, rcut := c42z }
noncomputable def sig42 : Sig vw := { params := [.dat (.sl .str), .dat (.sl .str)], objs := [], rcut := c42z, rvars := [.tmp 4], keep := [] }
noncomputable def n_42l4 (v : (List ByteArray) × (List ByteArray) × Int × Unit) : Option (((Bool × Unit) ⊕ (Unit))) :=
  if decide (v.snd.snd.fst < (↑v.fst.length : Int)) = true then
    if (0 : Int) ≤ v.snd.snd.fst then
      v.fst[v.snd.snd.fst.toNat]? >>= fun x1 =>
      if (0 : Int) ≤ v.snd.snd.fst then
        v.snd.fst[v.snd.snd.fst.toNat]? >>= fun x2 =>
        if (!x1.toList == x2.toList) = true then
          some (Sum.inl (false, ()))
        else n_42l4 (v.fst, v.snd.fst, IntKind.i64.wrap (v.snd.snd.fst + (1 : Int)), ())
      else none
    else none
  else some (Sum.inr ())
  partial_fixpoint
noncomputable def n_42 (v : (List ByteArray) × (List ByteArray) × Unit) : Option (Bool × Unit) :=
  if ((↑v.fst.length : Int) != (↑v.snd.fst.length : Int)) = true then
    some ((false, ()))
  else n_42l4 (v.fst, v.snd.fst, (0 : Int), ()) >>= fun x1 => match x1 with
    | .inl y1 => some y1
    | .inr y1 => some ((true, ()))
noncomputable def call42 : Caller vw := fun _ _ _ _ _ => none
noncomputable def x42 : Xc vw := { P := Tryz.prog, n := 26, nm := id, call := call42, pre := fun _ => false, sh := sh42, joins := fun _ => none, regs := fun _ => none, loops := fun k => match k with | 4 => some { cut := c42l4, alts := [.ret, .exit 0], F := n_42l4 } | _ => none }
theorem call42_ok : CallerOk Tryz.prog call42 := call_none
theorem n_42l4_ok (C : Ctx) (hP : C.P = Tryz.prog) (hN : C.N = 26) : LoopOk C (loopNo (bodyOf Tryz.f42) 0) (sh := sh42) { cut := c42l4, alts := [.ret, .exit 0], F := n_42l4 } :=
  n_42l4.partial_correctness (motive := fun v out => AWpL C (loopNo (bodyOf Tryz.f42) 0) (encS vw (conc vw c42l4 v)) (OutQ sh42 [.ret, .exit 0] out)) fun F ih v out h =>
    loop_step (X := x42) (b := (loopNo (bodyOf Tryz.f42) 0)) hP hN Ty.mixed call42_ok (lok_all (X := x42) (c := (loopNo (bodyOf Tryz.f42) 0)) (kcast (by kernel_rfl : True = AllB (LoopsP C (x42)) (loopsIn (loopNo (bodyOf Tryz.f42) 0))) trivial)) ih (kcast (by kernel_rfl) h)
theorem n_42_ok : SigOk Tryz.prog 42 sig42 n_42 := fun v r x h hx =>
  fn_ok (X := x42) (sig := sig42) rfl Tryz.func42 (c := bodyOf Tryz.f42) (by kernel_rfl) Tryz.ntmps42 (by kernel_rfl) (by kernel_rfl) rfl Ty.mixed call42_ok rfl (fun C hP hN => (lok_all (X := x42) (c := (bodyOf Tryz.f42)) (kcast (by kernel_rfl : AllB (LoopsP C (x42)) [(loopNo (bodyOf Tryz.f42) 0)] = AllB (LoopsP C (x42)) (loopsIn (bodyOf Tryz.f42))) ⟨loop_at (X := x42) (b := (loopNo (bodyOf Tryz.f42) 0)) (by kernel_rfl) (n_42l4_ok C hP hN), trivial⟩))) (kcast (by kernel_rfl) h) x hx

noncomputable def c18l4 : Cut SN := { slots := [(2, .bp 2 0), (3, .bp 3 0), (5, .dat (.int .i64))], objs := [(2, .st .tagT), (3, .st .tagT)] }
noncomputable def c18r1 : Cut SN := { slots := [(2, .bp 2 0), (3, .bp 3 0), (41, .dat .bool)], objs := [(2, .st .tagT), (3, .st .tagT)] }
noncomputable def c18e0 : Cut SN := { slots := [], objs := [] }
noncomputable def c18z : Cut SN := { slots := [(4, .dat .bool)], objs := [] }
noncomputable def sh18 : Shape vw := { exits := fun id => match id with | 0 => c18e0 | _ => { slots := [], objs := [] }, rcut := c18z }
noncomputable def sig18 : Sig vw := { params := [.dat (.st .tagT), .dat (.st .tagT)], objs := [], rcut := c18z, rvars := [.tmp 4], keep := [] }
mutual
noncomputable def n_18l4 (v : Int × Tag × Tag × Unit) : Option (((Bool × Unit) ⊕ (Unit))) :=
  if decide (v.fst < (↑v.snd.fst.parts.length : Int)) = true then
    if (0 : Int) ≤ v.fst then
      v.snd.fst.parts[v.fst.toNat]? >>= fun x1 =>
      if (0 : Int) ≤ v.fst then
        v.snd.snd.fst.parts[v.fst.toNat]? >>= fun x2 =>
        n_18 (x1, x2, ()) >>= fun x3 =>
        if (!x3.fst) = true then
          some (Sum.inl (false, ()))
        else n_18l4 (IntKind.i64.wrap (v.fst + (1 : Int)), v.snd.fst, v.snd.snd.fst, ())
      else none
    else none
  else some (Sum.inr ())
  partial_fixpoint
noncomputable def n_18 (v : Tag × Tag × Unit) : Option (Bool × Unit) :=
  (if (v.fst.kind != v.snd.fst.kind) = true then
      some ((true, v.fst, v.snd.fst, ()))
    else if (v.fst.n != v.snd.fst.n) = true then
      some ((true, v.fst, v.snd.fst, ()))
    else if (!v.fst.text.toList == v.snd.fst.text.toList) = true then
      some ((true, v.fst, v.snd.fst, ()))
    else n_42 (v.fst.names, v.snd.fst.names, ()) >>= fun x1 =>
    if (!x1.fst) = true then
      some ((true, v.fst, v.snd.fst, ()))
    else some (((↑v.fst.parts.length : Int) != (↑v.snd.fst.parts.length : Int), v.fst, v.snd.fst, ()))) >>= fun x1 =>
  if x1.fst = true then
    some ((false, ()))
  else n_18l4 ((0 : Int), x1.snd.fst, x1.snd.snd.fst, ()) >>= fun x2 => match x2 with
    | .inl y2 => some y2
    | .inr y2 => some ((true, ()))
  partial_fixpoint
end
noncomputable def call18 (n_18l4 : Int × Tag × Tag × Unit → Option (((Bool × Unit) ⊕ (Unit)))) (n_18 : Tag × Tag × Unit → Option (Bool × Unit)) : Caller vw := fun A fid args S k => match fid with | 18 => callPure Tryz.prog sig18 n_18 A args S k | 42 => callPure Tryz.prog sig42 n_42 A args S k | _ => none
noncomputable def x18 (n_18l4 : Int × Tag × Tag × Unit → Option (((Bool × Unit) ⊕ (Unit)))) (n_18 : Tag × Tag × Unit → Option (Bool × Unit)) : Xc vw := { P := Tryz.prog, n := 61, nm := id, call := call18 n_18l4 n_18, pre := fun _ => false, sh := sh18, joins := fun _ => none, regs := fun k => match k with | 1 => some c18r1 | _ => none, loops := fun k => match k with | 4 => some { cut := c18l4, alts := [.ret, .exit 0], F := n_18l4 } | _ => none }
abbrev mn_18l4 (v : Int × Tag × Tag × Unit) (r : ((Bool × Unit) ⊕ (Unit))) : Prop := (fun v out => ∀ C : Ctx, C.P = Tryz.prog → C.N = 61 → AWpL C (loopNo (bodyOf Tryz.f18) 0) (encS vw (conc vw c18l4 v)) (OutQ sh18 [.ret, .exit 0] out)) v r
abbrev mn_18 (v : Tag × Tag × Unit) (r : Bool × Unit) : Prop := (fun v r => ∀ x, resV Tryz.prog sig18 r = some x → FnOk Tryz.prog 18 (encL vw (startS sig18 v).len (startOs sig18 v).1) (encOs (startS sig18 v).len (startS sig18 v).own) (encV vw (conc vw sig18.rcut r).len x) (encOs (conc vw sig18.rcut r).len (kept sig18 r))) v r
theorem cn_18l4 (f0 : Int × Tag × Tag × Unit → Option (((Bool × Unit) ⊕ (Unit)))) (f1 : Tag × Tag × Unit → Option (Bool × Unit)) (h0 : ∀ v r, f0 v = some r → mn_18l4 v r) (h1 : ∀ v r, f1 v = some r → mn_18 v r) : CallerOk Tryz.prog (x18 f0 f1).call := (by
        intro A fid args S dst k r h
        unfold x18 call18 at h
        simp only at h
        split at h
        · exact callPure_ok ((fun v r x h hx => h1 v r h x hx)) rfl rfl h
        · exact callPure_ok (n_42_ok) rfl rfl h
        · cases h)
theorem sn_18l4 (f0 : Int × Tag × Tag × Unit → Option (((Bool × Unit) ⊕ (Unit)))) (f1 : Tag × Tag × Unit → Option (Bool × Unit)) (h0 : ∀ v r, f0 v = some r → mn_18l4 v r) (h1 : ∀ v r, f1 v = some r → mn_18 v r) (v : Int × Tag × Tag × Unit) (r : ((Bool × Unit) ⊕ (Unit))) (h : exL (x18 f0 f1) (loopNo (bodyOf Tryz.f18) 0) c18l4 [.ret, .exit 0] f0 v = some r) : mn_18l4 v r := fun C hP hN => loop_step (X := x18 f0 f1) (b := (loopNo (bodyOf Tryz.f18) 0)) hP hN Ty.mixed (cn_18l4 f0 f1 h0 h1) (lok_all (X := x18 f0 f1) (c := (loopNo (bodyOf Tryz.f18) 0)) (kcast (by kernel_rfl : True = AllB (LoopsP C (x18 f0 f1)) (loopsIn (loopNo (bodyOf Tryz.f18) 0))) trivial)) (cut := c18l4) (alts := [.ret, .exit 0]) (F := f0) (fun v out h => h0 v out h C hP hN) h
theorem cn_18 (f0 : Int × Tag × Tag × Unit → Option (((Bool × Unit) ⊕ (Unit)))) (h0 : ∀ v r, f0 v = some r → mn_18l4 v r) : CallerOk Tryz.prog (x18 f0 (fun _ => none)).call := (by
        intro A fid args S dst k r h
        unfold x18 call18 at h
        simp only at h
        split at h
        · exact callPure_ok ((fun v r x h hx => by cases h)) rfl rfl h
        · exact callPure_ok (n_42_ok) rfl rfl h
        · cases h)
theorem sn_18 (f0 : Int × Tag × Tag × Unit → Option (((Bool × Unit) ⊕ (Unit)))) (h0 : ∀ v r, f0 v = some r → mn_18l4 v r) (v : Tag × Tag × Unit) (r : Bool × Unit) (h : exF (x18 f0 (fun _ => none)) sig18 rfl (bodyOf Tryz.f18) v = some r) : mn_18 v r := fun x hx => fn_ok (X := x18 f0 (fun _ => none)) (sig := sig18) rfl Tryz.func18 (c := bodyOf Tryz.f18) (by kernel_rfl) Tryz.ntmps18 (by kernel_rfl) (by kernel_rfl) rfl Ty.mixed (cn_18 f0 h0) rfl (fun C hP hN => (lok_all (X := x18 f0 (fun _ => none)) (c := (bodyOf Tryz.f18)) (kcast (by kernel_rfl : AllB (LoopsP C (x18 f0 (fun _ => none))) [(loopNo (bodyOf Tryz.f18) 0)] = AllB (LoopsP C (x18 f0 (fun _ => none))) (loopsIn (bodyOf Tryz.f18))) ⟨loop_at (X := x18 f0 (fun _ => none)) (b := (loopNo (bodyOf Tryz.f18) 0)) (by kernel_rfl) (show LoopOk C (loopNo (bodyOf Tryz.f18) 0) (sh := sh18) { cut := c18l4, alts := [.ret, .exit 0], F := f0 } from fun v out h => h0 v out h C hP hN), trivial⟩))) h x hx
theorem n_18l4_all : (∀ v r, n_18l4 v = some r → mn_18l4 v r) ∧ (∀ v r, n_18 v = some r → mn_18 v r) := by
  refine n_18l4.mutual_partial_correctness
    (motive_1 := mn_18l4)
    (motive_2 := mn_18)
    ?_ ?_
  · exact (fun f0 f1 h0 h1 v r h => sn_18l4 f0 f1 h0 h1 v r (kcast (by kernel_rfl) h))
  · exact (fun f0 h0 v r h => sn_18 f0 h0 v r (kcast (by kernel_rfl) h))
theorem n_18l4_pc : ∀ v out, n_18l4 v = some out → (fun v out => ∀ C : Ctx, C.P = Tryz.prog → C.N = 61 → AWpL C (loopNo (bodyOf Tryz.f18) 0) (encS vw (conc vw c18l4 v)) (OutQ sh18 [.ret, .exit 0] out)) v out := n_18l4_all.1
theorem n_18_ok : SigOk Tryz.prog 18 sig18 n_18 := fun v r x h hx => n_18l4_all.2 v r h x hx

noncomputable def c47l4 : Cut SN := { slots := [(0, .dat (.sl .str)), (1, .dat (.sl .str)), (12, .dat (.int .i64)), (13, .dat (.int .i64))], objs := [] }
noncomputable def c47e0 : Cut SN := { slots := [], objs := [] }
noncomputable def c47z : Cut SN := { slots := [(4, .dat .bool)], objs := [] }
noncomputable def sh47 : Shape vw := { exits := fun id => match id with | 0 => c47e0 | _ => { slots := [], objs := [] }, rcut := c47z }
noncomputable def sig47 : Sig vw := { params := [.dat (.sl .str), .dat (.sl .str)], objs := [], rcut := c47z, rvars := [.tmp 4], keep := [] }
noncomputable def n_47l4 (v : (List ByteArray) × (List ByteArray) × Int × Int × Unit) : Option (((Bool × Unit) ⊕ (Unit))) :=
  if decide (v.snd.snd.snd.fst < v.snd.snd.fst) = true then
    if (0 : Int) ≤ v.snd.snd.snd.fst then
      v.fst[v.snd.snd.snd.fst.toNat]? >>= fun x1 =>
      if (0 : Int) ≤ v.snd.snd.snd.fst then
        v.snd.fst[v.snd.snd.snd.fst.toNat]? >>= fun x2 =>
        if (!x1.toList == x2.toList) = true then
          some (Sum.inl (false, ()))
        else n_47l4 (v.fst, v.snd.fst, v.snd.snd.fst, IntKind.i64.wrap (v.snd.snd.snd.fst + (1 : Int)), ())
      else none
    else none
  else some (Sum.inr ())
  partial_fixpoint
noncomputable def n_47 (v : (List ByteArray) × (List ByteArray) × Unit) : Option (Bool × Unit) :=
  if ((↑v.fst.length : Int) != (↑v.snd.fst.length : Int)) = true then
    some ((false, ()))
  else n_47l4 (v.fst, v.snd.fst, (↑v.fst.length : Int), (0 : Int), ()) >>= fun x1 => match x1 with
    | .inl y1 => some y1
    | .inr y1 => some ((true, ()))
noncomputable def call47 : Caller vw := fun _ _ _ _ _ => none
noncomputable def x47 : Xc vw := { P := Tryz.prog, n := 26, nm := id, call := call47, pre := fun _ => false, sh := sh47, joins := fun _ => none, regs := fun _ => none, loops := fun k => match k with | 4 => some { cut := c47l4, alts := [.ret, .exit 0], F := n_47l4 } | _ => none }
theorem call47_ok : CallerOk Tryz.prog call47 := call_none
theorem n_47l4_ok (C : Ctx) (hP : C.P = Tryz.prog) (hN : C.N = 26) : LoopOk C (loopNo (bodyOf Tryz.f47) 0) (sh := sh47) { cut := c47l4, alts := [.ret, .exit 0], F := n_47l4 } :=
  n_47l4.partial_correctness (motive := fun v out => AWpL C (loopNo (bodyOf Tryz.f47) 0) (encS vw (conc vw c47l4 v)) (OutQ sh47 [.ret, .exit 0] out)) fun F ih v out h =>
    loop_step (X := x47) (b := (loopNo (bodyOf Tryz.f47) 0)) hP hN Ty.mixed call47_ok (lok_all (X := x47) (c := (loopNo (bodyOf Tryz.f47) 0)) (kcast (by kernel_rfl : True = AllB (LoopsP C (x47)) (loopsIn (loopNo (bodyOf Tryz.f47) 0))) trivial)) ih (kcast (by kernel_rfl) h)
theorem n_47_ok : SigOk Tryz.prog 47 sig47 n_47 := fun v r x h hx =>
  fn_ok (X := x47) (sig := sig47) rfl Tryz.func47 (c := bodyOf Tryz.f47) (by kernel_rfl) Tryz.ntmps47 (by kernel_rfl) (by kernel_rfl) rfl Ty.mixed call47_ok rfl (fun C hP hN => (lok_all (X := x47) (c := (bodyOf Tryz.f47)) (kcast (by kernel_rfl : AllB (LoopsP C (x47)) [(loopNo (bodyOf Tryz.f47) 0)] = AllB (LoopsP C (x47)) (loopsIn (bodyOf Tryz.f47))) ⟨loop_at (X := x47) (b := (loopNo (bodyOf Tryz.f47) 0)) (by kernel_rfl) (n_47l4_ok C hP hN), trivial⟩))) (kcast (by kernel_rfl) h) x hx

noncomputable def c19r1 : Cut SN := { slots := [(4, .dat .bool)], objs := [] }
noncomputable def c19z : Cut SN := { slots := [(4, .dat .bool)], objs := [] }
noncomputable def sh19 : Shape vw := { exits := fun _ => { slots := [], objs := [] }, rcut := c19z }
noncomputable def sig19 : Sig vw := { params := [.dat (.st .tagT), .dat (.st .tagT)], objs := [], rcut := c19z, rvars := [.tmp 4], keep := [] }
noncomputable def c48c19l4 : Cut SN := { slots := [(1, .dat (.sl (.st .tagT))), (2, .fn 19 [] []), (15, .dat (.sl (.st .tagT))), (16, .dat (.int .i64)), (17, .dat (.int .i64))], objs := [] }
noncomputable def c48c19e0 : Cut SN := { slots := [], objs := [] }
noncomputable def c48c19z : Cut SN := { slots := [(6, .dat .bool)], objs := [] }
noncomputable def sh48c19 : Shape vw := { exits := fun id => match id with | 0 => c48c19e0 | _ => { slots := [], objs := [] }, rcut := c48c19z }
noncomputable def sig48c19 : Sig vw := { params := [.dat (.sl (.st .tagT)), .dat (.sl (.st .tagT)), .fn 19 [] []], objs := [], rcut := c48c19z, rvars := [.tmp 6], keep := [] }
mutual
noncomputable def n_19 (v : Tag × Tag × Unit) : Option (Bool × Unit) :=
  (if (v.fst.kind == v.snd.fst.kind) = true then
      if (v.fst.n == v.snd.fst.n) = true then
        if (v.fst.text.toList == v.snd.fst.text.toList) = true then
          n_47 (v.fst.names, v.snd.fst.names, ()) >>= fun x1 =>
          if x1.fst = true then
            n_48c19 (v.fst.parts, v.snd.fst.parts, ()) >>= fun x2 =>
            some ((x2.fst, ()))
          else some ((false, ()))
        else some ((false, ()))
      else some ((false, ()))
    else some ((false, ()))) >>= fun x1 =>
  some ((x1.fst, ()))
  partial_fixpoint
noncomputable def n_48c19 (v : (List Tag) × (List Tag) × Unit) : Option (Bool × Unit) :=
  if ((↑v.fst.length : Int) != (↑v.snd.fst.length : Int)) = true then
    some ((false, ()))
  else n_48c19l4 (v.snd.fst, v.fst, (↑v.fst.length : Int), (0 : Int), ()) >>= fun x1 => match x1 with
    | .inl y1 => some y1
    | .inr y1 => some ((true, ()))
  partial_fixpoint
noncomputable def n_48c19l4 (v : (List Tag) × (List Tag) × Int × Int × Unit) : Option (((Bool × Unit) ⊕ (Unit))) :=
  if decide (v.snd.snd.snd.fst < v.snd.snd.fst) = true then
    if (0 : Int) ≤ v.snd.snd.snd.fst then
      v.snd.fst[v.snd.snd.snd.fst.toNat]? >>= fun x1 =>
      if (0 : Int) ≤ v.snd.snd.snd.fst then
        v.fst[v.snd.snd.snd.fst.toNat]? >>= fun x2 =>
        n_19 (x1, x2, ()) >>= fun x3 =>
        if (!x3.fst) = true then
          some (Sum.inl (false, ()))
        else n_48c19l4 (v.fst, v.snd.fst, v.snd.snd.fst, IntKind.i64.wrap (v.snd.snd.snd.fst + (1 : Int)), ())
      else none
    else none
  else some (Sum.inr ())
  partial_fixpoint
end
noncomputable def call19 (n_19 : Tag × Tag × Unit → Option (Bool × Unit)) (n_48c19 : (List Tag) × (List Tag) × Unit → Option (Bool × Unit)) (n_48c19l4 : (List Tag) × (List Tag) × Int × Int × Unit → Option (((Bool × Unit) ⊕ (Unit)))) : Caller vw := fun A fid args S k => match fid with | 47 => callPure Tryz.prog sig47 n_47 A args S k | 48 => callPure Tryz.prog sig48c19 n_48c19 A args S k | _ => none
noncomputable def x19 (n_19 : Tag × Tag × Unit → Option (Bool × Unit)) (n_48c19 : (List Tag) × (List Tag) × Unit → Option (Bool × Unit)) (n_48c19l4 : (List Tag) × (List Tag) × Int × Int × Unit → Option (((Bool × Unit) ⊕ (Unit)))) : Xc vw := { P := Tryz.prog, n := 38, nm := id, call := call19 n_19 n_48c19 n_48c19l4, pre := fun _ => false, sh := sh19, joins := fun _ => none, regs := fun k => match k with | 1 => some c19r1 | _ => none, loops := fun _ => none }
noncomputable def call48c19 (n_19 : Tag × Tag × Unit → Option (Bool × Unit)) (n_48c19 : (List Tag) × (List Tag) × Unit → Option (Bool × Unit)) (n_48c19l4 : (List Tag) × (List Tag) × Int × Int × Unit → Option (((Bool × Unit) ⊕ (Unit)))) : Caller vw := fun A fid args S k => match fid with | 19 => callPure Tryz.prog sig19 n_19 A args S k | _ => none
noncomputable def x48c19 (n_19 : Tag × Tag × Unit → Option (Bool × Unit)) (n_48c19 : (List Tag) × (List Tag) × Unit → Option (Bool × Unit)) (n_48c19l4 : (List Tag) × (List Tag) × Int × Int × Unit → Option (((Bool × Unit) ⊕ (Unit)))) : Xc vw := { P := Tryz.prog, n := 32, nm := id, call := call48c19 n_19 n_48c19 n_48c19l4, pre := fun _ => false, sh := sh48c19, joins := fun _ => none, regs := fun _ => none, loops := fun k => match k with | 4 => some { cut := c48c19l4, alts := [.ret, .exit 0], F := n_48c19l4 } | _ => none }
abbrev mn_19 (v : Tag × Tag × Unit) (r : Bool × Unit) : Prop := (fun v r => ∀ x, resV Tryz.prog sig19 r = some x → FnOk Tryz.prog 19 (encL vw (startS sig19 v).len (startOs sig19 v).1) (encOs (startS sig19 v).len (startS sig19 v).own) (encV vw (conc vw sig19.rcut r).len x) (encOs (conc vw sig19.rcut r).len (kept sig19 r))) v r
abbrev mn_48c19 (v : (List Tag) × (List Tag) × Unit) (r : Bool × Unit) : Prop := (fun v r => ∀ x, resV Tryz.prog sig48c19 r = some x → FnOk Tryz.prog 48 (encL vw (startS sig48c19 v).len (startOs sig48c19 v).1) (encOs (startS sig48c19 v).len (startS sig48c19 v).own) (encV vw (conc vw sig48c19.rcut r).len x) (encOs (conc vw sig48c19.rcut r).len (kept sig48c19 r))) v r
abbrev mn_48c19l4 (v : (List Tag) × (List Tag) × Int × Int × Unit) (r : ((Bool × Unit) ⊕ (Unit))) : Prop := (fun v out => ∀ C : Ctx, C.P = Tryz.prog → C.N = 32 → AWpL C (loopNo (bodyOf Tryz.f48) 0) (encS vw (conc vw c48c19l4 v)) (OutQ sh48c19 [.ret, .exit 0] out)) v r
theorem cn_19 (f0 : (List Tag) × (List Tag) × Unit → Option (Bool × Unit)) (h0 : ∀ v r, f0 v = some r → mn_48c19 v r) : CallerOk Tryz.prog (x19 (fun _ => none) f0 (fun _ => none)).call := (by
        intro A fid args S dst k r h
        unfold x19 call19 at h
        simp only at h
        split at h
        · exact callPure_ok (n_47_ok) rfl rfl h
        · exact callPure_ok ((fun v r x h hx => h0 v r h x hx)) rfl rfl h
        · cases h)
theorem sn_19 (f0 : (List Tag) × (List Tag) × Unit → Option (Bool × Unit)) (h0 : ∀ v r, f0 v = some r → mn_48c19 v r) (v : Tag × Tag × Unit) (r : Bool × Unit) (h : exF (x19 (fun _ => none) f0 (fun _ => none)) sig19 rfl (bodyOf Tryz.f19) v = some r) : mn_19 v r := fun x hx => fn_ok (X := x19 (fun _ => none) f0 (fun _ => none)) (sig := sig19) rfl Tryz.func19 (c := bodyOf Tryz.f19) (by kernel_rfl) Tryz.ntmps19 (by kernel_rfl) (by kernel_rfl) rfl Ty.mixed (cn_19 f0 h0) rfl (fun C hP hN => (lok_all (X := x19 (fun _ => none) f0 (fun _ => none)) (c := (bodyOf Tryz.f19)) (kcast (by kernel_rfl : True = AllB (LoopsP C (x19 (fun _ => none) f0 (fun _ => none))) (loopsIn (bodyOf Tryz.f19))) trivial))) h x hx
theorem cn_48c19 (f0 : (List Tag) × (List Tag) × Int × Int × Unit → Option (((Bool × Unit) ⊕ (Unit)))) (h0 : ∀ v r, f0 v = some r → mn_48c19l4 v r) : CallerOk Tryz.prog (x48c19 (fun _ => none) (fun _ => none) f0).call := (by
        intro A fid args S dst k r h
        unfold x48c19 call48c19 at h
        simp only at h
        split at h
        · exact callPure_ok ((fun v r x h hx => by cases h)) rfl rfl h
        · cases h)
theorem sn_48c19 (f0 : (List Tag) × (List Tag) × Int × Int × Unit → Option (((Bool × Unit) ⊕ (Unit)))) (h0 : ∀ v r, f0 v = some r → mn_48c19l4 v r) (v : (List Tag) × (List Tag) × Unit) (r : Bool × Unit) (h : exF (x48c19 (fun _ => none) (fun _ => none) f0) sig48c19 rfl (bodyOf Tryz.f48) v = some r) : mn_48c19 v r := fun x hx => fn_ok (X := x48c19 (fun _ => none) (fun _ => none) f0) (sig := sig48c19) rfl Tryz.func48 (c := bodyOf Tryz.f48) (by kernel_rfl) Tryz.ntmps48 (by kernel_rfl) (by kernel_rfl) rfl Ty.mixed (cn_48c19 f0 h0) rfl (fun C hP hN => (lok_all (X := x48c19 (fun _ => none) (fun _ => none) f0) (c := (bodyOf Tryz.f48)) (kcast (by kernel_rfl : AllB (LoopsP C (x48c19 (fun _ => none) (fun _ => none) f0)) [(loopNo (bodyOf Tryz.f48) 0)] = AllB (LoopsP C (x48c19 (fun _ => none) (fun _ => none) f0)) (loopsIn (bodyOf Tryz.f48))) ⟨loop_at (X := x48c19 (fun _ => none) (fun _ => none) f0) (b := (loopNo (bodyOf Tryz.f48) 0)) (by kernel_rfl) (show LoopOk C (loopNo (bodyOf Tryz.f48) 0) (sh := sh48c19) { cut := c48c19l4, alts := [.ret, .exit 0], F := f0 } from fun v out h => h0 v out h C hP hN), trivial⟩))) h x hx
theorem cn_48c19l4 (f0 : Tag × Tag × Unit → Option (Bool × Unit)) (f1 : (List Tag) × (List Tag) × Int × Int × Unit → Option (((Bool × Unit) ⊕ (Unit)))) (h0 : ∀ v r, f0 v = some r → mn_19 v r) (h1 : ∀ v r, f1 v = some r → mn_48c19l4 v r) : CallerOk Tryz.prog (x48c19 f0 (fun _ => none) f1).call := (by
        intro A fid args S dst k r h
        unfold x48c19 call48c19 at h
        simp only at h
        split at h
        · exact callPure_ok ((fun v r x h hx => h0 v r h x hx)) rfl rfl h
        · cases h)
theorem sn_48c19l4 (f0 : Tag × Tag × Unit → Option (Bool × Unit)) (f1 : (List Tag) × (List Tag) × Int × Int × Unit → Option (((Bool × Unit) ⊕ (Unit)))) (h0 : ∀ v r, f0 v = some r → mn_19 v r) (h1 : ∀ v r, f1 v = some r → mn_48c19l4 v r) (v : (List Tag) × (List Tag) × Int × Int × Unit) (r : ((Bool × Unit) ⊕ (Unit))) (h : exL (x48c19 f0 (fun _ => none) f1) (loopNo (bodyOf Tryz.f48) 0) c48c19l4 [.ret, .exit 0] f1 v = some r) : mn_48c19l4 v r := fun C hP hN => loop_step (X := x48c19 f0 (fun _ => none) f1) (b := (loopNo (bodyOf Tryz.f48) 0)) hP hN Ty.mixed (cn_48c19l4 f0 f1 h0 h1) (lok_all (X := x48c19 f0 (fun _ => none) f1) (c := (loopNo (bodyOf Tryz.f48) 0)) (kcast (by kernel_rfl : True = AllB (LoopsP C (x48c19 f0 (fun _ => none) f1)) (loopsIn (loopNo (bodyOf Tryz.f48) 0))) trivial)) (cut := c48c19l4) (alts := [.ret, .exit 0]) (F := f1) (fun v out h => h1 v out h C hP hN) h
theorem n_19_all : (∀ v r, n_19 v = some r → mn_19 v r) ∧ (∀ v r, n_48c19 v = some r → mn_48c19 v r) ∧ (∀ v r, n_48c19l4 v = some r → mn_48c19l4 v r) := by
  refine n_19.mutual_partial_correctness
    (motive_1 := mn_19)
    (motive_2 := mn_48c19)
    (motive_3 := mn_48c19l4)
    ?_ ?_ ?_
  · exact (fun f0 h0 v r h => sn_19 f0 h0 v r (kcast (by kernel_rfl) h))
  · exact (fun f0 h0 v r h => sn_48c19 f0 h0 v r (kcast (by kernel_rfl) h))
  · exact (fun f0 f1 h0 h1 v r h => sn_48c19l4 f0 f1 h0 h1 v r (kcast (by kernel_rfl) h))
theorem n_19_ok : SigOk Tryz.prog 19 sig19 n_19 := fun v r x h hx => n_19_all.1 v r h x hx
theorem n_48c19_ok : SigOk Tryz.prog 48 sig48c19 n_48c19 := fun v r x h hx => n_19_all.2.1 v r h x hx
theorem n_48c19l4_pc : ∀ v out, n_48c19l4 v = some out → (fun v out => ∀ C : Ctx, C.P = Tryz.prog → C.N = 32 → AWpL C (loopNo (bodyOf Tryz.f48) 0) (encS vw (conc vw c48c19l4 v)) (OutQ sh48c19 [.ret, .exit 0] out)) v out := n_19_all.2.2

noncomputable def c3r1 : Cut SN := { slots := [(1, .dat (.sl .str)), (2, .bp 2 0), (16, .dat .bool)], objs := [(2, .st .tagT)] }
noncomputable def c3r5 : Cut SN := { slots := [(4, .dat .bool)], objs := [] }
noncomputable def c3z : Cut SN := { slots := [(4, .dat .bool)], objs := [] }
noncomputable def sh3 : Shape vw := { exits := fun _ => { slots := [], objs := [] }, rcut := c3z }
noncomputable def sig3 : Sig vw := { params := [.dat (.st .tagT), .dat (.sl .str)], objs := [], rcut := c3z, rvars := [.tmp 4], keep := [] }
noncomputable def n_3 (v : Tag × (List ByteArray) × Unit) : Option (Bool × Unit) :=
  (n_13 (v.fst, ()) >>= fun x1 =>
    if x1.fst = true then
      some ((v.snd.fst, true, v.fst, ()))
    else n_14 (v.snd.fst, ()) >>= fun x2 =>
    some ((v.snd.fst, x2.fst, v.fst, ()))) >>= fun x1 =>
  if x1.snd.fst = true then
    n_15 () >>= fun x2 =>
    some ((x2.fst, ()))
  else n_16 (x1.snd.snd.fst, x1.fst, ()) >>= fun x2 =>
  n_17 (x1.snd.snd.fst, x1.fst, ()) >>= fun x3 =>
  (n_18 (x2.snd.snd.fst, x3.snd.snd.fst, ()) >>= fun x4 =>
    if x4.fst = true then
      if (x2.fst == x3.fst) = true then
        if (x2.snd.fst == x3.snd.fst) = true then
          n_15 () >>= fun x5 =>
          some ((x5.fst, ()))
        else some ((false, ()))
      else some ((false, ()))
    else some ((false, ()))) >>= fun x4 =>
  some ((x4.fst, ()))
noncomputable def call3 : Caller vw := fun A fid args S k => match fid with | 13 => callPure Tryz.prog sig13 n_13 A args S k | 14 => callPure Tryz.prog sig14 n_14 A args S k | 15 => callPure Tryz.prog sig15 n_15 A args S k | 16 => callPure Tryz.prog sig16 n_16 A args S k | 17 => callPure Tryz.prog sig17 n_17 A args S k | 18 => callPure Tryz.prog sig18 n_18 A args S k | _ => none
noncomputable def x3 : Xc vw := { P := Tryz.prog, n := 48, nm := id, call := call3, pre := fun _ => false, sh := sh3, joins := fun _ => none, regs := fun k => match k with | 1 => some c3r1 | 5 => some c3r5 | _ => none, loops := fun _ => none }
theorem call3_ok : CallerOk Tryz.prog call3 := fun A fid args S dst k r h => by
  unfold call3 at h
  split at h
  · exact callPure_ok (n_13_ok) rfl rfl h
  · exact callPure_ok (n_14_ok) rfl rfl h
  · exact callPure_ok (n_15_ok) rfl rfl h
  · exact callPure_ok (n_16_ok) rfl rfl h
  · exact callPure_ok (n_17_ok) rfl rfl h
  · exact callPure_ok (n_18_ok) rfl rfl h
  · cases h
theorem n_3_ok : SigOk Tryz.prog 3 sig3 n_3 := fun v r x h hx =>
  fn_ok (X := x3) (sig := sig3) rfl Tryz.func3 (c := bodyOf Tryz.f3) (by kernel_rfl) Tryz.ntmps3 (by kernel_rfl) (by kernel_rfl) rfl Ty.mixed call3_ok rfl (fun C hP hN => (lok_all (X := x3) (c := (bodyOf Tryz.f3)) (kcast (by kernel_rfl : True = AllB (LoopsP C (x3)) (loopsIn (bodyOf Tryz.f3))) trivial))) (kcast (by kernel_rfl) h) x hx

noncomputable def c4r1 : Cut SN := { slots := [(2, .bp 2 0), (3, .bp 3 0), (10, .dat .bool)], objs := [(2, .st .tagT), (3, .st .tagT)] }
noncomputable def c4r3 : Cut SN := { slots := [(4, .dat .bool)], objs := [] }
noncomputable def c4z : Cut SN := { slots := [(4, .dat .bool)], objs := [] }
noncomputable def sh4 : Shape vw := { exits := fun _ => { slots := [], objs := [] }, rcut := c4z }
noncomputable def sig4 : Sig vw := { params := [.dat (.st .tagT), .dat (.st .tagT)], objs := [], rcut := c4z, rvars := [.tmp 4], keep := [] }
noncomputable def n_4 (v : Tag × Tag × Unit) : Option (Bool × Unit) :=
  (n_13 (v.fst, ()) >>= fun x1 =>
    if x1.fst = true then
      some ((true, v.fst, v.snd.fst, ()))
    else n_13 (v.snd.fst, ()) >>= fun x2 =>
    some ((x2.fst, v.fst, v.snd.fst, ()))) >>= fun x1 =>
  if x1.fst = true then
    n_15 () >>= fun x2 =>
    some ((x2.fst, ()))
  else (n_19 (x1.snd.fst, x1.snd.snd.fst, ()) >>= fun x2 =>
    n_18 (x1.snd.fst, x1.snd.snd.fst, ()) >>= fun x3 =>
    if (x2.fst == x3.fst) = true then
      n_19 (x1.snd.fst, x1.snd.fst, ()) >>= fun x4 =>
      if x4.fst = true then
        n_15 () >>= fun x5 =>
        some ((x5.fst, ()))
      else some ((false, ()))
    else some ((false, ()))) >>= fun x2 =>
  some ((x2.fst, ()))
noncomputable def call4 : Caller vw := fun A fid args S k => match fid with | 13 => callPure Tryz.prog sig13 n_13 A args S k | 15 => callPure Tryz.prog sig15 n_15 A args S k | 18 => callPure Tryz.prog sig18 n_18 A args S k | 19 => callPure Tryz.prog sig19 n_19 A args S k | _ => none
noncomputable def x4 : Xc vw := { P := Tryz.prog, n := 27, nm := id, call := call4, pre := fun _ => false, sh := sh4, joins := fun _ => none, regs := fun k => match k with | 1 => some c4r1 | 3 => some c4r3 | _ => none, loops := fun _ => none }
theorem call4_ok : CallerOk Tryz.prog call4 := fun A fid args S dst k r h => by
  unfold call4 at h
  split at h
  · exact callPure_ok (n_13_ok) rfl rfl h
  · exact callPure_ok (n_15_ok) rfl rfl h
  · exact callPure_ok (n_18_ok) rfl rfl h
  · exact callPure_ok (n_19_ok) rfl rfl h
  · cases h
theorem n_4_ok : SigOk Tryz.prog 4 sig4 n_4 := fun v r x h hx =>
  fn_ok (X := x4) (sig := sig4) rfl Tryz.func4 (c := bodyOf Tryz.f4) (by kernel_rfl) Tryz.ntmps4 (by kernel_rfl) (by kernel_rfl) rfl Ty.mixed call4_ok rfl (fun C hP hN => (lok_all (X := x4) (c := (bodyOf Tryz.f4)) (kcast (by kernel_rfl : True = AllB (LoopsP C (x4)) (loopsIn (bodyOf Tryz.f4))) trivial))) (kcast (by kernel_rfl) h) x hx

end Go.Proofs.YtdmggfegkaiaiaaGreatDoor
