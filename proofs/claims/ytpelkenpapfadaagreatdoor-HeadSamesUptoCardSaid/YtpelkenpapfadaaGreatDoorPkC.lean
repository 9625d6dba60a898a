/-
  Texts of this claim, joined by a program of mine: what the theorem uses.
-/
import Derived.Test.YtpelkenpapfadaaGreatDoorPkB
import Derived.ProofKit
import Derived.Test.YtpelkenpapfadaaGreatDoorProg
import Derived.Shelf.Unicode.DecodeSlow
import Derived.Lib.ItoaNum
import Derived.Lib.LaidTab
import Derived.Lib.AppendIntMem
import Derived.Lib.AtoiErrMem
import Derived.Shelf.Strings.Builder1
import Derived.Shelf.Strings.Builder2
import Derived.Shelf.Strings.OnBuilder
import Derived.Shelf.Strings.BuilderF
import Derived.Shelf.Strings.BuilderK
import Derived.Shelf.Utf8.RuneCount
import Derived.Shelf.Strings.Builder2Cap
import Derived.Shelf.Strconv.Atoi
import Derived.Shelf.Strconv.Itoa0
import Derived.Shelf.Strconv.Itoa1
import Derived.Shelf.LaysM
import Derived.Shelf.Strconv.Itoa2
import Derived.Shelf.Strconv.Itoa3
import Derived.Shelf.Strconv.AtoiErrFast
import Derived.Shelf.Strconv.ParseIntEmpty
import Derived.Shelf.Strconv.AtoiFail
import Derived.Shelf.Strconv.Clone
import Derived.Shelf.Strconv.SyntaxError
import Derived.Shelf.LaysC
import Derived.Shelf.Strconv.ToError
import Derived.Shelf.Strconv.AtoiErr
import Derived.Shelf.Strconv.ErrVar
import Derived.Shelf.Strconv.Lower
import Derived.Shelf.Strconv.ParseUint10
import Derived.Shelf.Strconv.ParseUint10Empty
import Derived.Shelf.Strconv.ParseUint10Any
import Derived.Shelf.Strconv.ParseInt10
import Derived.Shelf.Strconv.AtoiLong
import Derived.Shelf.Strconv.AtoiInnerAll
import Derived.Shelf.Strconv.RangeError
import Derived.Shelf.Strconv.ToErrorRange
import Derived.Shelf.Strconv.AtoiAll
import Derived.Shelf.Strconv.ErrVarAll
import Derived.Shelf.Strconv.ParseUintEmpty
import Derived.Shelf.Strings.Search1
import Derived.Shelf.Strings.Search2
import Derived.Shelf.Strings.Search3
import Derived.Shelf.Strings.Count
import Derived.Shelf.Strings.Shaped
import Derived.Shelf.Strings.Prefix
import Derived.Shelf.Strings.Split
import Derived.Shelf.Strings.SplitShaped
import Derived.Shelf.Unicode.Decode
import Derived.Shelf.Strings.RuneCount
import Derived.Shelf.Strings.Explode
import Derived.Shelf.Unicode.DecodeAny
import Derived.Shelf.Slices.Turned
import Derived.Shelf.Slices.Equal
import Derived.Shelf.Slices.Empties2
set_option linter.unusedSectionVars false
set_option linter.unusedSimpArgs false
section
namespace Go.Awp
variable [Inhabited GMem]
def det : Op → Bool
 | .next _ false => false
 | _ => true
theorem AVal_ex {P : Program} {nm : Nat → Nat} {o : Oper} {ρ : Operand → H} {ω : Nat → Option Own} {k : Eff → Prop} (hdet : det o.op = true) (hv : AVal P nm o ρ ω k) : ∃ e, AVal P nm o ρ ω (fun e' => e' = e) ∧ k e := by
 unfold AVal at hv ⊢
 cases hop : o.op <;> simp only [hop, updM] at hv ⊢
 case next x is =>
  cases is with
  | false => rw [hop] at hdet; cases hdet
  | true =>
   dsimp only at hv ⊢
   (repeat' split at hv) <;> first
     | exact hv.elim
     | exact ⟨_, ⟨hv.1, rfl⟩, hv.2⟩
     | (simp only [*]; exact ⟨_, ⟨hv.1, rfl⟩, hv.2⟩)
     | (simp only [*]; exact ⟨_, ⟨trivial, rfl⟩, hv.2⟩)
 case buildSlice t len parts =>
  split at hv
  ·rename_i e sz by_ ht
   try simp only [ht]
   split at hv
   ·rename_i rows hr
    try simp only [hr]
    obtain ⟨hv1, hv2⟩ := hv
    split at hv2
    ·rename_i d hd
     split at hv2
     ·rename_i hn
      try simp only [hd, if_pos hn]
      exact ⟨_, ⟨hv1, rfl⟩, hv2⟩
     ·rename_i hn
      try simp only [hd, if_neg hn]
      exact ⟨_, ⟨hv1, rfl⟩, hv2⟩
    ·rename_i hd
     try simp only [hd]
     exact ⟨_, ⟨hv1, rfl⟩, hv2⟩
   ·exact hv.elim
  ·exact hv.elim
 case box t x =>
  split at hv
  ·rename_i cs d hc hd
   obtain ⟨q, h1, h2⟩ := hv
   try simp only [hc, hd]
   exact ⟨_, ⟨q, h1, rfl⟩, h2⟩
  ·exact hv.elim
 all_goals
  first
  | exact ⟨_, rfl, hv⟩
  | ((repeat' split at hv) <;> first
   | exact hv.elim
   | exact ⟨_, rfl, hv⟩
   | exact ⟨_, ⟨hv.1, rfl⟩, hv.2⟩
   | (simp only [*]; exact ⟨_, rfl, hv⟩)
   | (simp only [*]; exact ⟨_, ⟨hv.1, rfl⟩, hv.2⟩)
   | (obtain ⟨⟨c1, c2⟩, es2, h1, h2⟩ := hv; simp only [*]; exact ⟨_, ⟨⟨trivial, trivial⟩, es2, h1, rfl⟩, h2⟩)
   | (obtain ⟨own, r, own', h1, h2, h3⟩ := hv; exact ⟨_, ⟨own, r, own', h1, h2, rfl⟩, h3⟩))
theorem AVal_mono {P : Program} {nm : Nat → Nat} {o : Oper} {ρ : Operand → H} {ω : Nat → Option Own} {k k' : Eff → Prop} (h : ∀ e, k e → k' e) (hv : AVal P nm o ρ ω k) : AVal P nm o ρ ω k' := by
 unfold AVal at hv ⊢
 cases hop : o.op <;> simp only [hop, updM] at hv ⊢
 case next x is =>
  cases is with
  | false =>
   dsimp only at hv ⊢
   (repeat' split at hv) <;> first
     | exact hv.elim
     | exact ⟨hv.1, fun hr => h _ (hv.2.1 hr), fun i p hp => h _ (hv.2.2 i p hp)⟩
  | true =>
   dsimp only at hv ⊢
   (repeat' split at hv) <;> first
     | exact hv.elim
     | exact ⟨hv.1, h _ hv.2⟩
     | (simp only [*]; exact ⟨hv.1, h _ hv.2⟩)
     | (simp only [*]; exact ⟨trivial, h _ hv.2⟩)
 case buildSlice t len parts =>
  split at hv
  ·rename_i e sz by_ ht
   try simp only [ht]
   split at hv
   ·rename_i rows hr
    try simp only [hr]
    obtain ⟨hv1, hv2⟩ := hv
    split at hv2
    ·rename_i d hd
     split at hv2
     ·rename_i hn
      try simp only [hd, if_pos hn]
      exact ⟨hv1, h _ hv2⟩
     ·rename_i hn
      try simp only [hd, if_neg hn]
      exact ⟨hv1, h _ hv2⟩
    ·rename_i hd
     try simp only [hd]
     exact ⟨hv1, h _ hv2⟩
   ·exact hv.elim
  ·exact hv.elim
 case box t x =>
  split at hv
  ·rename_i cs d hc hd
   obtain ⟨q, h1, h2⟩ := hv
   try simp only [hc, hd]
   exact ⟨q, h1, h _ h2⟩
  ·exact hv.elim
 all_goals
  first
  | exact h _ hv
  | ((repeat' split at hv) <;> first
   | exact hv.elim
   | exact h _ hv
   | exact ⟨hv.1, h _ hv.2⟩
   | (simp only [*]; exact h _ hv)
   | (simp only [*]; exact ⟨hv.1, h _ hv.2⟩)
   | (obtain ⟨⟨c1, c2⟩, es2, h1, h2⟩ := hv; exact ⟨⟨c1, c2⟩, es2, h1, h _ h2⟩)
   | (obtain ⟨own, r, own', h1, h2, h3⟩ := hv; exact ⟨own, r, own', h1, h2, h _ h3⟩))
theorem map_congr_ops {l : Array Operand} {ρ ρ' : Operand → H} (h : ∀ x ∈ l, ρ' x = ρ x) : l.toList.map ρ' = l.toList.map ρ :=
 List.map_congr_left fun x hx => h x (Array.mem_toList_iff.1 hx)
theorem map_congr_parts {l : Array (Nat × Operand)} {ρ ρ' : Operand → H} (h : ∀ x ∈ (l.toList.map (·.2)).toArray, ρ' x = ρ x) :
  l.toList.map (fun (p : Nat × Operand) => (p.1, ρ' p.2)) = l.toList.map (fun (p : Nat × Operand) => (p.1, ρ p.2)) :=
 List.map_congr_left fun x hx => by rw [h x.2 (by simpa using ⟨x.1, by simpa using hx⟩)]
theorem map_congr_fnD {l : Array (Nat × Operand)} {ρ ρ' : Operand → H} (h : ∀ x ∈ (l.toList.map (·.2)).toArray, ρ' x = ρ x) :
  l.toList.map (fun (p : Nat × Operand) => (p.1, fnD (ρ' p.2))) = l.toList.map (fun (p : Nat × Operand) => (p.1, fnD (ρ p.2))) :=
 List.map_congr_left fun x hx => by rw [h x.2 (by simpa using ⟨x.1, by simpa using hx⟩)]
theorem bnd_congr {ρ ρ' : Operand → H} {lo : Option Operand} {d : Int} (h : ∀ x ∈ lo.toArray, ρ' x = ρ x) : bnd ρ' lo d = bnd ρ lo d := by
 cases lo with
 | none => rfl
 | some x => simp only [bnd, h x (by simp)]
theorem AVal_congr {P : Program} {nm : Nat → Nat} {o : Oper} {ρ ρ' : Operand → H} {ω ω' : Nat → Option Own} {e : Eff} (hρ : ∀ x ∈ o.op.operands, ρ' x = ρ x) (hω : ∀ n ∈ e.acc, ω' n = ω n) (hdet : det o.op = true)
  (hv : AVal P nm o ρ ω (fun e' => e' = e)) : AVal P nm o ρ' ω' (fun e' => e' = e) := by
 unfold AVal at hv ⊢
 cases hop : o.op <;> simp only [hop, updM] at hv ⊢ <;> simp only [hop, Op.operands] at hρ
 case next x is =>
  cases is with
  | false => rw [hop] at hdet; cases hdet
  | true =>
   dsimp only at hv ⊢
   rw [hρ x (by simp)]
   (repeat' split at hv) <;> first
     | exact hv.elim
     | (obtain ⟨hc1, rfl⟩ := hv; have hw := hω _ (List.mem_singleton.2 rfl); revert hc1; simp only [*, and_true, imp_self]; done)
 case build => simp only [map_congr_parts hρ]; exact hv
 case buildSlice => simp only [map_congr_fnD hρ]; exact hv
 case makeFunc fn first captured =>
  rw [map_congr_ops fun x hx => hρ x (by simp [hx]), map_congr_ops fun x hx => hρ x (by simp [hx])]; exact hv
 case slice t x lo hi mx =>
  have hx := hρ x (by simp)
  have hlo := fun d => bnd_congr (ρ := ρ) (ρ' := ρ') (lo := lo) (d := d) fun y hy => hρ y (by simp [hy])
  have hhi := fun d => bnd_congr (ρ := ρ) (ρ' := ρ') (lo := hi) (d := d) fun y hy => hρ y (by simp [hy])
  simp only [hx, hlo, hhi]
  (repeat' split at hv) <;> first
    | exact hv.elim
    | exact hv
    | (obtain ⟨hc1, rfl⟩ := hv; have hw := hω _ (List.mem_singleton.2 rfl); revert hc1; simp only [*, and_true, imp_self]; done)
 case makeMap t hint =>
  have : hintOk ρ' hint = hintOk ρ hint := by
   cases hint with
   | none => rfl
   | some x => simp only [hintOk, hρ x (by simp)]
  rw [this]; exact hv
 case call c =>
  cases hc : c.callee with
  | value f =>
   simp only [hc] at hv ⊢
   simp only [Call.operands, hc] at hρ
   rw [hρ f (by simp), map_congr_ops fun x hx => hρ x (by simp [hx])]
   split at hv
   ·obtain ⟨own, r, own', h1, h2, rfl⟩ := hv
    exact ⟨own, r, own', h1, fun p hp => by rw [hω p.1 (List.mem_map_of_mem hp)]; exact h2 p hp, rfl⟩
   ·obtain ⟨own, r, own', h1, h2, rfl⟩ := hv
    exact ⟨own, r, own', h1, fun p hp => by rw [hω p.1 (List.mem_map_of_mem hp)]; exact h2 p hp, rfl⟩
   ·exact hv
  | invoke r m => simp only [hc] at hv
  | builtin b =>
   simp only [hc] at hv ⊢
   simp only [Call.operands, hc] at hρ
   rw [map_congr_ops fun x hx => hρ x (by simpa using hx)]
   (repeat' split at hv) <;> first
     | exact hv.elim
     | exact hv
     | (simp only [*]; exact hv)
     | (obtain ⟨hc1, rfl⟩ := hv; have hw := hω _ (List.mem_singleton.2 rfl); revert hc1; simp only [*, and_true, imp_self]; done)
     | skip
 all_goals (try simp only [Array.mem_def, List.mem_cons, List.not_mem_nil, or_false, forall_eq_or_imp, forall_eq] at hρ)
 all_goals first
  | exact hv
  | (simp only [hρ]; first
   | exact hv
   | ((repeat' split at hv) <;> first
    | exact hv.elim
    | exact hv
    | (subst hv; have hw := hω _ (List.mem_singleton.2 rfl); simp only [*]; done)
    | (obtain ⟨hc1, rfl⟩ := hv; have hw := hω _ (List.mem_singleton.2 rfl); revert hc1; simp only [*, and_true, imp_self]; done)
    | (obtain ⟨hc1, rfl⟩ := hv; have hw := hω _ (List.mem_singleton.2 rfl); simp only [*, and_self]; done)
    | (obtain ⟨hc1, es2, hp, rfl⟩ := hv; have hw := hω _ (List.mem_singleton.2 rfl); simp only [*]; exact ⟨⟨trivial, trivial⟩, es2, hp, rfl⟩)))
theorem BVal_ex {P : Program} {nm : Nat → Nat} {o : Oper} {ρ : Operand → H} {ω : Nat → Option Own} {k : Eff → Prop} (hdet : det o.op = true) (hv : BVal P nm o ρ ω k) : ∃ e, BVal P nm o ρ ω (fun e' => e' = e) ∧ k e := by
 rcases hv with hv | ⟨e, h1, h2⟩
 ·obtain ⟨e, h1, h2⟩ := AVal_ex hdet hv
  exact ⟨e, .inl h1, h2⟩
 ·exact ⟨e, .inr ⟨e, h1, rfl⟩, h2⟩
theorem BVal_mono {P : Program} {nm : Nat → Nat} {o : Oper} {ρ : Operand → H} {ω : Nat → Option Own} {k k' : Eff → Prop} (h : ∀ e, k e → k' e) (hv : BVal P nm o ρ ω k) : BVal P nm o ρ ω k' := by
 rcases hv with hv | ⟨e, h1, h2⟩
 ·exact .inl (AVal_mono h hv)
 ·exact .inr ⟨e, h1, h e h2⟩
theorem BVal_congr {P : Program} {nm : Nat → Nat} {o : Oper} {ρ ρ' : Operand → H} {ω ω' : Nat → Option Own} {e : Eff} (hρ : ∀ x ∈ o.op.operands, ρ' x = ρ x) (hω : ∀ n ∈ e.acc, ω' n = ω n) (hdet : det o.op = true)
  (hv : BVal P nm o ρ ω (fun e' => e' = e)) : BVal P nm o ρ' ω' (fun e' => e' = e) := by
 rcases hv with hv | ⟨e', h1, rfl⟩
 ·exact .inl (AVal_congr hρ hω hdet hv)
 ·exact .inr ⟨_, h1.congr hρ hω, rfl⟩
end Go.Awp
end
section
namespace Go.Awp
variable [Inhabited GMem]
structure Tr1 where
 e : Eff
 ex : Bool
def aopsT (P : Program) (N : Nat → Prop) (nm : Nat → Nat) (all : List Oper) : List Oper → AState → List Tr1 → (AState → List Tr1 → Prop) → Prop
 | [], S, tr, k => k S tr
 | o :: os, S, tr, k =>
  ((∀ d, o.dst = some d → N d) ∧ det o.op = true) ∧
  match o.guard with
  | none => BVal P nm o (ev S) S.own? (fun e => (∀ d ∈ e.new, S.fresh d = true ∧ d < given) ∧ aopsT P N nm all os (S.app o.dst e) (tr ++ [⟨e, true⟩]) k)
  | some (j, want) => match guardB S all j want with
   | some b => aIf (b == want) (BVal P nm o (ev S) S.own? (fun e => (∀ d ∈ e.new, S.fresh d = true ∧ d < given) ∧ aopsT P N nm all os (S.app o.dst e) (tr ++ [⟨e, true⟩]) k))
     (aopsT P N nm all os (S.app o.dst { val := .tup [] }) (tr ++ [⟨{ val := .tup [] }, false⟩]) k)
   | none => False
def Did (P : Program) (N : Nat → Prop) (nm : Nat → Nat) (all : List Oper) (o : Oper) (S : AState) (t : Tr1) : Prop :=
 ((∀ d, o.dst = some d → N d) ∧ det o.op = true) ∧
 (match o.guard with
  | none => t.ex = true
  | some (j, want) => ∃ b, guardB S all j want = some b ∧ t.ex = (b == want)) ∧
 (t.ex = true → BVal P nm o (ev S) S.own? (fun e' => e' = t.e) ∧ ∀ d ∈ t.e.new, S.fresh d = true ∧ d < given) ∧ (t.ex = false → t.e = { val := .tup [] })
def stE (E : Nat → Bool) : Nat → List (Oper × Tr1) → AState → AState
 | _, [], S => S
 | i, (o, t) :: r, S => stE E (i + 1) r (if E i then S.app o.dst t.e else S)
def DidAll (P : Program) (N : Nat → Prop) (nm : Nat → Nat) (all : List Oper) : List (Oper × Tr1) → AState → Prop
 | [], _ => True
 | (o, t) :: r, S => Did P N nm all o S t ∧ DidAll P N nm all r (S.app o.dst t.e)
theorem aopsT_ex {P : Program} {N : Nat → Prop} {nm : Nat → Nat} {all : List Oper} : ∀ {os : List Oper} {S : AState} {tr : List Tr1} {k : AState → List Tr1 → Prop}, aopsT P N nm all os S tr k →
  ∃ l : List (Oper × Tr1), l.map (·.1) = os ∧ DidAll P N nm all l S ∧ k (stE (fun _ => true) 0 l S) (tr ++ l.map (·.2))
 | [], S, tr, k, h => ⟨[], rfl, trivial, by simpa [aopsT, stE] using h⟩
 | o :: os, S, tr, k, h => by
  have shift : ∀ (l : List (Oper × Tr1)) (i : Nat) (S : AState), stE (fun _ => true) i l S = stE (fun _ => true) 0 l S := by
   intro l
   induction l with
   | nil => intro i S; rfl
   | cons x r ih => intro i S; obtain ⟨o, t⟩ := x; simp only [stE]; rw [ih (i + 1), ih (0 + 1)]
  simp only [aopsT] at h
  obtain ⟨hd, h⟩ := h
  have go : ∀ e, BVal P nm o (ev S) S.own? (fun e' => e' = e) → (∀ d ∈ e.new, S.fresh d = true ∧ d < given) → (match o.guard with | none => True | some (j, want) => ∃ b, guardB S all j want = some b ∧ (b == want) = true) →
    aopsT P N nm all os (S.app o.dst e) (tr ++ [⟨e, true⟩]) k → ∃ l : List (Oper × Tr1), l.map (·.1) = o :: os ∧ DidAll P N nm all l S ∧ k (stE (fun _ => true) 0 l S) (tr ++ l.map (·.2)) := by
   intro e hv hn hg hk
   obtain ⟨l, h1, h2, h3⟩ := aopsT_ex hk
   refine ⟨(o, ⟨e, true⟩) :: l, by simp [h1], ⟨⟨hd, ?_, fun _ => ⟨hv, hn⟩, (fun h => by cases h)⟩, h2⟩, ?_⟩
   ·cases hgu : o.guard with
    | none => rfl
    | some g =>
     obtain ⟨j, want⟩ := g
     rw [hgu] at hg
     obtain ⟨b, hb1, hb2⟩ := hg
     exact ⟨b, hb1, hb2.symm⟩
   ·simp only [stE, if_true, List.map_cons]
    rw [shift]; simpa using h3
  cases hg : o.guard with
  | none =>
   simp only [hg] at h
   obtain ⟨e, hv, hn, hk⟩ := BVal_ex hd.2 h
   exact go e hv hn (by rw [hg]; trivial) hk
  | some g =>
   obtain ⟨j, want⟩ := g
   simp only [hg] at h
   split at h
   ·rename_i b hb
    by_cases hbw : (b == want) = true
    ·have h := h.1 hbw
     obtain ⟨e, hv, hn, hk⟩ := BVal_ex hd.2 h
     exact go e hv hn (by rw [hg]; exact ⟨b, hb, hbw⟩) hk
    ·have hbw : (b == want) = false := by simpa using hbw
     have h := h.2 hbw
     obtain ⟨l, h1, h2, h3⟩ := aopsT_ex h
     refine ⟨(o, ⟨{ val := .tup [] }, false⟩) :: l, by simp [h1], ⟨⟨hd, by rw [hg]; exact ⟨b, hb, hbw.symm⟩, (fun h => by cases h), fun _ => rfl⟩, h2⟩, ?_⟩
     simp only [stE, if_true, List.map_cons]
     rw [shift]; simpa using h3
   ·exact h.elim
def mask (acc : List Nat) (o : Oper) : Nat := o.after.toList.foldl (fun s e => if Region.binds .any e then s ||| (2 ^ e.on ||| (acc[e.on]?).getD 0) else s) 0
def befs (acc : List Nat) : List Oper → List Nat
 | [] => acc
 | o :: r => befs (acc ++ [mask acc o]) r
inductive Ahead (ops : List Oper) : Nat → Nat → Prop
 | one {k : Nat} {o : Oper} {e : Edge} (ho : ops[k]? = some o) (he : e ∈ o.after) (hb : Region.binds .any e = true) : Ahead ops e.on k
 | more {i k : Nat} {o : Oper} {e : Edge} (ho : ops[k]? = some o) (he : e ∈ o.after) (hb : Region.binds .any e = true) (h : Ahead ops i e.on) : Ahead ops i k
theorem mask_spec {ops : List Oper} {acc : List Nat} {k : Nat} {o : Oper} (ho : ops[k]? = some o) (hacc : ∀ j m i, acc[j]? = some m → m.testBit i = true → Ahead ops i j) :
  ∀ i, (mask acc o).testBit i = true → Ahead ops i k := by
 have key : ∀ (l : List Edge) (s : Nat), (∀ e ∈ l, e ∈ o.after) → (∀ i, s.testBit i = true → Ahead ops i k) →
   ∀ i, (l.foldl (fun s e => if Region.binds .any e then s ||| (2 ^ e.on ||| (acc[e.on]?).getD 0) else s) s).testBit i = true → Ahead ops i k := by
  intro l
  induction l with
  | nil => intro s _ hs i h; exact hs i h
  | cons e r ih =>
   intro s hl hs i h
   simp only [List.foldl_cons] at h
   refine ih _ (fun e' he' => hl e' (List.mem_cons_of_mem _ he')) ?_ i h
   intro i' h'
   by_cases hb : Region.binds .any e = true
   ·rw [if_pos hb] at h'
    simp only [Nat.testBit_or, Bool.or_eq_true] at h'
    rcases h' with h' | h' | h'
    ·exact hs i' h'
    ·rw [Nat.testBit_two_pow] at h'
     have : e.on = i' := by simpa using h'
     subst this
     exact .one ho (hl e List.mem_cons_self) hb
    ·cases hq : acc[e.on]? with
     | none => rw [hq] at h'; simp at h'
     | some m => rw [hq] at h'; exact .more ho (hl e List.mem_cons_self) hb (hacc e.on m i' hq h')
   ·rw [if_neg hb] at h'; exact hs i' h'
 intro i h
 exact key o.after.toList 0 (fun e he => Array.mem_toList_iff.1 he) (fun i h => by simp at h) i h
theorem befs_spec {ops : List Oper} : ∀ (l : List Oper) (acc : List Nat), (∀ j o, l[j]? = some o → ops[acc.length + j]? = some o) → (∀ j m i, acc[j]? = some m → m.testBit i = true → Ahead ops i j) →
  ∀ j m i, (befs acc l)[j]? = some m → m.testBit i = true → Ahead ops i j
 | [], acc, _, hacc, j, m, i, hm, hi => hacc j m i hm hi
 | o :: r, acc, hl, hacc, j, m, i, hm, hi => by
  simp only [befs] at hm
  refine befs_spec r (acc ++ [mask acc o]) (fun j o' ho' => ?_) (fun j m i hm hi => ?_) j m i hm hi
  ·have := hl (j + 1) o' (by simpa using ho')
   rw [List.length_append, List.length_singleton]
   rwa [show acc.length + 1 + j = acc.length + (j + 1) by omega]
  ·by_cases hj : j < acc.length
   ·rw [List.getElem?_append_left hj] at hm; exact hacc j m i hm hi
   ·rw [List.getElem?_append_right (by omega)] at hm
    cases hjj : j - acc.length with
    | zero =>
     rw [hjj] at hm; simp at hm; subst hm
     have : j = acc.length := by omega
     subst this
     exact mask_spec (by simpa using hl 0 o rfl) hacc i hi
    | succ q => rw [hjj] at hm; simp at hm
def looks (all : List Oper) (o : Oper) : List Tmp :=
 (o.op.operands.toList.filterMap fun | .tmp t => some t | _ => none) ++
 (match o.guard with
  | some (g, _) => match all[g]? with
   | some x => x.dst.toList
   | none => []
  | none => [])
def Eff.names (e : Eff) : List Nat := e.upd.map (·.1) ++ e.new
def Eff.has (e : Eff) (n : Nat) : Bool := H.has n e.val || e.upd.any fun u => match u.2 with
 | some o => Own.has n o
 | none => false
def confl (all : List Oper) (x y : Oper × Tr1) : Bool :=
 (match x.1.dst with | some d => (looks all y.1).contains d | none => false) ||
 (match y.1.dst with | some d => (looks all x.1).contains d | none => false) ||
 (match x.1.dst, y.1.dst with | some a, some b => Nat.beq a b | _, _ => false) ||
 (x.2.e.names.any fun n => y.2.e.acc.contains n || y.2.e.names.contains n) ||
 (y.2.e.names.any fun n => x.2.e.acc.contains n) ||
 (x.2.e.new.any fun n => y.2.e.has n) ||
 (y.2.e.new.any fun n => x.2.e.has n)
def pairsOk (all : List Oper) (bs : List Nat) : Nat → List (Oper × Tr1) → List (Oper × Tr1) → Bool
 | _, _, [] => true
 | k, done, y :: r => (done.zipIdx.all fun x => !confl all x.1 y || ((bs[k]?).getD 0).testBit x.2) && pairsOk all bs (k + 1) (done ++ [y]) r
def drawOk (ops : List Oper) (tr : List Tr1) : Bool :=
 pairsOk ops (befs [] ops) 0 [] (ops.zip tr) && ops.zipIdx.all (fun x => x.1.after.all fun e => !Region.binds .any e || Nat.blt e.on x.2)
theorem pairsOk_spec {all : List Oper} {bs : List Nat} : ∀ (l done : List (Oper × Tr1)), pairsOk all bs done.length done l = true → ∀ (i k : Nat) (x y : Oper × Tr1), i < k → done.length ≤ k → (done ++ l)[i]? = some x → (done ++ l)[k]? = some y →
  confl all x y = true → ((bs[k]?).getD 0).testBit i = true
 | [], done, _, i, k, x, y, hik, hk, hx, hy, _ => by
  rw [List.append_nil] at hy
  have := (List.getElem?_eq_some_iff.1 hy).1; omega
 | z :: r, done, h, i, k, x, y, hik, hk, hx, hy, hc => by
  simp only [pairsOk, Bool.and_eq_true] at h
  by_cases hkd : k = done.length
  ·subst hkd
   rw [List.getElem?_append_right (Nat.le_refl _)] at hy
   simp at hy; subst hy
   rw [List.getElem?_append_left hik] at hx
   have h1 := h.1
   rw [List.all_eq_true] at h1
   have := h1 (x, i) (List.mk_mem_zipIdx_iff_getElem?.2 hx)
   simp only [hc, Bool.not_true, Bool.false_or] at this
   exact this
  ·have h2 := h.2
   have e : done.length + 1 = (done ++ [z]).length := by simp
   rw [e] at h2
   exact pairsOk_spec r (done ++ [z]) h2 i k x y hik (by simp; omega) (by simpa using hx) (by simpa using hy) hc
end Go.Awp
end
section
namespace Go.Awp
variable [Inhabited GMem]
theorem gt_none {α : Type} : ∀ {l : List (Nat × α)} {n : Nat}, n ∉ l.map (·.1) → gt l n = none
 | [], _, _ => rfl
 | (k, x) :: r, n, h => by
  simp only [List.map_cons, List.mem_cons, not_or] at h
  rw [gt_cons, if_neg (fun e => h.1 e.symm)]
  exact gt_none h.2
theorem gt_some {α : Type} : ∀ {l : List (Nat × α)} {n : Nat}, n ∈ l.map (·.1) → ∃ x, gt l n = some x
 | [], _, h => by simp at h
 | (k, x) :: r, n, h => by
  rw [gt_cons]
  by_cases hk : k = n
  ·exact ⟨x, by rw [if_pos hk]⟩
  ·rw [if_neg hk]
   simp only [List.map_cons, List.mem_cons] at h
   exact gt_some (h.resolve_left fun e => hk e.symm)
theorem stE_tmp {t : Nat} {E E' : Nat → Bool} : ∀ (l : List (Oper × Tr1)) (i : Nat) (S S' : AState), gt S.tmps t = gt S'.tmps t → (∀ k x, l[k]? = some x → x.1.dst = some t → E (i + k) = E' (i + k)) →
  gt (stE E i l S).tmps t = gt (stE E' i l S').tmps t
 | [], _, _, _, h, _ => h
 | (o, tr) :: r, i, S, S', h, hE => by
  simp only [stE]
  refine stE_tmp r (i + 1) _ _ ?_ fun k x hx hd => by
   have := hE (k + 1) x (by simpa using hx) hd
   rwa [show i + 1 + k = i + (k + 1) by omega]
  by_cases hd : o.dst = some t
  ·have := hE 0 (o, tr) rfl hd
   simp only [Nat.add_zero] at this
   rw [this]
   cases E' i with
   | true => simp [AState.app, putT, hd, gt_cons]
   | false => simpa using h
  ·have key : ∀ S : AState, gt (S.app o.dst tr.e).tmps t = gt S.tmps t := by
    intro S
    simp only [AState.app, putT]
    cases hdd : o.dst with
    | none => rfl
    | some d => simp only [gt_cons]; rw [if_neg (fun e => hd (by rw [hdd, e]))]
   cases E i <;> cases E' i <;> simp [key, h]
theorem stE_own {n : Nat} {E E' : Nat → Bool} : ∀ (l : List (Oper × Tr1)) (i : Nat) (S S' : AState), gt S.own n = gt S'.own n → (∀ k x, l[k]? = some x → n ∈ x.2.e.upd.map (·.1) → E (i + k) = E' (i + k)) →
  gt (stE E i l S).own n = gt (stE E' i l S').own n
 | [], _, _, _, h, _ => h
 | (o, tr) :: r, i, S, S', h, hE => by
  simp only [stE]
  refine stE_own r (i + 1) _ _ ?_ fun k x hx hd => by
   have := hE (k + 1) x (by simpa using hx) hd
   rwa [show i + 1 + k = i + (k + 1) by omega]
  by_cases hd : n ∈ tr.e.upd.map (·.1)
  ·have := hE 0 (o, tr) rfl hd
   simp only [Nat.add_zero] at this
   rw [this]
   cases E' i with
   | true =>
    obtain ⟨x, hx⟩ := gt_some hd
    simp [AState.app, gt_app, hx]
   | false => simpa using h
  ·have key : ∀ S : AState, gt (S.app o.dst tr.e).own n = gt S.own n := by
    intro S
    simp only [AState.app, gt_app, gt_none hd]
   cases E i <;> cases E' i <;> simp [key, h]
theorem stE_mem_tmp {E : Nat → Bool} : ∀ (l : List (Oper × Tr1)) (i : Nat) (S : AState) (p : Nat × H), p ∈ (stE E i l S).tmps → p ∈ S.tmps ∨ ∃ k x, l[k]? = some x ∧ E (i + k) = true ∧ x.1.dst = some p.1 ∧ p.2 = x.2.e.val
 | [], _, _, _, h => .inl h
 | (o, tr) :: r, i, S, p, h => by
  simp only [stE] at h
  rcases stE_mem_tmp r (i + 1) _ p h with h1 | ⟨k, x, h1, h2, h3⟩
  ·cases hE : E i with
   | false => rw [hE] at h1; exact .inl h1
   | true =>
    rw [hE] at h1
    simp only [if_true, AState.app, putT] at h1
    cases hd : o.dst with
    | none => rw [hd] at h1; exact .inl h1
    | some d =>
     rw [hd] at h1
     rcases List.mem_cons.1 h1 with h2 | h2
     ·exact .inr ⟨0, (o, tr), rfl, by simpa using hE, by rw [h2]; exact hd, by rw [h2]⟩
     ·exact .inl h2
  ·exact .inr ⟨k + 1, x, by simpa using h1, by rwa [show i + (k + 1) = i + 1 + k by omega], h3⟩
theorem stE_mem_own {E : Nat → Bool} : ∀ (l : List (Oper × Tr1)) (i : Nat) (S : AState) (p : Nat × Option Own), p ∈ (stE E i l S).own → p ∈ S.own ∨ ∃ k x, l[k]? = some x ∧ E (i + k) = true ∧ p ∈ x.2.e.upd
 | [], _, _, _, h => .inl h
 | (o, tr) :: r, i, S, p, h => by
  simp only [stE] at h
  rcases stE_mem_own r (i + 1) _ p h with h1 | ⟨k, x, h1, h2, h3⟩
  ·cases hE : E i with
   | false => rw [hE] at h1; exact .inl h1
   | true =>
    rw [hE] at h1
    simp only [if_true, AState.app] at h1
    rcases List.mem_append.1 h1 with h2 | h2
    ·exact .inr ⟨0, (o, tr), rfl, by simpa using hE, h2⟩
    ·exact .inl h2
  ·exact .inr ⟨k + 1, x, by simpa using h1, by rwa [show i + (k + 1) = i + 1 + k by omega], h3⟩
theorem stE_sub {E : Nat → Bool} : ∀ (l : List (Oper × Tr1)) (i : Nat) (S : AState), (∀ p ∈ S.tmps, p ∈ (stE E i l S).tmps) ∧ (∀ p ∈ S.own, p ∈ (stE E i l S).own)
 | [], _, _ => ⟨fun _ h => h, fun _ h => h⟩
 | (o, tr) :: r, i, S => by
  simp only [stE]
  obtain ⟨h1, h2⟩ := stE_sub r (i + 1) (if E i then S.app o.dst tr.e else S) (E := E)
  refine ⟨fun p hp => h1 p ?_, fun p hp => h2 p ?_⟩
  ·cases E i with
   | false => simpa using hp
   | true =>
    simp only [if_true, AState.app, putT]
    cases o.dst with
    | none => exact hp
    | some d => exact List.mem_cons_of_mem _ hp
  ·cases E i with
   | false => simpa using hp
   | true => simp only [if_true, AState.app]; exact List.mem_append_right _ hp
theorem stE_put {E : Nat → Bool} : ∀ (l : List (Oper × Tr1)) (i : Nat) (S : AState) (k : Nat) (x : Oper × Tr1), l[k]? = some x → E (i + k) = true →
  (∀ d, x.1.dst = some d → (d, x.2.e.val) ∈ (stE E i l S).tmps) ∧ (∀ p ∈ x.2.e.upd, p ∈ (stE E i l S).own)
 | [], _, _, k, x, h, _ => by simp at h
 | (o, tr) :: r, i, S, 0, x, h, hE => by
  simp at h; subst h
  simp only [stE]
  simp only [Nat.add_zero] at hE
  obtain ⟨h1, h2⟩ := stE_sub r (i + 1) (S.app o.dst tr.e) (E := E)
  rw [hE]
  refine ⟨fun d hd => h1 _ ?_, fun p hp => h2 _ ?_⟩
  ·try simp only at hd
   simp [AState.app, putT, hd]
  ·simp only [AState.app]; exact List.mem_append_left _ hp
 | (o, tr) :: r, i, S, k + 1, x, h, hE => by
  simp only [stE]
  exact stE_put r (i + 1) _ k x (by simpa using h) (by rwa [show i + 1 + k = i + (k + 1) by omega])
theorem stE_last_tmp {t : Nat} {E : Nat → Bool} : ∀ (l : List (Oper × Tr1)) (i : Nat) (S : AState) (k : Nat) (x : Oper × Tr1), l[k]? = some x → x.1.dst = some t → E (i + k) = true →
  (∀ j y, l[j]? = some y → k < j → y.1.dst = some t → E (i + j) = false) → gt (stE E i l S).tmps t = some x.2.e.val
 | [], _, _, k, x, h, _, _, _ => by simp at h
 | (o, tr) :: r, i, S, 0, x, h, hd, hE, hl => by
  simp at h; subst h
  simp only [stE]
  simp only [Nat.add_zero] at hE
  rw [hE]
  have := stE_tmp (t := t) (E := E) (E' := fun _ => false) r (i + 1) (if true = true then S.app o.dst tr.e else S) (if true = true then S.app o.dst tr.e else S) rfl fun j y hy hdy => by
   have := hl (j + 1) y (by simpa using hy) (by omega) hdy
   rwa [show i + 1 + j = i + (j + 1) by omega]
  rw [this]
  have none : ∀ (l : List (Oper × Tr1)) (i : Nat) (S : AState), stE (fun _ => false) i l S = S := by
   intro l
   induction l with
   | nil => intro i S; rfl
   | cons y r ih => intro i S; obtain ⟨o, t⟩ := y; simp only [stE]; exact ih _ _
  rw [none]
  try simp only at hd
  simp [AState.app, putT, hd, gt_cons]
 | (o, tr) :: r, i, S, k + 1, x, h, hd, hE, hl => by
  simp only [stE]
  exact stE_last_tmp r (i + 1) _ k x (by simpa using h) hd (by rwa [show i + 1 + k = i + (k + 1) by omega]) fun j y hy hkj hdy => by
   have := hl (j + 1) y (by simpa using hy) (by omega) hdy
   rwa [show i + 1 + j = i + (j + 1) by omega]
theorem stE_last_own {n : Nat} {E : Nat → Bool} : ∀ (l : List (Oper × Tr1)) (i : Nat) (S : AState) (k : Nat) (x : Oper × Tr1), l[k]? = some x → n ∈ x.2.e.upd.map (·.1) → E (i + k) = true →
  (∀ j y, l[j]? = some y → k < j → n ∈ y.2.e.upd.map (·.1) → E (i + j) = false) → gt (stE E i l S).own n = gt x.2.e.upd n
 | [], _, _, k, x, h, _, _, _ => by simp at h
 | (o, tr) :: r, i, S, 0, x, h, hd, hE, hl => by
  simp at h; subst h
  simp only [stE]
  simp only [Nat.add_zero] at hE
  rw [hE]
  have := stE_own (n := n) (E := E) (E' := fun _ => false) r (i + 1) (if true = true then S.app o.dst tr.e else S) (if true = true then S.app o.dst tr.e else S) rfl fun j y hy hdy => by
   have := hl (j + 1) y (by simpa using hy) (by omega) hdy
   rwa [show i + 1 + j = i + (j + 1) by omega]
  rw [this]
  have none : ∀ (l : List (Oper × Tr1)) (i : Nat) (S : AState), stE (fun _ => false) i l S = S := by
   intro l
   induction l with
   | nil => intro i S; rfl
   | cons y r ih => intro i S; obtain ⟨o, t⟩ := y; simp only [stE]; exact ih _ _
  rw [none]
  obtain ⟨u, hu⟩ := gt_some hd
  simp [AState.app, gt_app, hu]
 | (o, tr) :: r, i, S, k + 1, x, h, hd, hE, hl => by
  simp only [stE]
  exact stE_last_own r (i + 1) _ k x (by simpa using h) hd (by rwa [show i + 1 + k = i + (k + 1) by omega]) fun j y hy hkj hdy => by
   have := hl (j + 1) y (by simpa using hy) (by omega) hdy
   rwa [show i + 1 + j = i + (j + 1) by omega]
theorem DidAll.at {P : Program} {N : Nat → Prop} {nm : Nat → Nat} {all : List Oper} : ∀ (l : List (Oper × Tr1)) (i : Nat) (S : AState), DidAll P N nm all l S → ∀ k x, l[k]? = some x →
  Did P N nm all x.1 (stE (fun j => decide (j < i + k)) i l S) x.2
 | [], _, _, _, k, x, h => by simp at h
 | (o, t) :: r, i, S, h, 0, x, hx => by
  simp at hx; subst hx
  have none : ∀ (l : List (Oper × Tr1)) (j : Nat) (S : AState), i ≤ j → stE (fun k => decide (k < i + 0)) j l S = S := by
   intro l
   induction l with
   | nil => intro j S _; rfl
   | cons y r ih => intro j S hj; obtain ⟨o, t⟩ := y; simp only [stE]; rw [if_neg (by simp; omega)]; exact ih _ _ (by omega)
  rw [none _ _ _ (Nat.le_refl _)]
  exact h.1
 | (o, t) :: r, i, S, h, k + 1, x, hx => by
  have := DidAll.at r (i + 1) _ h.2 k x (by simpa using hx)
  simp only [stE]
  rw [if_pos (by simp)]
  rwa [show i + 1 + k = i + (k + 1) by omega] at this
end Go.Awp
end
section
namespace Go.Awp
variable [Inhabited GMem]
theorem mem_looks_tmp {all : List Oper} {o : Oper} {t : Tmp} (h : Operand.tmp t ∈ o.op.operands) : t ∈ looks all o := by
 unfold looks
 refine List.mem_append_left _ (List.mem_filterMap.2 ⟨_, Array.mem_toList_iff.2 h, rfl⟩)
theorem guardB_congr {S S' : AState} {all : List Oper} {o : Oper} {j : Nat} {w : Bool} (hg : o.guard = some (j, w)) (h : ∀ t ∈ looks all o, gt S'.tmps t = gt S.tmps t) : guardB S' all j w = guardB S all j w := by
 unfold guardB
 cases hj : all[j]? with
 | none => rfl
 | some x =>
  cases hd : x.dst with
  | none => simp [hd]
  | some d =>
   have : d ∈ looks all o := by
    unfold looks
    refine List.mem_append_right _ ?_
    simp [hg, hj, hd]
   simp only [hd, AState.get, h d this]
section
variable {C : Ctx} {nm : Nat → Nat} {ops : Array Oper} {l : List (Oper × Tr1)} {S0 : AState}
def doneB (listed : Array Bool) (k : Nat) : Bool := listed.getD k false
theorem draw_step (hl : l.map (·.1) = ops.toList) (hdid : DidAll C.P C.wr nm ops.toList l S0)
  (hp : pairsOk ops.toList (befs [] ops.toList) 0 [] l = true) {listed : Array Bool} (hsz : listed.size = ops.size)
  (hdown : ∀ k o e, ops[k]? = some o → doneB listed k = true → e ∈ o.after → Region.binds .any e = true → doneB listed e.on = true)
  {i : Nat} {x : Oper × Tr1} (hi : l[i]? = some x) (hni : doneB listed i = false) (hready : ∀ e ∈ x.1.after, Region.binds .any e = true → doneB listed e.on = true)
  {E : Env} {M : Mem} {a : Act} {w : World} (hs : Sim C E M (stE (doneB listed) 0 l S0) a w) {K : Act → World → Prop} {Q : Exit → Act → World → Prop}
  (hK : ∀ E' M' a' w', Sim C E' M' (stE (doneB (listed.setIfInBounds i true)) 0 l S0) a' w' → K a' w') : wpOp C.P ops Q i K a w := by
 have hio : ops[i]? = some x.1 := by
  have : (l.map (·.1))[i]? = some x.1 := by rw [List.getElem?_map, hi]; rfl
  rw [hl] at this; simpa using this
 have hlo : ∀ (k : Nat) (y : Oper × Tr1), l[k]? = some y → ops[k]? = some y.1 := by
  intro k y hy
  have : (l.map (·.1))[k]? = some y.1 := by rw [List.getElem?_map, hy]; rfl
  rw [hl] at this; simpa using this
 have hilt : i < listed.size := by rw [hsz]; exact (Array.getElem?_eq_some_iff.1 hio).1
 have hahead : ∀ j k, Ahead ops.toList j k → doneB listed k = true → doneB listed j = true := by
  intro j k h
  induction h with
  | one ho he hb => intro hk; exact hdown _ _ _ (by simpa using ho) hk he hb
  | more ho he hb _ ih => intro hk; exact ih (hdown _ _ _ (by simpa using ho) hk he hb)
 have hbef : ∀ j k m, (befs [] ops.toList)[k]? = some m → m.testBit j = true → Ahead ops.toList j k := fun j k m hm hb =>
  befs_spec ops.toList [] (fun j o h => by simpa using h) (fun j m i h => by simp at h) k m j hm hb
 have horder : ∀ (j k : Nat) (y z : Oper × Tr1), j < k → l[j]? = some y → l[k]? = some z → confl ops.toList y z = true → Ahead ops.toList j k := by
  intro j k y z hjk hy hz hc
  have := pairsOk_spec l [] hp j k y z hjk (Nat.zero_le _) (by simpa using hy) (by simpa using hz) hc
  cases hm : (befs [] ops.toList)[k]? with
  | none => rw [hm] at this; simp at this
  | some m => rw [hm] at this; exact hbef j k m hm this
 have hreadyA : ∀ j, Ahead ops.toList j i → doneB listed j = true := by
  intro j h
  cases h with
  | one ho he hb => exact hready _ (by rw [Array.getElem?_toList, hio] at ho; cases ho; exact he) hb
  | more ho he hb h => exact hahead _ _ h (hready _ (by rw [Array.getElem?_toList, hio] at ho; cases ho; exact he) hb)
 have hsame : ∀ (k : Nat) (y : Oper × Tr1), l[k]? = some y → (confl ops.toList y x = true ∨ confl ops.toList x y = true) → k ≠ i → doneB listed k = decide (k < i) := by
  intro k y hy hc hki
  rcases Nat.lt_or_gt_of_ne hki with h | h
  ·have hc' : confl ops.toList y x = true := by
    rcases hc with hc | hc
    ·exact hc
    ·simp only [confl, Bool.or_eq_true, List.any_eq_true] at hc ⊢
     rcases hc with (((((h1 | h1) | h1) | ⟨n, h2, h3⟩) | ⟨n, h2, h3⟩) | ⟨n, h2, h3⟩) | ⟨n, h2, h3⟩
     ·exact .inl (.inl (.inl (.inl (.inl (.inr h1)))))
     ·exact .inl (.inl (.inl (.inl (.inl (.inl h1)))))
     ·refine .inl (.inl (.inl (.inl (.inr ?_))))
      cases hx : x.1.dst <;> cases hyd : y.1.dst <;> rw [hx, hyd] at h1 <;> simp at h1 ⊢
      exact h1.symm
     ·rcases h3 with h3 | h3
      ·exact .inl (.inl (.inr ⟨n, h2, h3⟩))
      ·exact .inl (.inl (.inl (.inr ⟨n, by simpa using h3, .inr (by simpa using h2)⟩)))
     ·exact .inl (.inl (.inl (.inr ⟨n, h2, .inl h3⟩)))
     ·exact .inr ⟨n, h2, h3⟩
     ·exact .inl (.inr ⟨n, h2, h3⟩)
   rw [hreadyA k (horder k i y x h hy hi hc')]; simp [h]
  ·have hc' : confl ops.toList x y = true := by
    rcases hc with hc | hc
    ·simp only [confl, Bool.or_eq_true, List.any_eq_true] at hc ⊢
     rcases hc with (((((h1 | h1) | h1) | ⟨n, h2, h3⟩) | ⟨n, h2, h3⟩) | ⟨n, h2, h3⟩) | ⟨n, h2, h3⟩
     ·exact .inl (.inl (.inl (.inl (.inl (.inr h1)))))
     ·exact .inl (.inl (.inl (.inl (.inl (.inl h1)))))
     ·refine .inl (.inl (.inl (.inl (.inr ?_))))
      cases hx : x.1.dst <;> cases hyd : y.1.dst <;> rw [hx, hyd] at h1 <;> simp at h1 ⊢
      exact h1.symm
     ·rcases h3 with h3 | h3
      ·exact .inl (.inl (.inr ⟨n, h2, h3⟩))
      ·exact .inl (.inl (.inl (.inr ⟨n, by simpa using h3, .inr (by simpa using h2)⟩)))
     ·exact .inl (.inl (.inl (.inr ⟨n, h2, .inl h3⟩)))
     ·exact .inr ⟨n, h2, h3⟩
     ·exact .inl (.inr ⟨n, h2, h3⟩)
    ·exact hc
   have hA := horder i k x y h hi hy hc'
   cases hd : doneB listed k with
   | false => simp; omega
   | true => rw [hahead i k hA hd] at hni; cases hni
 have hat := DidAll.at l 0 S0 hdid i x hi
 simp only [Nat.zero_add] at hat
 have hwr_tmp : ∀ t, (t ∈ looks ops.toList x.1 ∨ x.1.dst = some t) → ∀ (k : Nat) (y : Oper × Tr1), l[k]? = some y → y.1.dst = some t → k ≠ i → doneB listed k = decide (k < i) := by
  intro t ht k y hy hyd hki
  refine hsame k y hy ?_ hki
  rcases ht with ht | ht
  ·left; simp only [confl, hyd, Bool.or_eq_true]; exact .inl (.inl (.inl (.inl (.inl (.inl (by simpa using ht))))))
  ·left; simp only [confl, hyd, ht, Bool.or_eq_true]; exact .inl (.inl (.inl (.inl (.inr (Nat.beq_refl t)))))
 have hlook : ∀ t ∈ looks ops.toList x.1, gt (stE (doneB listed) 0 l S0).tmps t = gt (stE (fun j => decide (j < i)) 0 l S0).tmps t := by
  intro t ht
  refine stE_tmp l 0 S0 S0 rfl fun k y hy hyd => ?_
  simp only [Nat.zero_add]
  by_cases hki : k = i
  ·subst hki; rw [hni]; simp
  ·exact hwr_tmp t (.inl ht) k y hy hyd hki
 have hwr_own : ∀ n, (n ∈ x.2.e.acc ∨ n ∈ x.2.e.names) → ∀ (k : Nat) (y : Oper × Tr1), l[k]? = some y → n ∈ y.2.e.upd.map (·.1) → k ≠ i → doneB listed k = decide (k < i) := by
  intro n hn k y hy hyn hki
  refine hsame k y hy (.inl ?_) hki
  simp only [confl, Bool.or_eq_true, List.any_eq_true]
  refine .inl (.inl (.inl (.inr ⟨n, by unfold Eff.names; exact List.mem_append_left _ hyn, ?_⟩)))
  rcases hn with hn | hn
  ·exact .inl (by simpa using hn)
  ·exact .inr (by simpa using hn)
 have hacc : ∀ n, (n ∈ x.2.e.acc ∨ n ∈ x.2.e.names) → gt (stE (doneB listed) 0 l S0).own n = gt (stE (fun j => decide (j < i)) 0 l S0).own n := by
  intro n hn
  refine stE_own l 0 S0 S0 rfl fun k y hy hyn => ?_
  simp only [Nat.zero_add]
  by_cases hki : k = i
  ·subst hki; rw [hni]; simp
  ·exact hwr_own n hn k y hy hyn hki
 obtain ⟨⟨hd, hdt⟩, hg, hex, hnex⟩ := hat
 have hset : ∀ k, doneB (listed.setIfInBounds i true) k = if k = i then true else doneB listed k := by
  intro k
  unfold doneB
  by_cases hk : k = i
  ·subst hk; simp [hilt]
  ·rw [if_neg hk]; simp [Array.getElem?_setIfInBounds_ne (Ne.symm hk)]
 have hnext : ∀ E' M' a' w', Sim C E' M' ((stE (doneB listed) 0 l S0).app x.1.dst x.2.e) a' w' → K a' w' := by
  intro E' M' a' w' h
  refine hK E' M' a' w' (h.weaken (fun t y hy => .inl ?_) (fun n o ho => ?_))
  ·rw [← hy]
   by_cases hdt : x.1.dst = some t
   ·rw [stE_last_tmp l 0 S0 i x hi hdt (by rw [Nat.zero_add, hset]; simp) fun k z hz hik hzd => by
     rw [Nat.zero_add, hset, if_neg (by omega), hwr_tmp t (.inr hdt) k z hz hzd (by omega)]; simp; omega]
    simp [AState.app, putT, hdt, gt_cons]
   ·rw [stE_tmp (E := doneB (listed.setIfInBounds i true)) (E' := doneB listed) l 0 S0 S0 rfl fun k z hz hzd => by
     rw [Nat.zero_add, hset]
     by_cases hk : k = i
     ·subst hk; rw [hi] at hz; cases hz; exact (hdt hzd).elim
     ·rw [if_neg hk]]
    simp only [AState.app, putT]
    cases hxd : x.1.dst with
    | none => rfl
    | some d => simp only [gt_cons]; rw [if_neg (fun e => hdt (by rw [hxd, e]))]
  ·rw [← ho]
   simp only [AState.own?]
   congr 1
   by_cases hn : n ∈ x.2.e.upd.map (·.1)
   ·rw [stE_last_own l 0 S0 i x hi hn (by rw [Nat.zero_add, hset]; simp) fun k z hz hik hzn => by
     rw [Nat.zero_add, hset, if_neg (by omega), hwr_own n (.inr (by unfold Eff.names; exact List.mem_append_left _ hn)) k z hz hzn (by omega)]; simp; omega]
    obtain ⟨u, hu⟩ := gt_some hn
    simp [AState.app, gt_app, hu]
   ·rw [stE_own (E := doneB (listed.setIfInBounds i true)) (E' := doneB listed) l 0 S0 S0 rfl fun k z hz hzn => by
     rw [Nat.zero_add, hset]
     by_cases hk : k = i
     ·subst hk; rw [hi] at hz; cases hz; exact (hn hzn).elim
     ·rw [if_neg hk]]
    simp only [AState.app, gt_app, gt_none hn]
 have hwant : Region.wanted x.1 (yielded ops a.tmps) = x.2.ex := by
  unfold Region.wanted
  cases hgu : x.1.guard with
  | none => rw [hgu] at hg; exact hg.symm
  | some g =>
   obtain ⟨j, want⟩ := g
   rw [hgu] at hg
   obtain ⟨b, hb1, hb2⟩ := hg
   rw [← guardB_congr hgu hlook] at hb1
   have hy := hs.guard hb1
   rw [hb2]
   exact hy
 unfold wpOp
 rw [hio]
 simp only [hwant]
 cases hx : x.2.ex with
 | false =>
  simp only [Bool.false_eq_true, if_false]
  have he := hnex hx
  refine hnext E M _ w ?_
  exact hs.app_val (o := x.1) hd (by rw [he]) (by rw [he]; exact undefH)
 | true =>
  simp only [if_true]
  left
  obtain ⟨hv, hnew⟩ := hex hx
  have hv' := BVal_congr (ρ' := ev (stE (doneB listed) 0 l S0)) (ω' := (stE (doneB listed) 0 l S0).own?) (fun y hy => by
   cases y with
   | tmp t => simp only [ev, AState.get, hlook t (mem_looks_tmp hy)]
   | const v => rfl
   | global g => rfl
   | func f => rfl) (fun n hn => by simp only [AState.own?, hacc n (.inl hn)]) hdt hv
  have hfresh : ∀ d ∈ x.2.e.new, (stE (doneB listed) 0 l S0).fresh d = true ∧ d < given := by
   intro d hdn
   obtain ⟨hf, hlt⟩ := hnew d hdn
   refine ⟨?_, hlt⟩
   have hown : (stE (doneB listed) 0 l S0).own? d = (stE (fun j => decide (j < i)) 0 l S0).own? d := by
    simp only [AState.own?, hacc d (.inr (by unfold Eff.names; exact List.mem_append_right _ hdn))]
   have hno : ∀ (k : Nat) (y : Oper × Tr1), l[k]? = some y → doneB listed k = true → y.2.e.has d = true → k < i := by
    intro k y hy hk hh
    by_cases hki : k = i
    ·subst hki; rw [hk] at hni; cases hni
    ·have := hsame k y hy (.inr (by
      simp only [confl, Bool.or_eq_true, List.any_eq_true]
      exact .inl (.inr ⟨d, hdn, hh⟩))) hki
     rw [hk] at this; simpa using this.symm
   simp only [AState.fresh, Bool.and_eq_true, List.all_eq_true, Bool.not_eq_true'] at hf ⊢
   obtain ⟨⟨hf1, hf2⟩, hf3⟩ := hf
   refine ⟨⟨by rw [hown]; exact hf1, fun p hp => ?_⟩, fun p hp => ?_⟩
   ·rcases stE_mem_tmp l 0 S0 p hp with h | ⟨k, y, h1, h2, h3', h3⟩
    ·exact hf2 p ((stE_sub l 0 S0).1 p h)
    ·simp only [Nat.zero_add] at h2
     cases hh : H.has d p.2 with
     | false => rfl
     | true =>
      rw [h3] at hh
      have hki := hno k y h1 h2 (by simp [Eff.has, hh])
      have := (stE_put (E := fun j => decide (j < i)) l 0 S0 k y h1 (by simpa using hki)).1 p.1 h3'
      have := hf2 _ this
      simp only at this
      rw [hh] at this; cases this
   ·rcases stE_mem_own l 0 S0 p hp with h | ⟨k, y, h1, h2, h3⟩
    ·exact hf3 p ((stE_sub l 0 S0).2 p h)
    ·simp only [Nat.zero_add] at h2
     cases hpo : p.2 with
     | none => rfl
     | some oo =>
      simp only []
      cases hh : Own.has d oo with
      | false => rfl
      | true =>
       have hki := hno k y h1 h2 (by
        simp only [Eff.has, Bool.or_eq_true, List.any_eq_true]
        exact .inr ⟨p, h3, by rw [hpo]; exact hh⟩)
       have := (stE_put (E := fun j => decide (j < i)) l 0 S0 k y h1 (by simpa using hki)).2 p h3
       have := hf3 p this
       rw [hpo] at this
       simp [hh] at this
  have hfin : BVal C.P nm x.1 (ev (stE (doneB listed) 0 l S0)) (stE (doneB listed) 0 l S0).own? (fun e => (∀ d ∈ e.new, (stE (doneB listed) 0 l S0).fresh d = true ∧ d < given) ∧ e = x.2.e) :=
   BVal_mono (fun e he => ⟨by rw [he]; exact hfresh, he⟩) hv'
  exact BVal.ok (nm := nm) hd hs hfin fun e E' M' a' w' he h => hnext E' M' a' w' (he ▸ h)
theorem draw_any (hl : l.map (·.1) = ops.toList) (hdid : DidAll C.P C.wr nm ops.toList l S0) (hp : pairsOk ops.toList (befs [] ops.toList) 0 [] l = true)
  (hlow : ∀ (k : Nat) (o : Oper) (e : Edge), ops[k]? = some o → e ∈ o.after → Region.binds .any e = true → e.on < k) {Q : Exit → Act → World → Prop}
  (hQ : ∀ E' M' a' w', Sim C E' M' (stE (fun _ => true) 0 l S0) a' w' → Q .normal a' w') :
  ∀ (fuel : Nat) (listed : Array Bool) (E : Env) (M : Mem) (a : Act) (w : World), listed.size = ops.size → listed.toList.countP (fun b => !b) ≤ fuel →
   (∀ k o e, ops[k]? = some o → doneB listed k = true → e ∈ o.after → Region.binds .any e = true → doneB listed e.on = true) → Sim C E M (stE (doneB listed) 0 l S0) a w →
   wpAny C.P .any ops Q fuel listed a w := by
 have hlen : l.length = ops.size := by
  have := congrArg List.length hl; simpa using this
 have hall : ∀ (listed : Array Bool), listed.size = ops.size → Region.ready .any ops listed = [] → ∀ k, k < ops.size → doneB listed k = true := by
  intro listed hsz hr k
  induction k using Nat.strongRecOn with
  | _ k ih =>
   intro hk
   cases hd : doneB listed k with
   | true => rfl
   | false =>
    have ho : ops[k]? = some ops[k] := Array.getElem?_eq_getElem hk
    have : k ∈ Region.ready .any ops listed := by
     rw [mem_ready]
     refine ⟨?_, ops[k], ho, fun e he hb => ih e.on (hlow k _ e ho he hb) (Nat.lt_trans (hlow k _ e ho he hb) hk)⟩
     unfold doneB at hd
     have hkl : k < listed.size := by omega
     simp [hkl] at hd ⊢; exact hd
    rw [hr] at this; cases this
 have hend : ∀ (listed : Array Bool) (E : Env) (M : Mem) (a : Act) (w : World), listed.size = ops.size → Region.ready .any ops listed = [] → Sim C E M (stE (doneB listed) 0 l S0) a w → Q .normal a w := by
  intro listed E M a w hsz hr hs
  refine hQ E M a w (hs.weaken (fun t y hy => .inl ?_) (fun n o ho => ?_))
  ·rw [← hy]
   exact stE_tmp l 0 S0 S0 rfl fun k y hy _ => by
    rw [Nat.zero_add]; exact hall listed hsz hr k (by have := (List.getElem?_eq_some_iff.1 hy).1; omega)
  ·rw [← ho]
   simp only [AState.own?]
   have he := stE_own (n := n) (E := doneB listed) (E' := fun _ => true) l 0 S0 S0 rfl fun k y hy _ => by
    rw [Nat.zero_add]; exact hall listed hsz hr k (by have := (List.getElem?_eq_some_iff.1 hy).1; omega)
   rw [he]
 intro fuel
 induction fuel with
 | zero =>
  intro listed E M a w hsz hc hdown hs
  have hr : Region.ready .any ops listed = [] := by
   cases hr : Region.ready .any ops listed with
   | nil => rfl
   | cons i r =>
    have hi : i ∈ Region.ready .any ops listed := by rw [hr]; exact List.mem_cons_self
    rw [mem_ready] at hi
    have h0 : listed.toList.countP (fun b => !b) = 0 := by omega
    rw [List.countP_eq_zero] at h0
    have hil : i < listed.size := by
     obtain ⟨_, o, ho, _⟩ := hi
     have := (Array.getElem?_eq_some_iff.1 ho).1; omega
    have := h0 listed[i] (by simp)
    have h1 := hi.1
    simp [hil] at h1
    simp [h1] at this
  exact ⟨hr, hend listed E M a w hsz hr hs⟩
 | succ fuel ih =>
  intro listed E M a w hsz hc hdown hs
  refine ⟨fun hr => hend listed E M a w hsz hr hs, fun i hi => ?_⟩
  rw [mem_ready] at hi
  obtain ⟨h0, o, ho, hready⟩ := hi
  have hio : i < ops.size := (Array.getElem?_eq_some_iff.1 ho).1
  have hil : i < listed.size := by omega
  obtain ⟨x, hx⟩ : ∃ x, l[i]? = some x := ⟨l[i]'(by omega), List.getElem?_eq_getElem (by omega)⟩
  have hxo : x.1 = o := by
   have : (l.map (·.1))[i]? = some x.1 := by rw [List.getElem?_map, hx]; rfl
   rw [hl] at this
   simp [ho] at this; exact this.symm
  have hni : doneB listed i = false := by
   unfold doneB; simp [hil] at h0 ⊢; exact h0
  refine draw_step hl hdid hp hsz hdown hx hni (fun e he hb => hready e (by rw [← hxo]; exact he) hb) hs fun E' M' a' w' hs' => ?_
  refine ih _ E' M' a' w' (by simpa using hsz) ?_ (fun k o' e hk hd he hb => ?_) hs'
  ·rw [Array.toList_setIfInBounds, List.countP_set (by simpa using hil)]
   have hli : listed.toList[i]'(by simpa using hil) = false := by simpa [hil] using h0
   have hpos : 0 < listed.toList.countP (fun b => !b) := List.countP_pos_iff.2 ⟨false, by rw [← hli]; exact List.getElem_mem _, rfl⟩
   simp only [hli, Bool.not_false, if_true, Bool.not_true, Bool.false_eq_true, if_false]
   omega
  ·unfold doneB at hd ⊢
   by_cases hki : k = i
   ·subst hki
    rw [ho] at hk; cases hk
    exact getD_set_true (hready e he hb)
   ·rw [getD_set_ne false (Ne.symm hki)] at hd
    exact getD_set_true (hdown k o' e hk hd he hb)
end
section
variable [Inhabited GMem]
inductive Runs (ops : Array Oper) : Array Bool → List Nat → Prop
 | nil {listed : Array Bool} (h : Region.ready .any ops listed = []) : Runs ops listed []
 | cons {listed : Array Bool} {i : Nat} {is : List Nat} (h : i ∈ Region.ready .any ops listed) (hr : Runs ops (listed.setIfInBounds i true) is) : Runs ops listed (i :: is)
theorem countP_set_lt {listed : Array Bool} {i : Nat} (h : listed.getD i true = false) : (listed.setIfInBounds i true).toList.countP (fun b => !b) < listed.toList.countP (fun b => !b) := by
 have hil : i < listed.size := by
  rcases Nat.lt_or_ge i listed.size with h2 | h2
  ·exact h2
  ·simp [Array.getElem?_eq_none h2] at h
 rw [Array.toList_setIfInBounds, List.countP_set (by simpa using hil)]
 have hli : listed.toList[i]'(by simpa using hil) = false := by simpa [hil] using h
 have hpos : 0 < listed.toList.countP (fun b => !b) := List.countP_pos_iff.2 ⟨false, by rw [← hli]; exact List.getElem_mem _, rfl⟩
 simp only [hli, Bool.not_false, if_true, Bool.not_true, Bool.false_eq_true, if_false]
 omega
theorem runs_linearise (ops : Array Oper) : ∀ (fuel t : Nat) (listed : Array Bool), listed.toList.countP (fun b => !b) ≤ fuel → Runs ops listed (Region.linearise.go .any ops fuel t listed []) := by
 intro fuel
 induction fuel with
 | zero =>
  intro t listed h
  simp only [Region.linearise.go, List.reverse_nil]
  refine .nil ?_
  cases hr : Region.ready .any ops listed with
  | nil => rfl
  | cons i r =>
   have hi : i ∈ Region.ready .any ops listed := by rw [hr]; exact List.mem_cons_self
   have := countP_set_lt (mem_ready.1 hi).1
   omega
 | succ fuel ih =>
  intro t listed h
  simp only [Region.linearise.go]
  change Runs ops listed (match (Region.ready .any ops listed)[t % (Region.ready .any ops listed).length]? with
   | some i => Region.linearise.go .any ops fuel (t / (Region.ready .any ops listed).length) (listed.setIfInBounds i true) [i]
   | none => [].reverse)
  cases hi : (Region.ready .any ops listed)[t % (Region.ready .any ops listed).length]? with
  | none =>
   refine .nil ?_
   cases hr : Region.ready .any ops listed with
   | nil => rfl
   | cons i r =>
    rw [hr] at hi
    rw [List.getElem?_eq_none_iff] at hi
    have := Nat.mod_lt t (show 0 < (i :: r).length by simp)
    omega
  | some i =>
   simp only
   rw [linearise_go_acc]
   have hm := List.mem_of_getElem? hi
   have := countP_set_lt (mem_ready.1 hm).1
   exact .cons hm (ih _ _ (by omega))
def swq (p q k : Nat) : Nat := if k = p then q else if k = q then p else k
theorem swq_swq (p q k : Nat) : swq p q (swq p q k) = k := by
 unfold swq
 repeat' split
 all_goals omega
def varOp (s : Nat → Nat) (extra : Array Edge) (o : Oper) : Oper :=
 { dst := o.dst, op := o.op, type := o.type, pos := o.pos, after := (o.after.map fun e => { on := s e.on, ground := e.ground }) ++ extra, guard := o.guard.map fun g => (s g.1, g.2) }
def varOps (p q x y : Nat) (ops : Array Oper) : Array Oper :=
 ((List.range ops.size).map fun k => match ops[swq p q k]? with
   | some o => varOp (swq p q) (if swq p q k = y then #[{ on := swq p q x, ground := .phase }] else #[]) o
   | none => default).toArray
theorem varOps_size (p q x y : Nat) (ops : Array Oper) : (varOps p q x y ops).size = ops.size := by simp [varOps]
theorem swq_lt {p q k n : Nat} (hp : p < n) (hq : q < n) : swq p q k < n ↔ k < n := by
 unfold swq
 repeat' split
 all_goals omega
theorem varOps_at {p q x y : Nat} {ops : Array Oper} (hp : p < ops.size) (hq : q < ops.size) {k : Nat} {o : Oper} (h : ops[k]? = some o) :
  (varOps p q x y ops)[swq p q k]? = some (varOp (swq p q) (if k = y then #[{ on := swq p q x, ground := .phase }] else #[]) o) := by
 have hk : k < ops.size := (Array.getElem?_eq_some_iff.1 h).1
 have hk2 : swq p q k < ops.size := (swq_lt hp hq).2 hk
 unfold varOps
 rw [List.getElem?_toArray, List.getElem?_map, List.getElem?_range hk2]
 simp only [Option.map_some, swq_swq, h]
theorem varOps_none {p q x y : Nat} {ops : Array Oper} (hp : p < ops.size) (hq : q < ops.size) {k : Nat} (h : ops[k]? = none) : (varOps p q x y ops)[swq p q k]? = none := by
 have hk : ¬ k < ops.size := by
  intro hk
  rw [Array.getElem?_eq_getElem hk] at h; cases h
 rw [Array.getElem?_eq_none_iff, varOps_size]
 have := (swq_lt (k := k) hp hq).1
 omega
theorem wpOps_var {P : Program} {p q x y : Nat} {ops : Array Oper} (hp : p < ops.size) (hq : q < ops.size) {Q : Exit → Act → World → Prop} :
  ∀ (is : List Nat) (a : Act) (w : World), wpOps P (varOps p q x y ops) Q (is.map (swq p q)) a w → wpOps P ops Q is a w
 | [], a, w, h => h
 | i :: is, a, w, h => by
  rw [List.map_cons, wpOps_cons] at h
  rw [wpOps_cons]
  unfold wpOp at *
  cases ho : ops[i]? with
  | none =>
   rw [varOps_none hp hq ho] at h
   exact wpOps_var hp hq is a w h
  | some o =>
   rw [varOps_at hp hq ho] at h
   simp only at h ⊢
   have hy : ∀ j, yielded (varOps p q x y ops) a.tmps (swq p q j) = yielded ops a.tmps j := by
    intro j
    unfold yielded
    cases hj : ops[j]? with
    | none => rw [varOps_none hp hq hj]
    | some z => rw [varOps_at hp hq hj]; rfl
   have hw : Region.wanted (varOp (swq p q) (if i = y then #[{ on := swq p q x, ground := .phase }] else #[]) o) (yielded (varOps p q x y ops) a.tmps) = Region.wanted o (yielded ops a.tmps) := by
    unfold Region.wanted varOp
    cases o.guard with
    | none => rfl
    | some g =>
     obtain ⟨j, want⟩ := g
     simp only [Option.map_some, hy]
   rw [hw] at h
   by_cases hz : Region.wanted o (yielded ops a.tmps) = true
   ·rw [if_pos hz] at h ⊢
    rcases h with h | h
    ·refine .inl ?_
     have h2 : o.wp P a w (wpOps P (varOps p q x y ops) Q (is.map (swq p q))) Q := h
     exact Oper.wp_mono (fun a w h => wpOps_var hp hq is a w h) h2
    ·exact .inr h
   ·rw [if_neg hz] at h ⊢
    exact wpOps_var hp hq is _ w h
def bef (x y : Nat) : List Nat → Prop
 | [] => True
 | k :: r => k = x ∨ (k ≠ y ∧ bef x y r)
theorem bef_or {x y : Nat} (h : x ≠ y) : ∀ is : List Nat, bef x y is ∨ bef y x is
 | [] => .inl trivial
 | k :: r => by
  by_cases h1 : k = x
  ·exact .inl (.inl h1)
  ·by_cases h2 : k = y
   ·exact .inr (.inl h2)
   ·rcases bef_or h r with h3 | h3
    ·exact .inl (.inr ⟨h2, h3⟩)
    ·exact .inr (.inr ⟨h1, h3⟩)
theorem runs_var {p q x y : Nat} (hxy : x ≠ y) {ops : Array Oper} (hp : p < ops.size) (hq : q < ops.size) {listed : Array Bool} {is : List Nat} (h : Runs ops listed is) :
  ∀ listed' : Array Bool, listed.size = ops.size → listed'.size = ops.size → (∀ k, k < ops.size → doneB listed' (swq p q k) = doneB listed k) → (doneB listed x = true ∨ bef x y is) → Runs (varOps p q x y ops) listed' (is.map (swq p q)) := by
 have down : ∀ (listed listed' : Array Bool), listed.size = ops.size → listed'.size = ops.size → (∀ k, k < ops.size → doneB listed' (swq p q k) = doneB listed k) → ∀ k, swq p q k ∈ Region.ready .any (varOps p q x y ops) listed' → k ∈ Region.ready .any ops listed := by
  intro listed listed' hs hs' hd k hk
  rw [mem_ready] at hk ⊢
  obtain ⟨h1, o', ho', h2⟩ := hk
  cases ho : ops[k]? with
  | none => rw [varOps_none hp hq ho] at ho'; cases ho'
  | some o =>
   rw [varOps_at hp hq ho] at ho'
   cases ho'
   have hkl : k < ops.size := (Array.getElem?_eq_some_iff.1 ho).1
   have hkl2 : swq p q k < ops.size := (swq_lt hp hq).2 hkl
   refine ⟨?_, o, rfl, fun e he hb => ?_⟩
   ·have := hd k hkl
    unfold doneB at this
    simp [hs, hs', hkl, hkl2] at this h1 ⊢
    rw [← this, h1]
   ·have h3 := h2 { on := swq p q e.on, ground := e.ground } (by
     simp only [varOp, Array.mem_append, Array.mem_map]
     exact .inl ⟨e, he, rfl⟩) hb
    by_cases hel : e.on < ops.size
    ·have := hd e.on hel
     unfold doneB at this
     rw [← this]; exact h3
    ·have hel2 : ¬ swq p q e.on < ops.size := fun h => hel ((swq_lt hp hq).1 h)
     simp [hs', hel2] at h3
 induction h with
 | nil h0 =>
  intro listed' hs hs' hd _
  refine .nil ?_
  cases hr : Region.ready .any (varOps p q x y ops) listed' with
  | nil => rfl
  | cons i r =>
   have hi : swq p q (swq p q i) ∈ Region.ready .any (varOps p q x y ops) listed' := by rw [swq_swq, hr]; exact List.mem_cons_self
   have := down _ _ hs hs' hd _ hi
   rw [h0] at this; cases this
 | cons hm hr ih =>
  rename_i listed i is
  intro listed' hs hs' hd hb
  have hm' := mem_ready.1 hm
  obtain ⟨h1, o, ho, h2⟩ := hm'
  have hkl : i < ops.size := (Array.getElem?_eq_some_iff.1 ho).1
  have hkl2 : swq p q i < ops.size := (swq_lt hp hq).2 hkl
  refine .cons (mem_ready.2 ⟨?_, _, varOps_at hp hq ho, fun e he hbd => ?_⟩) (ih _ (by simpa using hs) (by simpa using hs') (fun k hk => ?_) ?_)
  ·have := hd i hkl
   unfold doneB at this
   simp [hs, hs', hkl, hkl2] at this h1 ⊢
   rw [this, h1]
  ·simp only [varOp, Array.mem_append, Array.mem_map] at he
   rcases he with ⟨e0, he0, rfl⟩ | he
   ·have h3 := h2 e0 he0 hbd
    by_cases hel : e0.on < ops.size
    ·have := hd e0.on hel
     unfold doneB at this
     rw [this]; exact h3
    ·simp [hs, hel] at h3
   ·by_cases hiy : i = y
    ·rw [if_pos hiy] at he
     simp at he
     subst he
     have hx : doneB listed x = true := by
      rcases hb with hb | hb
      ·exact hb
      ·rcases hb with hb | hb
       ·exact absurd (hb.symm.trans hiy) hxy
       ·exact absurd hiy hb.1
     have hxl : x < ops.size := by
      unfold doneB at hx
      rcases Nat.lt_or_ge x listed.size with h | h
      ·omega
      ·simp [Array.getElem?_eq_none h] at hx
     have := hd x hxl
     unfold doneB at this hx
     simp only
     rw [this]; exact hx
    ·rw [if_neg hiy] at he; simp at he
  ·unfold doneB
   by_cases hki : k = i
   ·subst hki
    simp [hs, hs', hkl, hkl2]
   ·have : swq p q k ≠ swq p q i := fun e => hki (by rw [← swq_swq p q k, e, swq_swq])
    rw [getD_set_ne false (Ne.symm hki), getD_set_ne false (Ne.symm this)]
    exact hd k hk
  ·rcases hb with hb | hb
   ·exact .inl (getD_set_true hb)
   ·rcases hb with hb | hb
    ·refine .inl ?_
     subst hb
     unfold doneB
     simp [hs, hkl]
    ·exact .inr hb.2
theorem draw_runs {C : Ctx} {nm : Nat → Nat} {ops : Array Oper} {l : List (Oper × Tr1)} {S0 : AState} (hl : l.map (·.1) = ops.toList) (hdid : DidAll C.P C.wr nm ops.toList l S0) (hp : pairsOk ops.toList (befs [] ops.toList) 0 [] l = true)
  (hlow : ∀ (k : Nat) (o : Oper) (e : Edge), ops[k]? = some o → e ∈ o.after → Region.binds .any e = true → e.on < k) {Q : Exit → Act → World → Prop}
  (hQ : ∀ E' M' a' w', Sim C E' M' (stE (fun _ => true) 0 l S0) a' w' → Q .normal a' w') {listed : Array Bool} {is : List Nat} (hr : Runs ops listed is) :
  ∀ (E : Env) (M : Mem) (a : Act) (w : World), listed.size = ops.size →
   (∀ k o e, ops[k]? = some o → doneB listed k = true → e ∈ o.after → Region.binds .any e = true → doneB listed e.on = true) → Sim C E M (stE (doneB listed) 0 l S0) a w →
   wpOps C.P ops Q is a w := by
 have hlen : l.length = ops.size := by
  have := congrArg List.length hl; simpa using this
 induction hr with
 | nil hr =>
  rename_i listed
  intro E M a w hsz hdown hs
  have := draw_any (C := C) (nm := nm) hl hdid hp hlow hQ 0 listed E M a w hsz
   (by
     refine Nat.le_of_eq (List.countP_eq_zero.2 fun b hb => ?_)
     obtain ⟨i, hi, rfl⟩ := List.getElem_of_mem hb
     cases hbi : listed.toList[i] with
     | true => simp
     | false =>
      exfalso
      have hall : ∀ k, k < ops.size → doneB listed k = true := by
       intro k
       induction k using Nat.strongRecOn with
       | _ k ih =>
        intro hk
        cases hd : doneB listed k with
        | true => rfl
        | false =>
         have ho : ops[k]? = some ops[k] := Array.getElem?_eq_getElem hk
         have : k ∈ Region.ready .any ops listed := by
          rw [mem_ready]
          refine ⟨?_, ops[k], ho, fun e he hb => ih e.on (hlow k _ e ho he hb) (Nat.lt_trans (hlow k _ e ho he hb) hk)⟩
          unfold doneB at hd
          have hkl : k < listed.size := by omega
          simp [hkl] at hd ⊢; exact hd
         rw [hr] at this; cases this
      have hil : i < listed.size := by simpa using hi
      have := hall i (by omega)
      unfold doneB at this
      simp [hil] at this hbi
      rw [hbi] at this; cases this) hdown hs
  exact this.2
 | cons hm hr ih =>
  rename_i listed i is
  intro E M a w hsz hdown hs
  obtain ⟨h0, o, ho, hready⟩ := mem_ready.1 hm
  have hio : i < ops.size := (Array.getElem?_eq_some_iff.1 ho).1
  have hil : i < listed.size := by omega
  obtain ⟨x, hx⟩ : ∃ x, l[i]? = some x := ⟨l[i]'(by omega), List.getElem?_eq_getElem (by omega)⟩
  have hxo : x.1 = o := by
   have : (l.map (·.1))[i]? = some x.1 := by rw [List.getElem?_map, hx]; rfl
   rw [hl] at this
   simp [ho] at this; exact this.symm
  have hni : doneB listed i = false := by
   unfold doneB; simp [hil] at h0 ⊢; exact h0
  rw [wpOps_cons]
  refine draw_step hl hdid hp hsz hdown hx hni (fun e he hb => hready e (by rw [← hxo]; exact he) hb) hs fun E' M' a' w' hs' => ?_
  refine ih E' M' a' w' (by simpa using hsz) (fun k o' e hk hd he hb => ?_) hs'
  unfold doneB at hd ⊢
  by_cases hki : k = i
  ·subst hki
   rw [ho] at hk; cases hk
   exact getD_set_true (hready e he hb)
  ·rw [getD_set_ne false (Ne.symm hki)] at hd
   exact getD_set_true (hdown k o' e hk hd he hb)
inductive PT where
 | leaf
 | node (i j : Nat) (a b : PT)
def PT.ok (C : Ctx) (nm : Nat → Nat) (S : AState) (Q : AState → Prop) : PT → Array Oper → Prop
 | .leaf, ops => aopsT C.P C.wr nm ops.toList ops.toList S [] (fun S' tr => drawOk ops.toList tr = true ∧ Q S')
 | .node i j a b, ops => (i ≠ j ∧ i < ops.size ∧ j < ops.size) ∧ PT.ok C nm S Q a (varOps i i i j ops) ∧ PT.ok C nm S Q b (varOps i j j i ops)
theorem PT.runs {C : Ctx} {nm : Nat → Nat} {S : AState} {Q : AState → Prop} {Q' : Exit → Act → World → Prop} {E : Env} {M : Mem} {a : Act} {w : World} (hs : Sim C E M S a w)
  (hQ : ∀ S' E' M' a' w', Q S' → Sim C E' M' S' a' w' → Q' .normal a' w') : ∀ (t : PT) (ops : Array Oper) (is : List Nat), PT.ok C nm S Q t ops → Runs ops (Array.replicate ops.size false) is → wpOps C.P ops Q' is a w
 | .leaf, ops, is, h, hr => by
  obtain ⟨l, h1, h2, h3, h4⟩ := aopsT_ex h
  have hz : ops.toList.zip (l.map (·.2)) = l := by
   rw [← h1]
   have : ∀ l : List (Oper × Tr1), (l.map (·.1)).zip (l.map (·.2)) = l := by
    intro l
    induction l with
    | nil => rfl
    | cons x r ih => simp [ih]
   exact this l
  simp only [List.nil_append, drawOk, Bool.and_eq_true, hz] at h3
  obtain ⟨hp', hlow⟩ := h3
  have hd0 : ∀ k, doneB (Array.replicate ops.size false) k = false := by
   intro k
   unfold doneB
   by_cases hk : k < ops.size
   ·simp [hk]
   ·simp [hk]
  refine draw_runs (C := C) (nm := nm) (l := l) (S0 := S) h1 h2 hp' (fun k o e ho he hb => ?_) (fun E' M' a' w' hs' => hQ _ E' M' a' w' h4 hs')
   hr E M a _ (by simp) (fun k o e _ hd => ?_) ?_
  ·rw [List.all_eq_true] at hlow
   have := hlow (o, k) (List.mk_mem_zipIdx_iff_getElem?.2 (by simpa using ho))
   simp only at this
   rw [Array.all_eq_true_iff_forall_mem] at this
   have := this e he
   simp only [hb, Bool.not_true, Bool.false_or] at this
   exact of_eq_true (by rw [← Nat.blt_eq, this]; simp)
  ·rw [hd0] at hd; cases hd
  ·have none : ∀ (l : List (Oper × Tr1)) (i : Nat) (S : AState), stE (doneB (Array.replicate ops.size false)) i l S = S := by
    intro l
    induction l with
    | nil => intro i S; rfl
    | cons x r ih =>
     intro i S; obtain ⟨o, t⟩ := x
     simp only [stE, hd0]
     exact ih _ _
   rw [none]
   exact hs
 | .node i j ta tb, ops, is, h, hr => by
  obtain ⟨⟨hij, hi, hj⟩, hA, hB⟩ := h
  have hd0 : ∀ n k, doneB (Array.replicate n false) k = false := by
   intro n k
   unfold doneB
   by_cases hk : k < n
   ·simp [hk]
   ·simp [hk]
  rcases bef_or hij is with hb | hb
  ·refine wpOps_var (p := i) (q := i) (x := i) (y := j) hi hi _ _ _ (PT.runs hs hQ ta _ _ hA ?_)
   exact runs_var (p := i) (q := i) (x := i) (y := j) hij hi hi hr _ (by simp) (by simp [varOps_size]) (fun k _ => by rw [hd0, hd0]) (.inr hb)
  ·refine wpOps_var (p := i) (q := j) (x := j) (y := i) hi hj _ _ _ (PT.runs hs hQ tb _ _ hB ?_)
   exact runs_var (p := i) (q := j) (x := j) (y := i) (Ne.symm hij) hi hj hr _ (by simp) (by simp [varOps_size]) (fun k _ => by rw [hd0, hd0]) (.inr hb)
theorem AWp.drawT {C : Ctx} {id : Nat} {ops : Array Oper} {S : AState} {Q : Exit → AState → Prop} (nm : Nat → Nat) (t : PT) (hm : C.P.follows .mixedOrders = true)
  (h : PT.ok C nm S (Q .normal) t ops) : AWp C (.region id ops true) S Q := fun E M a w hs => by
 refine wp_region_draw fun tp => ?_
 simp only [Region.schedule, hm, Bool.true_or, if_true]
 have hr : Runs ops (Array.replicate ops.size false) (Region.linearise .any ops tp) := runs_linearise ops ops.size tp _ (Nat.le_trans List.countP_le_length (by simp))
 exact PT.runs (Q' := fun e a' w' => ∃ S' E' M', Q e S' ∧ Sim C E' M' S' a' w') hs.drew (fun S' E' M' a' w' hq hs' => ⟨S', E', M', hq, hs'⟩) t ops _ h hr
end
end Go.Awp
end
section
namespace Go.Awp
variable [Inhabited GMem]
section
variable {P : Program} {N : Nat → Prop} {C : Ctx} {nm : Nat → Nat} {S : AState} {Q : Exit → AState → Prop}
end
theorem FnOk.at {P : Program} {f : FuncId} {args : List H} {r : H} (h : FnOk P f args [] r []) (hr : H.plain r = true) : FnAt P f args [] r [] := by
 refine ⟨h.1, fun E M w vs hgm hm ho hv => (h.2 E M w vs hgm hm ho hv).mono ?_⟩
 rintro e w' ⟨v, E', M', rfl, hp⟩
 refine ⟨v, E, M', rfl, { hp with rep := hp.rep.mono (Mem.le_refl _) (fun n hn => by rw [H.plain_has hr] at hn; cases hn), owns := ⟨fun n o h => by simp [gt] at h, fun n m o o' b _ h => by simp [gt] at h⟩, home := fun n o b h => by simp [gt] at h, env := fun _ _ => rfl }, fun _ _ => rfl⟩
theorem acall_pure {P : Program} {f : FuncId} {args : List H} {ω : Nat → Option Own} {k : Eff → Prop} {r : H} (h : FnOk P f args [] r []) (hr : H.plain r = true) (hk : k { val := r }) : ACall P f args ω k :=
 ⟨[], r, [], h.at hr, by simp, hk⟩
theorem Ent.nilvec {S : AState} {t n e sz : Nat} (ht : gt S.tmps t = some (.d (.v (.slice none 0 0)))) (hf : S.fresh n = true) (hg : n < given) :
  Ent S { tmps := (t, .vh n 0) :: S.tmps, own := (n, some (.vec e sz [])) :: S.own } := fun C E M a w hs => by
 have h1 := hs.own_new (E' := fun m => if m = n then .slice none 0 0 else E m) (d := n) (o' := .vec e sz []) (w' := w) ⟨rfl, rfl, rfl, Nat.le_refl _, fun _ _ _ => rfl⟩ (fun m hm => by simp [hm]) hf hg
  (fun b hb => by simp [Own.foot, blockOf] at hb) ⟨[], by simpa using World.ownsRow_nil w 0 e sz, by simp, by simp, fun b hb => by simp [blockOf] at hb⟩
 refine ⟨_, M, { h1 with tmps := fun t' x hx => ?_ }⟩
 rw [gt_cons] at hx
 by_cases htt : t = t'
 ·subst htt
  simp at hx; subst hx
  obtain ⟨v, hv, hr⟩ := hs.tmps t _ ht
  refine ⟨v, hv, ?_⟩
  rw [hr.dv]
  exact .vh n 0 0 0 none (by simp) (Nat.le_refl _)
 ·rw [if_neg htt] at hx
  exact h1.tmps t' x hx
theorem Ent.nilcell {S : AState} {b n e sz i : Nat} {oty : Option TypeId} {cells : List H} (ho : S.own? b = some (.box oty cells)) (hi : cells[i]? = some (.d (.v (.slice none 0 0)))) (hf : S.fresh n = true) (hg : n < given) :
  Ent S { tmps := S.tmps, own := (b, some (.box oty (cells.set i (.vh n 0)))) :: (n, some (.vec e sz [])) :: S.own } := fun C E M a w hs => by
 have h1 := hs.own_new (E' := fun m => if m = n then .slice none 0 0 else E m) (d := n) (o' := .vec e sz []) (w' := w) ⟨rfl, rfl, rfl, Nat.le_refl _, fun _ _ _ => rfl⟩ (fun m hm => by simp [hm]) hf hg
  (fun b hb => by simp [Own.foot, blockOf] at hb) ⟨[], by simpa using World.ownsRow_nil w 0 e sz, by simp, by simp, fun b hb => by simp [blockOf] at hb⟩
 have hbn : b ≠ n := by
  rintro rfl
  unfold AState.fresh at hf
  simp [ho] at hf
 have hown : ∀ m o, AState.own? { tmps := S.tmps, own := (b, some (.box oty (cells.set i (.vh n 0)))) :: (n, some (.vec e sz [])) :: S.own } m = some o →
   (m = b ∧ o = .box oty (cells.set i (.vh n 0))) ∨ (m ≠ b ∧ AState.own? { tmps := S.tmps, own := (n, some (.vec e sz [])) :: S.own } m = some o) := by
  intro m o hm
  unfold AState.own? at hm ⊢
  rw [gt_cons] at hm
  by_cases hmb : b = m
  ·rw [if_pos hmb] at hm
   left; exact ⟨hmb.symm, by simpa using hm.symm⟩
  ·rw [if_neg hmb] at hm
   right; exact ⟨fun e => hmb e.symm, hm⟩
 have hb1 : AState.own? { tmps := S.tmps, own := (n, some (.vec e sz [])) :: S.own } b = some (.box oty cells) := by
  unfold AState.own? at ho ⊢
  rw [gt_cons, if_neg (fun e => hbn e.symm)]; exact ho
 have hany : ∀ m o, AState.own? { tmps := S.tmps, own := (b, some (.box oty (cells.set i (.vh n 0)))) :: (n, some (.vec e sz [])) :: S.own } m = some o → ∃ o', AState.own? { tmps := S.tmps, own := (n, some (.vec e sz [])) :: S.own } m = some o' ∧ ∀ v, o.foot w v = o'.foot w v := by
  intro m o hm
  rcases hown m o hm with ⟨rfl, rfl⟩ | ⟨_, h⟩
  ·exact ⟨_, hb1, fun _ => rfl⟩
  ·exact ⟨_, h, fun _ => rfl⟩
 refine ⟨_, M, { h1 with own := fun m o hm => ?_, apart := fun m m' o o' bb hne hm hm' hbb hbb' => ?_, home := fun m o bb hm hbb => ?_ }⟩
 ·rcases hown m o hm with ⟨rfl, rfl⟩ | ⟨_, h⟩
  ·obtain ⟨blk, cs, ty, k1, k2, k3, k4, k5⟩ := h1.own m _ hb1
   refine ⟨blk, cs, ty, k1, k2, by rw [List.length_set]; exact k3, fun j c x hc hx => ?_, k5⟩
   by_cases hij : i = j
   ·subst hij
    have hlt : i < cells.length := (List.getElem?_eq_some_iff.1 hi).1
    rw [List.getElem?_set_self hlt] at hx
    simp at hx; subst hx
    have := k4 i c _ hc hi
    rw [this.dv]
    exact .vh n 0 0 0 none (by simp) (Nat.le_refl _)
   ·rw [List.getElem?_set_ne hij] at hx
    exact k4 j c x hc hx
  ·exact h1.own m o h
 ·obtain ⟨q, hq, e⟩ := hany m o hm
  obtain ⟨q', hq', e'⟩ := hany m' o' hm'
  rw [e] at hbb
  rw [e'] at hbb'
  exact h1.apart m m' q q' bb hne hq hq' hbb hbb'
 ·obtain ⟨q, hq, e⟩ := hany m o hm
  rw [e] at hbb
  exact h1.home m q bb hq hbb
mutual
def H.frz (n sz : Nat) (rows : List (List D)) : H → H
 | .vh m len => if m = n ∧ len = rows.length then .d (.sl sz rows) else .vh m len
 | .agg cs => mkAgg (H.frzL n sz rows cs)
 | .tup vs => .tup (H.frzL n sz rows vs)
 | x => x
def H.frzL (n sz : Nat) (rows : List (List D)) : List H → List H
 | [] => []
 | x :: r => H.frz n sz rows x :: H.frzL n sz rows r
end
theorem H.frzL_len (n sz : Nat) (rows : List (List D)) : ∀ l : List H, (H.frzL n sz rows l).length = l.length
 | [] => rfl
 | x :: r => by simp [H.frzL, H.frzL_len n sz rows r]
theorem H.frzL_get (n sz : Nat) (rows : List (List D)) : ∀ (l : List H) (i : Nat), (H.frzL n sz rows l)[i]? = (l[i]?).map (H.frz n sz rows)
 | [], i => by simp [H.frzL]
 | x :: r, 0 => by simp [H.frzL]
 | x :: r, i + 1 => by simpa [H.frzL] using H.frzL_get n sz rows r i
def Own.frz (n sz : Nat) (rows : List (List D)) : Own → Own
 | .box o cells => .box o (H.frzL n sz rows cells)
 | o => o
theorem Own.frz_foot (n sz : Nat) (rows : List (List D)) (w : World) (v : Value) (o : Own) : (Own.frz n sz rows o).foot w v = o.foot w v := by
 cases o <;> rfl
def AState.frz (S : AState) (n sz : Nat) (rows : List (List D)) : AState :=
 { tmps := S.tmps.map fun p => (p.1, H.frz n sz rows p.2), own := (n, none) :: S.own.map fun p => (p.1, p.2.map (Own.frz n sz rows)) }
theorem gt_map {α β : Type} (f : α → β) : ∀ (l : List (Nat × α)) (n : Nat), gt (l.map fun p => (p.1, f p.2)) n = (gt l n).map f
 | [], n => rfl
 | (k, x) :: r, n => by
  simp only [List.map_cons, gt_cons]
  by_cases h : k = n
  ·simp [h]
  ·rw [if_neg h, if_neg h]; exact gt_map f r n
theorem HRep.frz {E : Env} {M M' : Mem} (hM : M.le M') {n sz : Nat} {rows : List (List D)} (hn : ∀ v, HRep E M v (.vh n rows.length) → DRep M' v (.sl sz rows)) {v : Value} {x : H} (h : HRep E M v x) : HRep E M' v (H.frz n sz rows x) := by
 induction h with
 | d h => exact .d (h.mono hM)
 | junk v => exact .junk v
 | bp n off b h => exact .bp n off b h
 | vh m len l c a h hl =>
  simp only [H.frz]
  split
  ·rename_i hc
   obtain ⟨rfl, rfl⟩ := hc
   exact .d (hn _ (.vh m _ l c a h hl))
  ·exact .vh m len l c a h hl
 | ep n sz i off b l c h hi => exact .ep n sz i off b l c h hi
 | sv n sz i off b l c h hi => exact .sv n sz i off b l c h hi
 | mp n r h => exact .mp n r h
 | np0 n => exact .np0 n
 | np1 n b h => exact .np1 n b h
 | sd n p h => exact .sd n p h
 | agg cs l hl h ih =>
  refine HRep.mk_agg (by rw [H.frzL_len]; exact hl) fun i c y hc hy => ?_
  rw [H.frzL_get] at hy
  cases hz : l[i]? with
  | none => rw [hz] at hy; cases hy
  | some z => rw [hz] at hy; simp at hy; subst hy; exact ih i c z hc hz
 | tup cs l hl h ih =>
  refine .tup cs _ (by rw [H.frzL_len]; exact hl) fun i c y hc hy => ?_
  rw [H.frzL_get] at hy
  cases hz : l[i]? with
  | none => rw [hz] at hy; cases hy
  | some z => rw [hz] at hy; simp at hy; subst hy; exact ih i c z hc hz
 | fn f first captured l l' hl hl' h h' ih ih' => exact .fn f first captured l l' hl hl' (fun i c x hc hx => (h i c x hc hx).le hM) (fun i c x hc hx => (h' i c x hc hx).le hM)
theorem Ent.freeze {S : AState} {n e sz : Nat} {rows : List (List D)} (hn : S.own? n = some (.vec e sz rows)) : Ent S (S.frz n sz rows) := fun C E M a w hs => by
 obtain ⟨xs, h1, h2, h3, h4⟩ := hs.own n _ hn
 let M' : Mem := fun b k => match M b k with
  | some v => some v
  | none => if blockOf (E n) = some b ∧ k < rows.length * sz then xs[k]? else none
 have hM : M.le M' := fun b k v hv => by simp [M', hv]
 have hcell : ∀ b k v, blockOf (E n) = some b → xs[k]? = some v → w.cell? ⟨b, k, none⟩ = some v := by
  intro b k v hb hv
  rcases h1.2 with ⟨hnil, _⟩ | ⟨g, cap, cur, hE, _, hg, _, _, _, htake⟩
  ·rw [hnil] at hb; simp [blockOf] at hb
  ·rw [hE] at hb; simp [blockOf] at hb; subst hb
   rw [cell_of_row w g k cur e (0, 0) hg]
   rw [← htake, List.getElem?_take] at hv
   split at hv
   ·simpa using hv
   ·cases hv
 have hrep : ∀ v, HRep E M v (.vh n rows.length) → DRep M' v (.sl sz rows) := by
  intro v hv
  cases hv with
  | vh n len l c a h hl =>
   rcases h1.2 with ⟨hnil, hz⟩ | ⟨g, cap, cur, hE, _, hg, hnc, _, _, htake⟩
   ·rw [h] at hnil
    simp only [Value.slice.injEq] at hnil
    obtain ⟨rfl, rfl, rfl⟩ := hnil
    have hz' : rows = [] := List.eq_nil_of_length_eq_zero hz
    subst hz'
    exact .slnil sz
   ·rw [h] at hE
    simp only [Value.slice.injEq] at hE
    obtain ⟨rfl, rfl, rfl⟩ := hE
    refine .sl g 0 _ _ sz rows (fun k => xs.getD k undef) rfl hnc h2 (fun k hk => ?_) fun i j r x hr hx => ?_
    ·have hxk : k < xs.length := by rw [h1.1]; exact hk
     have hMk : M g k = none := h4 g (by rw [h]; rfl) k
     simp only [M', Nat.zero_add, hMk]
     rw [if_pos ⟨by rw [h]; rfl, hk⟩, List.getElem?_eq_getElem hxk]
     simp [hxk]
    ·have hlr := h2 r (List.mem_of_getElem? hr)
     have hir : i < rows.length := (List.getElem?_eq_some_iff.1 hr).1
     have hj : j < sz := by have := (List.getElem?_eq_some_iff.1 hx).1; omega
     have hmul : (i + 1) * sz ≤ rows.length * sz := Nat.mul_le_mul_right _ hir
     rw [Nat.succ_mul] at hmul
     have hxk : i * sz + j < xs.length := by rw [h1.1]; omega
     have := h3 i j r xs[i * sz + j] x hr hx (List.getElem?_eq_getElem hxk)
     have hg' : xs.getD (i * sz + j) undef = xs[i * sz + j] := by simp [hxk]
     rw [hg']
     exact this.mono hM
 have hown : ∀ m o, (S.frz n sz rows).own? m = some o → m ≠ n ∧ ∃ o0, S.own? m = some o0 ∧ o = Own.frz n sz rows o0 := by
  intro m o ho
  simp only [AState.frz, AState.own?, gt_cons] at ho
  by_cases hm : n = m
  ·rw [if_pos hm] at ho; simp at ho
  ·rw [if_neg hm, gt_map (fun x : Option Own => x.map (Own.frz n sz rows))] at ho
   refine ⟨fun e => hm e.symm, ?_⟩
   cases hg : gt S.own m with
   | none => rw [hg] at ho; simp at ho
   | some oo =>
    rw [hg] at ho
    cases oo with
    | none => simp at ho
    | some o0 => simp at ho; exact ⟨o0, by simp [AState.own?, hg], ho.symm⟩
 have hM'none : ∀ m o, m ≠ n → S.own? m = some o → ∀ b, o.foot w (E m) b → ∀ k, M' b k = none := by
  intro m o hm ho b hb k
  have h0 := ((hs.own m o ho).block hb).2 k
  simp only [M', h0]
  rw [if_neg]
  rintro ⟨hb', _⟩
  exact hs.apart m n o _ b hm ho hn hb hb'
 refine ⟨E, M', { size := hs.size, defers := hs.defers, fixed := hs.fixed, tmps := ?_, mem := ?_, own := ?_, apart := ?_, home := ?_, m0 := Mem.le_trans hs.m0 hM, mnew := ?_, frame := hs.frame, grows := hs.grows, os := hs.os, tape := hs.tape, output := hs.output, env := hs.env }⟩
 ·intro t x hx
  simp only [AState.frz, gt_map] at hx
  cases hg : gt S.tmps t with
  | none => rw [hg] at hx; cases hx
  | some y =>
   rw [hg] at hx; simp at hx; subst hx
   obtain ⟨v, hv, hr⟩ := hs.tmps t y hg
   exact ⟨v, hv, hr.frz hM hrep⟩
 ·intro b k v hv
  simp only [M'] at hv
  cases h0 : M b k with
  | some u => rw [h0] at hv; simp at hv; subst hv; exact hs.mem b k u h0
  | none =>
   rw [h0] at hv
   simp only at hv
   split at hv
   ·rename_i hc; exact hcell b k v hc.1 hv
   ·cases hv
 ·intro m o ho
  obtain ⟨hm, o0, ho0, rfl⟩ := hown m o ho
  have hk := hs.own m o0 ho0
  cases o0 with
  | vec e' sz' rows' => exact hk.keep rfl (fun _ _ => rfl) (fun _ _ => rfl) hM (hM'none m _ hm ho0)
  | map es => exact hk.keep rfl (fun _ _ => rfl) (fun _ _ => rfl) hM (hM'none m _ hm ho0)
  | iter s pos => exact hk.keep rfl (fun _ _ => rfl) (fun _ _ => rfl) hM (hM'none m _ hm ho0)
  | dvec e' sz' rows' => exact hk.keep rfl (fun _ _ => rfl) (fun _ _ => rfl) hM (hM'none m _ hm ho0)
  | miter m2 es rest cur => exact hk.keep rfl (fun _ _ => rfl) (fun _ _ => rfl) hM (hM'none m _ hm ho0)
  | box oty cells =>
   obtain ⟨b, cs, ty, k1, k2, k3, k4, k5, k6⟩ := hk
   refine ⟨b, cs, ty, k1, k2, by rw [H.frzL_len]; exact k3, fun i c y hc hy => ?_, hM'none m _ hm ho0 b (by rw [k1]; rfl), k6⟩
   rw [H.frzL_get] at hy
   cases hz : cells[i]? with
   | none => rw [hz] at hy; cases hy
   | some z => rw [hz] at hy; simp at hy; subst hy; exact (k4 i c z hc hz).frz hM hrep
 ·intro m m' o o' b hne ho ho' hb hb'
  obtain ⟨_, o0, h0, e0⟩ := hown m o ho
  obtain ⟨_, o1, h1', e1⟩ := hown m' o' ho'
  rw [e0, Own.frz_foot] at hb
  rw [e1, Own.frz_foot] at hb'
  exact hs.apart m m' o0 o1 b hne h0 h1' hb hb'
 ·intro m o b ho hb
  obtain ⟨_, o0, h0, e0⟩ := hown m o ho
  rw [e0, Own.frz_foot] at hb
  exact hs.home m o0 b h0 hb
 ·intro b k v hv
  simp only [M'] at hv
  cases h0 : M b k with
  | some u => rw [h0] at hv; simp at hv; subst hv; exact hs.mnew b k u h0
  | none =>
   rw [h0] at hv
   simp only at hv
   split at hv
   ·rename_i hc; exact .inr (hs.home n _ b hn hc.1)
   ·cases hv
structure Dummy {α : Sort _} (a : α) : Type where
section
variable {P : Program} {N : Nat → Prop} {nm : Nat → Nat} {all os : List Oper} {S : AState} {tr : List Tr1} {k : AState → Prop} {kt : AState → List Tr1 → Prop} {h : Dummy k} {ht : Dummy kt}
end
section
variable {P : Program} {N : Nat → Prop} {C : Ctx} {nm : Nat → Nat} {S : AState} {Q : Exit → AState → Prop}
end
end Go.Awp
end
section
namespace Go.Awp
variable [Inhabited GMem]
mutual
def H.ren (f : Nat → Nat) : H → H
 | .d x => .d x
 | .junk => .junk
 | .bp n o => .bp (f n) o
 | .vh n l => .vh (f n) l
 | .ep n s i o => .ep (f n) s i o
 | .sv n s i o => .sv (f n) s i o
 | .mp n => .mp (f n)
 | .np n b => .np (f n) b
 | .sd n => .sd (f n)
 | .agg cs => .agg (H.renL f cs)
 | .tup vs => .tup (H.renL f vs)
 | .fn g a b => .fn g (H.renL f a) (H.renL f b)
def H.renL (f : Nat → Nat) : List H → List H
 | [] => []
 | x :: r => H.ren f x :: H.renL f r
end
theorem H.renL_len (f : Nat → Nat) : ∀ l : List H, (H.renL f l).length = l.length
 | [] => rfl
 | x :: r => by simp [H.renL, H.renL_len f r]
theorem H.renL_get (f : Nat → Nat) : ∀ (l : List H) (i : Nat), (H.renL f l)[i]? = (l[i]?).map (H.ren f)
 | [], i => by simp [H.renL]
 | x :: r, 0 => by simp [H.renL]
 | x :: r, i + 1 => by simpa [H.renL] using H.renL_get f r i
theorem H.has_get {n : Nat} : ∀ {l : List H} {i : Nat} {x : H}, l[i]? = some x → H.has n x = true → H.hasL n l = true := by
 intro l i x hx hn
 cases hh : H.hasL n l with
 | true => rfl
 | false => rw [H.hasL_get hh hx] at hn; cases hn
theorem HRep.ren {E E' : Env} {M : Mem} {f : Nat → Nat} {v : Value} {x : H} (h : HRep E M v x) (hE : ∀ n, H.has n x = true → E' (f n) = E n) : HRep E' M v (x.ren f) := by
 induction h with
 | d h => exact .d h
 | junk v => exact .junk v
 | bp n off b h => exact .bp _ off b (by rw [hE n (by simp [H.has])]; exact h)
 | vh n len l c a h hl => exact .vh _ len l c a (by rw [hE n (by simp [H.has])]; exact h) hl
 | ep n sz i off b l c h hi => exact .ep _ sz i off b l c (by rw [hE n (by simp [H.has])]; exact h) hi
 | sv n sz i off b l c h hi => exact .sv _ sz i off b l c (by rw [hE n (by simp [H.has])]; exact h) hi
 | mp n r h => exact .mp _ r (by rw [hE n (by simp [H.has])]; exact h)
 | np0 n => exact .np0 _
 | np1 n b h => exact .np1 _ b (by rw [hE n (by simp [H.has])]; exact h)
 | sd n p h => exact .sd _ p (by rw [hE n (by simp [H.has])]; exact h)
 | agg cs l hl h ih =>
  refine .agg cs _ (by rw [H.renL_len]; exact hl) fun i c y hc hy => ?_
  rw [H.renL_get] at hy
  cases hz : l[i]? with
  | none => rw [hz] at hy; cases hy
  | some z => rw [hz] at hy; simp at hy; subst hy; exact ih i c z hc hz fun n hn => hE n (H.has_get hz hn)
 | tup cs l hl h ih =>
  refine .tup cs _ (by rw [H.renL_len]; exact hl) fun i c y hc hy => ?_
  rw [H.renL_get] at hy
  cases hz : l[i]? with
  | none => rw [hz] at hy; cases hy
  | some z => rw [hz] at hy; simp at hy; subst hy; exact ih i c z hc hz fun n hn => hE n (H.has_get hz hn)
 | fn g first captured l l' hl hl' h h' ih ih' =>
  refine .fn g first captured _ _ (by rw [H.renL_len]; exact hl) (by rw [H.renL_len]; exact hl') (fun i c y hc hy => ?_) (fun i c y hc hy => ?_)
  ·rw [H.renL_get] at hy
   cases hz : l[i]? with
   | none => rw [hz] at hy; cases hy
   | some z => rw [hz] at hy; simp at hy; subst hy; exact ih i c z hc hz fun n hn => hE n (by simp [H.has, H.has_get hz hn])
  ·rw [H.renL_get] at hy
   cases hz : l'[i]? with
   | none => rw [hz] at hy; cases hy
   | some z => rw [hz] at hy; simp at hy; subst hy; exact ih' i c z hc hz fun n hn => hE n (by simp [H.has, H.has_get hz hn])
theorem HRep.unren {E : Env} {M : Mem} {f : Nat → Nat} {v : Value} {x : H} (h : HRep E M v x) : ∀ {y : H}, x = y.ren f → HRep (fun n => E (f n)) M v y := by
 induction h with
 | d h => intro y hy; cases y <;> simp only [H.ren, reduceCtorEq] at hy; cases hy; exact .d h
 | junk v => intro y hy; cases y <;> simp only [H.ren, reduceCtorEq] at hy; exact .junk v
 | bp n off b h => intro y hy; cases y <;> simp only [H.ren, reduceCtorEq] at hy; cases hy; exact .bp _ _ b h
 | vh n len l c a h hl => intro y hy; cases y <;> simp only [H.ren, reduceCtorEq] at hy; cases hy; exact .vh _ _ l c a h hl
 | ep n sz i off b l c h hi => intro y hy; cases y <;> simp only [H.ren, reduceCtorEq] at hy; cases hy; exact .ep _ _ _ _ b l c h hi
 | sv n sz i off b l c h hi => intro y hy; cases y <;> simp only [H.ren, reduceCtorEq] at hy; cases hy; exact .sv _ _ _ _ b l c h hi
 | mp n r h => intro y hy; cases y <;> simp only [H.ren, reduceCtorEq] at hy; cases hy; exact .mp _ r h
 | np0 n => intro y hy; cases y <;> simp only [H.ren, reduceCtorEq] at hy; cases hy; exact .np0 _
 | np1 n b h => intro y hy; cases y <;> simp only [H.ren, reduceCtorEq] at hy; cases hy; exact .np1 _ b h
 | sd n p h => intro y hy; cases y <;> simp only [H.ren, reduceCtorEq] at hy; cases hy; exact .sd _ p h
 | agg cs l hl h ih =>
  intro y hy
  cases y <;> simp only [H.ren, reduceCtorEq] at hy
  cases hy
  exact .agg cs _ (by rw [H.renL_len] at hl; exact hl) fun i c z hc hz => ih i c _ hc (by rw [H.renL_get, hz]; rfl) rfl
 | tup cs l hl h ih =>
  intro y hy
  cases y <;> simp only [H.ren, reduceCtorEq] at hy
  cases hy
  exact .tup cs _ (by rw [H.renL_len] at hl; exact hl) fun i c z hc hz => ih i c _ hc (by rw [H.renL_get, hz]; rfl) rfl
 | fn g first captured l l' hl hl' h h' ih ih' =>
  intro y hy
  cases y <;> simp only [H.ren, reduceCtorEq] at hy
  cases hy
  exact .fn _ first captured _ _ (by rw [H.renL_len] at hl; exact hl) (by rw [H.renL_len] at hl'; exact hl') (fun i c z hc hz => ih i c _ hc (by rw [H.renL_get, hz]; rfl) rfl)
   (fun i c z hc hz => ih' i c _ hc (by rw [H.renL_get, hz]; rfl) rfl)
def Own.ren (f : Nat → Nat) : Own → Own
 | .box o cells => .box o (H.renL f cells)
 | .vec e sz rows => .vec e sz rows
 | .map es => .map es
 | .iter s pos => .iter s pos
 | .dvec e sz rows => .dvec e sz rows
 | .miter m es rest cur => .miter (f m) es rest cur
theorem Own.ren_foot (f : Nat → Nat) (w : World) (v : Value) (o : Own) : (o.ren f).foot w v = o.foot w v := by
 cases o <;> rfl
theorem OwnOk.ren {E E' : Env} {M : Mem} {w : World} {f : Nat → Nat} {n : Nat} {o : Own} (h : OwnOk E M w n o) (hn : E' (f n) = E n) (hE : ∀ m, Own.has m o = true → E' (f m) = E m) : OwnOk E' M w (f n) (o.ren f) := by
 cases o with
 | box oty cells =>
  obtain ⟨b, cs, ty, h1, h2, h3, h4, h5⟩ := h
  refine ⟨b, cs, ty, by rw [hn]; exact h1, h2, by rw [H.renL_len]; exact h3, fun i c y hc hy => ?_, h5⟩
  rw [H.renL_get] at hy
  cases hz : cells[i]? with
  | none => rw [hz] at hy; cases hy
  | some z => rw [hz] at hy; simp at hy; subst hy; exact (h4 i c z hc hz).ren fun m hm => hE m (H.has_get hz hm)
 | vec e sz rows =>
  obtain ⟨xs, h1, h2, h3, h4⟩ := h
  exact ⟨xs, by rw [hn]; exact h1, h2, h3, by rw [hn]; exact h4⟩
 | map es =>
  obtain ⟨b, es', clock, h1, h2⟩ := h
  exact ⟨b, es', clock, by rw [hn]; exact h1, h2⟩
 | iter s pos =>
  obtain ⟨b, h1, h2⟩ := h
  exact ⟨b, by rw [hn]; exact h1, h2⟩
 | dvec e sz rows =>
  obtain ⟨B, h1, h2⟩ := h
  exact ⟨B, by rw [hn]; exact h1, h2⟩
 | miter m es rest cur =>
  obtain ⟨r, b, es', clock, since, seen, last, h1, h2, h3⟩ := h
  exact ⟨r, b, es', clock, since, seen, last, by rw [hn]; exact h1, by rw [hE m (Nat.beq_refl m)]; exact h2, h3⟩
theorem OwnOk.unren {E : Env} {M : Mem} {w : World} {f : Nat → Nat} {n : Nat} {o : Own} (h : OwnOk E M w (f n) (o.ren f)) : OwnOk (fun n => E (f n)) M w n o := by
 cases o with
 | box oty cells =>
  obtain ⟨b, cs, ty, h1, h2, h3, h4, h5⟩ := h
  exact ⟨b, cs, ty, h1, h2, by rw [H.renL_len] at h3; exact h3, fun i c z hc hz => (h4 i c _ hc (by rw [H.renL_get, hz]; rfl)).unren rfl, h5⟩
 | vec e sz rows => exact h
 | map es => exact h
 | iter s pos => exact h
 | dvec e sz rows => exact h
 | miter m es rest cur => exact h
def renO (f : Nat → Nat) (own : List (Nat × Own)) : List (Nat × Own) := own.map fun p => (f p.1, p.2.ren f)
theorem gt_renO {f : Nat → Nat} (hf : ∀ a b, f a = f b → a = b) : ∀ (own : List (Nat × Own)) (n : Nat), gt (renO f own) (f n) = (gt own n).map (Own.ren f)
 | [], n => rfl
 | (k, o) :: r, n => by
  have ih := gt_renO hf r n
  simp only [renO, List.map_cons, gt_cons] at ih ⊢
  by_cases h : k = n
  ·subst h; simp
  ·rw [if_neg h, if_neg fun e => h (hf _ _ e)]; exact ih
theorem gt_renO_some {f : Nat → Nat} (hf : ∀ a b, f a = f b → a = b) {own : List (Nat × Own)} {m : Nat} {o : Own} (h : gt (renO f own) m = some o) : ∃ n o', m = f n ∧ gt own n = some o' ∧ o = o'.ren f := by
 have hm := gt_mem h
 simp only [renO, List.mem_map] at hm
 obtain ⟨⟨k, o1⟩, _, he⟩ := hm
 simp only [Prod.mk.injEq] at he
 obtain ⟨rfl, _⟩ := he
 rw [gt_renO hf] at h
 cases hg : gt own k with
 | none => rw [hg] at h; cases h
 | some o' => rw [hg] at h; simp at h; exact ⟨k, o', rfl, hg, h.symm⟩
mutual
def H.allN (p : Nat → Bool) : H → Bool
 | .d _ => true
 | .junk => true
 | .bp n _ => p n
 | .vh n _ => p n
 | .ep n _ _ _ => p n
 | .sv n _ _ _ => p n
 | .mp n => p n
 | .np n _ => p n
 | .sd n => p n
 | .agg cs => H.allNL p cs
 | .tup vs => H.allNL p vs
 | .fn _ a b => H.allNL p a && H.allNL p b
def H.allNL (p : Nat → Bool) : List H → Bool
 | [] => true
 | x :: r => H.allN p x && H.allNL p r
end
mutual
theorem H.allN_has {p : Nat → Bool} {n : Nat} : ∀ {x : H}, H.allN p x = true → H.has n x = true → p n = true
 | .d _, _, h => by simp [H.has] at h
 | .junk, _, h => by simp [H.has] at h
 | .bp m _, h, hn => by simp [H.has, H.allN] at h hn; exact hn ▸ h
 | .vh m _, h, hn => by simp [H.has, H.allN] at h hn; exact hn ▸ h
 | .ep m _ _ _, h, hn => by simp [H.has, H.allN] at h hn; exact hn ▸ h
 | .sv m _ _ _, h, hn => by simp [H.has, H.allN] at h hn; exact hn ▸ h
 | .mp m, h, hn => by simp [H.has, H.allN] at h hn; exact hn ▸ h
 | .np m _, h, hn => by simp [H.has, H.allN] at h hn; exact hn ▸ h
 | .sd m, h, hn => by simp [H.has, H.allN] at h hn; exact hn ▸ h
 | .agg cs, h, hn => by rw [H.allN] at h; rw [H.has] at hn; exact H.allNL_has h hn
 | .tup cs, h, hn => by rw [H.allN] at h; rw [H.has] at hn; exact H.allNL_has h hn
 | .fn _ a b, h, hn => by
  rw [H.allN, Bool.and_eq_true] at h
  rw [H.has, Bool.or_eq_true] at hn
  rcases hn with hn | hn
  ·exact H.allNL_has h.1 hn
  ·exact H.allNL_has h.2 hn
theorem H.allNL_has {p : Nat → Bool} {n : Nat} : ∀ {l : List H}, H.allNL p l = true → H.hasL n l = true → p n = true
 | [], _, h => by simp [H.hasL] at h
 | x :: r, h, hn => by
  rw [H.allNL, Bool.and_eq_true] at h
  rw [H.hasL, Bool.or_eq_true] at hn
  rcases hn with hn | hn
  ·exact H.allN_has h.1 hn
  ·exact H.allNL_has h.2 hn
end
def Own.allN (p : Nat → Bool) : Own → Bool
 | .box _ cells => H.allNL p cells
 | .vec .. => true
 | .map _ => true
 | .iter _ _ => true
 | .dvec .. => true
 | .miter m _ _ _ => p m
def σf (σ : List (Nat × Nat)) (m : Nat) : Nat := match gt σ m with
 | some k => k
 | none => m + 1000000
def σok : List (Nat × Nat) → Bool
 | [] => true
 | (_, b) :: r => Nat.blt b 1000000 && (r.all fun p => !Nat.beq p.2 b) && σok r
theorem σok_lt : ∀ {σ : List (Nat × Nat)}, σok σ = true → ∀ {m k : Nat}, gt σ m = some k → k < 1000000
 | (a, b) :: r, h, m, k, hg => by
  simp only [σok, Bool.and_eq_true] at h
  rw [gt_cons] at hg
  split at hg
  ·simp at hg; subst hg; exact by simpa [Nat.blt_eq] using h.1.1
  ·exact σok_lt h.2 hg
theorem σok_inj : ∀ {σ : List (Nat × Nat)}, σok σ = true → ∀ {m m' k : Nat}, gt σ m = some k → gt σ m' = some k → m = m'
 | (a, b) :: r, h, m, m', k, hg, hg' => by
  simp only [σok, Bool.and_eq_true, List.all_eq_true] at h
  have hne : ∀ x, gt r x ≠ some b := fun x hx => by
   have := h.1.2 _ (gt_mem hx)
   simp at this
  rw [gt_cons] at hg hg'
  split at hg <;> split at hg'
  ·rename_i h1 h2; exact h1.symm.trans h2
  ·simp at hg; subst hg; exact (hne _ hg').elim
  ·simp at hg'; subst hg'; exact (hne _ hg).elim
  ·exact σok_inj h.2 hg hg'
theorem σf_inj {σ : List (Nat × Nat)} (h : σok σ = true) (a b : Nat) (he : σf σ a = σf σ b) : a = b := by
 unfold σf at he
 cases ha : gt σ a with
 | none =>
  cases hb : gt σ b with
  | none => rw [ha, hb] at he; simp only [] at he; omega
  | some k => rw [ha, hb] at he; have := σok_lt h hb; simp only [] at he; omega
 | some k =>
  cases hb : gt σ b with
  | none => rw [ha, hb] at he; have := σok_lt h ha; simp only [] at he; omega
  | some k' => rw [ha, hb] at he; simp only [] at he; subst he; exact σok_inj h ha hb
def renOk (σ : List (Nat × Nat)) (own : List (Nat × Own)) (r : H) (own' : List (Nat × Own)) : Bool :=
 σok σ && own.all (fun p => Nat.ble given p.1) && own'.all (fun p => Nat.ble given p.1 || Nat.blt (σf σ p.1) given) &&
  H.allN (fun n => Nat.ble given n || (gt own' n).isSome) r && own'.all (fun p => Own.allN (fun n => Nat.ble given n || (gt own' n).isSome) p.2)
open Classical in
theorem FnOk.ren {P : Program} {f : FuncId} {args : List H} {own own' : List (Nat × Own)} {r : H} (h : FnOk P f args own r own') (σ : List (Nat × Nat)) (hc : renOk σ own r own' = true) :
  FnAt P f (H.renL (σf σ) args) (renO (σf σ) own) (r.ren (σf σ)) (renO (σf σ) own') := by
 simp only [renOk, Bool.and_eq_true, List.all_eq_true] at hc
 obtain ⟨⟨⟨⟨c1, c2⟩, c3⟩, c4⟩, c5⟩ := hc
 have hf := σf_inj c1
 refine ⟨h.1, fun E M w vs hgm hm how hvs => ?_⟩
 refine (h.2 (fun n => E (σf σ n)) M w vs hgm hm ⟨fun n o hn => ?_, fun n m o o' b hne hn hm' hb hb2 => ?_⟩ ⟨?_, fun i c x hc hx => ?_⟩).mono ?_
 ·exact (how.ok _ _ (by rw [gt_renO hf, hn]; rfl)).unren
 ·refine how.apart (σf σ n) (σf σ m) (o.ren (σf σ)) (o'.ren (σf σ)) b (fun e => hne (hf _ _ e)) (by rw [gt_renO hf, hn]; rfl) (by rw [gt_renO hf, hm']; rfl) ?_ ?_
  ·rw [Own.ren_foot]; exact hb
  ·rw [Own.ren_foot]; exact hb2
 ·rw [hvs.1, H.renL_len]
 ·exact (hvs.2 i c _ hc (by rw [H.renL_get, hx]; rfl)).unren rfl
 rintro e w' ⟨v, E2, M2, rfl, hp⟩
 let E' : Env := fun n => if h : ∃ m, σf σ m = n ∧ m < given ∧ gt own' m ≠ none then E2 (Classical.choose h) else E n
 have hE1 : ∀ m, given ≤ m ∨ gt own' m ≠ none → E' (σf σ m) = E2 m := by
  intro m hm'
  by_cases hlt : m < given
  ·have hm2 : gt own' m ≠ none := by rcases hm' with h1 | h1; (omega); exact h1
   have hex : ∃ m', σf σ m' = σf σ m ∧ m' < given ∧ gt own' m' ≠ none := ⟨m, rfl, hlt, hm2⟩
   simp only [E']
   rw [dif_pos hex]
   exact congrArg E2 (hf _ _ (Classical.choose_spec hex).1)
  ·have hex : ¬ ∃ m', σf σ m' = σf σ m ∧ m' < given ∧ gt own' m' ≠ none := by
    rintro ⟨m', he, hl, _⟩
    have := hf _ _ he
    omega
   simp only [E']
   rw [dif_neg hex]
   exact (hp.env m (by omega)).symm
 have hE2 : ∀ n, (¬ ∃ m, σf σ m = n ∧ m < given ∧ gt own' m ≠ none) → E' n = E n := fun n hn => by simp only [E']; rw [dif_neg hn]
 have hpn : ∀ n, (Nat.ble given n || (gt own' n).isSome) = true → given ≤ n ∨ gt own' n ≠ none := by
  intro n hn
  rw [Bool.or_eq_true] at hn
  rcases hn with hn | hn
  ·exact .inl (Nat.le_of_ble_eq_true hn)
  ·exact .inr fun e => by rw [e] at hn; cases hn
 have hext : ∀ b, inExt (fun n => E (σf σ n)) w own b → inExt E w (renO (σf σ) own) b := by
  rintro b ⟨n, o, hn, hb⟩
  exact ⟨σf σ n, o.ren (σf σ), by rw [gt_renO hf, hn]; rfl, by rw [Own.ren_foot]; exact hb⟩
 have hblk : ∀ n o, gt own' n = some o → E' (σf σ n) = E2 n := fun n o hn => hE1 n (.inr (by rw [hn]; simp))
 refine ⟨v, E', M2, rfl, { rep := hp.rep.ren fun n hn => hE1 n (hpn n (H.allN_has c4 hn)), owns := ⟨fun n o hn => ?_, fun n m o o' b hne hn hm' hb hb2 => ?_⟩, mle := hp.mle, mem := hp.mem, mnew := fun b o v hv => ?_, home := fun n o b hn hb => ?_, frame := fun k hk hx => hp.frame k hk fun h1 => hx (hext k h1), grows := hp.grows, os := hp.os, tape := hp.tape, output := hp.output, env := fun n hn => hE2 n ?_ }, fun n hn => hE2 n ?_⟩
 ·obtain ⟨m, o1, rfl, hg, rfl⟩ := gt_renO_some hf hn
  refine (hp.owns.ok m o1 hg).ren (hblk m o1 hg) fun k hk => hE1 k (hpn k ?_)
  have := c5 _ (gt_mem hg)
  cases o1 with
  | box oty cells => exact H.allNL_has this hk
  | vec e sz rows => simp [Own.has] at hk
  | map es => simp [Own.has] at hk
  | iter s pos => simp [Own.has] at hk
  | dvec e sz rows => simp [Own.has] at hk
  | miter m es rest cur => simp only [Own.has] at hk; exact (Nat.eq_of_beq_eq_true hk) ▸ this
 ·obtain ⟨n1, o1, rfl, hg1, rfl⟩ := gt_renO_some hf hn
  obtain ⟨m1, o2, rfl, hg2, rfl⟩ := gt_renO_some hf hm'
  rw [hblk n1 o1 hg1, Own.ren_foot] at hb
  rw [hblk m1 o2 hg2, Own.ren_foot] at hb2
  exact hp.owns.apart n1 m1 _ _ b (fun e => hne (by rw [e])) hg1 hg2 hb hb2
 ·rcases hp.mnew b o v hv with h1 | h1 | h1
  ·exact .inl h1
  ·exact .inr (.inl (hext b h1))
  ·exact .inr (.inr h1)
 ·obtain ⟨m, o1, rfl, hg, rfl⟩ := gt_renO_some hf hn
  rw [hblk m o1 hg, Own.ren_foot] at hb
  rcases hp.home m o1 b hg hb with h1 | h1
  ·exact .inl (hext b h1)
  ·exact .inr h1
 ·rintro ⟨m, rfl, hl, hne⟩
  cases hg : gt own' m with
  | none => exact hne hg
  | some o =>
   have := c3 _ (gt_mem hg)
   simp only [Bool.or_eq_true] at this
   rcases this with h1 | h1
   ·have := Nat.le_of_ble_eq_true h1; omega
   ·have : σf σ m < given := by simpa [Nat.blt_eq] using h1
    omega
 ·rintro ⟨m, rfl, hl, hne⟩
  rcases hn with hn | ⟨o, ho⟩
  ·rw [gt_renO hf] at hn
   cases hg : gt own' m with
   | none => exact hne hg
   | some o => rw [hg] at hn; cases hn
  ·obtain ⟨n1, o1, he, hg, _⟩ := gt_renO_some hf ho
   have := hf _ _ he
   subst this
   have := Nat.le_of_ble_eq_true (c2 _ (gt_mem hg))
   simp only [] at this
   omega
end Go.Awp
end
section
namespace Go.Awp
variable [Inhabited GMem]
def D.le (a b : D) : Prop := ∀ (M : Mem) (v : Value), DRep M v a → DRep M v b
def H.le (a b : H) : Prop := ∀ (E : Env) (M : Mem) (v : Value), HRep E M v a → HRep E M v b
theorem D.le.refl (a : D) : D.le a a := fun _ _ h => h
theorem H.le.refl (a : H) : H.le a a := fun _ _ _ h => h
theorem H.le.d {a b : D} (h : D.le a b) : H.le (.d a) (.d b) := fun E M v hv => by
 cases hv with
 | d hd => exact .d (h M v hd)
theorem D.le.ern : D.le (.v .nilIface) (.er false) := fun M v hv => by
 cases hv
 exact .ern
theorem D.le.nil (sz : Nat) : D.le (.v (.slice none 0 0)) (.sl sz []) := fun M v hv => by
 cases hv with
 | v => exact .slnil sz
inductive D.Les : List D → List D → Prop
 | nil : D.Les [] []
 | cons {a b : D} {r s : List D} (h : D.le a b) (t : D.Les r s) : D.Les (a :: r) (b :: s)
theorem D.Les.len {a b : List D} (h : D.Les a b) : a.length = b.length := by
 induction h with
 | nil => rfl
 | cons h t ih => simp [ih]
theorem D.Les.get {a b : List D} (h : D.Les a b) : ∀ (i : Nat) (y : D), b[i]? = some y → ∃ x, a[i]? = some x ∧ D.le x y := by
 induction h with
 | nil => intro i y hy; simp at hy
 | cons h t ih =>
  intro i y hy
  cases i with
  | zero => simp at hy; subst hy; exact ⟨_, rfl, h⟩
  | succ i => exact ih i y (by simpa using hy)
theorem D.Les.refl : ∀ a : List D, D.Les a a
 | [] => .nil
 | x :: r => .cons (.refl x) (D.Les.refl r)
theorem D.le.agg {a b : List D} (h : D.Les a b) : D.le (.agg a) (.agg b) := fun M v hv => by
 cases hv with
 | agg cs l hl hh =>
  refine .agg cs b (hl.trans h.len) fun i c y hc hy => ?_
  obtain ⟨x, hx, hxy⟩ := h.get i y hy
  exact hxy M c (hh i c x hc hx)
inductive D.Rows : List (List D) → List (List D) → Prop
 | nil : D.Rows [] []
 | cons {a b : List D} {r s : List (List D)} (h : D.Les a b) (t : D.Rows r s) : D.Rows (a :: r) (b :: s)
theorem D.Rows.len {a b : List (List D)} (h : D.Rows a b) : a.length = b.length := by
 induction h with
 | nil => rfl
 | cons h t ih => simp [ih]
theorem D.Rows.get {a b : List (List D)} (h : D.Rows a b) : ∀ (i : Nat) (y : List D), b[i]? = some y → ∃ x, a[i]? = some x ∧ D.Les x y := by
 induction h with
 | nil => intro i y hy; simp at hy
 | cons h t ih =>
  intro i y hy
  cases i with
  | zero => simp at hy; subst hy; exact ⟨_, rfl, h⟩
  | succ i => exact ih i y (by simpa using hy)
theorem D.le.sl {sz : Nat} {a b : List (List D)} (h : D.Rows a b) : D.le (.sl sz a) (.sl sz b) := fun M v hv => by
 cases hv with
 | slnil => cases h; exact .slnil sz
 | slmt a cap => cases h; exact .slmt a cap sz
 | sl bl off len cap _ _ c hlen hcap hsz hm hh =>
  refine .sl bl off len cap sz b c (hlen.trans h.len) hcap (fun r hr => ?_) hm fun i j r y hr hy => ?_
  ·obtain ⟨i, hi, rfl⟩ := List.getElem_of_mem hr
   obtain ⟨x, hx, hxy⟩ := h.get i _ (List.getElem?_eq_getElem hi)
   rw [← hxy.len]; exact hsz x (List.mem_of_getElem? hx)
  ·obtain ⟨x, hx, hxy⟩ := h.get i r hr
   obtain ⟨z, hz, hzy⟩ := hxy.get j y hy
   exact hzy M _ (hh i j x z hx hz)
theorem FnOk.weak {P : Program} {f : FuncId} {args args' : List H} {own own' : List (Nat × Own)} {r : H} (h : FnOk P f args own r own') (hl : args'.length = args.length)
  (hw : ∀ (i : Nat) (x' x : H), args'[i]? = some x' → args[i]? = some x → H.le x' x) : FnOk P f args' own r own' := by
 refine ⟨h.1, fun E M w vs hgm hm ho hv => h.2 E M w vs hgm hm ho ⟨hv.1.trans hl, fun i c x hc hx => ?_⟩⟩
 have hi : i < args'.length := by rw [hl]; exact (List.getElem?_eq_some_iff.1 hx).1
 exact hw i _ x (List.getElem?_eq_getElem hi) hx E M c (hv.2 i c _ hc (List.getElem?_eq_getElem hi))
end Go.Awp
end
section
namespace Go.Awp
variable [Inhabited GMem]
variable {H0 : Type} {enc : TypeId × Value → H0} {P : Program} {W : World} {spare : Nat → Bool} {held : Bool} {base : Nat}
def memOf (W : World) : Mem := fun b o => W.cell? ⟨b, o, none⟩
theorem mapM_some {α β : Type} {f : α → Option β} : ∀ {l : List α} {r : List β}, l.mapM f = some r → r.length = l.length ∧ ∀ (i : Nat) (x : α), l[i]? = some x → ∃ y, r[i]? = some y ∧ f x = some y
 | [], r, h => by
  simp at h; subst h
  exact ⟨rfl, fun i x hx => by simp at hx⟩
 | a :: l, r, h => by
  rw [List.mapM_cons] at h
  cases ha : f a with
  | none => rw [ha] at h; cases h
  | some y =>
   rw [ha] at h
   cases hl : l.mapM f with
   | none => simp [hl] at h
   | some ys =>
    simp [hl] at h
    subst h
    obtain ⟨h1, h2⟩ := mapM_some hl
    refine ⟨by simp [h1], fun i x hx => ?_⟩
    cases i with
    | zero => simp at hx; subst hx; exact ⟨y, rfl, ha⟩
    | succ i => exact h2 i x (by simpa using hx)
theorem read_int {t : TypeId} {k : IntKind} (hu : P.underlying t = some (.int k)) {fuel : Nat} {cs : List Value} {x : DataW H0 × List MemPlace} (h : DataW.trod enc P W base spare held fuel t cs = some x) :
  ∃ n, cs = [.int k n] ∧ (Lit.int k n).wf = true := by
 cases fuel with
 | zero => cases h
 | succ fuel =>
  unfold DataW.trod at h
  rw [hu] at h
  simp only [] at h
  split at h <;> try (rename_i h1 _; cases h1)
  all_goals try (cases h; done)
  all_goals simp_all
theorem read_bool {t : TypeId} (hu : P.underlying t = some .bool) {fuel : Nat} {cs : List Value} {x : DataW H0 × List MemPlace} (h : DataW.trod enc P W base spare held fuel t cs = some x) :
  ∃ b, cs = [.bool b] := by
 cases fuel with
 | zero => cases h
 | succ fuel =>
  unfold DataW.trod at h
  rw [hu] at h
  simp only [] at h
  split at h <;> try (rename_i h1 _; cases h1)
  all_goals try (cases h; done)
  all_goals simp_all
theorem read_cells {w : World} {b n : Nat} {a : Addr} {row : List Value} (h : w.cells? b a n = some row) : row.length = n ∧ ∀ j, j < n → w.cell? (a.add j) = row[j]? := by
 unfold World.cells? at h
 split at h
 ·obtain ⟨h1, h2⟩ := mapM_some h
  rw [List.length_range] at h1
  refine ⟨h1, fun j hj => ?_⟩
  obtain ⟨y, hy, hf⟩ := h2 j j (by rw [List.getElem?_range hj])
  rw [hf, hy]
 ·cases h
theorem list_of {α : Type} {R : Nat → α → Prop} : ∀ (n : Nat), (∀ i, i < n → ∃ x, R i x) → ∃ l : List α, l.length = n ∧ ∀ (i : Nat) (x : α), l[i]? = some x → R i x
 | 0, _ => ⟨[], rfl, fun i x hx => by simp at hx⟩
 | n + 1, h => by
  obtain ⟨l, h1, h2⟩ := list_of n fun i hi => h i (by omega)
  obtain ⟨x, hx⟩ := h n (by omega)
  refine ⟨l ++ [x], by simp [h1], fun i y hy => ?_⟩
  by_cases hi : i < l.length
  ·rw [List.getElem?_append_left hi] at hy; exact h2 i y hy
  ·rw [List.getElem?_append_right (by omega)] at hy
   have : i - l.length = 0 := by
    have := (List.getElem?_eq_some_iff.1 hy).1
    simp at this; omega
   rw [this] at hy
   simp at hy
   subst hy
   have : i = n := by omega
   subst this; exact hx
theorem addr_plain {w : World} {a : Addr} {k : Nat} {v : Value} (h : w.cell? (a.add k) = some v) (hk : k = 0) : a.spot = none := by
 subst hk
 simp only [Addr.add, if_true] at h
 unfold World.cell? at h
 split at h
 ·split at h
  ·cases h
  ·rename_i hs; simpa using hs
 ·cases h
theorem add_none (b o k : Nat) : (⟨b, o, none⟩ : Addr).add k = ⟨b, o + k, none⟩ := by
 unfold Addr.add
 split
 ·rename_i h; subst h; rfl
 ·rfl
theorem DRep.of_slice {W : World} {b : Nat} {a : Addr} {len cap sz : Nat} (hsz : 0 < sz) (hc : len ≤ cap) {rows : List (List D)} (hl : rows.length = len) (hr : ∀ r ∈ rows, r.length = sz)
  (h : ∀ i, i < len → ∃ row, W.cells? b (a.add (i * sz)) sz = some row ∧ ∀ r, rows[i]? = some r → ∀ (j : Nat) (c : Value) (x : D), row[j]? = some c → r[j]? = some x → DRep (memOf W) c x) :
  DRep (memOf W) (.slice (some a) len cap) (.sl sz rows) := by
 by_cases h0 : len = 0
 ·subst h0
  have : rows = [] := List.eq_nil_of_length_eq_zero hl
  subst this
  exact .slmt a cap sz
 ·have hspot : a.spot = none := by
   obtain ⟨row, h1, _⟩ := h 0 (by omega)
   rw [Nat.zero_mul] at h1
   obtain ⟨g1, g2⟩ := read_cells h1
   have := g2 0 hsz
   have h3 : (a.add 0) = a := by simp [Addr.add]
   rw [h3] at this
   rw [List.getElem?_eq_getElem (by omega)] at this
   exact addr_plain (k := 0) this rfl
  obtain ⟨blk, off, spot⟩ := a
  simp only [] at hspot
  subst hspot
  have cell : ∀ (i j : Nat), i < len → j < sz → ∃ row c, W.cells? b ((⟨blk, off, none⟩ : Addr).add (i * sz)) sz = some row ∧ row[j]? = some c ∧ W.cell? ⟨blk, off + (i * sz + j), none⟩ = some c ∧
    ∀ r, rows[i]? = some r → ∀ (x : D), r[j]? = some x → DRep (memOf W) c x := by
   intro i j hi hj
   obtain ⟨row, h1, h2⟩ := h i hi
   obtain ⟨g1, g2⟩ := read_cells h1
   have := g2 j hj
   rw [add_none, add_none] at this
   have hrow : row[j]? = some (row[j]'(by omega)) := List.getElem?_eq_getElem (by omega)
   rw [hrow, Nat.add_assoc] at this
   exact ⟨row, _, h1, hrow, this, fun r hr x hx => h2 r hr j _ x hrow hx⟩
  refine .sl blk off len cap sz rows (fun k => (W.cell? ⟨blk, off + k, none⟩).getD undef) hl.symm hc hr (fun k hk => ?_) fun i j r x hr' hx => ?_
  ·have hi : k / sz < len := Nat.div_lt_of_lt_mul (by rw [Nat.mul_comm]; exact hk)
   obtain ⟨row, c, _, _, h3, _⟩ := cell (k / sz) (k % sz) hi (Nat.mod_lt _ hsz)
   have hdm : k / sz * sz + k % sz = k := by rw [Nat.mul_comm]; exact Nat.div_add_mod k sz
   rw [hdm] at h3
   simp [memOf, h3]
  ·have hi : i < len := by rw [← hl]; exact (List.getElem?_eq_some_iff.1 hr').1
   have hj : j < sz := by rw [← hr r (List.mem_of_getElem? hr')]; exact (List.getElem?_eq_some_iff.1 hx).1
   obtain ⟨row, c, _, _, h3, h4⟩ := cell i j hi hj
   simp only [h3, Option.getD_some]
   exact h4 r hr' x hx
theorem FnOk.closed {f : FuncId} {args : List H} {x : Value} (h : FnOk P f args [] (.d (.v x)) []) {W : World} {vs : Array Value} (hg : GOk (memOf W) W) (hv : HReps (fun _ => undef) (memOf W) vs args) :
  Calls P f vs W fun e W' => e = .returned x ∧ Go.RowKit.Below W.heap.size W W' :=
 (h.2 (fun _ => undef) (memOf W) W vs hg (fun _ _ _ hm => hm) ⟨fun n o hn => by simp [gt] at hn, fun n m o o' b _ hn => by simp [gt] at hn⟩ hv).mono fun e W' ⟨v, E', M', he, hp⟩ => by
   have hr := hp.rep
   cases hr with
   | d hd => cases hd with
    | v => exact ⟨he, hp.os, hp.tape, hp.output, hp.grows, fun k hk => hp.frame k hk fun ⟨n, o, hn, _⟩ => by simp [gt] at hn⟩
end Go.Awp
end
section
namespace Go.Proofs.YtpelkenpapfadaaGreatDoor
open Go.Awp
noncomputable def tabs : Mem := fun b o =>
 if b = 2 then (if o < 256 then some (.int .u8 (Lib.firstT o)) else none)
 else if b = 3 then (if o < 32 then some (.int .u8 (if o % 2 = 0 then Lib.accLo (o / 2) else Lib.accHi (o / 2))) else none)
 else if b = 0 then (if o < 20 then some (.int .u64 (Lib.pow10Tab.getD o 0)) else none)
 else if b = 5 then (if o = 15 then some (.int .u8 4) else none)
 else none
noncomputable instance : Inhabited GMem := ⟨{ mem := tabs, errs := [6, 7], whole := [(0, 20)] }⟩
theorem tabs_utf8 {M : Mem} {w : World} (hg : GOk M w) (hm : ∀ b o v, M b o = some v → w.cell? ⟨b, o, none⟩ = some v) : Lib.Utf8Tabs 2 3 w := by
 have h := hg.le
 refine ⟨fun c hc => hm _ _ _ (h 2 c _ ?_), fun i hi => ⟨hm _ _ _ (h 3 (2 * i) _ ?_), hm _ _ _ (h 3 (2 * i + 1) _ ?_)⟩⟩
 ·show tabs 2 c = _
  simp [tabs, hc]
 ·show tabs 3 (2 * i) = _
  simp [tabs, show 2 * i < 32 by omega]
 ·show tabs 3 (2 * i + 1) = _
  have h1 : (2 * i + 1) % 2 = 1 := by omega
  have h2 : (2 * i + 1) / 2 = i := by omega
  simp [tabs, show 2 * i + 1 < 32 by omega, h1, h2]
theorem pow10_len : Lib.pow10Tab.length = 20 := by decide
theorem gm_syntax {M : Mem} {w : World} (hg : GOk M w) (hm : ∀ b o v, M b o = some v → w.cell? ⟨b, o, none⟩ = some v) : ∃ t x, w.cell? ⟨6, 0, none⟩ = some (.iface t x) :=
 let ⟨t, x, h⟩ := hg.errs 6 (.head _)
 ⟨t, x, hm _ _ _ h⟩
theorem gm_range {M : Mem} {w : World} (hg : GOk M w) (hm : ∀ b o v, M b o = some v → w.cell? ⟨b, o, none⟩ = some v) : ∃ t x, w.cell? ⟨7, 0, none⟩ = some (.iface t x) :=
 let ⟨t, x, h⟩ := hg.errs 7 (.tail _ (.head _))
 ⟨t, x, hm _ _ _ h⟩
theorem tabs_le {w : World} (h7 : w.cell? ⟨5, 15, none⟩ = some (.int .u8 4)) (h : Lib.Utf8Tabs 2 3 w) (h10 : Lib.TabIs Tryz.prog w "internal/strconv.uint64pow10" .u64 Lib.pow10Tab) : gmem.le (memOf w) := by
 intro b o v hv
 change tabs b o = some v at hv
 unfold tabs at hv
 split at hv
 ·rename_i hb; subst hb
  split at hv
  ·rename_i ho; cases hv; exact h.1 o ho
  ·cases hv
 ·split at hv
  ·rename_i hb; subst hb
   split at hv
   ·rename_i ho
    have h2 := h.2 (o / 2) (by omega)
    by_cases hm : o % 2 = 0
    ·rw [if_pos hm] at hv; cases hv
     have := h2.1
     rwa [show 2 * (o / 2) = o by omega] at this
    ·rw [if_neg hm] at hv; cases hv
     have := h2.2
     rwa [show 2 * (o / 2) + 1 = o by omega] at this
   ·cases hv
  ·split at hv
   ·rename_i hb; subst hb
    split at hv
    ·rename_i ho
     cases hv
     exact h10.cell (by kernel_rfl) o (by rw [pow10_len]; exact ho)
    ·cases hv
   ·split at hv
    ·rename_i hb; subst hb
     split at hv
     ·rename_i ho; subst ho; cases hv; exact h7
     ·cases hv
    ·cases hv
theorem below_bytes {w w' : World} {e : TypeId} (h : w' = w ∨ ∃ t, w' = Lib.bytesWorld w e t) : Go.RowKit.Below w.heap.size w w' := by
 rcases h with rfl | ⟨t, rfl⟩
 ·exact Go.RowKit.Below.refl _ _
 ·exact Lib.bytesWorld_below _ _ _
theorem hrep_er {E : Env} {M : Mem} {k : IntKind} {n : Int} {v : Value} {b : Bool} (h : DRep M v (.er b)) : HRep E M (.tuple #[.int k n, v]) (.tup [.d (.v (.int k n)), .d (.er b)]) :=
 .tup _ _ rfl fun i c x hc hx => by
  match i with
  | 0 => simp at hc hx; subst hc; subst hx; exact .d (.v _)
  | 1 => simp at hc hx; subst hc; subst hx; exact .d h
  | i + 2 => simp at hc
end Go.Proofs.YtpelkenpapfadaaGreatDoor
end
section
namespace Go.Proofs
open Go.Shelf
open Go.Proofs.Tryz (prog)
def Tryz.lays156_ren : Go.Shelf.Ren := ⟨fun | 156 => 69 | 165 => 100 | 166 => 54 | 169 => 56 | 240 => 90 | 241 => 129 | 276 => 115 | 277 => 168 | n => n, fun | 31 => 24 | 9 => 9 | 3 => 3 | 4 => 4 | 0 => 0 | 20 => 20 | 72 => 83 | 76 => 86 | 70 => 80 | 37 => 81 | 75 => 85 | 127 => 127 | 164 => 152 | 5 => 5 | 80 => 89 | n => n, fun | n => n⟩
theorem Tryz.lays156 : Go.Proofs.Lays.n156 prog Tryz.lays156_ren := {
 mixed := by kernel_rfl
 f156 := Tryz.func69.trans (congrArg some (by kernel_rfl))
 f165 := Tryz.func100.trans (congrArg some (by kernel_rfl))
 f166 := Tryz.func54.trans (congrArg some (by kernel_rfl))
 f169 := Tryz.func56.trans (congrArg some (by kernel_rfl))
 f240 := Tryz.func90.trans (congrArg some (by kernel_rfl))
 f241 := Tryz.func129.trans (congrArg some (by kernel_rfl))
 f276 := Tryz.func115.trans (congrArg some (by kernel_rfl))
 f277 := Tryz.func168.trans (congrArg some (by kernel_rfl))
 t0 := Tryz.underlying0
 a0 := Tryz.isAgg0
 z0 := Tryz.sizeOf0
 v0 := Tryz.zeroValue0
 t3 := Tryz.underlying3
 a3 := Tryz.isAgg3
 z3 := Tryz.sizeOf3
 v3 := Tryz.zeroValue3
 t4 := Tryz.underlying4
 a4 := Tryz.isAgg4
 z4 := Tryz.sizeOf4
 v4 := Tryz.zeroValue4
 t9 := Tryz.underlying9
 a9 := Tryz.isAgg9
 z9 := Tryz.sizeOf9
 v9 := Tryz.zeroValue9
 t20 := Tryz.underlying20
 a20 := Tryz.isAgg20
 z20 := Tryz.sizeOf20
 v20 := Tryz.zeroValue20
 t31 := Tryz.underlying24
 a31 := Tryz.isAgg24
 z31 := Tryz.sizeOf24
 v31 := Tryz.zeroValue24
 t37 := Tryz.underlying81
 a37 := Tryz.isAgg81
 z37 := Tryz.sizeOf81
 v37 := Tryz.zeroValue81
 t70 := Tryz.underlying80
 a70 := Tryz.isAgg80
 z70 := Tryz.sizeOf80
 v70 := Tryz.zeroValue80
 t72 := Tryz.underlying83
 a72 := Tryz.isAgg83
 z72 := Tryz.sizeOf83
 v72 := Tryz.zeroValue83
 t75 := Tryz.underlying85
 a75 := Tryz.isAgg85
 z75 := Tryz.sizeOf85
 v75 := Tryz.zeroValue85
 t76 := Tryz.underlying86
 a76 := Tryz.isAgg86
 z76 := Tryz.sizeOf86
 v76 := Tryz.zeroValue86
 t127 := Tryz.underlying127
 a127 := Tryz.isAgg127
 z127 := Tryz.sizeOf127
 v127 := Tryz.zeroValue127
 t164 := Tryz.underlying152
 a164 := Tryz.isAgg152
 z164 := Tryz.sizeOf152
 v164 := Tryz.zeroValue152 }
theorem Tryz.Builder_Extra_156 : Builder.Extra prog Tryz.lays156_ren := {
 sizeBuilder := by kernel_rfl
 liesBuilder := by kernel_rfl
 t5 := Tryz.underlying5
 a5 := Tryz.isAgg5
 z5 := Tryz.sizeOf5
 v5 := Tryz.zeroValue5
 infoByte := by kernel_rfl
 cellsByte := by kernel_rfl
 sizeByte := by kernel_rfl
 neB5 := by decide }
open Go.RowKit in
theorem Tryz.strings_Join_none (a : Option Addr) (c : Nat) (sep : ByteArray) (w : World) :
  Calls prog 69 #[.slice a 0 c, .string sep] w fun e w' => e = .returned (.string ⟨#[]⟩) ∧ w' = w := Any.strings_Join_none Tryz.lays156 Tryz.Builder_Extra_156 a c sep w
open Go.RowKit in
theorem Tryz.strings_Join (bk o c : Nat) (xs : List ByteArray) (sep : ByteArray) (w : World) (hcells : ∀ (j : Nat) x, xs[j]? = some x → w.cell? ⟨bk, o + j, none⟩ = some (.string x)) (hbk : bk < w.heap.size) (hN : xs.length ≤ 140737488355328) (hcap : xs.length ≤ c) (hlen : (Lib.join (xs.map (·.data.toList)) sep.data.toList).length ≤ 140737488355328) :
  Calls prog 69 #[.slice (some ⟨bk, o, none⟩) xs.length c, .string sep] w fun e w' => e = .returned (.string ⟨(Lib.join (xs.map (·.data.toList)) sep.data.toList).toArray⟩) ∧ Below w.heap.size w w' := Any.strings_Join Tryz.lays156 Tryz.Builder_Extra_156 bk o c xs sep w hcells hbk hN hcap hlen
open Go.RowKit Go.Sort Go.Lib in
def Tryz.laysC172_ren : Go.Shelf.Ren := ⟨fun | 172 => 170 | 244 => 190 | 245 => 191 | 247 => 197 | 279 => 198 | 280 => 199 | 281 => 200 | 282 => 201 | 287 => 202 | 316 => 203 | 171 => 55 | 205 => 204 | 321 => 205 | 322 => 206 | 243 => 91 | 246 => 116 | 283 => 145 | 284 => 146 | 285 => 147 | 286 => 148 | 129 => 173 | 317 => 172 | 318 => 174 | 319 => 175 | 320 => 176 | 337 => 192 | 338 => 193 | n => n, fun | 9 => 9 | 3 => 3 | 75 => 85 | 76 => 86 | 4 => 4 | 5 => 5 | 167 => 210 | 37 => 81 | 0 => 0 | 85 => 211 | 2 => 2 | 168 => 213 | 53 => 171 | 175 => 218 | 46 => 193 | 210 => 222 | 127 => 127 | 145 => 227 | 143 => 225 | 21 => 21 | 171 => 170 | 173 => 174 | 212 => 189 | 51 => 190 | 20 => 20 | 213 => 191 | 232 => 216 | 233 => 217 | 80 => 89 | n => n, fun | 15 => 6 | 16 => 7 | 17 => 0 | 18 => 4 | 19 => 5 | n => n⟩
theorem Tryz.laysC172 : Go.Proofs.LaysC.n172 prog Tryz.laysC172_ren := {
 mixed := by kernel_rfl
 f129 := Tryz.func173.trans (congrArg some (by kernel_rfl))
 f171 := Tryz.func55.trans (congrArg some (by kernel_rfl))
 f172 := Tryz.func170.trans (congrArg some (by kernel_rfl))
 f205 := Tryz.func204.trans (congrArg some (by kernel_rfl))
 f243 := Tryz.func91.trans (congrArg some (by kernel_rfl))
 f244 := Tryz.func190.trans (congrArg some (by kernel_rfl))
 f245 := Tryz.func191.trans (congrArg some (by kernel_rfl))
 f246 := Tryz.func116.trans (congrArg some (by kernel_rfl))
 f247 := Tryz.func197.trans (congrArg some (by kernel_rfl))
 f279 := Tryz.func198.trans (congrArg some (by kernel_rfl))
 f280 := Tryz.func199.trans (congrArg some (by kernel_rfl))
 f281 := Tryz.func200.trans (congrArg some (by kernel_rfl))
 f282 := Tryz.func201.trans (congrArg some (by kernel_rfl))
 f283 := Tryz.func145.trans (congrArg some (by kernel_rfl))
 f284 := Tryz.func146.trans (congrArg some (by kernel_rfl))
 f285 := Tryz.func147.trans (congrArg some (by kernel_rfl))
 f286 := Tryz.func148.trans (congrArg some (by kernel_rfl))
 f287 := Tryz.func202.trans (congrArg some (by kernel_rfl))
 f316 := Tryz.func203.trans (congrArg some (by kernel_rfl))
 f317 := Tryz.func172.trans (congrArg some (by kernel_rfl))
 f318 := Tryz.func174.trans (congrArg some (by kernel_rfl))
 f319 := Tryz.func175.trans (congrArg some (by kernel_rfl))
 f320 := Tryz.func176.trans (congrArg some (by kernel_rfl))
 f321 := Tryz.func205.trans (congrArg some (by kernel_rfl))
 f322 := Tryz.func206.trans (congrArg some (by kernel_rfl))
 f337 := Tryz.func192.trans (congrArg some (by kernel_rfl))
 f338 := Tryz.func193.trans (congrArg some (by kernel_rfl))
 t0 := Tryz.underlying0
 a0 := Tryz.isAgg0
 z0 := Tryz.sizeOf0
 v0 := Tryz.zeroValue0
 t2 := Tryz.underlying2
 a2 := Tryz.isAgg2
 z2 := Tryz.sizeOf2
 v2 := Tryz.zeroValue2
 t3 := Tryz.underlying3
 a3 := Tryz.isAgg3
 z3 := Tryz.sizeOf3
 v3 := Tryz.zeroValue3
 t4 := Tryz.underlying4
 a4 := Tryz.isAgg4
 z4 := Tryz.sizeOf4
 v4 := Tryz.zeroValue4
 t5 := Tryz.underlying5
 a5 := Tryz.isAgg5
 z5 := Tryz.sizeOf5
 v5 := Tryz.zeroValue5
 t9 := Tryz.underlying9
 a9 := Tryz.isAgg9
 z9 := Tryz.sizeOf9
 v9 := Tryz.zeroValue9
 t20 := Tryz.underlying20
 a20 := Tryz.isAgg20
 z20 := Tryz.sizeOf20
 v20 := Tryz.zeroValue20
 t21 := Tryz.underlying21
 a21 := Tryz.isAgg21
 z21 := Tryz.sizeOf21
 v21 := Tryz.zeroValue21
 t37 := Tryz.underlying81
 a37 := Tryz.isAgg81
 z37 := Tryz.sizeOf81
 v37 := Tryz.zeroValue81
 t46 := Tryz.underlying193
 a46 := Tryz.isAgg193
 z46 := Tryz.sizeOf193
 v46 := Tryz.zeroValue193
 t51 := Tryz.underlying190
 a51 := Tryz.isAgg190
 z51 := Tryz.sizeOf190
 v51 := Tryz.zeroValue190
 t53 := Tryz.underlying171
 a53 := Tryz.isAgg171
 z53 := Tryz.sizeOf171
 v53 := Tryz.zeroValue171
 t75 := Tryz.underlying85
 a75 := Tryz.isAgg85
 z75 := Tryz.sizeOf85
 v75 := Tryz.zeroValue85
 t76 := Tryz.underlying86
 a76 := Tryz.isAgg86
 z76 := Tryz.sizeOf86
 v76 := Tryz.zeroValue86
 t85 := Tryz.underlying211
 a85 := Tryz.isAgg211
 z85 := Tryz.sizeOf211
 v85 := Tryz.zeroValue211
 t127 := Tryz.underlying127
 a127 := Tryz.isAgg127
 z127 := Tryz.sizeOf127
 v127 := Tryz.zeroValue127
 t143 := Tryz.underlying225
 a143 := Tryz.isAgg225
 z143 := Tryz.sizeOf225
 v143 := Tryz.zeroValue225
 t145 := Tryz.underlying227
 a145 := Tryz.isAgg227
 z145 := Tryz.sizeOf227
 v145 := Tryz.zeroValue227
 t167 := Tryz.underlying210
 a167 := Tryz.isAgg210
 z167 := Tryz.sizeOf210
 v167 := Tryz.zeroValue210
 t168 := Tryz.underlying213
 a168 := Tryz.isAgg213
 z168 := Tryz.sizeOf213
 v168 := Tryz.zeroValue213
 t171 := Tryz.underlying170
 a171 := Tryz.isAgg170
 z171 := Tryz.sizeOf170
 v171 := Tryz.zeroValue170
 t173 := Tryz.underlying174
 a173 := Tryz.isAgg174
 z173 := Tryz.sizeOf174
 v173 := Tryz.zeroValue174
 t175 := Tryz.underlying218
 a175 := Tryz.isAgg218
 z175 := Tryz.sizeOf218
 v175 := Tryz.zeroValue218
 t210 := Tryz.underlying222
 a210 := Tryz.isAgg222
 z210 := Tryz.sizeOf222
 v210 := Tryz.zeroValue222
 t212 := Tryz.underlying189
 a212 := Tryz.isAgg189
 z212 := Tryz.sizeOf189
 v212 := Tryz.zeroValue189
 t213 := Tryz.underlying191
 a213 := Tryz.isAgg191
 z213 := Tryz.sizeOf191
 t232 := Tryz.underlying216
 a232 := Tryz.isAgg216
 z232 := Tryz.sizeOf216
 v232 := Tryz.zeroValue216
 t233 := Tryz.underlying217
 a233 := Tryz.isAgg217
 z233 := Tryz.sizeOf217
 v233 := Tryz.zeroValue217
 g15 := by kernel_rfl
 g16 := by kernel_rfl
 g17 := by kernel_rfl
 g18 := by kernel_rfl
 g19 := by kernel_rfl
 t80 := Tryz.underlying89
 a80 := Tryz.isAgg89
 z80 := Tryz.sizeOf89
 v80 := Tryz.zeroValue89
 i0 := by kernel_rfl
 i2 := by kernel_rfl
 i3 := by kernel_rfl
 i4 := by kernel_rfl
 i5 := by kernel_rfl
 i9 := by kernel_rfl
 i20 := by kernel_rfl
 i21 := by kernel_rfl
 i37 := by kernel_rfl
 i46 := by kernel_rfl
 i51 := by kernel_rfl
 i53 := by kernel_rfl
 i75 := by kernel_rfl
 i76 := by kernel_rfl
 i80 := by kernel_rfl
 i85 := by kernel_rfl
 i127 := by kernel_rfl
 i143 := by kernel_rfl
 i145 := by kernel_rfl
 i167 := by kernel_rfl
 i168 := by kernel_rfl
 i171 := by kernel_rfl
 i173 := by kernel_rfl
 i175 := by kernel_rfl
 i210 := by kernel_rfl
 i212 := by kernel_rfl
 i232 := by kernel_rfl
 i233 := by kernel_rfl
 m15 := by kernel_rfl
 m16 := by kernel_rfl
 m17 := by kernel_rfl
 m18 := by kernel_rfl
 m19 := by kernel_rfl
 c0 := by kernel_rfl
 c2 := by kernel_rfl
 c3 := by kernel_rfl
 c4 := by kernel_rfl
 c5 := by kernel_rfl
 c9 := by kernel_rfl
 c20 := by kernel_rfl
 c21 := by kernel_rfl
 c37 := by kernel_rfl
 c46 := by kernel_rfl
 c51 := by kernel_rfl
 c53 := by kernel_rfl
 c75 := by kernel_rfl
 c76 := by kernel_rfl
 c80 := by kernel_rfl
 c85 := by kernel_rfl
 c127 := by kernel_rfl
 c143 := by kernel_rfl
 c145 := by kernel_rfl
 c167 := by kernel_rfl
 c168 := by kernel_rfl
 c171 := by kernel_rfl
 c173 := by kernel_rfl
 c175 := by kernel_rfl
 c210 := by kernel_rfl
 c212 := by kernel_rfl
 c213 := by kernel_rfl
 c232 := by kernel_rfl
 c233 := by kernel_rfl }
open Go.RowKit in
theorem Tryz.strconv_Atoi_ok (s : ByteArray) (hmax : s.size ≤ 9223372036854775806) (v : Int) (h : Lib.atoiAll s.data.toList = .ok v) (w : World) :
  Calls prog 170 #[.string s] w fun e w' => e = .returned (.tuple #[.int .i64 v, .nilIface]) ∧ (w' = w ∨ ∃ t, w' = Lib.bytesWorld w 5 t) := Any.strconv_Atoi_ok Tryz.laysC172 s hmax v h w
open Go.RowKit in
theorem Tryz.strconv_Atoi_syntax (s : ByteArray) (hlim : s.size ≤ 281474976710656) (h : (∀ n, Lib.atoiAll s.data.toList ≠ .ok n) ∧ Lib.atoiAll s.data.toList ≠ .range) (ev : Value) (w : World) (hv : w.cell? ⟨6, 0, none⟩ = some ev) (hev : ev = .nilIface ∨ ∃ te pe, ev = .iface te pe) :
  Calls prog 170 #[.string s] w fun e w' => ∃ N, e = .returned (.tuple #[.int .i64 (0), .iface 213 (.pointer (some ⟨N, 0, none⟩))]) ∧ w.heap.size ≤ N ∧ w'.heap[N]? = some (.cells #[.string ⟨#[65, 116, 111, 105]⟩, .string s, ev] 222 (0, 0)) ∧ Below w.heap.size w w' := by
 cases hq : Lib.atoiAll s.data.toList with
 | ok n => exact (h.1 n hq).elim
 | range => exact (h.2 hq).elim
 | _ => exact Any.strconv_Atoi_syntax Tryz.laysC172 s hlim hq ev w hv hev
open Go.RowKit in
theorem Tryz.strconv_Atoi_range (s : ByteArray) (hlim : s.size ≤ 281474976710656) (h : Lib.atoiAll s.data.toList = .range) (ev : Value) (w : World) (hv : w.cell? ⟨7, 0, none⟩ = some ev) (hev : ev = .nilIface ∨ ∃ te pe, ev = .iface te pe) :
  Calls prog 170 #[.string s] w fun e w' => ∃ N, e = .returned (.tuple #[.int .i64 (Lib.atoiSat s.data.toList), .iface 213 (.pointer (some ⟨N, 0, none⟩))]) ∧ w.heap.size ≤ N ∧ w'.heap[N]? = some (.cells #[.string ⟨#[65, 116, 111, 105]⟩, .string s, ev] 222 (0, 0)) ∧ Below w.heap.size w w' := Any.strconv_Atoi_range Tryz.laysC172 s hlim h ev w hv hev
def Tryz.lays143_ren : Go.Shelf.Ren := ⟨fun | 143 => 121 | 219 => 153 | 217 => 178 | 225 => 179 | 224 => 180 | 267 => 181 | 266 => 194 | 314 => 195 | n => n, fun | 9 => 9 | 3 => 3 | 4 => 4 | 5 => 5 | 46 => 193 | 146 => 206 | 51 => 190 | n => n, fun | 1 => 1 | n => n⟩
theorem Tryz.lays143 : Go.Proofs.Lays.n143 prog Tryz.lays143_ren := {
 mixed := by kernel_rfl
 f143 := Tryz.func121.trans (congrArg some (by kernel_rfl))
 f217 := Tryz.func178.trans (congrArg some (by kernel_rfl))
 f219 := Tryz.func153.trans (congrArg some (by kernel_rfl))
 f224 := Tryz.func180.trans (congrArg some (by kernel_rfl))
 f225 := Tryz.func179.trans (congrArg some (by kernel_rfl))
 f266 := Tryz.func194.trans (congrArg some (by kernel_rfl))
 f267 := Tryz.func181.trans (congrArg some (by kernel_rfl))
 f314 := Tryz.func195.trans (congrArg some (by kernel_rfl))
 t3 := Tryz.underlying3
 a3 := Tryz.isAgg3
 z3 := Tryz.sizeOf3
 v3 := Tryz.zeroValue3
 t4 := Tryz.underlying4
 a4 := Tryz.isAgg4
 z4 := Tryz.sizeOf4
 v4 := Tryz.zeroValue4
 t5 := Tryz.underlying5
 a5 := Tryz.isAgg5
 z5 := Tryz.sizeOf5
 v5 := Tryz.zeroValue5
 t9 := Tryz.underlying9
 a9 := Tryz.isAgg9
 z9 := Tryz.sizeOf9
 v9 := Tryz.zeroValue9
 t46 := Tryz.underlying193
 a46 := Tryz.isAgg193
 z46 := Tryz.sizeOf193
 v46 := Tryz.zeroValue193
 t51 := Tryz.underlying190
 a51 := Tryz.isAgg190
 z51 := Tryz.sizeOf190
 v51 := Tryz.zeroValue190
 t146 := Tryz.underlying206
 a146 := Tryz.isAgg206
 z146 := Tryz.sizeOf206
 v146 := Tryz.zeroValue206
 g1 := by kernel_rfl }
open Go.RowKit Go.Lib in
theorem Tryz.strings_Index_one (s : ByteArray) (c : UInt8) (w : World) :
  Calls prog 121 #[.string s, .string ⟨#[c]⟩] w fun e w' => e = .returned (.int .i64 (Lib.indexByte s.data.toList c)) ∧ w' = w := Any.strings_Index_one Tryz.lays143 s c w
def Tryz.lays138_ren : Go.Shelf.Ren := ⟨fun | 138 => 120 | 195 => 150 | 218 => 152 | 143 => 121 | 219 => 153 | 217 => 178 | 225 => 179 | 224 => 180 | 267 => 181 | 266 => 194 | 314 => 195 | n => n, fun | 9 => 9 | 3 => 3 | 4 => 4 | 5 => 5 | 0 => 0 | 46 => 193 | 146 => 206 | 51 => 190 | n => n, fun | 1 => 1 | n => n⟩
theorem Tryz.lays138 : Go.Proofs.Lays.n138 prog Tryz.lays138_ren := {
 mixed := by kernel_rfl
 f138 := Tryz.func120.trans (congrArg some (by kernel_rfl))
 f143 := Tryz.func121.trans (congrArg some (by kernel_rfl))
 f195 := Tryz.func150.trans (congrArg some (by kernel_rfl))
 f217 := Tryz.func178.trans (congrArg some (by kernel_rfl))
 f218 := Tryz.func152.trans (congrArg some (by kernel_rfl))
 f219 := Tryz.func153.trans (congrArg some (by kernel_rfl))
 f224 := Tryz.func180.trans (congrArg some (by kernel_rfl))
 f225 := Tryz.func179.trans (congrArg some (by kernel_rfl))
 f266 := Tryz.func194.trans (congrArg some (by kernel_rfl))
 f267 := Tryz.func181.trans (congrArg some (by kernel_rfl))
 f314 := Tryz.func195.trans (congrArg some (by kernel_rfl))
 t0 := Tryz.underlying0
 a0 := Tryz.isAgg0
 z0 := Tryz.sizeOf0
 v0 := Tryz.zeroValue0
 t3 := Tryz.underlying3
 a3 := Tryz.isAgg3
 z3 := Tryz.sizeOf3
 v3 := Tryz.zeroValue3
 t4 := Tryz.underlying4
 a4 := Tryz.isAgg4
 z4 := Tryz.sizeOf4
 v4 := Tryz.zeroValue4
 t5 := Tryz.underlying5
 a5 := Tryz.isAgg5
 z5 := Tryz.sizeOf5
 v5 := Tryz.zeroValue5
 t9 := Tryz.underlying9
 a9 := Tryz.isAgg9
 z9 := Tryz.sizeOf9
 v9 := Tryz.zeroValue9
 t46 := Tryz.underlying193
 a46 := Tryz.isAgg193
 z46 := Tryz.sizeOf193
 v46 := Tryz.zeroValue193
 t51 := Tryz.underlying190
 a51 := Tryz.isAgg190
 z51 := Tryz.sizeOf190
 v51 := Tryz.zeroValue190
 t146 := Tryz.underlying206
 a146 := Tryz.isAgg206
 z146 := Tryz.sizeOf206
 v146 := Tryz.zeroValue206
 g1 := by kernel_rfl }
open Go.RowKit Go.Lib in
theorem Tryz.strings_Count_one (s : ByteArray) (c : UInt8) (w : World) :
  Calls prog 120 #[.string s, .string ⟨#[c]⟩] w fun e w' => e = .returned (.int .i64 (Lib.countByte s.data.toList c)) ∧ w' = w := Any.strings_Count_one Tryz.lays138 s c w
def Tryz.lays197_ren : Go.Shelf.Ren := ⟨fun | 197 => 151 | 260 => 177 | n => n, fun | 9 => 9 | 21 => 21 | 3 => 3 | 4 => 4 | 5 => 5 | 105 => 178 | 119 => 202 | 0 => 0 | 46 => 193 | 139 => 205 | 138 => 204 | n => n, fun | 3 => 2 | 4 => 3 | n => n⟩
theorem Tryz.lays197 : Go.Proofs.Lays.n197 prog Tryz.lays197_ren := {
 mixed := by kernel_rfl
 f197 := Tryz.func151.trans (congrArg some (by kernel_rfl))
 f260 := Tryz.func177.trans (congrArg some (by kernel_rfl))
 t0 := Tryz.underlying0
 a0 := Tryz.isAgg0
 z0 := Tryz.sizeOf0
 v0 := Tryz.zeroValue0
 t3 := Tryz.underlying3
 a3 := Tryz.isAgg3
 z3 := Tryz.sizeOf3
 v3 := Tryz.zeroValue3
 t4 := Tryz.underlying4
 a4 := Tryz.isAgg4
 z4 := Tryz.sizeOf4
 v4 := Tryz.zeroValue4
 t5 := Tryz.underlying5
 a5 := Tryz.isAgg5
 z5 := Tryz.sizeOf5
 v5 := Tryz.zeroValue5
 t9 := Tryz.underlying9
 a9 := Tryz.isAgg9
 z9 := Tryz.sizeOf9
 v9 := Tryz.zeroValue9
 t21 := Tryz.underlying21
 a21 := Tryz.isAgg21
 z21 := Tryz.sizeOf21
 v21 := Tryz.zeroValue21
 t46 := Tryz.underlying193
 a46 := Tryz.isAgg193
 z46 := Tryz.sizeOf193
 v46 := Tryz.zeroValue193
 t105 := Tryz.underlying178
 a105 := Tryz.isAgg178
 z105 := Tryz.sizeOf178
 v105 := Tryz.zeroValue178
 t119 := Tryz.underlying202
 a119 := Tryz.isAgg202
 z119 := Tryz.sizeOf202
 t138 := Tryz.underlying204
 a138 := Tryz.isAgg204
 z138 := Tryz.sizeOf204
 v138 := Tryz.zeroValue204
 t139 := Tryz.underlying205
 a139 := Tryz.isAgg205
 z139 := Tryz.sizeOf205
 v139 := Tryz.zeroValue205
 g3 := by kernel_rfl
 g4 := by kernel_rfl }
open Go.RowKit Go.Lib in
theorem Tryz.utf8_DecodeRuneInString (s : ByteArray) (w : World) (hT : Lib.Utf8Tabs 2 3 w) :
  Calls prog 151 #[.string s] w fun e w' => e = .returned (.tuple #[.int .i32 (Lib.decodeGo s).1, .int .i64 (Lib.decodeGo s).2]) ∧ Below w.heap.size w w' := Any.utf8_DecodeRuneInString Tryz.lays197 s w hT
end Go.Proofs
end
section
namespace Go.Mp
def get {κ β : Type} (eq : κ → κ → Bool) (x : κ) : List (κ × β) → Option β
 | [] => none
 | p :: r => if eq x p.1 = true then some p.2 else get eq x r
def put {κ β : Type} (eq : κ → κ → Bool) (x : κ) (y : β) : List (κ × β) → List (κ × β)
 | [] => [(x, y)]
 | p :: r => if eq x p.1 = true then (x, y) :: r else p :: put eq x y r
def ins {κ β : Type} (lt : κ → κ → Bool) (x : κ) (y : β) : List (κ × β) → List (κ × β)
 | [] => [(x, y)]
 | p :: r => if lt x p.1 = true then (x, y) :: p :: r else p :: ins lt x y r
def set {κ β : Type} (eq lt : κ → κ → Bool) (x : κ) (y : β) (l : List (κ × β)) : List (κ × β) := if l.any (fun p => eq x p.1) = true then put eq x y l else ins lt x y l
theorem put_new {κ β : Type} {eq : κ → κ → Bool} {x : κ} {y : β} : ∀ {l : List (κ × β)}, l.any (fun p => eq x p.1) = false → put eq x y l = l ++ [(x, y)]
 | [], _ => rfl
 | p :: r, h => by
  rw [List.any_cons, Bool.or_eq_false_iff] at h
  rw [put, h.1, if_neg (by decide), put_new h.2]; rfl
theorem ins_perm {κ β : Type} {lt : κ → κ → Bool} {x : κ} {y : β} : ∀ l : List (κ × β), (ins lt x y l).Perm ((x, y) :: l)
 | [] => .refl _
 | p :: r => by
  rw [ins]
  split
  ·exact .refl _
  ·exact ((ins_perm r).cons p).trans (.swap _ _ _)
theorem set_perm {κ β : Type} (eq lt : κ → κ → Bool) (x : κ) (y : β) (l : List (κ × β)) : (set eq lt x y l).Perm (put eq x y l) := by
 unfold set
 split
 ·exact .refl _
 ·rename_i h
  rw [put_new (by simpa using h)]
  exact (ins_perm l).trans (List.perm_append_singleton _ _).symm
def ieq (a b : Int) : Bool := a == b
def beq (a b : Bool) : Bool := a == b
def seq (a b : ByteArray) : Bool := a == b
def ilt (a b : Int) : Bool := decide (a < b)
def blt (a b : Bool) : Bool := !a && b
def lex : List UInt8 → List UInt8 → Bool
 | [], [] => false
 | [], _ :: _ => true
 | _ :: _, [] => false
 | a :: r, b :: s => if a.toNat < b.toNat then true else if b.toNat < a.toNat then false else lex r s
def slt (a b : ByteArray) : Bool := lex a.data.toList b.data.toList
end Go.Mp
namespace Go.Tx
open Go.Awp
variable [Inhabited GMem]
inductive Ty (ι : Type) where
 | int (k : IntKind)
 | bool
 | str
 | st (i : ι)
 | sl (e : Ty ι)
 | mp (k v : Ty ι)
 | er
 /-- a pointer to what nobody writes, or nil -/
 | op (e : Ty ι)
 /-- a function that captures nothing -/
 | fnc
 deriving DecidableEq
@[reducible] def den {ι : Type} (N : ι → Type) : Ty ι → Type
 | .int _ => Int
 | .bool => Bool
 | .str => ByteArray
 | .st i => N i
 | .sl e => List (den N e)
 | .mp k v => List (den N k × den N v)
 | .er => Bool
 | .op e => Option (den N e)
 | .fnc => Nat
structure Leaf {ι : Type} (N : ι → Type) where
 t : Ty ι
 x : den N t
section
variable {ι : Type} {N : ι → Type} (sz : ι → Nat) (enc : (i : ι) → N i → List D)
def tsz : Ty ι → Nat
 | .st i => sz i
 | _ => 1
def opD : Option (List D) → D
 | none => .v (.pointer none)
 | some c => .rp c
theorem opD_one (x : Option (List D)) : (opD x).one = true := by cases x <;> rfl
def encR : (t : Ty ι) → den N t → List D
 | .int k, n => [.v (.int k n)]
 | .bool, b => [.v (.bool b)]
 | .str, s => [.v (.string s)]
 | .st i, x => enc i x
 | .sl e, xs => [.sl (tsz sz e) (xs.map fun x => encR e x)]
 | .mp _ _, _ => [.v (.map none)]
 | .er, b => [.er b]
 | .op e, x => [opD (x.map fun y => encR e y)]
 | .fnc, f => [.v (.func (.func f) #[] #[])]
def encD : (t : Ty ι) → den N t → D
 | .int k, n => .v (.int k n)
 | .bool, b => .v (.bool b)
 | .str, s => .v (.string s)
 | .st i, x => .agg (enc i x)
 | .sl e, xs => .sl (tsz sz e) (xs.map fun x => encR sz enc e x)
 | .mp _ _, _ => .v (.map none)
 | .er, b => .er b
 | .op e, x => opD (x.map fun y => encR sz enc e y)
 | .fnc, f => .v (.func (.func f) #[] #[])
end
section
variable {ι : Type} {N : ι → Type} (sz : ι → Nat) (enc : (i : ι) → N i → List D) (tid : Ty ι → Nat) (encd : (i : ι) → N i → List DD)
def encRD : (t : Ty ι) → den N t → List DD
 | .st i, x => encd i x
 | .sl e, xs => [.sl (tid e) (tsz sz e) (xs.map fun x => encRD e x)]
 | t, x => (encR sz enc t x).map .d
def encDD : (t : Ty ι) → den N t → DD
 | .sl e, xs => .sl (tid e) (tsz sz e) (xs.map fun x => encRD sz enc tid encd e x)
 | t, x => .d (encD sz enc t x)
end
def Ty.isSl {ι : Type} : Ty ι → Bool
 | .sl _ => true
 | _ => false
def encK {ι : Type} {N : ι → Type} : (t : Ty ι) → den N t → Value
 | .int k, n => .int k n
 | .bool, b => .bool b
 | .str, s => .string s
 | _, _ => .map none
def Ty.cell {ι : Type} : Ty ι → Bool
 | .st _ => false
 | _ => true
structure View where
 ι : Type
 dec : DecidableEq ι
 N : ι → Type
 sz : ι → Nat
 tys : ι → List (Ty ι)
 cells : (i : ι) → N i → List (Leaf N)
 ofCells : (i : ι) → List (Leaf N) → Option (N i)
 enc : (i : ι) → N i → List D
 ty : TypeId → Option (Ty ι)
 enc_cells : ∀ i x, enc i x = (cells i x).map fun l => encD sz enc l.t l.x
 of_cells : ∀ i ls x, ofCells i ls = some x → cells i x = ls
 len_cells : ∀ i x, (cells i x).length = sz i
 one_cells : ∀ i x, ∀ l ∈ cells i x, l.t.cell = true
 tid : Ty ι → Nat
 encd : (i : ι) → N i → List DD
 encd_cells : ∀ i x, encd i x = (cells i x).map fun l => encDD sz enc tid encd l.t l.x
 encd_toL : ∀ i x, DD.toL (encd i x) = some (enc i x)
 flat : ι → Bool
 flat_cells : ∀ i x, flat i = true → ∀ l ∈ cells i x, l.t.isSl = false
instance (V : View) : DecidableEq V.ι := V.dec
inductive TV {ι : Type} (N : ι → Type) where
 | lf (t : Ty ι) (x : den N t)
 | raw (v : Value)
 | bp (n off : Nat)
 | vh (n : Nat)
 | ep (n sz i off : Nat)
 | sv (n sz i off : Nat)
 | mp (n : Nat)
 | np (n : Nat) (b : Bool)
 | sd (n : Nat)
 | rp (t : Ty ι) (x : den N t) (off : Nat)
 | agg (cs : List (TV N))
 | tup (vs : List (TV N))
 | fn (f : Nat) (a b : List (TV N))
 | junk
inductive TO {ι : Type} (N : ι → Type) where
 | box (o : Option TypeId) (cells : List (TV N))
 /-- a box that holds a struct whole -/
 | bst (i : ι) (x : N i)
 | vec (te : TypeId) (e : Ty ι) (xs : List (den N e))
 /-- a slice whose elements own what they hold -/
 | dvec (te : TypeId) (e : Ty ι) (xs : List (den N e))
 /-- the same, some elements are out -/
 | pvec (te : TypeId) (e : Ty ι) (xs : List (Option (den N e)))
 | map (k v : Ty ι) (es : List (den N k × den N v))
 | iter (s : ByteArray) (p : Int)
 /-- a map through which a loop goes: its name, what it holds, what is left, what came last -/
 | miter (m : Nat) (k v : Ty ι) (es rest : List (den N k × den N v)) (cur : Option (den N k × den N v))
 /-- no longer owned: how long it was -/
 | gone (len : Nat)
structure TS {ι : Type} (N : ι → Type) where
 tmps : List (Nat × TV N)
 own : List (Nat × TO N)
section
variable {ι : Type} {N : ι → Type}
def TS.own? (S : TS N) (n : Nat) : Option (TO N) := gt S.own n
def TS.get (S : TS N) (t : Nat) : TV N := (gt S.tmps t).getD .junk
def TO.len : Option (TO N) → Nat
 | some (.vec _ _ xs) => xs.length
 | some (.dvec _ _ xs) => xs.length
 | some (.pvec _ _ xs) => xs.length
 | some (.gone l) => l
 | _ => 0
def TS.len (S : TS N) (n : Nat) : Nat := TO.len (S.own? n)
mutual
def TV.has (n : Nat) : TV N → Bool
 | .bp m _ => Nat.beq m n
 | .vh m => Nat.beq m n
 | .ep m _ _ _ => Nat.beq m n
 | .sv m _ _ _ => Nat.beq m n
 | .mp m => Nat.beq m n
 | .np m _ => Nat.beq m n
 | .sd m => Nat.beq m n
 | .agg cs => TV.hasL n cs
 | .tup vs => TV.hasL n vs
 | .fn _ a b => TV.hasL n a || TV.hasL n b
 | _ => false
def TV.hasL (n : Nat) : List (TV N) → Bool
 | [] => false
 | x :: r => TV.has n x || TV.hasL n r
end
def TO.has (n : Nat) : TO N → Bool
 | .box _ cells => TV.hasL n cells
 | .miter m _ _ _ _ _ => Nat.beq m n
 | _ => false
def TS.fresh (S : TS N) (n : Nat) : Bool :=
 (S.own? n).isNone && S.tmps.all (fun x => !TV.has n x.2) && S.own.all (fun x => !TO.has n x.2)
end
section
variable (V : View)
def encRaw : Value → H
 | .agg cs => .d (.agg (cs.toList.map .v))
 | v => .d (.v v)
mutual
def encV (ω : Nat → Nat) : TV V.N → H
 | .lf t x => .d (encD V.sz V.enc t x)
 | .raw v => encRaw v
 | .bp n off => .bp n off
 | .vh n => .vh n (ω n)
 | .ep n s i off => .ep n s i off
 | .sv n s i off => .sv n s i off
 | .mp n => .mp n
 | .np n b => .np n b
 | .sd n => .sd n
 | .rp t x off => .d (.rp ((encR V.sz V.enc t x).drop off))
 | .agg cs => mkAgg (encL ω cs)
 | .tup vs => .tup (encL ω vs)
 | .fn f a b => .fn f (encL ω a) (encL ω b)
 | .junk => .junk
def encL (ω : Nat → Nat) : List (TV V.N) → List H
 | [] => []
 | x :: r => encV ω x :: encL ω r
end
def rowD (e : Ty V.ι) : Option (den V.N e) → List DD
 | some x => encRD V.sz V.enc V.tid V.encd e x
 | none => List.replicate (tsz V.sz e) .junk
def encO (ω : Nat → Nat) : TO V.N → Option Own
 | .box o cells => some (.box o (encL V ω cells))
 | .bst i x => some (.box none ((V.enc i x).map .d))
 | .vec te e xs => some (.vec te (tsz V.sz e) (xs.map fun x => encR V.sz V.enc e x))
 | .dvec te e xs => some (.dvec te (tsz V.sz e) (xs.map fun x => encRD V.sz V.enc V.tid V.encd e x))
 | .pvec te e xs => some (.dvec te (tsz V.sz e) (xs.map fun x => rowD V e x))
 | .map k v es => some (.map (es.map fun p => (encK k p.1, encD V.sz V.enc v p.2)))
 | .iter s p => some (.iter s p.toNat)
 | .miter m k v es rest cur => some (.miter m (es.map fun p => (encK k p.1, encD V.sz V.enc v p.2)) (rest.map fun p => (encK k p.1, encD V.sz V.enc v p.2)) (cur.map fun p => (encK k p.1, encD V.sz V.enc v p.2)))
 | .gone _ => none
def encS (S : TS V.N) : AState :=
 { tmps := S.tmps.map fun p => (p.1, encV V S.len p.2), own := S.own.map fun p => (p.1, encO V S.len p.2) }
variable {V}
theorem encL_map (ω : Nat → Nat) (l : List (TV V.N)) : encL V ω l = l.map (encV V ω) := by
 induction l with
 | nil => rfl
 | cons x r ih => simp [encL, ih]
theorem allD_has {n : Nat} : ∀ {l : List H} {ds : List D}, allD l = some ds → H.hasL n l = false
 | [], _, _ => by simp [H.hasL]
 | .d x :: r, ds, h => by
  simp only [allD] at h
  split at h
  ·rename_i l hl
   simp [H.hasL, H.has, allD_has hl]
  ·cases h
 | .junk :: r, ds, h => by simp [allD] at h
 | .bp .. :: r, ds, h => by simp [allD] at h
 | .vh .. :: r, ds, h => by simp [allD] at h
 | .ep .. :: r, ds, h => by simp [allD] at h
 | .sv .. :: r, ds, h => by simp [allD] at h
 | .mp .. :: r, ds, h => by simp [allD] at h
 | .np .. :: r, ds, h => by simp [allD] at h
 | .sd .. :: r, ds, h => by simp [allD] at h
 | .agg .. :: r, ds, h => by simp [allD] at h
 | .tup .. :: r, ds, h => by simp [allD] at h
 | .fn .. :: r, ds, h => by simp [allD] at h
theorem mkAgg_has (n : Nat) (l : List H) : H.has n (mkAgg l) = H.hasL n l := by
 unfold mkAgg
 split
 ·rename_i ds h; rw [allD_has h]; simp [H.has]
 ·simp [H.has]
theorem encRaw_has (n : Nat) (v : Value) : H.has n (encRaw v) = false := by
 cases v <;> simp [encRaw, H.has]
mutual
theorem encV_has (ω : Nat → Nat) (n : Nat) : ∀ v : TV V.N, H.has n (encV V ω v) = TV.has n v
 | .lf t x => by simp [encV, H.has, TV.has]
 | .raw v => by simp [encV, TV.has, encRaw_has]
 | .bp m off => by simp [encV, H.has, TV.has]
 | .vh m => by simp [encV, H.has, TV.has]
 | .ep m s i off => by simp [encV, H.has, TV.has]
 | .sv m s i off => by simp [encV, H.has, TV.has]
 | .mp m => by simp [encV, H.has, TV.has]
 | .np m b => by simp [encV, H.has, TV.has]
 | .sd m => by simp [encV, H.has, TV.has]
 | .rp t x off => by simp [encV, H.has, TV.has]
 | .agg cs => by simp only [encV, mkAgg_has, TV.has]; exact encL_has ω n cs
 | .tup vs => by simp only [encV, H.has, TV.has]; exact encL_has ω n vs
 | .fn f a b => by simp only [encV, H.has, TV.has]; rw [encL_has ω n a, encL_has ω n b]
 | .junk => by simp [encV, H.has, TV.has]
theorem encL_has (ω : Nat → Nat) (n : Nat) : ∀ l : List (TV V.N), H.hasL n (encL V ω l) = TV.hasL n l
 | [] => by simp [encL, H.hasL, TV.hasL]
 | x :: r => by simp only [encL, H.hasL, TV.hasL]; rw [encV_has ω n x, encL_has ω n r]
end
theorem encO_has (ω : Nat → Nat) (n : Nat) {o : TO V.N} {o' : Own} (h : encO V ω o = some o') : Own.has n o' = TO.has n o := by
 cases o with
 | box oty cells => simp only [encO, Option.some.injEq] at h; subst h; simp only [Own.has, TO.has]; exact encL_has ω n cells
 | bst i x =>
  simp only [encO, Option.some.injEq] at h; subst h; simp only [Own.has, TO.has]
  generalize V.enc i x = l
  induction l with
  | nil => simp [H.hasL]
  | cons y r ih => simpa [H.hasL, H.has] using ih
 | vec te e xs => simp only [encO, Option.some.injEq] at h; subst h; simp [Own.has, TO.has]
 | dvec te e xs => simp only [encO, Option.some.injEq] at h; subst h; simp [Own.has, TO.has]
 | pvec te e xs => simp only [encO, Option.some.injEq] at h; subst h; simp [Own.has, TO.has]
 | map k v es => simp only [encO, Option.some.injEq] at h; subst h; simp [Own.has, TO.has]
 | iter s p => simp only [encO, Option.some.injEq] at h; subst h; simp [Own.has, TO.has]
 | miter m k v es rest cur => simp only [encO, Option.some.injEq] at h; subst h; simp [Own.has, TO.has]
 | gone l => simp [encO] at h
theorem encS_own? (S : TS V.N) (n : Nat) : (encS V S).own? n = (S.own? n).bind (encO V S.len) := by
 unfold AState.own? TS.own? encS
 simp only [gt_map]
 cases gt S.own n with
 | none => rfl
 | some x => rfl
theorem encS_get (S : TS V.N) (t : Nat) : (encS V S).get t = encV V S.len (S.get t) := by
 unfold AState.get TS.get encS
 simp only [gt_map]
 cases gt S.tmps t with
 | none => simp [encV]
 | some x => rfl
theorem encS_gt (S : TS V.N) (t : Nat) : gt (encS V S).tmps t = (gt S.tmps t).map (encV V S.len) := by
 unfold encS
 simp only [gt_map]
theorem encS_fresh {S : TS V.N} {n : Nat} (h : S.fresh n = true) : (encS V S).fresh n = true := by
 unfold TS.fresh at h
 unfold AState.fresh
 rw [encS_own?]
 simp only [Bool.and_eq_true] at h ⊢
 obtain ⟨⟨h1, h2⟩, h3⟩ := h
 refine ⟨⟨?_, ?_⟩, ?_⟩
 ·cases hq : S.own? n with
  | none => rfl
  | some o => rw [hq] at h1; cases h1
 ·unfold encS
  simp only [List.all_map]
  rw [List.all_eq_true] at h2 ⊢
  intro x hx
  have := h2 x hx
  simpa [encV_has] using this
 ·unfold encS
  simp only [List.all_map]
  rw [List.all_eq_true] at h3 ⊢
  intro x hx
  have := h3 x hx
  simp only [Function.comp]
  cases hq : encO V S.len x.2 with
  | none => rfl
  | some o => simp only [encO_has S.len n hq]; exact this
mutual
theorem encV_congr {ω ω' : Nat → Nat} : ∀ v : TV V.N, (∀ n, TV.has n v = true → ω' n = ω n) → encV V ω' v = encV V ω v
 | .lf t x, _ => by simp [encV]
 | .raw v, _ => by simp [encV]
 | .bp m off, _ => by simp [encV]
 | .vh m, h => by simp [encV, h m (by simp [TV.has])]
 | .ep m s i off, _ => by simp [encV]
 | .sv m s i off, _ => by simp [encV]
 | .mp m, _ => by simp [encV]
 | .np m b, _ => by simp [encV]
 | .sd m, _ => by simp [encV]
 | .rp t x off, _ => by simp [encV]
 | .agg cs, h => by simp only [encV]; rw [encL_congr cs fun n hn => h n (by simpa [TV.has] using hn)]
 | .tup vs, h => by simp only [encV]; rw [encL_congr vs fun n hn => h n (by simpa [TV.has] using hn)]
 | .fn f a b, h => by simp only [encV]; rw [encL_congr a fun n hn => h n (by simp [TV.has, hn]), encL_congr b fun n hn => h n (by simp [TV.has, hn])]
 | .junk, _ => by simp [encV]
theorem encL_congr {ω ω' : Nat → Nat} : ∀ l : List (TV V.N), (∀ n, TV.hasL n l = true → ω' n = ω n) → encL V ω' l = encL V ω l
 | [], _ => rfl
 | x :: r, h => by
  simp only [encL]
  rw [encV_congr x fun n hn => h n (by simp [TV.hasL, hn]), encL_congr r fun n hn => h n (by simp [TV.hasL, hn])]
end
theorem encO_congr {ω ω' : Nat → Nat} (o : TO V.N) (h : ∀ n, TO.has n o = true → ω' n = ω n) : encO V ω' o = encO V ω o := by
 cases o with
 | box oty cells => simp only [encO]; rw [encL_congr cells h]
 | bst i x => rfl
 | vec te e xs => rfl
 | dvec te e xs => rfl
 | pvec te e xs => rfl
 | map k v es => rfl
 | iter s p => rfl
 | miter m k v es rest cur => rfl
 | gone l => rfl
end
end Go.Tx
end
section
namespace Go.Tx
open Go.Awp
variable [Inhabited GMem]
structure TE {ι : Type} (N : ι → Type) where
 val : TV N
 acc : List Nat := []
 upd : List (Nat × TO N) := []
 new : List Nat := []
section
variable {ι : Type} {N : ι → Type}
def tvc : Value → TV N
 | .int k n => .lf (.int k) n
 | .bool b => .lf .bool b
 | .string s => .lf .str s
 | v => .raw v
def isNilC : Operand → Bool
 | .const .nilIface => true
 | _ => false
def tev (S : TS N) : Operand → TV N
 | .tmp t => S.get t
 | .const v => tvc v
 | .global g => .raw (.pointer (some ⟨g, 0, none⟩))
 | .func f => .fn f [] []
def fnT : TV N → TV N
 | .fn f [] [] => .lf .fnc f
 | v => v
def TV.one : TV N → Bool
 | .lf t _ => t.cell
 | .raw v => isCell v && v.oneCell'
 | .bp .. => true
 | .vh .. => true
 | .ep .. => true
 | .sv .. => true
 | .mp .. => true
 | .np .. => true
 | .sd .. => true
 | .rp .. => true
 | .fn .. => true
 | _ => false
def putV (dst : Option Tmp) (x : TV N) (l : List (Nat × TV N)) : List (Nat × TV N) := match dst with | some d => (d, x) :: l | none => l
def TS.app (S : TS N) (dst : Option Tmp) (e : TE N) : TS N := { tmps := putV dst e.val S.tmps, own := e.upd ++ S.own }
end
section
variable (V : View)
def leafOf (ex : Bool) (t : Ty V.ι) : TV V.N → Option (Leaf V.N)
 | .lf t' x => some ⟨t', x⟩
 | .raw v => match ex with
  | true => none
  | false => match v, t with
   | .slice none 0 0, .sl e => some ⟨.sl e, []⟩
   | .nilIface, .er => some ⟨.er, false⟩
   | _, _ => none
 | _ => none
def leavesOf (ex : Bool) : List (Ty V.ι) → List (TV V.N) → Option (List (Leaf V.N))
 | [], [] => some []
 | t :: ts, x :: xs => match leafOf V ex t x, leavesOf ex ts xs with
  | some l, some ls => some (l :: ls)
  | _, _ => none
 | _, _ => none
def boxC : Option (TO V.N) → Option (List (TV V.N))
 | some (.box _ cells) => some cells
 | some (.bst i x) => some ((V.cells i x).map fun l => .lf l.t l.x)
 | _ => none
def wholeV (ag : Bool) (off sz : Nat) (ot : Option (Ty V.ι)) : Option (TO V.N) → Option (TV V.N)
 | some (.bst i x) => if ag = true ∧ off = 0 ∧ sz = V.sz i ∧ ot = some (.st i) then some (.lf (.st i) x) else none
 | _ => none
def boxOf (v : TV V.N) (cs : List (TV V.N)) : TO V.N := match v with
 | .lf (.st i) x => .bst i x
 | _ => .box none cs
def boxO : Option (TO V.N) → Option TypeId
 | some (.box o _) => o
 | _ => none
def reBox (o : Option TypeId) (v : TV V.N) (cs : List (TV V.N)) : TO V.N := match o with
 | none => boxOf V v cs
 | some t => .box (some t) cs
def mkV (ex : Bool) (ot : Option (Ty V.ι)) (cs : List (TV V.N)) : TV V.N := match ot with
 | some (.st i) => match leavesOf V ex (V.tys i) cs with
  | some ls => match V.ofCells i ls with
   | some x => .lf (.st i) x
   | none => .agg cs
  | none => .agg cs
 | _ => .agg cs
def keepV (t : TypeId) : List (TV V.N) → Option TypeId
 | .raw (.pointer none) :: .raw (.slice none 0 0) :: _ => some t
 | _ => none
def rcells : (t : Ty V.ι) → den V.N t → List (Leaf V.N)
 | .st i, x => V.cells i x
 | t, x => [⟨t, x⟩]
def TV.cells : TV V.N → Option (List (TV V.N))
 | .lf t x => some ((rcells V t x).map fun l => .lf l.t l.x)
 | .raw v => if isCell v then some [.raw v] else none
 | .agg cs => some cs
 | .tup _ => none
 | .junk => none
 | v => some [v]
def ofRow (ex : Bool) : (e : Ty V.ι) → List (TV V.N) → Option (den V.N e)
 | .st i, cs => match leavesOf V ex (V.tys i) cs with
  | some ls => V.ofCells i ls
  | none => none
 | t, [x] => match leafOf V ex t x with
  | some l => if h : l.t = t then some (h ▸ l.x) else none
  | none => none
 | _, _ => none
def ofLeaves : (e : Ty V.ι) → List (Leaf V.N) → Option (den V.N e)
 | .st i, ls => V.ofCells i ls
 | t, [l] => if h : l.t = t then some (h ▸ l.x) else none
 | _, _ => none
def loadV (ex : Bool) (ag : Bool) (sz : Nat) (ot : Option (Ty V.ι)) (cells : List (TV V.N)) : Option (TV V.N) := match ag with
 | true => if sz ≤ cells.length then some (mkV V ex ot (cells.take sz)) else none
 | false => cells.head?
def loadL (ag : Bool) (sz : Nat) (ot : Option (Ty V.ι)) (t : Ty V.ι) (x : den V.N t) (off : Nat) : Option (TV V.N) := match ag with
 | true => if off = 0 ∧ ot = some t ∧ t.cell = false ∧ sz = tsz V.sz t then some (.lf t x) else match ot with
  | some (.st i) => if off + sz ≤ (rcells V t x).length then match V.ofCells i (((rcells V t x).drop off).take sz) with
    | some y => some (.lf (.st i) y)
    | none => none
   else none
  | _ => none
 | false => match ((rcells V t x).drop off).head? with
  | some l => some (.lf l.t l.x)
  | none => none
def fillV (pl : List (Nat × Nat)) : List (TV V.N) → List (Nat × TV V.N) → Option (List (TV V.N))
 | cells, [] => some cells
 | cells, (i, x) :: r => match pl[i]?, TV.cells V x with
  | some (off, sz), some cs => if cs.length = sz ∧ off + sz ≤ cells.length then fillV pl (cells.take off ++ cs ++ cells.drop (off + cs.length)) r else none
  | _, _ => none
def elemV (ex : Bool) (e : Ty V.ι) (x : TV V.N) : Option (den V.N e) := match x with
 | .lf t y => if h : t = e then some (h ▸ y) else none
 | x => match TV.cells V x with
  | some cs => ofRow V ex e cs
  | none => none
def keepB (nm : Nat → Nat) : Option Tmp → Bool
 | some d => !(Nat.beq (nm d) d)
 | none => false
def rowsV (ex : Bool) (e : Ty V.ι) : Nat → List (Nat × TV V.N) → Option (List (den V.N e))
 | _, [] => some []
 | i, (j, x) :: r => if i = j then match elemV V ex e x, rowsV ex e (i + 1) r with
    | some y, some ys => some (y :: ys)
    | _, _ => none
  else none
def keq {ι : Type} {N : ι → Type} : (t : Ty ι) → den N t → den N t → Bool
 | .int _ => Mp.ieq
 | .bool => Mp.beq
 | .str => Mp.seq
 | _ => fun _ _ => false
def klt {ι : Type} {N : ι → Type} : (t : Ty ι) → den N t → den N t → Bool
 | .int _ => Mp.ilt
 | .bool => Mp.blt
 | .str => Mp.slt
 | _ => fun _ _ => false
def kindOk {ι : Type} : Option TypeDesc → Ty ι → Bool
 | some (.int k), .int k' => decide (k = k')
 | some .string, .str => true
 | some .bool, .bool => true
 | _, _ => false
def valsOf : List D → Option (List Value)
 | [] => some []
 | .v x :: r => match valsOf r with
  | some l => some (x :: l)
  | none => none
 | _ :: _ => none
def ofZ (ex : Bool) : (t : Ty V.ι) → D → Option (den V.N t)
 | .int k, .v (.int k' n) => if k = k' then some n else none
 | .bool, .v (.bool b) => some b
 | .str, .v (.string s) => some s
 | .sl _, .v (.slice none 0 0) => match ex with
  | true => none
  | false => some []
 | .st i, .agg ds => match valsOf ds with
  | some z => if z.all isCell = true then ofRow V ex (.st i) (z.map tvc) else none
  | none => none
 | _, _ => none
def hintV (S : TS V.N) : Option Operand → Bool
 | none => true
 | some x => match tev S x with
  | .lf (.int _) _ => true
  | _ => false
def bndV (S : TS V.N) : Option Operand → Int → Option Int
 | some l, _ => match tev S l with
  | .lf (.int _) n => some n
  | _ => none
 | none, n => some n
def sameOp : Operand → Operand → Bool
 | .tmp a, .tmp b => Nat.beq a b
 | _, _ => false
def most : Nat := 4294967296
variable (P : Program) (nm : Nat → Nat)
abbrev Caller := (A : Type) → Nat → List (TV V.N) → TS V.N → (TE V.N → Option A) → Option A
def isStr (P : Program) (t : TypeId) : Bool := match P.underlying t with
 | some .string => true
 | _ => false
def isPtrTo (P : Program) (t e : TypeId) : Bool := match P.underlying t with
 | some (.pointer e') => Nat.beq e' e
 | _ => false
def zeroU8 (P : Program) (t : TypeId) : Bool := match zeroX P t with
 | some (.v (.int .u8 n)) => n == 0
 | _ => false
def tbuiltin {A : Type} (b : Builtin) (rt : TypeId) (args : List (TV V.N)) (tys : List TypeId) (dst : Option Tmp) (S : TS V.N) (k : TE V.N → Option A) : Option A := match b, args with
 | .len, [.lf (.sl _) xs] => if argKind P tys = 2 then k { val := .lf (.int .i64) xs.length } else none
 | .len, [.vh n] => if argKind P tys = 2 then k { val := .lf (.int .i64) (S.len n) } else none
 | .len, [.mp n] => match S.own? n with
  | some (.map _ _ es) => if argKind P tys = 3 then k { val := .lf (.int .i64) es.length, acc := [n] } else none
  | _ => none
 | .len, [.lf .str s] => if argKind P tys = 1 then k { val := .lf (.int .i64) s.size } else none
 | .min, [.lf (.int kx) a, .lf (.int _) b] => k { val := .lf (.int kx) (min a b) }
 | .max, [.lf (.int kx) a, .lf (.int _) b] => k { val := .lf (.int kx) (max a b) }
 | .append, [x, .lf (.sl e') news] => match dst, tys with
  | some d, [t, t'] => match elemTy P t with
   | some (te, sz, bytes) => match x with
    | .vh n => match S.own? n with
     | some (.vec te2 e xs) => if h : e' = e then
       if t = t' ∧ te = te2 ∧ sz = tsz V.sz e ∧ bytes ≤ 32768 ∧ ¬ n = nm d then
        if xs.length + news.length ≤ most then k { val := .vh (nm d), acc := [n], upd := [(nm d, .vec te e (xs ++ h ▸ news)), (n, .gone xs.length)], new := [nm d] } else none
       else none
      else none
     | _ => none
    | .raw (.slice none 0 0) => if t = t' ∧ sz = tsz V.sz e' ∧ bytes ≤ 32768 then
       if news.length ≤ most then k { val := .vh (nm d), upd := [(nm d, .vec te e' news)], new := [nm d] } else none
      else none
    | _ => none
   | none => none
  | _, _ => none
 | .append, [x, .lf .str s] => match dst, tys with
  | some d, [t, t'] => match elemTy P t with
   | some (te, sz, bytes) => if isStr P t' = true ∧ sz = 1 ∧ bytes = 1 ∧ zeroU8 P te = true then match x with
     | .vh n => match S.own? n with
      | some (.vec te2 (.int .u8) xs) => if te = te2 ∧ ¬ n = nm d then
        if xs.length + s.size ≤ most then k { val := .vh (nm d), acc := [n], upd := [(nm d, .vec te (.int .u8) (xs ++ Bs.ints s)), (n, .gone xs.length)], new := [nm d] } else none
       else none
      | _ => none
     | .raw (.slice none 0 0) => if s.size ≤ most then k { val := .vh (nm d), upd := [(nm d, .vec te (.int .u8) (Bs.ints s))], new := [nm d] } else none
     | _ => none
    else none
   | none => none
  | _, _ => none
 | .unsafeSliceData, [.vh n] => match S.own? n with
  | some (.vec _ _ _) => if isPtr P rt = true then k { val := .sd n, acc := [n] } else none
  | _ => none
 | .unsafeString, [.sd n, .lf (.int ki) l] => match S.own? n, tys with
  | some (.vec te (.int .u8) xs), [pt, _] => if isPtrTo P pt te = true ∧ P.cellsOf te = 1 ∧ ki = .i64 then
    if l = xs.length ∧ xs.length ≤ most then k { val := .lf .str (Bs.bytes xs), acc := [n], upd := [(n, .gone xs.length)] } else none
   else none
  | _, _ => none
 | _, _ => none
def tupd {A : Type} (t : TypeId) (x i y : Operand) (S : TS V.N) (k : TE V.N → Option A) : Option A := match P.underlying t, tev S x, tev S i, tev S y with
 | some (.map kt _), .mp n, .lf tk key, .lf tv z => match S.own? n with
  | some (.map tk' tv' es) => if h : tk = tk' then
    if h' : tv = tv' then
     if kindOk (P.underlying kt) tk' = true then k { val := .junk, acc := [n], upd := [(n, .map tk' tv' (Mp.set (keq tk') (klt tk') (h ▸ key) (h' ▸ z) es))] } else none
    else none
   else none
  | _ => none
 | _, _, _, _ => none
def keyTy {ι : Type} : Ty ι → Bool
 | .int _ => true
 | .bool => true
 | .str => true
 | _ => false
def steps {α : Type} : List α → List (α × List α)
 | [] => []
 | a :: r => (a, r) :: (steps r).map fun q => (q.1, a :: q.2)
open Classical in
noncomputable def same {A : Type} (l : List A) : Option A :=
 if h : ∃ x, l ≠ [] ∧ ∀ a ∈ l, a = x then some h.choose else none
theorem same_some {A : Type} {l : List A} {x : A} : same l = some x ↔ l ≠ [] ∧ ∀ a ∈ l, a = x := by
 unfold same
 constructor
 ·intro h
  split at h
  ·rename_i hx
   cases h
   exact hx.choose_spec
  ·cases h
 ·intro h
  have hx : ∃ x, l ≠ [] ∧ ∀ a ∈ l, a = x := ⟨x, h⟩
  rw [dif_pos hx]
  obtain ⟨a, ha⟩ := List.exists_mem_of_ne_nil l h.1
  rw [← h.2 a ha, ← hx.choose_spec.2 a ha]
noncomputable def anyOf {α A : Type} (l : List α) (k : α → Option A) : Option A := List.mapM k l >>= same
theorem mapM_opt {α A : Type} {k : α → Option A} : ∀ {l : List α} {xs : List A}, List.mapM k l = some xs ↔ xs.length = l.length ∧ ∀ (i : Nat) (a : α), l[i]? = some a → k a = xs[i]?
 | [], xs => by
  simp only [List.mapM_nil]
  constructor
  ·intro h; cases h; simp
  ·intro h; rw [List.eq_nil_of_length_eq_zero h.1]; rfl
 | a :: r, xs => by
  rw [List.mapM_cons]
  constructor
  ·intro h
   cases hk : k a with
   | none => rw [hk] at h; cases h
   | some y =>
    rw [hk] at h
    cases hr : List.mapM k r with
    | none => rw [hr] at h; cases h
    | some ys =>
     rw [hr] at h
     cases h
     obtain ⟨h1, h2⟩ := mapM_opt.1 hr
     refine ⟨by simp [h1], fun i b hb => ?_⟩
     cases i with
     | zero => simp at hb; subst hb; simpa using hk
     | succ i => simpa using h2 i b (by simpa using hb)
  ·intro ⟨h1, h2⟩
   cases xs with
   | nil => simp at h1
   | cons y ys =>
    have hk := h2 0 a rfl
    have hr : List.mapM k r = some ys := mapM_opt.2 ⟨by simpa using h1, fun i b hb => by simpa using h2 (i + 1) b (by simpa using hb)⟩
    simp only [List.getElem?_cons_zero] at hk
    rw [hk, hr]; rfl
theorem anyOf_some {α A : Type} {l : List α} {k : α → Option A} {x : A} : anyOf l k = some x ↔ l ≠ [] ∧ ∀ a ∈ l, k a = some x := by
 unfold anyOf
 constructor
 ·intro h
  cases hm : List.mapM k l with
  | none => rw [hm] at h; cases h
  | some xs =>
   rw [hm] at h
   obtain ⟨h1, h2⟩ := mapM_opt.1 hm
   obtain ⟨h3, h4⟩ := same_some.1 h
   refine ⟨fun e => h3 (List.eq_nil_of_length_eq_zero (by rw [h1, e]; rfl)), fun a ha => ?_⟩
   obtain ⟨i, hi⟩ := List.getElem?_of_mem ha
   rw [h2 i a hi]
   have : i < xs.length := by rw [h1]; exact (List.getElem?_eq_some_iff.1 hi).1
   rw [List.getElem?_eq_getElem this, h4 _ (List.getElem_mem this)]
 ·intro ⟨h1, h2⟩
  have hm : List.mapM k l = some (l.map fun _ => x) := mapM_opt.2 ⟨by simp, fun i a hi => by rw [h2 a (List.mem_of_getElem? hi), List.getElem?_map, hi]; rfl⟩
  rw [hm]
  exact same_some.2 ⟨by simpa using h1, by simp⟩
theorem steps_mem {α : Type} {l : List α} : ∀ {i : Nat} {a : α}, l[i]? = some a → (a, l.eraseIdx i) ∈ steps l := by
 induction l with
 | nil => intro i a h; simp at h
 | cons x r ih =>
  intro i a h
  cases i with
  | zero => simp at h; subst h; exact List.mem_cons_self
  | succ i => exact List.mem_cons_of_mem _ (List.mem_map.2 ⟨_, ih (by simpa using h), rfl⟩)
def shiftOp : BinOp → Option Bool
 | .shl => some true
 | .shr => some false
 | _ => none
def tx {A : Type} (call : Caller V) (ex : Bool) (o : Oper) (S : TS V.N) (k : TE V.N → Option A) : Option A := match o.op with
 | .move x => k { val := tev S x }
 | .assign x => k { val := tev S x }
 | .pick c x y => match tev S c with
  | .lf .bool b => if b = true then k { val := tev S x } else k { val := tev S y }
  | _ => none
 | .alloc t => match zeroD P t, o.dst with
  | some z, some d => if z.all isCell = true then k { val := .bp (nm d) 0, upd := [(nm d, .box (keepTy t z) (z.map tvc))], new := [nm d] } else none
  | _, _ => none
 | .box t x => match TV.cells V (tev S x), o.dst with
  | some cs, some d => k { val := .bp (nm d) 0, upd := [(nm d, reBox V (keepV V t cs) (tev S x) cs)], new := [nm d] }
  | _, _ => none
 | .load t x => match tyLoad P t with
  | some (ag, sz) => match tev S x with
   | .bp n off => match wholeV V ag off sz (V.ty t) (S.own? n) with
    | some v => k { val := v, acc := [n] }
    | none => match boxC V (S.own? n) with
     | some cells => match loadV V ex ag sz (V.ty t) (cells.drop off) with
      | some v => k { val := v, acc := [n] }
      | none => none
     | none => none
   | .ep n s i off => match S.own? n with
    | some (.vec _ e xs) => if s = tsz V.sz e then xs[i]? >>= fun x => match loadL V ag sz (V.ty t) e x off with
      | some v => k { val := v, acc := [n] }
      | none => none
     else none
    | _ => none
   | .rp t' x off => match loadL V ag sz (V.ty t) t' x off with
    | some v => k { val := v }
    | none => none
   | _ => none
  | none => none
 | .store t x y => match tyLoad P t with
  | some (_, sz) => match tev S x, TV.cells V (tev S y) with
   | .bp n off, some cs => match boxC V (S.own? n) with
    | some cells => if cs.length = sz ∧ cs.all TV.one = true ∧ off + sz ≤ cells.length then
      if off = 0 ∧ sz = cells.length then k { val := .junk, acc := [n], upd := [(n, reBox V (boxO V (S.own? n)) (tev S y) cs)] }
      else k { val := .junk, acc := [n], upd := [(n, .box (boxO V (S.own? n)) (cells.take off ++ cs ++ cells.drop (off + cs.length)))] }
     else none
    | none => none
   | .ep n s i off, some cs => match S.own? n with
    | some (.vec te e xs) => if s = tsz V.sz e ∧ cs.length = sz ∧ cs.all TV.one = true ∧ off + sz ≤ s then
      xs[i]? >>= fun x => match ofRow V true e ((((rcells V e x).take off).map fun l => .lf l.t l.x) ++ cs ++ (((rcells V e x).drop (off + cs.length)).map fun l => .lf l.t l.x)) with
       | some y => k { val := .junk, acc := [n], upd := [(n, .vec te e (xs.set i y))] }
       | none => none
     else none
    | _ => none
   | _, _ => none
  | none => none
 | .nilCheck x => match tev S x with
  | .bp n off => k { val := .bp n off }
  | .ep n s i off => k { val := .ep n s i off }
  | .rp t x off => k { val := .rp t x off }
  | .np n b => if b = true then k { val := .bp n 0 } else none
  | _ => none
 | .binOp op xt x y _ => match tev S x, tev S y with
  | .lf (.int kx) a, .lf (.int ky) b => match shiftOp op with
   | some true => if 0 ≤ b then k { val := .lf (.int kx) (Bs.ishl kx a b) } else none
   | some false => if 0 ≤ b then k { val := .lf (.int kx) (Bs.ishr kx a b) } else none
   | none => if kx = ky then match op with
    | .add => k { val := .lf (.int kx) (kx.wrap (a + b)) }
    | .sub => k { val := .lf (.int kx) (kx.wrap (a - b)) }
    | .mul => k { val := .lf (.int kx) (kx.wrap (a * b)) }
    | .eql => k { val := .lf .bool (a == b) }
    | .neq => k { val := .lf .bool (a != b) }
    | .lss => k { val := .lf .bool (decide (a < b)) }
    | .leq => k { val := .lf .bool (decide (a ≤ b)) }
    | .gtr => k { val := .lf .bool (decide (a > b)) }
    | .geq => k { val := .lf .bool (decide (a ≥ b)) }
    | .quo => if b = 0 then none else k { val := .lf (.int kx) (kx.wrap (a.tdiv b)) }
    | .rem => if b = 0 then none else k { val := .lf (.int kx) (a.tmod b) }
    | .and => k { val := .lf (.int kx) (Bs.iand kx a b) }
    | .or => k { val := .lf (.int kx) (Bs.ior kx a b) }
    | .xor => k { val := .lf (.int kx) (Bs.ixor kx a b) }
    | .andNot => k { val := .lf (.int kx) (Bs.iandn kx a b) }
    | _ => none
   else none
  | .lf .bool a, .lf .bool b => match P.underlying xt, op with
   | some .bool, .eql => k { val := .lf .bool (a == b) }
   | some .bool, .neq => k { val := .lf .bool (!(a == b)) }
   | _, _ => none
  | .lf .str a, .lf .str b => match op with
   | .eql => k { val := .lf .bool (a.toList == b.toList) }
   | .neq => k { val := .lf .bool (!(a.toList == b.toList)) }
   | .add => if a.size + b.size ≤ most then k { val := .lf .str (a ++ b) } else none
   | _ => none
  | .raw (.slice a _ _), .raw (.slice none 0 0) => match isSl P xt, op with
   | true, .eql => k { val := .lf .bool a.isNone }
   | true, .neq => k { val := .lf .bool (!a.isNone) }
   | _, _ => none
  | .lf (.sl _) (_ :: _), .raw (.slice none 0 0) => match isSl P xt, op with
   | true, .eql => k { val := .lf .bool false }
   | true, .neq => k { val := .lf .bool true }
   | _, _ => none
  | .np _ b, .raw (.pointer none) => match isPtr P xt, op with
   | true, .eql => k { val := .lf .bool (!b) }
   | true, .neq => k { val := .lf .bool b }
   | _, _ => none
  | .lf .er b, .raw .nilIface => if isIf P xt = true ∧ isNilC y = true then match op with
    | .eql => k { val := .lf .bool (!b) }
    | .neq => k { val := .lf .bool b }
    | _ => none
   else none
  | _, _ => none
 | .makeInterface t _ => match notIf P t with
  | true => k { val := .lf .er true }
  | false => none
 | .unOp op _ x => match op, tev S x with
  | .not, .lf .bool b => k { val := .lf .bool (!b) }
  | .neg, .lf (.int ki) n => k { val := .lf (.int ki) (ki.wrap (0 - n)) }
  | _, _ => none
 | .convert s t x => match P.underlying s, P.underlying t, tev S x with
  | some _, some (.int ki), .lf (.int _) n => k { val := .lf (.int ki) (ki.wrap n) }
  | some _, some .string, .lf (.int _) n => k { val := .lf .str (Bs.enc1 n) }
  | some .string, some (.slice e), .lf .str x => match P.underlying e, o.dst with
   | some (.int .i32), some d => if x.size ≤ most then k { val := .vh (nm d), upd := [(nm d, .vec e (.int .i32) (Bs.runes x))], new := [nm d] } else none
   | some (.int .u8), _ => k { val := .lf (.sl (.int .u8)) (Bs.ints x) }
   | _, _ => none
  | some (.slice e), some .string, .lf (.sl (.int ik)) xs => match P.underlying e, ik with
   | some (.int .i32), .i32 => k { val := .lf .str (Bs.text xs) }
   | some (.int .u8), .u8 => k { val := .lf .str (Bs.bytes xs) }
   | _, _ => none
  | some (.slice e), some .string, .raw (.slice none 0 0) => match P.underlying e with
   | some (.int .i32) => k { val := .lf .str ByteArray.empty }
   | some (.int .u8) => k { val := .lf .str ByteArray.empty }
   | _ => none
  | _, _, _ => none
 | .build t parts => match zeroD P t, places P t with
  | some z, some pl => if z.all isCell = true then match fillV V pl (z.map tvc) (parts.toList.map fun (i, x) => (i, tev S x)) with
    | some cs => match keepB nm o.dst with
     | true => k { val := .agg cs }
     | false => k { val := mkV V ex (V.ty t) cs }
    | none => none
   else none
  | _, _ => none
 | .buildSlice t len parts => match elemTy P t, V.ty t with
  | some (te, sz, _), some (.sl e) => if sz = tsz V.sz e then match rowsV V ex e 0 (parts.toList.map fun (i, x) => (i, fnT (tev S x))) with
    | some ys => if parts.toList.length = len ∧ len * sz ≤ 16777216 then match o.dst with
      | some d => if nm d = d then k { val := .lf (.sl e) ys } else k { val := .vh (nm d), upd := [(nm d, .vec te e ys)], new := [nm d] }
      | none => k { val := .lf (.sl e) ys }
     else none
    | none => none
   else none
  | _, _ => none
 | .makeSlice t l c => match elemTy P t, V.ty t, o.dst with
  | some (te, sz, bytes), some (.sl e), some d => match zeroD P te, tev S l, tev S c with
   | some z, .lf (.int _) n, .lf (.int _) m => match ofRow V ex e (z.map tvc) with
    | some y => if sz = tsz V.sz e ∧ bytes ≤ 32768 ∧ z.all isCell = true then
      match sameOp l c with
      | true => if 0 ≤ m then
        if m ≤ 4294967296 then k { val := .vh (nm d), upd := [(nm d, .vec te e (List.replicate m.toNat y))], new := [nm d] } else none
       else none
      | false => if n = 0 then
        if 0 ≤ m then
         if m ≤ 4294967296 then k { val := .vh (nm d), upd := [(nm d, .vec te e [])], new := [nm d] } else none
        else none
       else none
     else none
    | none => none
   | _, _, _ => none
  | _, _, _ => none
 | .makeMap t hint => match P.underlying t, o.dst with
  | some (.map kt et), some d => match V.ty kt, V.ty et with
   | some tk, some tv => if hintV V S hint = true then k { val := .mp (nm d), upd := [(nm d, .map tk tv [])], new := [nm d] } else none
   | _, _ => none
  | _, _ => none
 | .lookup t x i c => match P.underlying t, tev S x, tev S i with
  | some (.map kt et), .mp n, .lf tk key => match S.own? n, zeroX P et with
   | some (.map tk' tv es), some d => match ofZ V ex tv d with
    | some z => if h : tk = tk' then
      if kindOk (P.underlying kt) tk' = true then match c with
       | true => k { val := .tup [.lf tv ((Mp.get (keq tk') (h ▸ key) es).getD z), .lf .bool (Mp.get (keq tk') (h ▸ key) es).isSome], acc := [n] }
       | false => k { val := .lf tv ((Mp.get (keq tk') (h ▸ key) es).getD z), acc := [n] }
      else none
     else none
    | none => none
   | _, _ => none
  | _, _, _ => none
 | .range t x => match P.underlying t, tev S x, o.dst with
  | some .string, .lf .str s, some d => k { val := .bp (nm d) 0, upd := [(nm d, .iter s 0)], new := [nm d] }
  | some (.map _ _), .mp m, some d => match S.own? m with
   | some (.map tk tv es) => k { val := .bp (nm d) 0, acc := [m], upd := [(nm d, .miter m tk tv es es none), (m, .gone 0)], new := [nm d] }
   | _ => none
  | _, _, _ => none
 | .next x true => match tev S x with
  | .bp n 0 => match S.own? n with
   | some (.iter s p) => if 0 ≤ p then
     if p < s.size then k { val := .tup [.lf .bool true, .lf (.int .i64) p, .lf (.int .i32) (Bs.dec s p)], acc := [n], upd := [(n, .iter s (p + Bs.wid s p))] }
     else k { val := .tup [.lf .bool false], acc := [n] }
    else none
   | _ => none
  | _ => none
 | .entry x => match tev S x with
  | .bp n 0 => match S.own? n with
   | some (.miter _ tk tv _ _ (some p)) => if keyTy tk = true then k { val := .tup [.lf tk p.1, .lf tv p.2], acc := [n] } else none
   | _ => none
  | _ => none
 | .mapUpdate t x i y => tupd V P t x i y S k
 | .insert t x i y => tupd V P t x i y S k
 | .fieldAddr s x f => match fieldOff P s f with
  | some fo => match tev S x with
   | .bp n off => k { val := .bp n (off + fo) }
   | .ep n sz i off => k { val := .ep n sz i (off + fo) }
   | .rp t x off => if off + fo ≤ (rcells V t x).length then k { val := .rp t x (off + fo) } else none
   | _ => none
  | none => none
 | .field s x f => match fieldTy P s f, tev S x with
  | some (off, ag, sz), .lf t y => if t.cell = false then match loadL V ag sz (match P.underlying s with | some (.struct fs) => (fs[f]?).bind fun fd => V.ty fd.type | _ => none) t y off with
    | some v => k { val := v }
    | none => none
   else none
  | some (off, ag, sz), .agg cs => match loadV V ex ag sz (match P.underlying s with | some (.struct fs) => (fs[f]?).bind fun fd => V.ty fd.type | _ => none) (cs.drop off) with
   | some v => k { val := v }
   | none => none
  | _, _ => none
 | .indexAddr t x i => match elemTy P t with
  | some (_, sz, _) => match tev S x, tev S i with
   | .lf (.sl e) xs, .lf (.int _) n => if sz = tsz V.sz e then
     if 0 ≤ n then xs[n.toNat]? >>= fun x => k { val := .rp e x 0 } else none
    else none
   | .vh m, .lf (.int _) n => match S.own? m with
    | some (.vec _ _ xs) => if 0 ≤ n ∧ n < xs.length then k { val := .ep m sz n.toNat 0, acc := [m] } else none
    | _ => none
   | _, _ => none
  | none => none
 | .index t x i => match P.underlying t, tev S x, tev S i with
  | some .string, .lf .str s, .lf (.int _) n => if 0 ≤ n then s[n.toNat]? >>= fun b => k { val := .lf (.int .u8) b.toNat } else none
  | _, _, _ => none
 | .slice t x lo hi none => match P.underlying t, tev S x with
  | some .string, .lf .str s => match bndV V S lo 0, bndV V S hi s.size with
   | some l, some h => if 0 ≤ l ∧ l ≤ h ∧ h ≤ s.size then k { val := .lf .str (s.extract l.toNat h.toNat) } else none
   | _, _ => none
  | some (.slice _), .lf (.sl e) xs => match elemTy P t, bndV V S lo 0, bndV V S hi xs.length with
   | some (_, sz', _), some l, some h => if sz' = tsz V.sz e then
     if 0 ≤ l ∧ l ≤ h ∧ h ≤ xs.length then k { val := .lf (.sl e) ((xs.take h.toNat).drop l.toNat) } else none
    else none
   | _, _, _ => none
  | _, _ => none
 | .extract x i => match tev S x with
  | .tup vs => match vs[i]? with
   | some v => k { val := v }
   | none => none
  | _ => none
 | .makeFunc (.func f) first captured => k { val := .fn f (first.toList.map (tev S)) (captured.toList.map (tev S)) }
 | .call c => match c.callee with
  | .value f => match tev S f with
   | .fn fid first captured => call A fid (first ++ c.args.toList.map (tev S) ++ captured) S k
   | .lf .fnc fid => call A fid (c.args.toList.map (tev S)) S k
   | _ => none
  | .builtin b => tbuiltin V P nm b o.type (c.args.toList.map (tev S)) c.argTypes.toList o.dst S k
  | _ => none
 | _ => none
end
end Go.Tx
end
section
namespace Go.Tx
open Go.Awp
variable [Inhabited GMem]
structure ELe (ex : Bool) (e' e : Eff) : Prop where
 val : H.le e'.val e.val
 new : e'.new = e.new
 none : ∀ n, gt e.upd n = none → gt e'.upd n = none
 some : ∀ n o, gt e.upd n = some (some o) → ∃ o', gt e'.upd n = some (some o') ∧ OLe o' o
 eq : ex = true → e'.val = e.val ∧ e'.upd = e.upd ∧ e'.acc = e.acc
theorem Sim.le {C : Ctx} {E : Env} {M : Mem} {S S' : AState} {a : Act} {w : World} (h : Sim C E M S a w)
  (ht : ∀ t x, gt S'.tmps t = some x → ∃ y, gt S.tmps t = some y ∧ H.le y x) (ho : ∀ n o, S'.own? n = some o → ∃ o', S.own? n = some o' ∧ OLe o' o) : Sim C E M S' a w :=
 { h with
   tmps := fun t x hx => by
    obtain ⟨y, hy, hle⟩ := ht t x hx
    obtain ⟨v, hv, hr⟩ := h.tmps t y hy
    exact ⟨v, hv, hle E M v hr⟩
   own := fun n o hn => by
    obtain ⟨o', ho', hle⟩ := ho n o hn
    exact hle.ok E M w n (h.own n o' ho')
   apart := fun n m o o' b hne hn hm hb hb' => by
    obtain ⟨o1, h1, l1⟩ := ho n o hn
    obtain ⟨o2, h2, l2⟩ := ho m o' hm
    exact h.apart n m o1 o2 b hne h1 h2 (l1.foot E M w n b (h.own n o1 h1) hb) (l2.foot E M w m b (h.own m o2 h2) hb')
   home := fun n o b hn hb => by
    obtain ⟨o1, h1, l1⟩ := ho n o hn
    exact h.home n o1 b h1 (l1.foot E M w n b (h.own n o1 h1) hb) }
theorem H.le.junk (x : H) : H.le x .junk := fun _ _ v _ => .junk v
theorem OLe.box {o o' : Option TypeId} (ho : o = none ∨ o = o') {l l' : List H} (hl : l'.length = l.length) (h : ∀ (i : Nat) (x : H), l[i]? = some x → ∃ y, l'[i]? = some y ∧ H.le y x) : OLe (.box o' l') (.box o l) := by
 refine ⟨?_, fun _ _ _ _ _ _ h => h⟩
 rintro E M w n ⟨b, cs, ty, h1, h2, h3, h4, h5, h6⟩
 refine ⟨b, cs, ty, h1, h2, by omega, fun i c x hc hx => ?_, h5, fun t ht => by
  rcases ho with ho | ho
  ·rw [ho] at ht; cases ht
  ·rw [ho] at ht; exact h6 t ht⟩
 obtain ⟨y, hy, hle⟩ := h i x hx
 exact hle E M c (h4 i c y hc hy)
section
variable {V : View}
def encE (ω : Nat → Nat) (e : TE V.N) : Eff := { val := encV V ω e.val, acc := e.acc, upd := e.upd.map fun p => (p.1, encO V ω p.2), new := e.new }
def good (S : TS V.N) (e : TE V.N) : Prop := ∀ m o, gt e.upd m = some o → m ∈ e.new ∨ TO.len (some o) = S.len m
theorem app_own? (S : TS V.N) (dst : Option Tmp) (e : TE V.N) (n : Nat) : (S.app dst e).own? n = match gt e.upd n with
  | some o => some o
  | none => S.own? n := by
 unfold TS.app TS.own?
 simp only [gt_app]
 cases gt e.upd n <;> rfl
theorem app_len (S : TS V.N) (dst : Option Tmp) (e : TE V.N) (n : Nat) : (S.app dst e).len n = match gt e.upd n with
  | some o => TO.len (some o)
  | none => S.len n := by
 unfold TS.len
 rw [app_own?]
 cases gt e.upd n <;> rfl
theorem fresh_tmp {S : TS V.N} {n : Nat} (h : S.fresh n = true) {t : Nat} {x : TV V.N} (hx : gt S.tmps t = some x) : TV.has n x = false := by
 simp [TS.fresh] at h; exact h.1.2 _ _ (gt_mem hx)
theorem fresh_own {S : TS V.N} {n : Nat} (h : S.fresh n = true) {m : Nat} {o : TO V.N} (ho : S.own? m = some o) : TO.has n o = false := by
 simp [TS.fresh] at h; exact h.2 _ _ (gt_mem ho)
theorem app_keep {S : TS V.N} {dst : Option Tmp} {te : TE V.N} (hg : good S te) (hn : ∀ d ∈ te.new, S.fresh d = true) :
  (∀ t v, gt S.tmps t = some v → encV V (S.app dst te).len v = encV V S.len v) ∧ (∀ n o, S.own? n = some o → encO V (S.app dst te).len o = encO V S.len o) := by
 have keep : ∀ n, n ∉ te.new → (S.app dst te).len n = S.len n := by
  intro n hnn
  rw [app_len]
  cases hu : gt te.upd n with
  | none => rfl
  | some o => exact (hg n o hu).resolve_left hnn
 refine ⟨fun t v hv => encV_congr v fun n hnv => keep n fun hd => ?_, fun n o ho => encO_congr o fun m hm => keep m fun hd => ?_⟩
 ·rw [fresh_tmp (hn n hd) hv] at hnv; cases hnv
 ·rw [fresh_own (hn m hd) ho] at hm; cases hm
theorem encS_app {S : TS V.N} {dst : Option Tmp} {te : TE V.N} (hg : good S te) (hn : ∀ d ∈ te.new, S.fresh d = true) :
  (∀ t, gt (encS V (S.app dst te)).tmps t = gt ((encS V S).app dst (encE (S.app dst te).len te)).tmps t) ∧
  (∀ n, (encS V (S.app dst te)).own? n = ((encS V S).app dst (encE (S.app dst te).len te)).own? n) := by
 obtain ⟨k1, k2⟩ := app_keep (dst := dst) hg hn
 refine ⟨fun t => ?_, fun n => ?_⟩
 ·rw [encS_gt]
  have : gt (S.app dst te).tmps t = if dst = some t then some te.val else gt S.tmps t := by
   unfold TS.app putV
   cases dst with
   | none => simp
   | some d => simp only [gt_cons, Option.some.injEq]
  rw [this]
  simp only [AState.app, putT]
  cases dst with
  | none =>
   simp only [reduceCtorEq, if_false, encS_gt]
   cases hq : gt S.tmps t with
   | none => rfl
   | some v => simp only [Option.map_some]; rw [k1 t v hq]
  | some d =>
   simp only [gt_cons, Option.some.injEq, encS_gt]
   by_cases hd : d = t
   ·rw [if_pos hd, if_pos hd]; rfl
   ·rw [if_neg hd, if_neg hd]
    cases hq : gt S.tmps t with
    | none => rfl
    | some v => simp only [Option.map_some]; rw [k1 t v hq]
 ·rw [encS_own?, app_own?]
  simp only [AState.own?, AState.app, gt_app]
  have hu : gt (encE (S.app dst te).len te).upd n = (gt te.upd n).map (encO V (S.app dst te).len) := by simp only [encE, gt_map]
  rw [hu]
  cases hq : gt te.upd n with
  | some o => rfl
  | none =>
   simp only [Option.map_none]
   have := encS_own? S n
   unfold AState.own? at this
   rw [this]
   cases ho : S.own? n with
   | none => rfl
   | some o => simp only [Option.bind_some]; rw [k2 n o ho]
theorem Sim.tapp {C : Ctx} {E : Env} {M : Mem} {S : TS V.N} {dst : Option Tmp} {te : TE V.N} {e' : Eff} {a : Act} {w : World} {ex : Bool} (hg : good S te) (hn : ∀ d ∈ te.new, S.fresh d = true)
  (hle : ELe ex e' (encE (S.app dst te).len te)) (hs : Sim C E M ((encS V S).app dst e') a w) : Sim C E M (encS V (S.app dst te)) a w := by
 obtain ⟨h1, h2⟩ := encS_app (dst := dst) hg hn
 refine Sim.le hs (fun t x hx => ?_) (fun n o ho => ?_)
 ·rw [h1] at hx
  simp only [AState.app, putT] at hx ⊢
  cases dst with
  | none => exact ⟨x, hx, H.le.refl _⟩
  | some d =>
   simp only [gt_cons] at hx ⊢
   by_cases hd : d = t
   ·rw [if_pos hd] at hx ⊢; simp at hx; subst hx; exact ⟨_, rfl, hle.val⟩
   ·rw [if_neg hd] at hx ⊢; exact ⟨x, hx, H.le.refl _⟩
 ·rw [h2] at ho
  simp only [AState.own?, AState.app, gt_app] at ho ⊢
  cases hu : gt (encE (S.app dst te).len te).upd n with
  | none =>
   rw [hu] at ho
   rw [hle.none n hu]
   exact ⟨o, ho, OLe.refl _⟩
  | some oo =>
   rw [hu] at ho
   simp at ho
   subst ho
   obtain ⟨o', k1, k2⟩ := hle.some n o hu
   exact ⟨o', by rw [k1]; rfl, k2⟩
theorem ev_enc (S : TS V.N) (x : Operand) : ev (encS V S) x = encV V S.len (tev S x) := by
 cases x with
 | tmp t => exact encS_get S t
 | const v => cases v <;> simp [ev, tev, tvc, encV, encD, encRaw]
 | global g => simp [ev, tev, encV, encRaw]
 | func f => simp [ev, tev, encV, encL]
theorem encV_st (ω : Nat → Nat) (i : V.ι) (x : V.N i) : encV V ω (.lf (.st i) x) = .d (.agg (V.enc i x)) := by simp only [encV, encD]
theorem encR_cells (t : Ty V.ι) (x : den V.N t) : encR V.sz V.enc t x = (rcells V t x).map fun l => encD V.sz V.enc l.t l.x := by
 cases t with
 | st i => simp only [encR, rcells]; exact V.enc_cells i x
 | _ => simp [encR, rcells, encD]
theorem toL_map_d : ∀ l : List D, DD.toL (l.map .d) = some l
 | [] => by simp [DD.toL]
 | x :: r => by simp [DD.toL, DD.toD, toL_map_d r]
theorem encRD_toL : ∀ (t : Ty V.ι) (x : den V.N t), DD.toL (encRD V.sz V.enc V.tid V.encd t x) = some (encR V.sz V.enc t x)
 | .st i, x => by simp only [encRD, encR]; exact V.encd_toL i x
 | .sl e, xs => by
  have h : DD.toR (xs.map fun x => encRD V.sz V.enc V.tid V.encd e x) = some (xs.map fun x => encR V.sz V.enc e x) := by
   induction xs with
   | nil => simp [DD.toR]
   | cons x r ih => simp [DD.toR, encRD_toL e x, ih]
  simp [encRD, encR, DD.toL, DD.toD, h]
 | .int k, x => by simp only [encRD]; exact toL_map_d _
 | .bool, x => by simp only [encRD]; exact toL_map_d _
 | .str, x => by simp only [encRD]; exact toL_map_d _
 | .mp k v, x => by simp only [encRD]; exact toL_map_d _
 | .er, x => by simp only [encRD]; exact toL_map_d _
 | .op e, x => by simp only [encRD]; exact toL_map_d _
 | .fnc, x => by simp only [encRD]; exact toL_map_d _
theorem rows_toR {e : Ty V.ι} : ∀ ys : List (den V.N e), DD.toR (ys.map fun x => encRD V.sz V.enc V.tid V.encd e x) = some (ys.map fun x => encR V.sz V.enc e x)
 | [] => by simp [DD.toR]
 | y :: r => by
  have := rows_toR r
  simp only [List.map_cons, DD.toR, encRD_toL] at this ⊢
  rw [this]
theorem rcells_len (t : Ty V.ι) (x : den V.N t) : (rcells V t x).length = tsz V.sz t := by
 cases t with
 | st i => exact V.len_cells i x
 | _ => rfl
theorem encR_len (t : Ty V.ι) (x : den V.N t) : (encR V.sz V.enc t x).length = tsz V.sz t := by
 rw [encR_cells, List.length_map, rcells_len]
theorem rcells_cell (t : Ty V.ι) (x : den V.N t) : ∀ l ∈ rcells V t x, l.t.cell = true := by
 cases t with
 | st i => exact V.one_cells i x
 | _ => simp [rcells, Ty.cell]
theorem encD_cell {l : Leaf V.N} (h : l.t.cell = true) : (H.d (encD V.sz V.enc l.t l.x)).one = true := by
 obtain ⟨t, x⟩ := l
 cases t <;> first | (simp [Ty.cell] at h; done) | rfl | exact opD_one _
theorem fnT_enc {ω : Nat → Nat} (v : TV V.N) : encV V ω (fnT v) = fnD (encV V ω v) := by
 unfold fnT
 split
 ·simp [encV, encL, fnD, encD]
 ·rename_i hno
  cases v with
  | fn f a b =>
   simp only [encV]
   unfold fnD
   split
   ·rename_i h
    cases a with
    | nil => cases b with
     | nil => exact (hno f rfl).elim
     | cons _ _ => simp [encL] at h
    | cons _ _ => simp [encL] at h
   ·rfl
  | agg cs => simp only [encV, mkAgg]; split <;> rfl
  | raw v => cases v <;> rfl
  | _ => rfl
theorem opD_cells (x : Option (List D)) : (H.d (opD x)).cells = some [H.d (opD x)] := by cases x <;> rfl
theorem cells_sound {ω : Nat → Nat} {v : TV V.N} {cs : List (TV V.N)} (h : TV.cells V v = some cs) : (encV V ω v).cells = some (encL V ω cs) := by
 cases v with
 | lf t x =>
  simp only [TV.cells, Option.some.injEq] at h
  subst h
  have e : encL V ω ((rcells V t x).map fun l => TV.lf l.t l.x) = (encR V.sz V.enc t x).map H.d := by
   rw [encR_cells, encL_map, List.map_map, List.map_map]
   exact List.map_congr_left fun l _ => by simp [encV]
  rw [e]
  cases t with
  | op e => simp only [encV, encD, encR, opD_cells, List.map_cons, List.map_nil]
  | _ => simp [encV, encD, encR, H.cells, isCell]
 | raw v =>
  simp only [TV.cells] at h
  split at h
  ·rename_i hc
   simp at h; subst h
   cases v <;> first | (simp [isCell] at hc; done) | simp [encV, encL, encRaw, H.cells, isCell]
  ·cases h
 | agg cs' =>
  simp only [TV.cells, Option.some.injEq] at h
  subst h
  simp only [encV, mkAgg]
  split
  ·rename_i ds hds
   simp only [H.cells]
   congr 1
   obtain ⟨h1, h2⟩ := allD_get hds
   apply List.ext_getElem?
   intro i
   rw [h2, List.getElem?_map]
  ·rfl
 | tup vs => simp [TV.cells] at h
 | junk => simp [TV.cells] at h
 | rp t x off => simp [TV.cells] at h; subst h; simp [encV, encL, H.cells]
 | bp n off => simp [TV.cells] at h; subst h; simp [encV, encL, H.cells]
 | vh n => simp [TV.cells] at h; subst h; simp [encV, encL, H.cells]
 | ep n s i off => simp [TV.cells] at h; subst h; simp [encV, encL, H.cells]
 | sv n s i off => simp [TV.cells] at h; subst h; simp [encV, encL, H.cells]
 | mp n => simp [TV.cells] at h; subst h; simp [encV, encL, H.cells]
 | np n b => simp [TV.cells] at h; subst h; simp [encV, encL, H.cells]
 | sd n => simp [TV.cells] at h; subst h; simp [encV, encL, H.cells]
 | fn f a b => simp [TV.cells] at h; subst h; simp [encV, encL, H.cells]
theorem one_sound {ω : Nat → Nat} {v : TV V.N} (h : v.one = true) : (encV V ω v).one = true := by
 cases v with
 | lf t x => simp only [TV.one] at h; simp only [encV]; exact encD_cell (l := ⟨t, x⟩) h
 | raw v =>
  simp only [TV.one, Bool.and_eq_true] at h
  cases v <;> first | (simp [isCell] at h; done) | (simp only [encV, encRaw, H.one, D.one]; exact h.2)
 | agg cs => simp [TV.one] at h
 | tup cs => simp [TV.one] at h
 | junk => simp [TV.one] at h
 | _ => simp [encV, H.one, D.one]
theorem all_one_sound {ω : Nat → Nat} {l : List (TV V.N)} (h : l.all TV.one = true) : (encL V ω l).all H.one = true := by
 rw [encL_map, List.all_map]
 rw [List.all_eq_true] at h ⊢
 exact fun x hx => one_sound (h x hx)
theorem leavesOf_sound {ω : Nat → Nat} {ex : Bool} : ∀ {ts : List (Ty V.ι)} {cs : List (TV V.N)} {ls : List (Leaf V.N)}, leavesOf V ex ts cs = some ls →
  ∃ ds, encL V ω cs = ds.map H.d ∧ D.Les ds (ls.map fun l => encD V.sz V.enc l.t l.x) ∧ (ex = true → ds = ls.map fun l => encD V.sz V.enc l.t l.x)
 | [], [], ls, h => by simp [leavesOf] at h; subst h; exact ⟨[], rfl, .nil, fun _ => rfl⟩
 | [], _ :: _, ls, h => by simp [leavesOf] at h
 | _ :: _, [], ls, h => by simp [leavesOf] at h
 | t :: ts, x :: xs, ls, h => by
  simp only [leavesOf] at h
  split at h
  ·rename_i l ls' h1 h2
   simp at h; subst h
   obtain ⟨ds, e1, e2, e3⟩ := leavesOf_sound (ω := ω) h2
   cases x with
   | lf t' y =>
    simp [leafOf] at h1; subst h1
    exact ⟨encD V.sz V.enc t' y :: ds, by simp [encL, encV, e1], .cons (D.le.refl _) e2, fun hx => by simp [e3 hx]⟩
   | raw v =>
    simp only [leafOf] at h1
    split at h1
    ·cases h1
    ·rename_i hex
     split at h1
     ·simp at h1; subst h1
      exact ⟨.v (.slice none 0 0) :: ds, by simp [encL, encV, encRaw, e1], .cons (D.le.nil _) e2, fun hx => by simp at hx⟩
     ·simp at h1; subst h1
      exact ⟨.v .nilIface :: ds, by simp [encL, encV, encRaw, e1], .cons D.le.ern e2, fun hx => by simp at hx⟩
     ·cases h1
   | _ => simp [leafOf] at h1
  ·cases h
theorem allD_map (ds : List D) : allD (ds.map H.d) = some ds := by
 induction ds with
 | nil => rfl
 | cons x r ih => simp [allD, ih]
theorem mkV_sound {ω : Nat → Nat} {ex : Bool} {ot : Option (Ty V.ι)} {cs : List (TV V.N)} : H.le (mkAgg (encL V ω cs)) (encV V ω (mkV V ex ot cs)) ∧ (ex = true → mkAgg (encL V ω cs) = encV V ω (mkV V ex ot cs)) := by
 unfold mkV
 have dflt : H.le (mkAgg (encL V ω cs)) (encV V ω (.agg cs)) ∧ (ex = true → mkAgg (encL V ω cs) = encV V ω (.agg cs)) := by
  rw [encV]; exact ⟨H.le.refl _, fun _ => rfl⟩
 split
 ·rename_i i
  split
  ·rename_i ls hls
   split
   ·rename_i x hx
    obtain ⟨ds, e1, e2, e3⟩ := leavesOf_sound (ω := ω) hls
    have hc := V.of_cells i ls x hx
    have he : encV V ω (.lf (.st i) x) = .d (.agg (ls.map fun l => encD V.sz V.enc l.t l.x)) := by
     rw [encV_st, V.enc_cells, hc]
    rw [e1, mkAgg, allD_map, he]
    exact ⟨H.le.d (D.le.agg e2), fun h => by rw [e3 h]⟩
   ·exact dflt
  ·exact dflt
 ·exact dflt
theorem loadV_sound {ω : Nat → Nat} {ex ag : Bool} {sz : Nat} {ot : Option (Ty V.ι)} {cells : List (TV V.N)} {v : TV V.N} (h : loadV V ex ag sz ot cells = some v) :
  ∃ x, loadC ag sz (encL V ω cells) = some x ∧ H.le x (encV V ω v) ∧ (ex = true → x = encV V ω v) := by
 cases ag with
 | true =>
  simp only [loadV] at h
  split at h
  ·rename_i hle
   simp at h; subst h
   refine ⟨mkAgg (encL V ω (cells.take sz)), ?_, mkV_sound⟩
   simp only [loadC, encL_map, List.length_map]
   rw [if_pos hle, List.map_take]
  ·cases h
 | false =>
  simp only [loadV] at h
  cases cells with
  | nil => simp at h
  | cons c r => simp at h; subst h; exact ⟨encV V ω c, by simp [loadC, encL], H.le.refl _, fun _ => rfl⟩
theorem loadL_sound {ω : Nat → Nat} {ag : Bool} {sz : Nat} {ot : Option (Ty V.ι)} {t : Ty V.ι} {x : den V.N t} {off : Nat} {v : TV V.N} (h : loadL V ag sz ot t x off = some v) :
  ∃ d, loadD ag sz ((encR V.sz V.enc t x).drop off) = some d ∧ encV V ω v = .d d := by
 cases ag with
 | true =>
  simp only [loadL] at h
  split at h
  ·rename_i hc
   obtain ⟨h1, h2, h3, h4⟩ := hc
   simp at h; subst h
   subst h1; subst h4
   have hl := encR_len t x
   refine ⟨.agg (encR V.sz V.enc t x), ?_, ?_⟩
   ·simp only [loadD, List.drop_zero]
    rw [if_pos (by omega), List.take_of_length_le (by omega)]
   ·cases t <;> first | (simp [Ty.cell] at h3; done) | simp [encV, encD, encR]
  ·split at h
   ·split at h
    ·rename_i hle
     split at h
     ·rename_i y hy
      simp at h; subst h
      have hc := V.of_cells _ _ _ hy
      refine ⟨.agg (((encR V.sz V.enc t x).drop off).take sz), ?_, ?_⟩
      ·simp only [loadD]
       rw [if_pos (by rw [List.length_drop, encR_len]; rw [rcells_len] at hle; omega)]
      ·rw [encV_st, V.enc_cells, hc, encR_cells, List.map_take, List.map_drop]
     ·cases h
    ·cases h
   ·cases h
 | false =>
  simp only [loadL] at h
  split at h
  ·rename_i l hl
   simp at h; subst h
   refine ⟨encD V.sz V.enc l.t l.x, ?_, by simp [encV]⟩
   simp only [loadD, encR_cells]
   rw [← List.map_drop, List.head?_map, hl]; rfl
  ·cases h
theorem encL_take (ω : Nat → Nat) (n : Nat) (l : List (TV V.N)) : encL V ω (l.take n) = (encL V ω l).take n := by simp [encL_map, List.map_take]
theorem encL_drop (ω : Nat → Nat) (n : Nat) (l : List (TV V.N)) : encL V ω (l.drop n) = (encL V ω l).drop n := by simp [encL_map, List.map_drop]
theorem encL_app (ω : Nat → Nat) (l m : List (TV V.N)) : encL V ω (l ++ m) = encL V ω l ++ encL V ω m := by simp [encL_map]
theorem encL_len (ω : Nat → Nat) (l : List (TV V.N)) : (encL V ω l).length = l.length := by simp [encL_map]
theorem fillV_sound {ω : Nat → Nat} {pl : List (Nat × Nat)} : ∀ {parts : List (Nat × TV V.N)} {cells cs : List (TV V.N)}, fillV V pl cells parts = some cs →
  fillH pl (encL V ω cells) (parts.map fun p => (p.1, encV V ω p.2)) = some (encL V ω cs)
 | [], cells, cs, h => by simp [fillV] at h; subst h; rfl
 | (i, x) :: r, cells, cs, h => by
  simp only [fillV] at h
  split at h
  ·rename_i off sz cc h1 h2
   split at h
   ·rename_i hc
    have ih := fillV_sound (ω := ω) h
    simp only [List.map_cons, fillH, h1, cells_sound (ω := ω) h2, encL_len]
    rw [if_pos hc]
    simp only [spliceH, encL_len]
    rw [encL_app, encL_app, encL_take, encL_drop] at ih
    exact ih
   ·cases h
  ·cases h
theorem ofRow_sound {ω : Nat → Nat} {ex : Bool} {e : Ty V.ι} {cs : List (TV V.N)} {y : den V.N e} (h : ofRow V ex e cs = some y) :
  ∃ ds, encL V ω cs = ds.map H.d ∧ D.Les ds (encR V.sz V.enc e y) ∧ (ex = true → ds = encR V.sz V.enc e y) := by
 have single : ∀ (t : Ty V.ι) (y : den V.N t) (cs : List (TV V.N)), (∃ x l, cs = [x] ∧ leafOf V ex t x = some l ∧ ∃ ht : l.t = t, ht ▸ l.x = y) → rcells V t y = [⟨t, y⟩] → ∃ ds, encL V ω cs = ds.map H.d ∧ D.Les ds (encR V.sz V.enc t y) ∧ (ex = true → ds = encR V.sz V.enc t y) := by
  rintro t y cs ⟨x, ⟨lt, lx⟩, rfl, hl, ht, rfl⟩ hrc
  simp only at ht
  subst ht
  rw [encR_cells, hrc]
  have hls : leavesOf V ex [lt] [x] = some [⟨lt, lx⟩] := by simp [leavesOf, hl]
  exact leavesOf_sound (ω := ω) hls
 cases e with
 | st i =>
  simp only [ofRow] at h
  split at h
  ·rename_i ls hls
   obtain ⟨ds, e1, e2, e3⟩ := leavesOf_sound (ω := ω) hls
   have hc := V.of_cells i ls y h
   refine ⟨ds, e1, ?_, ?_⟩ <;> simp only [encR] <;> rw [V.enc_cells, hc]
   ·exact e2
   ·exact e3
  ·cases h
 | int k =>
  refine single (.int k) y cs ?_ rfl
  match cs, h with
  | [], h => simp [ofRow] at h
  | _ :: _ :: _, h => simp [ofRow] at h
  | [x], h =>
   simp only [ofRow] at h
   split at h
   ·rename_i l hl
    split at h
    ·rename_i ht; simp only [Option.some.injEq] at h; exact ⟨x, l, rfl, hl, ht, h⟩
    ·cases h
   ·cases h
 | bool =>
  refine single .bool y cs ?_ rfl
  match cs, h with
  | [], h => simp [ofRow] at h
  | _ :: _ :: _, h => simp [ofRow] at h
  | [x], h =>
   simp only [ofRow] at h
   split at h
   ·rename_i l hl
    split at h
    ·rename_i ht; simp only [Option.some.injEq] at h; exact ⟨x, l, rfl, hl, ht, h⟩
    ·cases h
   ·cases h
 | op e =>
  refine single (.op e) y cs ?_ rfl
  match cs, h with
  | [], h => simp [ofRow] at h
  | _ :: _ :: _, h => simp [ofRow] at h
  | [x], h =>
   simp only [ofRow] at h
   split at h
   ·rename_i l hl
    split at h
    ·rename_i ht; simp only [Option.some.injEq] at h; exact ⟨x, l, rfl, hl, ht, h⟩
    ·cases h
   ·cases h
 | er =>
  refine single .er y cs ?_ rfl
  match cs, h with
  | [], h => simp [ofRow] at h
  | _ :: _ :: _, h => simp [ofRow] at h
  | [x], h =>
   simp only [ofRow] at h
   split at h
   ·rename_i l hl
    split at h
    ·rename_i ht; simp only [Option.some.injEq] at h; exact ⟨x, l, rfl, hl, ht, h⟩
    ·cases h
   ·cases h
 | fnc =>
  refine single .fnc y cs ?_ rfl
  match cs, h with
  | [], h => simp [ofRow] at h
  | _ :: _ :: _, h => simp [ofRow] at h
  | [x], h =>
   simp only [ofRow] at h
   split at h
   ·rename_i l hl
    split at h
    ·rename_i ht; simp only [Option.some.injEq] at h; exact ⟨x, l, rfl, hl, ht, h⟩
    ·cases h
   ·cases h
 | str =>
  refine single .str y cs ?_ rfl
  match cs, h with
  | [], h => simp [ofRow] at h
  | _ :: _ :: _, h => simp [ofRow] at h
  | [x], h =>
   simp only [ofRow] at h
   split at h
   ·rename_i l hl
    split at h
    ·rename_i ht; simp only [Option.some.injEq] at h; exact ⟨x, l, rfl, hl, ht, h⟩
    ·cases h
   ·cases h
 | sl e =>
  refine single (.sl e) y cs ?_ rfl
  match cs, h with
  | [], h => simp [ofRow] at h
  | _ :: _ :: _, h => simp [ofRow] at h
  | [x], h =>
   simp only [ofRow] at h
   split at h
   ·rename_i l hl
    split at h
    ·rename_i ht; simp only [Option.some.injEq] at h; exact ⟨x, l, rfl, hl, ht, h⟩
    ·cases h
   ·cases h
 | mp tk tv =>
  refine single (.mp tk tv) y cs ?_ rfl
  match cs, h with
  | [], h => simp [ofRow] at h
  | _ :: _ :: _, h => simp [ofRow] at h
  | [x], h =>
   simp only [ofRow] at h
   split at h
   ·rename_i l hl
    split at h
    ·rename_i ht; simp only [Option.some.injEq] at h; exact ⟨x, l, rfl, hl, ht, h⟩
    ·cases h
   ·cases h
end
end Go.Tx
end
section
namespace Go.Tx
open Go.Awp
variable [Inhabited GMem]
section
variable {V : View}
def CallerOk (P : Program) (call : Caller V) : Prop := ∀ (A : Type) (fid : Nat) (args : List (TV V.N)) (S : TS V.N) (dst : Option Tmp) (k : TE V.N → Option A) (r : A), call A fid args S k = some r →
 ∃ te, k te = some r ∧ good S te ∧ ACall P fid (encL V S.len args) (encS V S).own? fun e' => ELe true e' (encE (S.app dst te).len te)
def OpS (ex : Bool) (P : Program) (nm : Nat → Nat) {A : Type} (o : Oper) (S : TS V.N) (k : TE V.N → Option A) (r : A) : Prop :=
 ∃ te, k te = some r ∧ good S te ∧ AVal P nm o (ev (encS V S)) (encS V S).own? fun e' => ELe ex e' (encE (S.app o.dst te).len te)
theorem good_val (S : TS V.N) (v : TV V.N) (l : List Nat) : good S { val := v, acc := l } := fun m o h => by simp [gt] at h
theorem app_len_val (S : TS V.N) (dst : Option Tmp) (v : TV V.N) (l : List Nat) : (S.app dst { val := v, acc := l }).len = S.len := by
 funext n; rw [app_len]; rfl
theorem ele_val {ex : Bool} {S : TS V.N} {dst : Option Tmp} {v : TV V.N} {x : H} {l : List Nat} (h : H.le x (encV V S.len v)) (hx : ex = true → x = encV V S.len v) : ELe ex { val := x, acc := l } (encE (S.app dst { val := v, acc := l }).len { val := v, acc := l }) := by
 rw [app_len_val]
 exact { val := h, new := rfl, none := fun n _ => rfl, some := fun n o h => by simp [encE, gt] at h, eq := fun h => ⟨hx h, rfl, rfl⟩ }
theorem ele_eq {ex : Bool} {S : TS V.N} {dst : Option Tmp} {v : TV V.N} {x : H} {l : List Nat} (h : x = encV V S.len v) : ELe ex { val := x, acc := l } (encE (S.app dst { val := v, acc := l }).len { val := v, acc := l }) := ele_val (h ▸ H.le.refl _) fun _ => h
theorem ele_upd {ex : Bool} {ω : Nat → Nat} {te : TE V.N} {e' : Eff} (hv : e'.val = encV V ω te.val) (hn : e'.new = te.new) (hu : e'.upd = te.upd.map fun p => (p.1, encO V ω p.2)) (ha : e'.acc = te.acc) : ELe ex e' (encE ω te) where
 val := by rw [hv]; exact H.le.refl _
 new := hn
 none := fun n h => by rw [hu]; exact h
 some := fun n o h => ⟨o, by rw [hu]; exact h, OLe.refl o⟩
 eq := fun _ => ⟨hv, hu, ha⟩
theorem tvc_enc (ω : Nat → Nat) (x : Value) : encV V ω (tvc x) = encRaw x := by
 cases x <;> simp [tvc, encV, encD, encRaw]
theorem map_ev (S : TS V.N) (l : List Operand) : l.map (ev (encS V S)) = encL V S.len (l.map (tev S)) := by
 rw [encL_map, List.map_map]
 exact List.map_congr_left fun x _ => ev_enc S x
theorem map_ev2 (S : TS V.N) (l : List (Nat × Operand)) : l.map (fun p => (p.1, ev (encS V S) p.2)) = (l.map fun p => (p.1, tev S p.2)).map fun p => (p.1, encV V S.len p.2) := by
 rw [List.map_map]
 exact List.map_congr_left fun x _ => by simp [ev_enc]
theorem bnd_sound {S : TS V.N} {lo : Option Operand} {d n : Int} (h : bndV V S lo d = some n) : bnd (ev (encS V S)) lo d = some n := by
 cases lo with
 | none => exact h
 | some x =>
  simp only [bndV] at h
  simp only [bnd, ev_enc]
  split at h
  ·rename_i hx; rw [hx]; simpa [encV, encD] using h
  ·cases h
theorem own_vec {S : TS V.N} {n : Nat} {te : TypeId} {e : Ty V.ι} {xs : List (den V.N e)} (h : S.own? n = some (.vec te e xs)) :
  (encS V S).own? n = some (.vec te (tsz V.sz e) (xs.map fun x => encR V.sz V.enc e x)) := by rw [encS_own?, h]; rfl
theorem bst_enc (ω : Nat → Nat) (i : V.ι) (x : V.N i) : encL V ω ((V.cells i x).map fun l => (.lf l.t l.x : TV V.N)) = (V.enc i x).map .d := by
 rw [V.enc_cells, encL_map, List.map_map, List.map_map]
 exact List.map_congr_left fun l _ => by simp [encV]
theorem own_boxC {S : TS V.N} {n : Nat} {cells : List (TV V.N)} (h : boxC V (S.own? n) = some cells) : (encS V S).own? n = some (.box (boxO V (S.own? n)) (encL V S.len cells)) := by
 rw [encS_own?]
 cases ho : S.own? n with
 | none => rw [ho] at h; cases h
 | some o =>
  rw [ho] at h
  cases o with
  | box oty cs => simp only [boxC, Option.some.injEq] at h; subst h; rfl
  | bst i x => simp only [boxC, Option.some.injEq] at h; subst h; simp only [Option.bind_some, encO, bst_enc]; rfl
  | vec te e xs => cases h
  | dvec te e xs => cases h
  | pvec te e xs => cases h
  | map tk tv es => cases h
  | iter s p => cases h
  | miter m tk tv es rest cur => cases h
  | gone l => cases h
theorem boxC_len {S : TS V.N} {n : Nat} {cells : List (TV V.N)} (h : boxC V (S.own? n) = some cells) : S.len n = 0 := by
 unfold TS.len
 cases ho : S.own? n with
 | none => rfl
 | some o =>
  rw [ho] at h
  cases o <;> first | rfl | cases h
theorem boxOf_enc {ω : Nat → Nat} {v : TV V.N} {cs : List (TV V.N)} (h : TV.cells V v = some cs) : encO V ω (boxOf V v cs) = some (.box none (encL V ω cs)) := by
 unfold boxOf
 split
 ·rename_i i x
  simp only [TV.cells, rcells, Option.some.injEq] at h
  subst h
  simp only [encO, bst_enc]
 ·rfl
theorem reBox_enc {ω : Nat → Nat} {o : Option TypeId} {v : TV V.N} {cs : List (TV V.N)} (h : TV.cells V v = some cs) : encO V ω (reBox V o v cs) = some (.box o (encL V ω cs)) := by
 cases o with
 | none => exact boxOf_enc h
 | some t => rfl
theorem boxOf_len {v : TV V.N} {cs : List (TV V.N)} : TO.len (some (boxOf V v cs)) = 0 := by
 unfold boxOf
 split <;> rfl
theorem reBox_len {o : Option TypeId} {v : TV V.N} {cs : List (TV V.N)} : TO.len (some (reBox V o v cs)) = 0 := by
 cases o with
 | none => exact boxOf_len
 | some t => rfl
theorem len_vec {S : TS V.N} {n : Nat} {te : TypeId} {e : Ty V.ι} {xs : List (den V.N e)} (h : S.own? n = some (.vec te e xs)) : S.len n = xs.length := by unfold TS.len; rw [h]; rfl
theorem raw_one {t : Ty V.ι} {x : den V.N t} : ((encR V.sz V.enc t x).all D.one) = true := by
 rw [encR_cells, List.all_map, List.all_eq_true]
 exact fun l hl => by have := encD_cell (V := V) (rcells_cell t x l hl); simpa [H.one] using this
variable {P : Program} {nm : Nat → Nat} {call : Caller V} {A : Type} {S : TS V.N} {k : TE V.N → Option A} {r : A} {o : Oper} {ex : Bool}
theorem ops_val {v : TV V.N} {l : List Nat} (hk : k { val := v, acc := l } = some r) (h : ∀ K : Eff → Prop, K { val := encV V S.len v, acc := l } → AVal P nm o (ev (encS V S)) (encS V S).own? K) : OpS ex P nm o S k r :=
 ⟨_, hk, good_val S v l, h _ (ele_eq rfl)⟩
theorem ops_le {v : TV V.N} {l : List Nat} (hk : k { val := v, acc := l } = some r) (h : ∀ K : Eff → Prop, (∀ x, H.le x (encV V S.len v) → (ex = true → x = encV V S.len v) → K { val := x, acc := l }) → AVal P nm o (ev (encS V S)) (encS V S).own? K) : OpS ex P nm o S k r :=
 ⟨_, hk, good_val S v l, h _ fun _ hx hy => ele_val hx hy⟩
theorem zip_zero (S : TS V.N) (dst : Option Tmp) (d : Nat) (v : TV V.N) (b : TO V.N) (cs : List (TV V.N)) (hf : ∀ n, TV.hasL n cs = true → n ≠ d) :
  encL V (S.app dst { val := v, upd := [(d, b)], new := [d] }).len cs = encL V S.len cs := by
 refine encL_congr cs fun n hn => ?_
 rw [app_len]
 simp only [gt_cons]
 rw [if_neg (fun e => hf n hn e.symm)]
 rfl
theorem tev_fresh {S : TS V.N} {d : Nat} (h : S.fresh d = true) (x : Operand) : TV.has d (tev S x) = false := by
 cases x with
 | tmp t =>
  simp only [tev, TS.get]
  cases hg : gt S.tmps t with
  | none => simp [TV.has]
  | some v => exact fresh_tmp h hg
 | const v => cases v <;> simp [tev, tvc, TV.has]
 | global g => simp [tev, TV.has]
 | func f => simp [tev, TV.has, TV.hasL]
theorem hasL_false {d : Nat} {l : List (TV V.N)} (h : ∀ x ∈ l, TV.has d x = false) : TV.hasL d l = false := by
 induction l with
 | nil => simp [TV.hasL]
 | cons y r ih => rw [TV.hasL, h y List.mem_cons_self, ih fun x hx => h x (List.mem_cons_of_mem _ hx)]; rfl
theorem cells_fresh {d : Nat} {v : TV V.N} {cs : List (TV V.N)} (h : TV.cells V v = some cs) (hv : TV.has d v = false) : TV.hasL d cs = false := by
 cases v with
 | lf t x =>
  simp only [TV.cells, Option.some.injEq] at h
  subst h
  exact hasL_false fun y hy => by
   obtain ⟨l, _, rfl⟩ := List.mem_map.1 hy
   simp [TV.has]
 | raw v =>
  simp only [TV.cells] at h
  split at h
  ·simp at h; subst h; simp [TV.hasL, TV.has]
  ·cases h
 | agg cs' => simp only [TV.cells, Option.some.injEq] at h; subst h; simpa [TV.has] using hv
 | tup vs => simp [TV.cells] at h
 | junk => simp [TV.cells] at h
 | rp t x off => simp [TV.cells] at h; subst h; simp [TV.hasL, TV.has]
 | bp n off => simp [TV.cells] at h; subst h; simpa [TV.hasL] using hv
 | vh n => simp [TV.cells] at h; subst h; simpa [TV.hasL] using hv
 | ep n s i off => simp [TV.cells] at h; subst h; simpa [TV.hasL] using hv
 | sv n s i off => simp [TV.cells] at h; subst h; simpa [TV.hasL] using hv
 | mp n => simp [TV.cells] at h; subst h; simpa [TV.hasL] using hv
 | np n b => simp [TV.cells] at h; subst h; simpa [TV.hasL] using hv
 | sd n => simp [TV.cells] at h; subst h; simpa [TV.hasL] using hv
 | fn f a b => simp [TV.cells] at h; subst h; simpa [TV.hasL] using hv
theorem ops_box {d : Nat} {b : TO V.N} {oty : Option TypeId} {cs : List (TV V.N)} (hb : ∀ ω, encO V ω b = some (.box oty (encL V ω cs))) (hk : k { val := .bp (nm d) 0, upd := [(nm d, b)], new := [nm d] } = some r) (hf : TV.hasL (nm d) cs = false)
  (h : ∀ K : Eff → Prop, K { val := .bp (nm d) 0, acc := [], upd := [(nm d, some (.box oty (encL V S.len cs)))], new := [nm d] } → AVal P nm o (ev (encS V S)) (encS V S).own? K) : OpS ex P nm o S k r := by
 refine ⟨_, hk, fun m o hm => ?_, h _ (ele_upd (by simp [encV]) rfl ?_ rfl)⟩
 ·simp only [gt_cons] at hm
  split at hm
  ·rename_i e; left; simp [e]
  ·simp [gt] at hm
 ·simp only [List.map_cons, List.map_nil, hb]
  rw [zip_zero S o.dst (nm d) (.bp (nm d) 0) b cs fun n hn e => by subst e; rw [hf] at hn; cases hn]
theorem ops_own {n : Nat} {o' : TO V.N} (hk : k { val := .junk, acc := [n], upd := [(n, o')] } = some r) (hl : TO.len (some o') = S.len n)
  (h : ∀ K : Eff → Prop, K { val := .junk, acc := [n], upd := [(n, encO V S.len o')] } → AVal P nm o (ev (encS V S)) (encS V S).own? K) : OpS ex P nm o S k r := by
 have hlen : (S.app o.dst { val := .junk, acc := [n], upd := [(n, o')] }).len = S.len := by
  funext m
  rw [app_len]
  simp only [gt_cons]
  by_cases hm : n = m
  ·subst hm; simpa using hl
  ·rw [if_neg hm]; simp [gt]
 refine ⟨_, hk, fun m o hm => ?_, h _ (ele_upd (by simp [encV]) rfl ?_ rfl)⟩
 ·simp only [gt_cons] at hm
  split at hm
  ·rename_i e; simp at hm; subst hm; subst e; exact .inr hl
  ·simp [gt] at hm
 ·simp only [List.map_cons, List.map_nil]
  rw [hlen]
theorem ops_vec {d : Nat} {te : TypeId} {e : Ty V.ι} {ys : List (den V.N e)} {old : List (Nat × Nat)} {l : List Nat} (hold : ∀ p ∈ old, S.len p.1 = p.2) (hk : k { val := .vh (nm d), acc := l, upd := (nm d, .vec te e ys) :: old.map (fun p => (p.1, .gone p.2)), new := [nm d] } = some r)
  (h : ∀ K : Eff → Prop, K { val := .vh (nm d) ys.length, acc := l, upd := (nm d, some (.vec te (tsz V.sz e) (ys.map fun x => encR V.sz V.enc e x))) :: old.map (fun p => (p.1, none)), new := [nm d] } → AVal P nm o (ev (encS V S)) (encS V S).own? K) : OpS ex P nm o S k r := by
 refine ⟨_, hk, fun m o hm => ?_, h _ (ele_upd ?_ rfl ?_ rfl)⟩
 ·simp only [gt_cons] at hm
  split at hm
  ·rename_i e; left; simp [e]
  ·right
   have := gt_mem hm
   obtain ⟨p, hp, he⟩ := List.mem_map.1 this
   simp only [Prod.mk.injEq] at he
   obtain ⟨rfl, rfl⟩ := he
   exact (hold p hp).symm
 ·simp only [encV]
  rw [app_len]
  simp [gt_cons, TO.len]
 ·simp [encO, List.map_map, Function.comp_def]
theorem own_map {n : Nat} {tk tv : Ty V.ι} {es : List (den V.N tk × den V.N tv)} (h : S.own? n = some (.map tk tv es)) :
  (encS V S).own? n = some (.map (es.map fun p => (encK tk p.1, encD V.sz V.enc tv p.2))) := by rw [encS_own?, h]; rfl
theorem len_map {n : Nat} {tk tv : Ty V.ι} {es : List (den V.N tk × den V.N tv)} (h : S.own? n = some (.map tk tv es)) : S.len n = 0 := by unfold TS.len; rw [h]; rfl
theorem own_iter {n : Nat} {s : ByteArray} {p : Int} (h : S.own? n = some (.iter s p)) : (encS V S).own? n = some (.iter s p.toNat) := by rw [encS_own?, h]; rfl
theorem len_iter {n : Nat} {s : ByteArray} {p : Int} (h : S.own? n = some (.iter s p)) : S.len n = 0 := by unfold TS.len; rw [h]; rfl
theorem own_miter {n m : Nat} {tk tv : Ty V.ι} {es rest : List (den V.N tk × den V.N tv)} {cur : Option (den V.N tk × den V.N tv)} (h : S.own? n = some (.miter m tk tv es rest cur)) :
  (encS V S).own? n = some (.miter m (es.map fun p => (encK tk p.1, encD V.sz V.enc tv p.2)) (rest.map fun p => (encK tk p.1, encD V.sz V.enc tv p.2)) (cur.map fun p => (encK tk p.1, encD V.sz V.enc tv p.2))) := by rw [encS_own?, h]; rfl
theorem len_miter {n m : Nat} {tk tv : Ty V.ι} {es rest : List (den V.N tk × den V.N tv)} {cur : Option (den V.N tk × den V.N tv)} (h : S.own? n = some (.miter m tk tv es rest cur)) : S.len n = 0 := by unfold TS.len; rw [h]; rfl
theorem key_val {tk : Ty V.ι} (hk : keyTy tk = true) (x : den V.N tk) : encD V.sz V.enc tk x = .v (encK tk x) := by
 cases tk <;> first | rfl | cases hk
theorem ops_newiter {d : Nat} {s : ByteArray} (hk : k { val := .bp (nm d) 0, upd := [(nm d, .iter s 0)], new := [nm d] } = some r)
  (h : ∀ K : Eff → Prop, K { val := .bp (nm d) 0, acc := [], upd := [(nm d, some (.iter s 0))], new := [nm d] } → AVal P nm o (ev (encS V S)) (encS V S).own? K) : OpS ex P nm o S k r := by
 refine ⟨_, hk, fun m o hm => ?_, h _ (ele_upd (by simp [encV]) rfl (by simp [encO]) rfl)⟩
 simp only [gt_cons] at hm
 split at hm
 ·rename_i e; left; simp [e]
 ·simp [gt] at hm
theorem ops_gone {n l : Nat} {v : TV V.N} (hv : ∀ ω ω' : Nat → Nat, encV V ω v = encV V ω' v) (hk : k { val := v, acc := [n], upd := [(n, .gone l)] } = some r) (hl : S.len n = l)
  (h : ∀ K : Eff → Prop, K { val := encV V S.len v, acc := [n], upd := [(n, none)] } → AVal P nm o (ev (encS V S)) (encS V S).own? K) : OpS ex P nm o S k r := by
 refine ⟨_, hk, fun m o hm => ?_, h _ (ele_upd (hv _ _) rfl (by simp [encO]) rfl)⟩
 simp only [gt_cons] at hm
 split at hm
 ·rename_i e; right; simp at hm; subst hm; subst e; simp [TO.len, hl]
 ·simp [gt] at hm
theorem intsD_row (ik : IntKind) : ∀ l : List Int, intsD ik (l.map (row1 ik)) = some l
 | [] => rfl
 | n :: r => by simp [row1, intsD, intsD_row ik r]
theorem intsD_enc (ik : IntKind) (l : List (den V.N (.int ik))) : intsD ik (l.map fun x => encR V.sz V.enc (.int ik) x) = some l := intsD_row ik l
theorem runesAt_len (s : ByteArray) : ∀ n i : Nat, (Bs.runesAt s n i).length ≤ n
 | 0, _ => Nat.le_refl _
 | n + 1, i => by
  unfold Bs.runesAt
  split
  ·simp only [List.length_cons]; have := runesAt_len s n (i + (Utf8.decode s i).2); omega
  ·simp
theorem runes_len (s : ByteArray) : (Bs.runes s).length ≤ s.size := runesAt_len s _ _
theorem ops_newmap {d : Nat} {tk tv : Ty V.ι} (hk : k { val := .mp (nm d), upd := [(nm d, .map tk tv [])], new := [nm d] } = some r)
  (h : ∀ K : Eff → Prop, K { val := .mp (nm d), acc := [], upd := [(nm d, some (.map []))], new := [nm d] } → AVal P nm o (ev (encS V S)) (encS V S).own? K) : OpS ex P nm o S k r := by
 refine ⟨_, hk, fun m o hm => ?_, h _ (ele_upd (by simp [encV]) rfl (by simp [encO]) rfl)⟩
 simp only [gt_cons] at hm
 split at hm
 ·rename_i e; left; simp [e]
 ·simp [gt] at hm
theorem key_same {tk : Ty V.ι} {kind : TypeDesc} (hk : kindOk (some kind) tk = true) (x y : den V.N tk) : Instr.sameNow kind (encK tk x) (encK tk y) = some (keq tk x y) := by
 cases kind <;> cases tk <;> simp_all [kindOk, encK, keq, Instr.sameNow, Mp.ieq, Mp.beq, Mp.seq]
theorem key_simple {tk : Ty V.ι} {kind : TypeDesc} (hk : kindOk (some kind) tk = true) : simpleKey kind = true := by
 cases kind <;> cases tk <;> simp_all [kindOk, simpleKey]
theorem key_enc {tk : Ty V.ι} {kind : TypeDesc} (hk : kindOk (some kind) tk = true) (x : den V.N tk) : encD V.sz V.enc tk x = .v (encK tk x) := by
 cases kind <;> cases tk <;> simp_all [kindOk, encK, encD]
theorem find_enc {tk tv : Ty V.ι} {kind : TypeDesc} (hk : kindOk (some kind) tk = true) (x : den V.N tk) : ∀ es : List (den V.N tk × den V.N tv),
  findM kind (encK tk x) (es.map fun p => (encK tk p.1, encD V.sz V.enc tv p.2)) = some ((Mp.get (keq tk) x es).map (encD V.sz V.enc tv))
 | [] => rfl
 | p :: r => by
  simp only [List.map_cons, findM, key_same hk, Mp.get]
  cases keq tk x p.1 with
  | true => rfl
  | false => exact find_enc hk x r
theorem set_enc {tk tv : Ty V.ι} {kind : TypeDesc} (hk : kindOk (some kind) tk = true) (x : den V.N tk) (y : den V.N tv) : ∀ es : List (den V.N tk × den V.N tv),
  setM kind (encK tk x) (encD V.sz V.enc tv y) (es.map fun p => (encK tk p.1, encD V.sz V.enc tv p.2)) = some ((Mp.put (keq tk) x y es).map fun p => (encK tk p.1, encD V.sz V.enc tv p.2))
 | [] => rfl
 | p :: r => by
  simp only [List.map_cons, setM, key_same hk, Mp.put]
  cases keq tk x p.1 with
  | true => rfl
  | false => simp only [set_enc hk x y r]; rfl
theorem strict_enc {tk tv : Ty V.ι} {kind : TypeDesc} (hk : kindOk (some kind) tk = true) (x : den V.N tk) (es : List (den V.N tk × den V.N tv)) :
  strictM kind (encK tk x) (es.map fun p => (encK tk p.1, encD V.sz V.enc tv p.2)) = true := by
 unfold strictM
 rw [List.all_map, List.all_eq_true]
 intro p _
 simp only [Function.comp, key_same hk, Option.isSome_some]
theorem valsOf_spec : ∀ {ds : List D} {z : List Value}, valsOf ds = some z → ds = z.map .v
 | [], z, h => by simp [valsOf] at h; subst h; rfl
 | .v x :: r, z, h => by
  simp only [valsOf] at h
  split at h
  ·rename_i l hl
   simp at h; subst h
   rw [valsOf_spec hl]; rfl
  ·cases h
 | .agg _ :: _, _, h => by simp [valsOf] at h
 | .sl _ _ :: _, _, h => by simp [valsOf] at h
 | .rp _ :: _, _, h => by simp [valsOf] at h
theorem some_bind {α β : Type} {x : Option α} {f : α → Option β} {r : β} (h : x >>= f = some r) : ∃ y, x = some y ∧ f y = some r := by
 cases x with
 | none => cases h
 | some y => exact ⟨y, rfl, h⟩
theorem if_some {c : Prop} [Decidable c] {β : Type} {x : Option β} {r : β} (h : (if c then x else none) = some r) : c ∧ x = some r := by
 split at h
 ·exact ⟨‹_›, h⟩
 ·cases h
theorem elemV_sound {ω : Nat → Nat} {e : Ty V.ι} {x : TV V.N} {y : den V.N e} (h : elemV V ex e x = some y) :
  ∃ cs ds, TV.cells V x = some cs ∧ encL V ω cs = ds.map H.d ∧ D.Les ds (encR V.sz V.enc e y) ∧ (ex = true → ds = encR V.sz V.enc e y) := by
 unfold elemV at h
 split at h
 ·rename_i t z
  split at h
  ·rename_i ht
   subst ht
   simp only [Option.some.injEq] at h; subst h
   refine ⟨_, encR V.sz V.enc t z, rfl, ?_, D.Les.refl _, fun _ => rfl⟩
   rw [encR_cells, encL_map, List.map_map, List.map_map]
   exact List.map_congr_left fun l _ => by simp [encV]
  ·cases h
 ·split at h
  ·rename_i cs hcs
   obtain ⟨ds, e1, e2, e3⟩ := ofRow_sound (ω := ω) h
   exact ⟨cs, ds, hcs, e1, e2, e3⟩
  ·cases h
theorem rowsV_sound {ω : Nat → Nat} {e : Ty V.ι} : ∀ {i : Nat} {parts : List (Nat × TV V.N)} {ys : List (den V.N e)}, rowsV V ex e i parts = some ys →
  ∃ rows, rowsOf (tsz V.sz e) i (parts.map fun p => (p.1, encV V ω p.2)) = some rows ∧ rows.length = parts.length ∧ D.Rows rows (ys.map fun x => encR V.sz V.enc e x) ∧ (ex = true → rows = ys.map fun x => encR V.sz V.enc e x)
 | i, [], ys, h => by simp [rowsV] at h; subst h; exact ⟨[], rfl, rfl, .nil, fun _ => rfl⟩
 | i, (j, x) :: r, ys, h => by
  simp only [rowsV] at h
  obtain ⟨hij, h⟩ := if_some h
  split at h
  ·rename_i y ys' h1 h2
   simp at h; subst h
   obtain ⟨cs, ds, hcs, e1, e2, e3⟩ := elemV_sound (ω := ω) h1
   obtain ⟨rows, f1, f2, f3, f4⟩ := rowsV_sound (ω := ω) h2
   have hds : ds.length = tsz V.sz e := by rw [e2.len, encR_len]
   refine ⟨ds :: rows, ?_, by simp [f2], .cons e2 f3, fun hx => by simp [e3 hx, f4 hx]⟩
   simp only [List.map_cons, rowsOf, cells_sound (ω := ω) hcs, e1, allD_map, f1]
   rw [if_pos hij, if_pos hds]
  ·cases h
end
end Go.Tx
end
section
namespace Go.Tx
open Go.Awp
variable [Inhabited GMem]
section
variable {V : View} {P : Program} {nm : Nat → Nat} {call : Caller V} {A : Type} {S : TS V.N} {k : TE V.N → Option A} {r : A} {o : Oper} {ex : Bool}
theorem mkAgg_to (l : List H) : H.le (mkAgg l) (.agg l) := fun E M v h => by
 unfold mkAgg at h
 split at h
 ·rename_i ds hds
  obtain ⟨cs, rfl, h1, h2⟩ := h.dagg
  obtain ⟨g1, g2⟩ := allD_get hds
  refine .agg cs l (by omega) fun i c x hc hx => ?_
  rw [g2] at hx
  cases hd : ds[i]? with
  | none => rw [hd] at hx; cases hx
  | some d => rw [hd] at hx; simp at hx; subst hx; exact .d (h2 i c d hc hd)
 ·exact h
theorem mkAgg_of (l : List H) : H.le (.agg l) (mkAgg l) := fun E M v h => by
 obtain ⟨cs, rfl, h1, h2⟩ := h.hagg
 exact HRep.mk_agg h1 h2
theorem agg_le {l l' : List H} (hl : l.length = l'.length) (h : ∀ (i : Nat) (x : H), l'[i]? = some x → ∃ y, l[i]? = some y ∧ H.le y x) : H.le (.agg l) (.agg l') := fun E M v hv => by
 obtain ⟨cs, rfl, h1, h2⟩ := hv.hagg
 refine .agg cs l' (by omega) fun i c x hc hx => ?_
 obtain ⟨y, hy, hle⟩ := h i x hx
 exact hle E M c (h2 i c y hc hy)
theorem tup_le {l l' : List H} (hl : l.length = l'.length) (h : ∀ (i : Nat) (x : H), l'[i]? = some x → ∃ y, l[i]? = some y ∧ H.le y x) : H.le (.tup l) (.tup l') := fun E M v hv => by
 obtain ⟨cs, rfl, h1, h2⟩ := hv.htup
 refine .tup cs l' (by omega) fun i c x hc hx => ?_
 obtain ⟨y, hy, hle⟩ := h i x hx
 exact hle E M c (h2 i c y hc hy)
theorem OLe.vec {te : TypeId} {sz : Nat} {a b : List (List D)} (h : D.Rows a b) : OLe (.vec te sz a) (.vec te sz b) := by
 refine ⟨?_, fun _ _ _ _ _ _ h => h⟩
 rintro E M w n ⟨xs, h1, h2, h3, h4⟩
 refine ⟨xs, by rw [← h.len]; exact h1, fun r hr => ?_, fun i j r c x hr hx hc => ?_, h4⟩
 ·obtain ⟨i, hi, rfl⟩ := List.getElem_of_mem hr
  obtain ⟨y, hy, hyr⟩ := h.get i _ (List.getElem?_eq_getElem hi)
  rw [← hyr.len]; exact h2 y (List.mem_of_getElem? hy)
 ·obtain ⟨y, hy, hyr⟩ := h.get i r hr
  obtain ⟨z, hz, hzx⟩ := hyr.get j x hx
  exact hzx M c (h3 i j y c z hy hz hc)
theorem ts_move {x : Operand} (ho : o.op = .move x ∨ o.op = .assign x) (h : tx V P nm call ex o S k = some r) : OpS ex P nm o S k r := by
 have hk : k { val := tev S x } = some r := by rcases ho with ho | ho <;> simpa only [tx, ho] using h
 refine ops_val hk fun K hK => ?_
 rcases ho with ho | ho <;> (simp only [AVal, ho, ev_enc]; exact hK)
theorem ts_pick {c x y : Operand} (ho : o.op = .pick c x y) (h : tx V P nm call ex o S k = some r) : OpS ex P nm o S k r := by
 simp only [tx, ho] at h
 split at h
 ·rename_i b hb
  cases b with
  | true =>
   refine ops_val (by simpa using h) fun K hK => ?_
   simp only [AVal, ho, ev_enc, hb, encV, encD]; exact hK
  | false =>
   refine ops_val (by simpa using h) fun K hK => ?_
   simp only [AVal, ho, ev_enc, hb, encV, encD]; exact hK
 ·cases h
theorem zero_enc {ω : Nat → Nat} {z : List Value} (hz : z.all isCell = true) : encL V ω (z.map tvc) = z.map fun x => .d (.v x) := by
 rw [encL_map, List.map_map]
 rw [List.all_eq_true] at hz
 refine List.map_congr_left fun x hx => ?_
 have := hz x hx
 simp only [Function.comp, tvc_enc]
 cases x <;> first | (simp [isCell] at this; done) | rfl
theorem ts_alloc {t : TypeId} (ho : o.op = .alloc t) (h : tx V P nm call ex o S k = some r) : OpS ex P nm o S k r := by
 simp only [tx, ho] at h
 split at h
 ·rename_i z d hz hd
  obtain ⟨hz1, h⟩ := if_some h
  refine ops_box (d := d) (fun ω => rfl) h (hasL_false fun x hx => ?_) fun K hK => ?_
  ·obtain ⟨v, _, rfl⟩ := List.mem_map.1 hx
   cases v <;> simp [tvc, TV.has]
  ·simp only [AVal, ho, hz, hd]
   rw [zero_enc hz1] at hK; exact hK
 ·cases h
theorem ts_box {t : TypeId} {x : Operand} (ho : o.op = .box t x) (hf : ∀ te, k te = some r → ∀ d ∈ te.new, S.fresh d = true) (h : tx V P nm call ex o S k = some r) : OpS ex P nm o S k r := by
 simp only [tx, ho] at h
 split at h
 ·rename_i cs d hcs hd
  have hfr := hf _ h (nm d) (by simp)
  refine ops_box (d := d) (oty := keepV V t cs) (fun ω => reBox_enc hcs) h (cells_fresh hcs (tev_fresh hfr x)) fun K hK => ?_
  simp only [AVal, ho, ev_enc, cells_sound (ω := S.len) hcs, hd]
  refine ⟨keepV V t cs, ?_, hK⟩
  unfold keepV
  split
  ·exact .inr rfl
  ·exact .inl rfl
 ·cases h
theorem ts_load {t : TypeId} {x : Operand} (ho : o.op = .load t x) (h : tx V P nm call ex o S k = some r) : OpS ex P nm o S k r := by
 simp only [tx, ho] at h
 split at h
 ·rename_i ag sz ht
  split at h
  ·rename_i n off hx
   split at h
   ·rename_i v hw
    unfold wholeV at hw
    split at hw
    ·rename_i i y hn
     have hw' := if_some hw; clear hw
     obtain ⟨⟨e1, e2, e3, hot⟩, hw⟩ := hw'
     subst e1; subst e2; subst e3
     simp only [Option.some.injEq] at hw; subst hw
     have hb : boxC V (S.own? n) = some ((V.cells i y).map fun l => .lf l.t l.x) := by rw [hn]; rfl
     refine ops_val h fun K hK => ?_
     simp only [AVal, ho, ht, ev_enc, hx, own_boxC hb, bst_enc, loadC, List.drop_zero]
     rw [encV_st] at hK
     simp only [encV, own_boxC hb, bst_enc, List.length_map, List.drop_zero]
     have hl : (V.enc i y).length = V.sz i := by rw [V.enc_cells, List.length_map, V.len_cells]
     rw [if_pos (by omega), List.take_of_length_le (by rw [List.length_map]; omega), mkAgg, allD_map]
     exact hK
    ·cases hw
   ·split at h
    ·rename_i cells hc
     split at h
     ·rename_i v hv
      obtain ⟨y, h1, h2, h3⟩ := loadV_sound (ω := S.len) hv
      rw [encL_drop] at h1
      refine ops_le h fun K hK => ?_
      simp only [AVal, ho, ht, ev_enc, hx, encV, own_boxC hc, h1]
      exact hK y h2 h3
     ·cases h
    ·cases h
  ·rename_i n s i off hx
   split at h
   ·rename_i te e xs hc
    obtain ⟨hs, h⟩ := if_some h
    obtain ⟨y, hy, h⟩ := some_bind h
    split at h
    ·rename_i v hv
     obtain ⟨d, h1, h2⟩ := loadL_sound (ω := S.len) hv
     refine ops_val h fun K hK => ?_
     simp only [AVal, ho, ht, ev_enc, hx, encV, own_vec hc, List.getElem?_map, hy, Option.map_some, h1]
     refine ⟨hs, ?_⟩
     rw [← h2]; exact hK
    ·cases h
   ·cases h
  ·rename_i t' y off hx
   split at h
   ·rename_i v hv
    obtain ⟨d, h1, h2⟩ := loadL_sound (ω := S.len) hv
    refine ops_val h fun K hK => ?_
    simp only [AVal, ho, ht, ev_enc, hx, encV, h1]
    rw [← h2]; exact hK
   ·cases h
  ·cases h
 ·cases h
theorem ts_store {t : TypeId} {x y : Operand} (ho : o.op = .store t x y) (h : tx V P nm call ex o S k = some r) : OpS ex P nm o S k r := by
 simp only [tx, ho] at h
 split at h
 ·rename_i ag sz ht
  split at h
  ·rename_i n off cs hx hy
   split at h
   ·rename_i cells hc
    have h' := if_some h; clear h
    obtain ⟨⟨h1, h2, h3⟩, h⟩ := h'
    split at h
    ·rename_i hwh
     obtain ⟨e0, hsz⟩ := hwh
     subst e0
     refine ops_own h (by rw [boxC_len hc]; exact reBox_len) fun K hK => ?_
     simp only [AVal, ho, ht, ev_enc, hx, encV, own_boxC hc, cells_sound (ω := S.len) hy, encL_len]
     refine ⟨⟨h1, all_one_sound h2, h3⟩, ?_⟩
     rw [reBox_enc hy] at hK
     simp only [spliceH, encL_len, List.take_zero, List.nil_append, Nat.zero_add]
     rw [List.drop_of_length_le (by rw [encL_len]; omega), List.append_nil]
     exact hK
    ·refine ops_own h (by rw [boxC_len hc]; rfl) fun K hK => ?_
     simp only [AVal, ho, ht, ev_enc, hx, encV, own_boxC hc, cells_sound (ω := S.len) hy, encL_len]
     refine ⟨⟨h1, all_one_sound h2, h3⟩, ?_⟩
     simp only [encO, encL_app, encL_take, encL_drop] at hK
     simp only [spliceH, encL_len]
     exact hK
   ·cases h
  ·rename_i n s i off cs hx hy
   split at h
   ·rename_i te e xs hc
    obtain ⟨⟨h0, h1, h2, h3⟩, h⟩ := if_some h
    obtain ⟨x', hx', h⟩ := some_bind h
    split at h
    ·rename_i y' hy'
     obtain ⟨ds, e1, _, e3⟩ := ofRow_sound (ω := S.len) hy'
     have e3 := e3 rfl
     subst e3
     have hcs : ∃ es, allD (encL V S.len cs) = some es ∧ encR V.sz V.enc e y' = (encR V.sz V.enc e x').take off ++ es ++ (encR V.sz V.enc e x').drop (off + es.length) ∧ es.length = cs.length := by
      have hm : ∀ l : List (Leaf V.N), encL V S.len (l.map fun l => TV.lf l.t l.x) = (l.map fun l => encD V.sz V.enc l.t l.x).map H.d := by
       intro l
       rw [encL_map, List.map_map, List.map_map]
       exact List.map_congr_left fun l _ => by simp [encV]
      rw [encL_app, encL_app, hm, hm, List.map_take, List.map_drop, ← encR_cells] at e1
      have hall : ∃ es : List D, encL V S.len cs = es.map H.d := by
       have : ∀ (a b c : List H) (l : List D), a ++ b ++ c = l.map H.d → ∃ es : List D, b = es.map H.d := by
        intro a b c l hl
        refine ⟨(l.drop a.length).take b.length, ?_⟩
        rw [List.map_take, List.map_drop, ← hl]
        simp
       exact this _ _ _ _ e1
      obtain ⟨es, hes⟩ := hall
      have hlen : es.length = cs.length := by have := congrArg List.length hes; simpa [encL_len] using this.symm
      refine ⟨es, by rw [hes, allD_map], ?_, hlen⟩
      rw [hes, ← List.map_append, ← List.map_append] at e1
      have inj : ∀ (a b : List D), a.map H.d = b.map H.d → a = b := fun a b hab => by
       have := congrArg allD hab
       rw [allD_map, allD_map] at this
       simpa using this
      rw [hlen]
      exact (inj _ _ e1).symm
     obtain ⟨es, he1, he2, he3⟩ := hcs
     refine ops_own h (by rw [len_vec hc]; simp [TO.len]) fun K hK => ?_
     simp only [AVal, ho, ht, ev_enc, hx, encV, own_vec hc, cells_sound (ω := S.len) hy, encL_len, List.getElem?_map, hx', Option.map_some, he1]
     refine ⟨⟨h0, h1, all_one_sound h2, by rw [← h0]; exact h3⟩, ?_⟩
     simp only [encO, List.map_set, he2] at hK
     exact hK
    ·cases h
   ·cases h
  ·cases h
 ·cases h
theorem ts_nilCheck {x : Operand} (ho : o.op = .nilCheck x) (h : tx V P nm call ex o S k = some r) : OpS ex P nm o S k r := by
 simp only [tx, ho] at h
 split at h
 ·rename_i n off hx
  refine ops_val h fun K hK => ?_
  simp only [AVal, ho, ev_enc, hx, encV] at hK ⊢; exact hK
 ·rename_i n s i off hx
  refine ops_val h fun K hK => ?_
  simp only [AVal, ho, ev_enc, hx, encV] at hK ⊢; exact hK
 ·rename_i t x off hx
  refine ops_val h fun K hK => ?_
  simp only [AVal, ho, ev_enc, hx, encV] at hK ⊢; exact hK
 ·rename_i n b hx
  obtain ⟨hb, h⟩ := if_some h
  subst hb
  refine ops_val h fun K hK => ?_
  simp only [AVal, ho, ev_enc, hx, encV] at hK ⊢; exact hK
 ·cases h
theorem isNilC_eq {y : Operand} (h : isNilC y = true) : y = .const .nilIface := by
 unfold isNilC at h
 split at h
 ·rfl
 ·cases h
theorem ts_binOp {op : BinOp} {t t' : TypeId} {x y : Operand} (ho : o.op = .binOp op t x y t') (h : tx V P nm call ex o S k = some r) : OpS ex P nm o S k r := by
 simp only [tx, ho] at h
 split at h
 ·rename_i kx a ky b hx hy
  split at h
  ·rename_i hs
   obtain ⟨hb, h⟩ := if_some h
   cases op <;> simp only [shiftOp, reduceCtorEq, Option.some.injEq] at hs
   refine ops_val h fun K hK => ?_
   simp only [AVal, ho, ev_enc, hx, hy, encV, encD, intBin] at hK ⊢; exact ⟨hb, hK⟩
  ·rename_i hs
   obtain ⟨hb, h⟩ := if_some h
   cases op <;> simp only [shiftOp, reduceCtorEq, Option.some.injEq] at hs
   refine ops_val h fun K hK => ?_
   simp only [AVal, ho, ev_enc, hx, hy, encV, encD, intBin] at hK ⊢; exact ⟨hb, hK⟩
  rename_i hs
  obtain ⟨hk, h⟩ := if_some h
  subst hk
  cases op <;> simp only [] at h <;> first
   | (cases h; done)
   | (obtain ⟨hb, h⟩ : b ≠ 0 ∧ _ := by
       split at h
       ·cases h
       ·exact ⟨‹_›, h⟩
      refine ops_val h fun K hK => ?_
      simp only [AVal, ho, ev_enc, hx, hy, encV, encD, intBin] at hK ⊢; exact ⟨⟨trivial, hb⟩, hK⟩)
   | (refine ops_val h fun K hK => ?_
      simp only [AVal, ho, ev_enc, hx, hy, encV, encD, intBin] at hK ⊢; exact ⟨trivial, hK⟩)
 ·rename_i a b hx hy
  split at h
  ·rename_i hu
   refine ops_val h fun K hK => ?_
   simp only [AVal, ho, ev_enc, hx, hy, encV, encD] at hK ⊢; exact ⟨hu, hK⟩
  ·rename_i hu
   refine ops_val h fun K hK => ?_
   simp only [AVal, ho, ev_enc, hx, hy, encV, encD] at hK ⊢; exact ⟨hu, hK⟩
  ·cases h
 ·rename_i a b hx hy
  split at h
  ·refine ops_val h fun K hK => ?_
   simp only [AVal, ho, ev_enc, hx, hy, encV, encD] at hK ⊢; exact hK
  ·refine ops_val h fun K hK => ?_
   simp only [AVal, ho, ev_enc, hx, hy, encV, encD] at hK ⊢; exact hK
  ·obtain ⟨hl, h⟩ := if_some h
   refine ops_val h fun K hK => ?_
   simp only [AVal, ho, ev_enc, hx, hy, encV, encD] at hK ⊢; exact ⟨by unfold most at hl; omega, hK⟩
  ·cases h
 ·rename_i a n c hx hy
  split at h
  ·rename_i hu
   refine ops_val h fun K hK => ?_
   simp only [AVal, ho, ev_enc, hx, hy, encV, encRaw, encD] at hK ⊢; exact ⟨hu, hK⟩
  ·rename_i hu
   refine ops_val h fun K hK => ?_
   simp only [AVal, ho, ev_enc, hx, hy, encV, encRaw, encD] at hK ⊢; exact ⟨hu, hK⟩
  ·cases h
 ·rename_i e y ys hx hy
  split at h
  ·rename_i hu
   refine ops_val h fun K hK => ?_
   simp only [AVal, ho, ev_enc, hx, hy, encV, encRaw, encD, List.map_cons] at hK ⊢; exact ⟨hu, hK⟩
  ·rename_i hu
   refine ops_val h fun K hK => ?_
   simp only [AVal, ho, ev_enc, hx, hy, encV, encRaw, encD, List.map_cons] at hK ⊢; exact ⟨hu, hK⟩
  ·cases h
 ·rename_i n b hx hy
  split at h
  ·rename_i hu
   refine ops_val h fun K hK => ?_
   simp only [AVal, ho, ev_enc, hx, hy, encV, encRaw, encD] at hK ⊢; exact ⟨hu, hK⟩
  ·rename_i hu
   refine ops_val h fun K hK => ?_
   simp only [AVal, ho, ev_enc, hx, hy, encV, encRaw, encD] at hK ⊢; exact ⟨hu, hK⟩
  ·cases h
 ·rename_i b hx hy
  obtain ⟨⟨hu, hn⟩, h⟩ := if_some h
  have hyc := isNilC_eq hn
  split at h
  ·refine ops_val h fun K hK => ?_
   simp only [AVal, ho, ev_enc, hx, hy, encV, encRaw, encD] at hK ⊢; exact ⟨⟨hu, hyc⟩, hK⟩
  ·refine ops_val h fun K hK => ?_
   simp only [AVal, ho, ev_enc, hx, hy, encV, encRaw, encD] at hK ⊢; exact ⟨⟨hu, hyc⟩, hK⟩
  ·cases h
 ·cases h
theorem ts_unOp {op : UnOp} {t : TypeId} {x : Operand} (ho : o.op = .unOp op t x) (h : tx V P nm call ex o S k = some r) : OpS ex P nm o S k r := by
 simp only [tx, ho] at h
 split at h
 ·rename_i b hx
  refine ops_val h fun K hK => ?_
  simp only [AVal, ho, ev_enc, hx, encV, encD] at hK ⊢; exact hK
 ·rename_i ki n hx
  refine ops_val h fun K hK => ?_
  simp only [AVal, ho, ev_enc, hx, encV, encD] at hK ⊢; exact hK
 ·cases h
theorem ts_makeInterface {t : TypeId} {x : Operand} (ho : o.op = .makeInterface t x) (h : tx V P nm call ex o S k = some r) : OpS ex P nm o S k r := by
 simp only [tx, ho] at h
 split at h
 ·rename_i hn
  refine ops_val h fun K hK => ?_
  simp only [AVal, ho, encV, encD] at hK ⊢
  exact ⟨hn, hK⟩
 ·cases h
theorem ts_convert {s t : TypeId} {x : Operand} (ho : o.op = .convert s t x) (h : tx V P nm call ex o S k = some r) : OpS ex P nm o S k r := by
 simp only [tx, ho] at h
 split at h
 ·rename_i d ki kk n h1 h2 hx
  refine ops_val h fun K hK => ?_
  simp only [AVal, ho, h1, h2, ev_enc, hx, encV, encD] at hK ⊢; exact hK
 ·rename_i d kk n h1 h2 hx
  refine ops_val h fun K hK => ?_
  simp only [AVal, ho, h1, h2, ev_enc, hx, encV, encD] at hK ⊢; exact hK
 ·rename_i e x h1 h2 hx
  split at h
  ·rename_i d hu hd
   obtain ⟨hl, h⟩ := if_some h
   refine ops_vec (d := d) (e := .int .i32) (old := []) (fun p hp => by cases hp) h fun K hK => ?_
   simp only [AVal, ho, h1, h2, ev_enc, hx, encV, encD, hu, hd] at hK ⊢
   exact ⟨by have := runes_len x; unfold most at hl; omega, hK⟩
  ·rename_i hu
   refine ops_val h fun K hK => ?_
   simp only [AVal, ho, h1, h2, ev_enc, hx, encV, encD, encR, tsz, hu] at hK ⊢
   exact hK
  ·cases h
 ·rename_i e ik xs h1 h2 hx
  split at h
  ·rename_i hu
   refine ops_val h fun K hK => ?_
   simp only [AVal, ho, h1, h2, ev_enc, hx, encV, encD, hu] at hK ⊢
   erw [intsD_enc]
   exact ⟨rfl, hK⟩
  ·rename_i hu
   refine ops_val h fun K hK => ?_
   simp only [AVal, ho, h1, h2, ev_enc, hx, encV, encD, hu] at hK ⊢
   erw [intsD_enc]
   exact ⟨rfl, hK⟩
  ·cases h
 ·rename_i e h1 h2 hx
  split at h
  ·rename_i hu
   refine ops_val h fun K hK => ?_
   simp only [AVal, ho, h1, h2, ev_enc, hx, encV, encD, encRaw, hu] at hK ⊢; exact hK
  ·rename_i hu
   refine ops_val h fun K hK => ?_
   simp only [AVal, ho, h1, h2, ev_enc, hx, encV, encD, encRaw, hu] at hK ⊢; exact hK
  ·cases h
 ·cases h
theorem ts_range {t : TypeId} {x : Operand} (ho : o.op = .range t x) (h : tx V P nm call ex o S k = some r) : OpS ex P nm o S k r := by
 simp only [tx, ho] at h
 split at h
 ·rename_i s d ht hx hd
  refine ops_newiter h fun K hK => ?_
  simp only [AVal, ho, ht, hd, ev_enc, hx, encV, encD]
  exact hK
 ·rename_i kt et m d ht hx hd
  split at h
  ·rename_i tk tv es hown
   refine ⟨_, h, fun m' o hm => ?_, ?_⟩
   ·simp only [gt_cons] at hm
    split at hm
    ·rename_i e; left; simp [e]
    ·split at hm
     ·rename_i e; right; simp at hm; subst hm; subst e; simp [TO.len, len_map hown]
     ·simp [gt] at hm
   ·simp only [AVal, ho, ht, hd, ev_enc, hx, encV, own_map hown]
    exact ele_upd (by simp [encV]) rfl (by simp [encO]) rfl
  ·cases h
 ·cases h
theorem ts_entry {x : Operand} (ho : o.op = .entry x) (h : tx V P nm call ex o S k = some r) : OpS ex P nm o S k r := by
 simp only [tx, ho] at h
 split at h
 ·rename_i n hx
  split at h
  ·rename_i m tk tv es rest p hown
   obtain ⟨hk, h⟩ := if_some h
   refine ops_val h fun K hK => ?_
   simp only [AVal, ho, ev_enc, hx, encV, encL, own_miter hown, Option.map_some] at hK ⊢
   rw [key_val hk] at hK
   exact ⟨trivial, hK⟩
  ·cases h
 ·cases h
theorem ts_next {x : Operand} {b : Bool} (ho : o.op = .next x b) (h : tx V P nm call ex o S k = some r) : OpS ex P nm o S k r := by
 cases b with
 | false => simp only [tx, ho] at h; cases h
 | true =>
 simp only [tx, ho] at h
 split at h
 ·rename_i n hx
  split at h
  ·rename_i s p hown
   obtain ⟨h0, h⟩ := if_some h
   split at h
   ·rename_i hlt
    have hl : (Nat.blt p.toNat s.size) = true := by rw [Nat.blt_eq]; omega
    refine ⟨_, h, fun m o hm => ?_, ?_⟩
    ·simp only [gt_cons] at hm
     split at hm
     ·rename_i e; right; simp at hm; subst hm; subst e; simp [TO.len, len_iter hown]
     ·simp [gt] at hm
    ·have hp : ((p.toNat : Nat) : Int) = p := by omega
     have hw : (p + Bs.wid s p).toNat = p.toNat + (Utf8.decode s p.toNat).2 := by unfold Bs.wid; omega
     simp only [AVal, ho, ev_enc, hx, encV, own_iter hown, hl]
     refine ⟨trivial, ele_upd (by simp only [encV, encL, encD, Bs.dec, hp]) rfl (by simp [encO, hw]) rfl⟩
   ·rename_i hlt
    have hl : (Nat.blt p.toNat s.size) = false := by rw [Bool.eq_false_iff]; intro h; rw [Nat.blt_eq] at h; omega
    refine ops_val h fun K hK => ?_
    simp only [AVal, ho, ev_enc, hx, encV, encL, encD, own_iter hown, hl] at hK ⊢
    exact ⟨trivial, hK⟩
  ·cases h
 ·cases h
theorem ts_build {t : TypeId} {parts : Array (Nat × Operand)} (ho : o.op = .build t parts) (h : tx V P nm call ex o S k = some r) : OpS ex P nm o S k r := by
 simp only [tx, ho] at h
 split at h
 ·rename_i z pl hz hp
  obtain ⟨hz1, h⟩ := if_some h
  split at h
  ·rename_i cs hcs
   have hf := fillV_sound (ω := S.len) hcs
   rw [zero_enc hz1] at hf
   split at h
   ·refine ops_le h fun K hK => ?_
    simp only [AVal, ho, hz, hp, map_ev2, hf]
    exact hK _ (by rw [encV]; exact H.le.refl _) (fun _ => by rw [encV])
   ·refine ops_le h fun K hK => ?_
    simp only [AVal, ho, hz, hp, map_ev2, hf]
    exact hK _ mkV_sound.1 mkV_sound.2
  ·cases h
 ·cases h
theorem map_ev3 (S : TS V.N) (l : List (Nat × Operand)) : (l.map fun p => (p.1, fnD (Go.Awp.ev (encS V S) p.2))) = (l.map fun p => (p.1, fnT (tev S p.2))).map fun p => (p.1, encV V S.len p.2) := by
 rw [List.map_map]
 exact List.map_congr_left fun p _ => by simp only [Function.comp, ev_enc, fnT_enc]
theorem ts_buildSlice {t : TypeId} {len : Nat} {parts : Array (Nat × Operand)} (ho : o.op = .buildSlice t len parts) (h : tx V P nm call ex o S k = some r) : OpS ex P nm o S k r := by
 simp only [tx, ho] at h
 split at h
 ·rename_i te sz by_ e ht hty
  obtain ⟨hsz, h⟩ := if_some h
  subst hsz
  split at h
  ·rename_i ys hys
   obtain ⟨rows, f1, f2, f3, f4⟩ := rowsV_sound (ω := S.len) hys
   simp only [List.length_map] at f2
   obtain ⟨⟨hl, hs⟩, h⟩ := if_some h
   have hl' : rows.length = len ∧ len * tsz V.sz e ≤ 16777216 := ⟨by omega, hs⟩
   cases hd : o.dst with
   | none =>
    simp only [hd] at h
    refine ops_le h fun K hK => ?_
    simp only [AVal, ho, ht, map_ev3, f1, hd]
    refine ⟨hl', hK _ ?_ fun hx => ?_⟩
    ·simp only [encV, encD]
     exact H.le.d (D.le.sl f3)
    ·simp only [encV, encD]
     rw [f4 hx]
   | some d =>
    simp only [hd] at h
    by_cases hn : nm d = d
    ·rw [if_pos hn] at h
     refine ops_le h fun K hK => ?_
     simp only [AVal, ho, ht, map_ev3, f1, hd]
     refine ⟨hl', ?_⟩
     rw [if_pos hn]
     refine hK _ ?_ fun hx => ?_
     ·simp only [encV, encD]
      exact H.le.d (D.le.sl f3)
     ·simp only [encV, encD]
      rw [f4 hx]
    ·rw [if_neg hn] at h
     refine ⟨_, h, fun m o hm => ?_, ?_⟩
     ·simp only [gt_cons] at hm
      split at hm
      ·rename_i e; left; simp [e]
      ·simp [gt] at hm
     ·simp only [AVal, ho, ht, map_ev3, f1, hd]
      refine ⟨hl', ?_⟩
      rw [if_neg hn]
      refine { val := ?_, new := rfl, none := fun n hg => ?_, some := fun n o' hg => ?_, eq := fun hx => ?_ }
      ·simp only [encE, encV]
       rw [app_len]
       simp only [gt_cons, if_true, TO.len]
       rw [f3.len, List.length_map]
       exact H.le.refl _
      ·simp only [encE, List.map_cons, List.map_nil, gt_cons] at hg ⊢
       split at hg
       ·simp at hg
       ·rename_i hne; rw [if_neg hne]; rfl
      ·simp only [encE, List.map_cons, List.map_nil, gt_cons] at hg ⊢
       split at hg
       ·rename_i hne
        simp only [encO, Option.some.injEq] at hg
        subst hg
        exact ⟨_, by rw [if_pos hne], OLe.vec f3⟩
       ·simp [gt] at hg
      ·simp only [encE, encV, List.map_cons, List.map_nil, encO]
       rw [app_len]
       simp only [gt_cons, if_true, TO.len]
       rw [f4 hx, List.length_map]
       first | exact ⟨rfl, rfl, rfl⟩ | exact ⟨rfl, trivial⟩ | simp
  ·cases h
 ·cases h
theorem sameOp_eq {l c : Operand} (h : sameOp l c = true) : l = c := by
 cases l <;> cases c <;> simp_all [sameOp]
theorem rows_repl {e : Ty V.ι} {y : den V.N e} {ds : List D} (h1 : D.Les ds (encR V.sz V.enc e y)) : ∀ N : Nat, D.Rows (List.replicate N ds) ((List.replicate N y).map fun x => encR V.sz V.enc e x)
 | 0 => .nil
 | N + 1 => .cons h1 (rows_repl h1 N)
theorem ts_newvec {d : Nat} {te : TypeId} {e : Ty V.ι} {y : den V.N e} {ds : List D} {N : Nat} (_ : o.dst = some d) (h1 : D.Les ds (encR V.sz V.enc e y)) (h2 : ex = true → ds = encR V.sz V.enc e y)
  (h : k { val := .vh (nm d), upd := [(nm d, .vec te e (List.replicate N y))], new := [nm d] } = some r)
  (hv : ∀ K : Eff → Prop, K { val := .vh (nm d) N, acc := [], upd := [(nm d, some (.vec te (tsz V.sz e) (List.replicate N ds)))], new := [nm d] } → AVal P nm o (ev (encS V S)) (encS V S).own? K) : OpS ex P nm o S k r := by
 refine ⟨_, h, fun m o hm => ?_, hv _ ?_⟩
 ·simp only [gt_cons] at hm
  split at hm
  ·rename_i e; left; simp [e]
  ·simp [gt] at hm
 ·have f3 := rows_repl h1 N
  refine { val := ?_, new := rfl, none := fun n hg => ?_, some := fun n o' hg => ?_, eq := fun hx => ?_ }
  ·simp only [encE, encV]
   rw [app_len]
   simp only [gt_cons, if_true, TO.len, List.length_replicate]
   exact H.le.refl _
  ·simp only [encE, List.map_cons, List.map_nil, gt_cons] at hg ⊢
   split at hg
   ·simp [encO] at hg
   ·rename_i hne; rw [if_neg hne]; rfl
  ·simp only [encE, List.map_cons, List.map_nil, gt_cons] at hg ⊢
   split at hg
   ·rename_i hne
    simp only [encO, Option.some.injEq] at hg
    subst hg
    exact ⟨_, by rw [if_pos hne], OLe.vec f3⟩
   ·simp [gt] at hg
  ·simp only [encE, encV, List.map_cons, List.map_nil, encO]
   rw [app_len]
   simp only [gt_cons, if_true, TO.len, List.length_replicate, List.map_replicate, h2 hx]
   first | exact ⟨rfl, rfl, rfl⟩ | exact ⟨rfl, trivial⟩ | simp
theorem map_d_inj : ∀ {ds : List D} {z : List Value}, (z.map fun x => H.d (.v x)) = ds.map H.d → ds = z.map .v
 | [], [], _ => rfl
 | [], _ :: _, h => by simp at h
 | _ :: _, [], h => by simp at h
 | d :: ds, x :: z, h => by
  simp only [List.map_cons, List.cons.injEq, H.d.injEq] at h
  rw [← h.1, map_d_inj h.2]; rfl
theorem ts_makeSlice {t : TypeId} {l c : Operand} (ho : o.op = .makeSlice t l c) (h : tx V P nm call ex o S k = some r) : OpS ex P nm o S k r := by
 simp only [tx, ho] at h
 split at h
 ·rename_i te sz by_ e d ht hty hd
  split at h
  ·rename_i z kl n kc m hz hl hc
   split at h
   ·rename_i y hy
    have h' := if_some h; clear h
    obtain ⟨⟨hsz, hby, hzc⟩, h⟩ := h'
    subst hsz
    obtain ⟨ds, e1, e2, e3⟩ := ofRow_sound (ω := S.len) hy
    rw [zero_enc hzc] at e1
    have hds := map_d_inj e1
    subst hds
    split at h
    ·rename_i hs
     have hs := sameOp_eq hs
     subst hs
     obtain ⟨h0, h⟩ := if_some h
     obtain ⟨h1, h⟩ := if_some h
     have hnm : n = m := by rw [hl] at hc; cases hc; rfl
     subst hnm
     refine ts_newvec hd e2 e3 h fun K hK => ?_
     simp only [AVal, ho, ht, hd, hz, ev_enc, hl, hc, encV, encD]
     exact ⟨⟨.inl trivial, h0, h0, h1, hby⟩, hK⟩
    ·have h' := if_some h; clear h
     obtain ⟨h2, h⟩ := h'
     subst h2
     have h' := if_some h; clear h
     obtain ⟨h0, h⟩ := h'
     have h' := if_some h; clear h
     obtain ⟨h1, h⟩ := h'
     refine ts_newvec (N := 0) (y := y) hd e2 e3 h fun K hK => ?_
     simp only [AVal, ho, ht, hd, hz, ev_enc, hl, hc, encV, encD]
     exact ⟨⟨.inr trivial, Int.le_refl _, h0, h1, hby⟩, hK⟩
   ·cases h
  ·cases h
 ·cases h
theorem ofZ_sound {t : Ty V.ι} {d : D} {z : den V.N t} (h : ofZ V ex t d = some z) : D.le d (encD V.sz V.enc t z) ∧ (ex = true → d = encD V.sz V.enc t z) := by
 unfold ofZ at h
 split at h
 ·obtain ⟨hk, h⟩ := if_some h
  subst hk
  have h := ‹some _ = some z›
  simp only [Option.some.injEq] at h; subst h
  exact ⟨D.le.refl _, fun _ => rfl⟩
 ·cases h; exact ⟨D.le.refl _, fun _ => rfl⟩
 ·cases h; exact ⟨D.le.refl _, fun _ => rfl⟩
 ·split at h
  ·cases h
  ·cases h; exact ⟨by simp only [encD, List.map_nil]; exact D.le.nil _, fun h => by cases h⟩
 ·split at h
  ·rename_i z' hz
   obtain ⟨hc, h⟩ := if_some h
   obtain ⟨ds', e1, e2, e3⟩ := ofRow_sound (ω := fun _ => 0) h
   rw [zero_enc hc] at e1
   have := map_d_inj e1
   subst this
   rw [valsOf_spec hz]
   exact ⟨D.le.agg e2, fun hx => by rw [e3 hx]; rfl⟩
  ·cases h
 ·cases h
theorem ts_makeMap {t : TypeId} {hint : Option Operand} (ho : o.op = .makeMap t hint) (h : tx V P nm call ex o S k = some r) : OpS ex P nm o S k r := by
 simp only [tx, ho] at h
 split at h
 ·rename_i kt et d ht hd
  split at h
  ·obtain ⟨hh, h⟩ := if_some h
   refine ops_newmap h fun K hK => ?_
   have hx : hintOk (ev (encS V S)) hint = true := by
    cases hint with
    | none => rfl
    | some x =>
     simp only [hintV] at hh
     simp only [hintOk, ev_enc]
     split at hh
     ·rename_i hx; rw [hx]; simp [encV, encD]
     ·cases hh
   simp only [AVal, ho, ht, hd]
   exact ⟨hx, hK⟩
  ·cases h
 ·cases h
theorem ts_lookup {t : TypeId} {x i : Operand} {c : Bool} (ho : o.op = .lookup t x i c) (h : tx V P nm call ex o S k = some r) : OpS ex P nm o S k r := by
 simp only [tx, ho] at h
 split at h
 ·rename_i kt et n tk key ht hx hi
  split at h
  ·rename_i tk' tv es d hown hz
   split at h
   ·rename_i z hzz
    obtain ⟨z1, z2⟩ := ofZ_sound hzz
    split at h
    ·rename_i htk
     subst htk
     obtain ⟨hk, h⟩ := if_some h
     cases hkt : P.underlying kt with
     | none => rw [hkt] at hk; simp [kindOk] at hk
     | some kind =>
      rw [hkt] at hk
      have hf := find_enc (tv := tv) hk key es
      have hle : H.le (.d (((Mp.get (keq tk) key es).map (encD V.sz V.enc tv)).getD d)) (encV V S.len (.lf tv ((Mp.get (keq tk) key es).getD z))) ∧
        (ex = true → H.d (((Mp.get (keq tk) key es).map (encD V.sz V.enc tv)).getD d) = encV V S.len (.lf tv ((Mp.get (keq tk) key es).getD z))) := by
       cases Mp.get (keq tk) key es with
       | none => simp only [Option.map_none, Option.getD_none, encV]; exact ⟨H.le.d z1, fun hx => by rw [z2 hx]⟩
       | some y => simp only [Option.map_some, Option.getD_some, encV]; exact ⟨H.le.refl _, fun _ => trivial⟩
      cases c with
      | true =>
       refine ops_le h fun K hK => ?_
       simp only [AVal, ho, ht, hkt, hz, ev_enc, hx, hi, encV, key_enc hk, own_map hown, hf]
       refine ⟨⟨key_simple hk, strict_enc hk key es⟩, hK _ ?_ fun hx => ?_⟩
       ·simp only [encV, encL]
        refine tup_le rfl fun i x hx => ?_
        match i with
        | 0 => simp at hx; subst hx; exact ⟨_, rfl, by simpa only [encV] using hle.1⟩
        | 1 =>
         simp at hx; subst hx
         refine ⟨_, rfl, ?_⟩
         simp only [encD, Option.isSome_map]
         exact H.le.refl _
        | i + 2 => simp at hx
       ·simp only [encV, encL]
        have := hle.2 hx
        simp only [encV] at this
        rw [this]
        simp only [encD, Option.isSome_map]
      | false =>
       refine ops_le h fun K hK => ?_
       simp only [AVal, ho, ht, hkt, hz, ev_enc, hx, hi, encV, key_enc hk, own_map hown, hf]
       exact ⟨⟨key_simple hk, strict_enc hk key es⟩, hK _ hle.1 hle.2⟩
    ·cases h
   ·cases h
  ·cases h
 ·cases h
theorem ts_upd {t : TypeId} {x i y : Operand} (hop : ∀ (ρ : Operand → H) (ω : Nat → Option Own) (K : Eff → Prop), updM P ρ ω t x i y K → AVal P nm o ρ ω K) (h : tupd V P t x i y S k = some r) : OpS ex P nm o S k r := by
 simp only [tupd] at h
 split at h
 ·rename_i kt et n tk key tv z ht hx hi hy
  split at h
  ·rename_i tk' tv' es hown
   split at h
   ·rename_i htk
    subst htk
    split at h
    ·rename_i htv
     subst htv
     obtain ⟨hk, h⟩ := if_some h
     cases hkt : P.underlying kt with
     | none => rw [hkt] at hk; simp [kindOk] at hk
     | some kind =>
      rw [hkt] at hk
      refine ops_own h (by rw [len_map hown]; rfl) fun K hK => hop _ _ _ ?_
      simp only [updM, ht, hkt, ev_enc, hx, hi, hy, encV, key_enc hk, own_map hown, set_enc hk]
      exact ⟨⟨key_simple hk, strict_enc hk key es⟩, _, (Mp.set_perm _ _ _ _ _).map _, hK⟩
    ·cases h
   ·cases h
  ·cases h
 ·cases h
theorem ts_fieldAddr {s : TypeId} {x : Operand} {f : Nat} (ho : o.op = .fieldAddr s x f) (h : tx V P nm call ex o S k = some r) : OpS ex P nm o S k r := by
 simp only [tx, ho] at h
 split at h
 ·rename_i fo hfo
  split at h
  ·rename_i n off hx
   refine ops_val h fun K hK => ?_
   simp only [AVal, ho, hfo, ev_enc, hx, encV] at hK ⊢; exact hK
  ·rename_i n sz i off hx
   refine ops_val h fun K hK => ?_
   simp only [AVal, ho, hfo, ev_enc, hx, encV] at hK ⊢; exact hK
  ·rename_i t x off hx
   obtain ⟨hl, h⟩ := if_some h
   refine ops_val h fun K hK => ?_
   simp only [AVal, ho, hfo, ev_enc, hx, encV, List.drop_drop] at hK ⊢
   refine ⟨?_, hK⟩
   rw [rcells_len] at hl
   rw [List.length_drop, encR_len]; omega
  ·cases h
 ·cases h
theorem ts_field {s : TypeId} {x : Operand} {f : Nat} (ho : o.op = .field s x f) (h : tx V P nm call ex o S k = some r) : OpS ex P nm o S k r := by
 simp only [tx, ho] at h
 split at h
 ·rename_i off ag sz t y hft hx
  obtain ⟨hc, h⟩ := if_some h
  split at h
  ·rename_i v hv
   obtain ⟨d, h1, h2⟩ := loadL_sound (ω := S.len) hv
   have he : encV V S.len (.lf t y) = .d (.agg (encR V.sz V.enc t y)) := by
    cases t <;> first | (simp [Ty.cell] at hc; done) | simp [encV, encD, encR]
   refine ops_val h fun K hK => ?_
   simp only [AVal, ho, hft, ev_enc, hx, he, h1]
   rw [← h2]; exact hK
  ·cases h
 ·rename_i off ag sz cs hft hx
  split at h
  ·rename_i v hv
   obtain ⟨y, h1, h2, h3⟩ := loadV_sound (ω := S.len) hv
   rw [encL_drop] at h1
   refine ops_le h fun K hK => ?_
   simp only [AVal, ho, hft, ev_enc, hx, encV, mkAgg]
   cases ha : allD (encL V S.len cs) with
   | none => simp only [h1]; exact hK y h2 h3
   | some ds =>
    have hds : encL V S.len cs = ds.map H.d := by
     obtain ⟨g1, g2⟩ := allD_get ha
     apply List.ext_getElem?
     intro i; rw [g2, List.getElem?_map]
    rw [hds, ← List.map_drop] at h1
    have : ∃ d, loadD ag sz (ds.drop off) = some d ∧ y = .d d := by
     cases ag with
     | false =>
      simp only [loadC, loadD] at h1 ⊢
      cases hdr : ds.drop off with
      | nil => rw [hdr] at h1; cases h1
      | cons c rr => rw [hdr] at h1; simp at h1; exact ⟨c, rfl, h1.symm⟩
     | true =>
      simp only [loadC, loadD, List.length_map] at h1 ⊢
      split at h1
      ·rename_i hle
       rw [if_pos hle]
       rw [← List.map_take, mkAgg, allD_map] at h1
       simp at h1
       exact ⟨_, rfl, h1.symm⟩
      ·cases h1
    obtain ⟨d, hd1, rfl⟩ := this
    simp only [hd1]
    exact hK _ h2 h3
  ·cases h
 ·cases h
theorem ts_indexAddr {t : TypeId} {x i : Operand} (ho : o.op = .indexAddr t x i) (h : tx V P nm call ex o S k = some r) : OpS ex P nm o S k r := by
 simp only [tx, ho] at h
 split at h
 ·rename_i te sz by_ ht
  split at h
  ·rename_i e xs kk n hx hi
   obtain ⟨hsz, h⟩ := if_some h
   obtain ⟨hn, h⟩ := if_some h
   obtain ⟨y, hy, h⟩ := some_bind h
   refine ops_val h fun K hK => ?_
   simp only [AVal, ho, ht, ev_enc, hx, hi, encV, encD, List.getElem?_map, hy, Option.map_some, List.drop_zero] at hK ⊢
   exact ⟨⟨hsz, hn⟩, hK⟩
  ·rename_i m kk n hx hi
   split at h
   ·rename_i te2 e xs hc
    obtain ⟨⟨h1, h2⟩, h⟩ := if_some h
    refine ops_val h fun K hK => ?_
    simp only [AVal, ho, ht, ev_enc, hx, hi, encV, encD, own_vec hc, len_vec hc] at hK ⊢
    exact ⟨⟨h1, by exact_mod_cast h2⟩, hK⟩
   ·cases h
  ·cases h
 ·cases h
theorem ts_index {t : TypeId} {x i : Operand} (ho : o.op = .index t x i) (h : tx V P nm call ex o S k = some r) : OpS ex P nm o S k r := by
 simp only [tx, ho] at h
 split at h
 ·rename_i s kk n ht hx hi
  obtain ⟨hn, h⟩ := if_some h
  obtain ⟨b, hb, h⟩ := some_bind h
  refine ops_val h fun K hK => ?_
  simp only [AVal, ho, ht, ev_enc, hx, hi, encV, encD, hb] at hK ⊢
  exact ⟨hn, hK⟩
 ·cases h
theorem ts_slice {t : TypeId} {x : Operand} {lo hi mx : Option Operand} (ho : o.op = .slice t x lo hi mx) (h : tx V P nm call ex o S k = some r) : OpS ex P nm o S k r := by
 cases mx with
 | some m => simp only [tx, ho] at h; cases h
 | none =>
 simp only [tx, ho] at h
 split at h
 ·rename_i s ht hx
  split at h
  ·rename_i l hh hl hh'
   obtain ⟨hc, h⟩ := if_some h
   refine ops_val h fun K hK => ?_
   simp only [AVal, ho, ht, ev_enc, hx, encV, encD, bnd_sound hl, bnd_sound hh'] at hK ⊢
   exact ⟨hc, hK⟩
  ·cases h
 ·rename_i te e xs ht hx
  split at h
  ·rename_i te2 sz' by_ l hh hel hl hh'
   obtain ⟨hsz, h⟩ := if_some h
   obtain ⟨hc, h⟩ := if_some h
   refine ops_val h fun K hK => ?_
   simp only [AVal, ho, ht, ev_enc, hx, encV, encD, bnd_sound hl, bnd_sound hh', hel, List.length_map, List.map_drop, List.map_take] at hK ⊢
   exact ⟨⟨hsz, hc⟩, hK⟩
  ·cases h
 ·cases h
theorem ts_extract {x : Operand} {i : Nat} (ho : o.op = .extract x i) (h : tx V P nm call ex o S k = some r) : OpS ex P nm o S k r := by
 simp only [tx, ho] at h
 split at h
 ·rename_i vs hx
  split at h
  ·rename_i v hv
   refine ops_val h fun K hK => ?_
   simp only [AVal, ho, ev_enc, hx, encV, encL_map, List.getElem?_map, hv, Option.map_some] at hK ⊢
   exact hK
  ·cases h
 ·cases h
theorem ts_makeFunc {fn : Fn} {first captured : Array Operand} (ho : o.op = .makeFunc fn first captured) (h : tx V P nm call ex o S k = some r) : OpS ex P nm o S k r := by
 cases fn with
 | func f =>
  simp only [tx, ho] at h
  refine ops_val h fun K hK => ?_
  simp only [AVal, ho, encV, map_ev] at hK ⊢; exact hK
 | _ => simp only [tx, ho] at h; cases h
theorem ts_call {c : Call} {f : Operand} (hcall : CallerOk P call) (ho : o.op = .call c) (hc : c.callee = .value f) (h : tx V P nm call ex o S k = some r) : OpS ex P nm o S k r := by
 simp only [tx, ho, hc] at h
 split at h
 ·rename_i fid first captured hf
  obtain ⟨te, h1, h2, h3⟩ := hcall A fid _ S o.dst k r h
  refine ⟨te, h1, h2, ?_⟩
  simp only [AVal, ho, hc, ev_enc, hf, encV, map_ev]
  rw [encL_app, encL_app] at h3
  obtain ⟨own, rr, own', q1, q2, q3⟩ := h3
  exact ⟨own, rr, own', q1, q2, { q3 with eq := fun _ => q3.eq rfl }⟩
 ·rename_i fid hf
  obtain ⟨te, h1, h2, h3⟩ := hcall A fid _ S o.dst k r h
  refine ⟨te, h1, h2, ?_⟩
  simp only [AVal, ho, hc, ev_enc, hf, encV, encD, map_ev]
  obtain ⟨own, rr, own', q1, q2, q3⟩ := h3
  exact ⟨own, rr, own', q1, q2, { q3 with eq := fun _ => q3.eq rfl }⟩
 ·cases h
theorem ts_builtin {c : Call} {b : Builtin} (ho : o.op = .call c) (hc : c.callee = .builtin b) (h : tx V P nm call ex o S k = some r) : OpS ex P nm o S k r := by
 simp only [tx, ho, hc, tbuiltin] at h
 split at h
 ·rename_i e xs harg
  obtain ⟨hk, h⟩ := if_some h
  refine ops_val h fun K hK => ?_
  simp only [AVal, ho, hc, map_ev, harg, encL, encV, encD, List.length_map] at hK ⊢; exact ⟨hk, hK⟩
 ·rename_i n harg
  obtain ⟨hk, h⟩ := if_some h
  refine ops_val h fun K hK => ?_
  simp only [AVal, ho, hc, map_ev, harg, encL, encV, encD] at hK ⊢; exact ⟨hk, hK⟩
 ·rename_i n harg
  split at h
  ·rename_i tk tv es hown
   obtain ⟨hk, h⟩ := if_some h
   refine ops_val h fun K hK => ?_
   simp only [AVal, ho, hc, map_ev, harg, encL, encV, encD, own_map hown, List.length_map] at hK ⊢; exact ⟨hk, hK⟩
  ·cases h
 ·rename_i s harg
  obtain ⟨hk, h⟩ := if_some h
  refine ops_val h fun K hK => ?_
  simp only [AVal, ho, hc, map_ev, harg, encL, encV, encD] at hK ⊢; exact ⟨hk, hK⟩
 ·rename_i kx a ky b harg
  refine ops_val h fun K hK => ?_
  simp only [AVal, ho, hc, map_ev, harg, encL, encV, encD] at hK ⊢; exact hK
 ·rename_i kx a ky b harg
  refine ops_val h fun K hK => ?_
  simp only [AVal, ho, hc, map_ev, harg, encL, encV, encD] at hK ⊢; exact hK
 ·rename_i x e' news harg
  split at h
  ·rename_i d t t' hd htys
   split at h
   ·rename_i te sz bytes hel
    have hone : ∀ l : List (den V.N e'), ((l.map fun x => encR V.sz V.enc e' x).all fun r => r.all D.one) = true := by
     intro l
     rw [List.all_map, List.all_eq_true]
     exact fun x _ => raw_one
    have hby : ∀ n : Nat, bytes ≤ 32768 → n ≤ most → n * bytes ≤ 140737488355328 := by
     intro n h1 h2
     have : n * bytes ≤ most * 32768 := Nat.mul_le_mul h2 h1
     unfold most at this
     omega
    split at h
    ·rename_i n
     split at h
     ·rename_i te2 e xs hc'
      split at h
      ·rename_i hee
       subst hee
       obtain ⟨⟨h1, h2, h3, h4, h5⟩, h⟩ := if_some h
       obtain ⟨h6, h⟩ := if_some h
       refine ops_vec (d := d) (old := [(n, xs.length)]) (fun p hp => by simp at hp; subst hp; exact len_vec hc') h fun K hK => ?_
       simp only [AVal, ho, hc, map_ev, harg, encL, encV, encD, hd, htys, hel, own_vec hc', List.length_map, len_vec hc'] at hK ⊢
       refine ⟨⟨h1, h2, h3, h3, trivial, hone news, hby _ h4 h6, by unfold most at h6; omega⟩, ?_⟩
       have := hK
       simp only [List.map_append, List.length_append] at this
       exact h3 ▸ this
      ·cases h
     ·cases h
    ·obtain ⟨⟨h1, h2, h3⟩, h⟩ := if_some h
     obtain ⟨h4, h⟩ := if_some h
     refine ops_vec (d := d) (old := []) (fun p hp => by cases hp) h fun K hK => ?_
     simp only [AVal, ho, hc, map_ev, harg, encL, encV, encD, encRaw, hd, htys, hel, List.length_map] at hK ⊢
     refine ⟨⟨h1, h2, hone news, hby _ h3 h4, by unfold most at h4; omega⟩, ?_⟩
     exact h2 ▸ hK
    ·cases h
   ·cases h
  ·cases h
 ·rename_i x s harg
  split at h
  ·rename_i d t t' hd htys
   split at h
   ·rename_i te sz bytes hel
    obtain ⟨⟨g1, g2, g3, g4⟩, h⟩ := if_some h
    have hs : P.underlying t' = some .string := by
     unfold isStr at g1
     split at g1
     ·assumption
     ·cases g1
    have hz : zeroX P te = some (.v (.int .u8 0)) := by
     unfold zeroU8 at g4
     split at g4
     ·rename_i n hn; have : n = 0 := by simpa using g4
      rw [this] at hn; exact hn
     ·cases g4
    split at h
    ·rename_i n _
     split at h
     ·rename_i te2 xs hc'
      obtain ⟨⟨h1, h2⟩, h⟩ := if_some h
      obtain ⟨h6, h⟩ := if_some h
      refine ops_vec (d := d) (e := .int .u8) (old := [(n, xs.length)]) (fun p hp => by simp at hp; subst hp; exact len_vec hc') h fun K hK => ?_
      simp only [AVal, ho, hc, map_ev, harg, encL, encV, encD, hd, htys, hel, own_vec hc', List.length_map, len_vec hc'] at hK ⊢
      refine ⟨⟨hs, hz, h1, g2, rfl, g3, trivial, by unfold most at h6; omega⟩, ?_⟩
      have := hK
      simp only [List.map_append, List.length_append] at this
      exact this
     ·cases h
    ·obtain ⟨h4, h⟩ := if_some h
     refine ops_vec (d := d) (e := .int .u8) (old := []) (fun p hp => by cases hp) h fun K hK => ?_
     simp only [AVal, ho, hc, map_ev, harg, encL, encV, encD, encRaw, hd, htys, hel, List.length_map] at hK ⊢
     exact ⟨⟨hs, hz, g2, g3, by unfold most at h4; omega⟩, hK⟩
    ·cases h
   ·cases h
  ·cases h
 ·rename_i n harg
  split at h
  ·rename_i te e xs hown
   obtain ⟨hk, h⟩ := if_some h
   refine ops_val h fun K hK => ?_
   simp only [AVal, ho, hc, map_ev, harg, encL, encV, encD, own_vec hown] at hK ⊢
   exact ⟨hk, hK⟩
  ·cases h
 ·rename_i n ki l harg
  split at h
  ·rename_i te xs pt it hown htys
   obtain ⟨⟨h1, h2, h3⟩, h⟩ := if_some h
   obtain ⟨⟨h4, h5⟩, h⟩ := if_some h
   have hp : P.underlying pt = some (.pointer te) := by
    unfold isPtrTo at h1
    split at h1
    ·rename_i e' he; rw [Nat.eq_of_beq_eq_true h1] at he; exact he
    ·cases h1
   refine ops_gone (fun _ _ => by simp [encV]) h (len_vec hown) fun K hK => ?_
   simp only [AVal, ho, hc, map_ev, harg, encL, encV, encD, own_vec hown, htys, List.length_map] at hK ⊢
   erw [intsD_enc]
   exact ⟨⟨hp, h2, rfl, h3, h4, by unfold most at h5; subst h4; show (xs.length : Int) ≤ 1000000000000; omega⟩, hK⟩
  ·cases h
 ·cases h
theorem tx_sound (hcall : CallerOk P call) (hf : ∀ te, k te = some r → ∀ d ∈ te.new, S.fresh d = true) (h : tx V P nm call ex o S k = some r) : OpS ex P nm o S k r := by
 cases ho : o.op with
 | move x => exact ts_move (.inl ho) h
 | assign x => exact ts_move (.inr ho) h
 | pick c x y => exact ts_pick ho h
 | alloc t => exact ts_alloc ho h
 | box t x => exact ts_box ho hf h
 | load t x => exact ts_load ho h
 | store t x y => exact ts_store ho h
 | nilCheck x => exact ts_nilCheck ho h
 | binOp op t x y t' => exact ts_binOp ho h
 | unOp op t x => exact ts_unOp ho h
 | convert s t x => exact ts_convert ho h
 | build t ps => exact ts_build ho h
 | buildSlice t n ps => exact ts_buildSlice ho h
 | fieldAddr s x f => exact ts_fieldAddr ho h
 | field s x f => exact ts_field ho h
 | indexAddr t x i => exact ts_indexAddr ho h
 | index t x i => exact ts_index ho h
 | slice t x lo hi mx => exact ts_slice ho h
 | extract x i => exact ts_extract ho h
 | makeFunc fn a b => exact ts_makeFunc ho h
 | makeInterface t x => exact ts_makeInterface ho h
 | makeSlice t l c => exact ts_makeSlice ho h
 | makeMap t c => exact ts_makeMap ho h
 | range t x => exact ts_range ho h
 | next x b => exact ts_next ho h
 | entry x => exact ts_entry ho h
 | lookup t x i c => exact ts_lookup ho h
 | mapUpdate t x i y => exact ts_upd (fun ρ ω K hh => by simpa only [AVal, ho] using hh) (by simpa only [tx, ho] using h)
 | insert t x i y => exact ts_upd (fun ρ ω K hh => by simpa only [AVal, ho] using hh) (by simpa only [tx, ho] using h)
 | call c =>
  cases hc : c.callee with
  | value f => exact ts_call hcall ho hc h
  | builtin b => exact ts_builtin ho hc h
  | invoke x m => simp only [tx, ho, hc] at h; cases h
 | _ => simp only [tx, ho] at h; cases h
end
end Go.Tx
end
