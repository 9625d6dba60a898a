/-
  A small logic of abstract states over the model of Go: data by content, memory that a function owns by name.
-/
import Derived.Below
import Derived.Orders
import Derived.WalkKit
namespace Go.Bs
/-- Numbers as bytes. -/
def bytes (ns : List Int) : ByteArray := ⟨(ns.map fun n => UInt8.ofNat n.toNat).toArray⟩
/-- Bytes as numbers. -/
def ints (s : ByteArray) : List Int := s.data.toList.map fun b => (b.toNat : Int)
/-- The code points of a text, from a place on. -/
def runesAt (s : ByteArray) : Nat → Nat → List Int
  | 0, _ => []
  | n + 1, i => if i < s.size then ((Utf8.decode s i).1 : Int) :: runesAt s n (i + (Utf8.decode s i).2) else []
def runes (s : ByteArray) : List Int := runesAt s s.size 0
/-- The text of code points. -/
def text (ns : List Int) : ByteArray := ns.foldl (fun r n => r ++ Utf8.encode n) ByteArray.empty
def dec (s : ByteArray) (i : Int) : Int := (Utf8.decode s i.toNat).1
def wid (s : ByteArray) (i : Int) : Int := (Utf8.decode s i.toNat).2
def iand (k : IntKind) (x y : Int) : Int := k.wrap ((BitVec.ofInt k.bits x &&& BitVec.ofInt k.bits y).toNat : Int)
def ior (k : IntKind) (x y : Int) : Int := k.wrap ((BitVec.ofInt k.bits x ||| BitVec.ofInt k.bits y).toNat : Int)
def ixor (k : IntKind) (x y : Int) : Int := k.wrap ((BitVec.ofInt k.bits x ^^^ BitVec.ofInt k.bits y).toNat : Int)
def iandn (k : IntKind) (x y : Int) : Int := k.wrap ((BitVec.ofInt k.bits x &&& ~~~(BitVec.ofInt k.bits y)).toNat : Int)
def ishl (k : IntKind) (x y : Int) : Int := k.wrap (x * 2 ^ min y.toNat k.bits)
def ishr (k : IntKind) (x y : Int) : Int := x.fdiv (2 ^ min y.toNat k.bits)
def enc1 (n : Int) : ByteArray := Utf8.encode n
end Go.Bs
namespace Go.Awp

/-- Memory that nobody writes any more: block, place. -/
abbrev Mem := Nat → Nat → Option Value

/-- What the program's own variables hold. -/
structure GMem where
  mem : Mem
  /-- blocks that hold an error -/
  errs : List Nat := []
  /-- blocks that are known whole, and how many cells they have -/
  whole : List (Nat × Nat) := []

def gmem [Inhabited GMem] : Mem := (default : GMem).mem

/-- Plain data: a value up to where readonly memory lies. -/
inductive D where
  | v (x : Value)
  | agg (cs : List D)
  | sl (sz : Nat) (rows : List (List D))
  | rp (cells : List D)
  | er (b : Bool)

inductive DRep (M : Mem) : Value → D → Prop
  | v (x : Value) : DRep M x (.v x)
  | agg (cs : Array Value) (l : List D) (hl : cs.size = l.length)
      (h : ∀ (i : Nat) (c : Value) (x : D), cs[i]? = some c → l[i]? = some x → DRep M c x) : DRep M (.agg cs) (.agg l)
  | slnil (sz : Nat) : DRep M (.slice none 0 0) (.sl sz [])
  | slmt (a : Addr) (cap sz : Nat) : DRep M (.slice (some a) 0 cap) (.sl sz [])
  | sl (b off len cap sz : Nat) (rows : List (List D)) (c : Nat → Value) (hlen : len = rows.length) (hcap : len ≤ cap)
      (hsz : ∀ r ∈ rows, r.length = sz) (hm : ∀ k, k < len * sz → M b (off + k) = some (c k))
      (h : ∀ (i j : Nat) (r : List D) (x : D), rows[i]? = some r → r[j]? = some x → DRep M (c (i * sz + j)) x) :
      DRep M (.slice (some ⟨b, off, none⟩) len cap) (.sl sz rows)
  | rp (b off : Nat) (cells : List D) (c : Nat → Value) (hm : ∀ k, k < cells.length → M b (off + k) = some (c k))
      (h : ∀ (j : Nat) (x : D), cells[j]? = some x → DRep M (c j) x) : DRep M (.pointer (some ⟨b, off, none⟩)) (.rp cells)
  | ern : DRep M .nilIface (.er false)
  | ere (t : TypeId) (x : Value) : DRep M (.iface t x) (.er true)

def Mem.le (M M' : Mem) : Prop := ∀ b o v, M b o = some v → M' b o = some v

theorem Mem.le_refl (M : Mem) : M.le M := fun _ _ _ h => h
theorem Mem.le_trans {M M' M'' : Mem} (h : M.le M') (k : M'.le M'') : M.le M'' := fun b o v x => k b o v (h b o v x)

theorem DRep.mono {M M' : Mem} (hM : M.le M') {v : Value} {x : D} (h : DRep M v x) : DRep M' v x := by
  induction h with
  | v x => exact .v x
  | agg cs l hl h ih => exact .agg cs l hl ih
  | slnil sz => exact .slnil sz
  | slmt a cap sz => exact .slmt a cap sz
  | sl b off len cap sz rows c hlen hcap hsz hm h ih => exact .sl b off len cap sz rows c hlen hcap hsz (fun k hk => hM _ _ _ (hm k hk)) ih
  | rp b off cells c hm h ih => exact .rp b off cells c (fun k hk => hM _ _ _ (hm k hk)) ih
  | ern => exact .ern
  | ere t x => exact .ere t x

/-- Abstract values: data, or handles on memory that is owned. -/
inductive H where
  | d (x : D)
  | junk
  | bp (n off : Nat)
  | vh (n len : Nat)
  | ep (n sz i off : Nat)
  | mp (n : Nat)
  | np (n : Nat) (b : Bool)
  | sd (n : Nat)
  | agg (cs : List H)
  | tup (vs : List H)
  | fn (f : Nat) (first captured : List H)

/-- Where what is owned lies: a pointer to a box, the header of a slice, a map. -/
abbrev Env := Nat → Value

inductive HRep (E : Env) (M : Mem) : Value → H → Prop
  | d {v : Value} {x : D} (h : DRep M v x) : HRep E M v (.d x)
  | junk (v : Value) : HRep E M v .junk
  | bp (n off b : Nat) (h : E n = .pointer (some ⟨b, 0, none⟩)) : HRep E M (.pointer (some ⟨b, off, none⟩)) (.bp n off)
  | vh (n len l c : Nat) (a : Option Addr) (h : E n = .slice a l c) (hl : len ≤ l) : HRep E M (.slice a len c) (.vh n len)
  | ep (n sz i off b l c : Nat) (h : E n = .slice (some ⟨b, 0, none⟩) l c) (hi : i < l) : HRep E M (.pointer (some ⟨b, i * sz + off, none⟩)) (.ep n sz i off)
  | mp (n r : Nat) (h : E n = .map (some r)) : HRep E M (.map (some r)) (.mp n)
  | np0 (n : Nat) : HRep E M (.pointer none) (.np n false)
  | np1 (n b : Nat) (h : E n = .pointer (some ⟨b, 0, none⟩)) : HRep E M (.pointer (some ⟨b, 0, none⟩)) (.np n true)
  | sd (n : Nat) (p : Option Addr) (h : ∀ a l c, E n = .slice a l c → l ≠ 0 → p = a) : HRep E M (.pointer p) (.sd n)
  | agg (cs : Array Value) (l : List H) (hl : cs.size = l.length)
      (h : ∀ (i : Nat) (c : Value) (x : H), cs[i]? = some c → l[i]? = some x → HRep E M c x) : HRep E M (.agg cs) (.agg l)
  | tup (cs : Array Value) (l : List H) (hl : cs.size = l.length)
      (h : ∀ (i : Nat) (c : Value) (x : H), cs[i]? = some c → l[i]? = some x → HRep E M c x) : HRep E M (.tuple cs) (.tup l)
  | fn (f : Nat) (first captured : Array Value) (l l' : List H) (hl : first.size = l.length) (hl' : captured.size = l'.length)
      (h : ∀ (i : Nat) (c : Value) (x : H), first[i]? = some c → l[i]? = some x → HRep E M c x)
      (h' : ∀ (i : Nat) (c : Value) (x : H), captured[i]? = some c → l'[i]? = some x → HRep E M c x) : HRep E M (.func (.func f) first captured) (.fn f l l')

mutual
/-- Does a value name what is owned under a name? -/
def H.has (n : Nat) : H → Bool
  | .d _ => false
  | .junk => false
  | .bp m _ => Nat.beq m n
  | .vh m _ => Nat.beq m n
  | .ep m _ _ _ => Nat.beq m n
  | .mp m => Nat.beq m n
  | .np m _ => Nat.beq m n
  | .sd m => Nat.beq m n
  | .agg cs => H.hasL n cs
  | .tup vs => H.hasL n vs
  | .fn _ a b => H.hasL n a || H.hasL n b
def H.hasL (n : Nat) : List H → Bool
  | [] => false
  | x :: r => H.has n x || H.hasL n r
end

theorem H.hasL_get {n : Nat} : ∀ {l : List H}, H.hasL n l = false → ∀ {i : Nat} {x : H}, l[i]? = some x → H.has n x = false
  | [], _, i, x, h => by simp at h
  | y :: r, hl, i, x, h => by
    rw [H.hasL, Bool.or_eq_false_iff] at hl
    cases i with
    | zero => simp at h; exact h ▸ hl.1
    | succ i => exact H.hasL_get hl.2 (by simpa using h)

/-- A value that does not name n means the same when n lies elsewhere; more readonly memory does no harm. -/
theorem HRep.mono {E E' : Env} {M M' : Mem} (hM : M.le M') {v : Value} {x : H} (h : HRep E M v x) (hE : ∀ n, H.has n x = true → E' n = E n) : HRep E' M' v x := by
  have key : ∀ n, n = n → Nat.beq n n = true := fun n _ => Nat.beq_refl n
  induction h with
  | d h => exact .d (h.mono hM)
  | junk v => exact .junk v
  | bp n off b h => exact .bp n off b (by rw [hE n (by simp [H.has])]; exact h)
  | vh n len l c a h hl => exact .vh n len l c a (by rw [hE n (by simp [H.has])]; exact h) hl
  | ep n sz i off b l c h hi => exact .ep n sz i off b l c (by rw [hE n (by simp [H.has])]; exact h) hi
  | mp n r h => exact .mp n r (by rw [hE n (by simp [H.has])]; exact h)
  | np0 n => exact .np0 n
  | np1 n b h => exact .np1 n b (by rw [hE n (by simp [H.has])]; exact h)
  | sd n p h => exact .sd n p (by rw [hE n (by simp [H.has])]; exact h)
  | agg cs l hl h ih =>
    refine .agg cs l hl fun i c x hc hx => ih i c x hc hx fun n hn => hE n ?_
    rw [H.has]
    cases hh : H.hasL n l with
    | true => rfl
    | false => have := H.hasL_get hh hx; rw [this] at hn; exact hn
  | tup cs l hl h ih =>
    refine .tup cs l hl fun i c x hc hx => ih i c x hc hx fun n hn => hE n ?_
    rw [H.has]
    cases hh : H.hasL n l with
    | true => rfl
    | false => have := H.hasL_get hh hx; rw [this] at hn; exact hn
  | fn f first captured l l' hl hl' h h' ih ih' =>
    refine .fn f first captured l l' hl hl' (fun i c x hc hx => ih i c x hc hx fun n hn => hE n ?_) (fun i c x hc hx => ih' i c x hc hx fun n hn => hE n ?_)
    · rw [H.has]
      cases hh : H.hasL n l with
      | true => rfl
      | false => have := H.hasL_get hh hx; rw [this] at hn; cases hn
    · rw [H.has]
      cases hh : H.hasL n l' with
      | true => simp
      | false => have := H.hasL_get hh hx; rw [this] at hn; cases hn

theorem HRep.le {E : Env} {M M' : Mem} (hM : M.le M') {v : Value} {x : H} (h : HRep E M v x) : HRep E M' v x := h.mono hM fun _ _ => rfl

theorem HRep.set {E : Env} {M : Mem} {v : Value} {x : H} (h : HRep E M v x) {n : Nat} {u : Value} (hn : H.has n x = false) :
    HRep (fun m => if m = n then u else E m) M v x := by
  refine h.mono (Mem.le_refl M) fun m hm => ?_
  by_cases hmn : m = n
  · subst hmn; rw [hn] at hm; cases hm
  · simp [hmn]

/-- What a function owns. -/
inductive Own where
  | box (o : Option TypeId) (cells : List H)
  | vec (elem sz : Nat) (rows : List (List D))
  | map (es : List (Value × D))
  | iter (s : ByteArray) (pos : Nat)

def Own.has (n : Nat) : Own → Bool
  | .box _ cells => H.hasL n cells
  | .vec .. => false
  | .map _ => false
  | .iter _ _ => false

/-- The block in which what is owned lies. -/
def blockOf : Value → Option Nat
  | .pointer (some a) => some a.block
  | .slice (some a) _ _ => some a.block
  | .map (some r) => some r
  | _ => none

def OwnOk (E : Env) (M : Mem) (w : World) (n : Nat) : Own → Prop
  | .box o cells => ∃ b cs ty, E n = .pointer (some ⟨b, 0, none⟩) ∧ w.heap[b]? = some (.cells cs ty (0, 0)) ∧ cs.size = cells.length ∧
      (∀ (i : Nat) (c : Value) (x : H), cs[i]? = some c → cells[i]? = some x → HRep E M c x) ∧ (∀ o, M b o = none) ∧ ∀ t, o = some t → ty = t
  | .vec e sz rows => ∃ xs : List Value, w.ownsRow 0 e sz (E n) rows.length xs ∧ (∀ r ∈ rows, r.length = sz) ∧
      (∀ (i j : Nat) (r : List D) (c : Value) (x : D), rows[i]? = some r → r[j]? = some x → xs[i * sz + j]? = some c → DRep M c x) ∧
      ∀ b, blockOf (E n) = some b → ∀ o, M b o = none
  | .map es => ∃ b es' clock, E n = .map (some b) ∧ w.heap[b]? = some (.map es' clock) ∧ es'.size = es.length ∧
      (∀ (i : Nat) (e : MapEntry) (p : Value × D), es'[i]? = some e → es[i]? = some p → e.key = p.1 ∧ DRep M e.val p.2) ∧ ∀ o, M b o = none
  | .iter s pos => ∃ b, E n = .pointer (some ⟨b, 0, none⟩) ∧ w.heap[b]? = some (.stringIter s pos) ∧ ∀ o, M b o = none

/-- The value under a key in a list of pairs. -/
def gt {α : Type} : List (Nat × α) → Nat → Option α
  | [], _ => none
  | (k, x) :: r, n => if k = n then some x else gt r n

structure AState where
  tmps : List (Nat × H)
  own : List (Nat × Option Own)

def AState.own? (S : AState) (n : Nat) : Option Own := (gt S.own n).getD none

/-- The variables of the program hold what the proofs take them to hold. -/
structure GOk [Inhabited GMem] (M : Mem) (w : World) : Prop where
  le : gmem.le M
  errs : ∀ b ∈ (default : GMem).errs, ∃ t x, M b 0 = some (.iface t x)
  whole : ∀ p ∈ (default : GMem).whole, (∃ v, M p.1 0 = some v) ∧ ∃ cs t fr, w.heap[p.1]? = some (.cells cs t fr) ∧ cs.size = p.2

theorem GOk.mono [Inhabited GMem] {M M' : Mem} {w w' : World} (h : GOk M w) (hm : M.le M') (hw : ∀ b, (∃ v, M b 0 = some v) → b < w.heap.size → w'.heap[b]? = w.heap[b]?) : GOk M' w' :=
  ⟨Mem.le_trans h.le hm, fun b hb => let ⟨t, x, e⟩ := h.errs b hb; ⟨t, x, hm _ _ _ e⟩, fun p hp => by
    obtain ⟨⟨v, hv⟩, cs, t, fr, h1, h2⟩ := h.whole p hp
    exact ⟨⟨v, hm _ _ _ hv⟩, cs, t, fr, by rw [hw p.1 ⟨v, hv⟩ (Array.getElem?_eq_some_iff.1 h1).1]; exact h1, h2⟩⟩

/-- What a function was given: the program, how many slots, the world and the readonly memory at its begin, the blocks that it may write. -/
structure Ctx [Inhabited GMem] where
  P : Program
  N : Nat
  w0 : World
  M0 : Mem
  E0 : Env
  ext : Nat → Prop
  g0 : GOk M0 w0
  gx : ∀ b, ext b → ∀ o, M0 b o = none

/-- Names from here on are given by the caller; a function makes none of them. -/
def given : Nat := 100000

set_option linter.unusedSectionVars false
variable [Inhabited GMem]

structure Sim (C : Ctx) (E : Env) (M : Mem) (S : AState) (a : Act) (w : World) : Prop where
  size : a.tmps.size = C.N
  defers : a.defers = []
  tmps : ∀ t h, gt S.tmps t = some h → ∃ v, a.tmps[t]? = some v ∧ HRep E M v h
  mem : ∀ b o v, M b o = some v → w.cell? ⟨b, o, none⟩ = some v
  own : ∀ n o, S.own? n = some o → OwnOk E M w n o
  apart : ∀ n m o o' b, n ≠ m → S.own? n = some o → S.own? m = some o' → blockOf (E n) = some b → blockOf (E m) ≠ some b
  home : ∀ n o b, S.own? n = some o → blockOf (E n) = some b → C.ext b ∨ C.w0.heap.size ≤ b
  m0 : C.M0.le M
  mnew : ∀ b o v, M b o = some v → C.M0 b o = some v ∨ C.ext b ∨ C.w0.heap.size ≤ b
  frame : ∀ k, k < C.w0.heap.size → ¬ C.ext k → w.heap[k]? = C.w0.heap[k]?
  grows : C.w0.heap.size ≤ w.heap.size
  os : w.os = C.w0.os
  tape : w.tape = C.w0.tape
  output : w.output = C.w0.output
  env : ∀ n, given ≤ n → E n = C.E0 n

theorem OwnOk.block {E : Env} {M : Mem} {w : World} {n : Nat} {o : Own} (h : OwnOk E M w n o) {b : Nat} (hb : blockOf (E n) = some b) : b < w.heap.size ∧ ∀ o, M b o = none := by
  cases o with
  | box o cells =>
    obtain ⟨b', cs, ty, hE, hw, _, _, hM, _⟩ := h
    rw [hE] at hb; simp [blockOf] at hb; subst hb
    exact ⟨(Array.getElem?_eq_some_iff.1 hw).1, hM⟩
  | vec e sz rows =>
    obtain ⟨xs, ho, _, _, hM⟩ := h
    refine ⟨?_, hM b hb⟩
    rcases ho.2 with ⟨hn, _⟩ | ⟨g, cap, cur, hv, _, hg, _⟩
    · rw [hn] at hb; simp [blockOf] at hb
    · rw [hv] at hb; simp [blockOf] at hb; subst hb
      exact (Array.getElem?_eq_some_iff.1 hg).1
  | map es =>
    obtain ⟨b', es', clock, hE, hw, _, _, hM⟩ := h
    rw [hE] at hb; simp [blockOf] at hb; subst hb
    exact ⟨(Array.getElem?_eq_some_iff.1 hw).1, hM⟩
  | iter s pos =>
    obtain ⟨b', hE, hw, hM⟩ := h
    rw [hE] at hb; simp [blockOf] at hb; subst hb
    exact ⟨(Array.getElem?_eq_some_iff.1 hw).1, hM⟩

end Go.Awp
