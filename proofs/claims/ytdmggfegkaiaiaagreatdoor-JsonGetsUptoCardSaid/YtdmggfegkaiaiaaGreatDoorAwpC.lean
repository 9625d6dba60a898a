/-
  The logic of abstract states: what an operation does to an abstract state.
-/
import Derived.Test.YtdmggfegkaiaiaaGreatDoorAwpB
namespace Go.Awp
set_option linter.unusedSectionVars false
variable [Inhabited GMem]

def isAggD : TypeDesc → Bool
  | .struct _ => true
  | .array _ _ => true
  | _ => false

/-- How a type is loaded: whether as a whole row, and how many cells. -/
def tyLoad (P : Program) (t : TypeId) : Option (Bool × Nat) :=
  match P.underlying t, P.info? t with
  | some d, some i => some (isAggD d, i.size)
  | _, _ => none

/-- Where a field lies. -/
def fieldOff (P : Program) (s : TypeId) (f : Nat) : Option Nat :=
  match P.underlying s with
  | some (.struct fs) => match fs[f]? with
    | some fd => match P.info? fd.type with
      | some i => if i.size = 0 then none else some fd.offset
      | none => none
    | none => none
  | _ => none

/-- A field's place, and how it is loaded. -/
def fieldTy (P : Program) (s : TypeId) (f : Nat) : Option (Nat × Bool × Nat) :=
  match P.underlying s with
  | some (.struct fs) => match fs[f]? with
    | some fd => match tyLoad P fd.type with
      | some (g, z) => some (fd.offset, g, z)
      | none => none
    | none => none
  | _ => none

/-- The element of a slice: its type, its cells, its bytes. -/
def elemTy (P : Program) (t : TypeId) : Option (TypeId × Nat × Nat) :=
  match P.underlying t with
  | some (.slice e) => match P.info? e with
    | some i => match i.zero with
      | some z => if z.cells.size = i.size ∧ 0 < i.size then some (e, i.size, i.bytes) else none
      | none => none
    | none => none
  | _ => none

def zeroD (P : Program) (t : TypeId) : Option (List Value) :=
  match P.info? t with
  | some i => match i.zero with
    | some z => some z.cells.toList
    | none => none
  | none => none

/-- The places of the fields of a struct. -/
def places (P : Program) (t : TypeId) : Option (List (Nat × Nat)) :=
  match P.underlying t with
  | some (.struct fs) => fs.toList.mapM fun f => (P.info? f.type).map fun i => (f.offset, i.size)
  | _ => none

def allD : List H → Option (List D)
  | [] => some []
  | .d x :: r => match allD r with
    | some l => some (x :: l)
    | none => none
  | _ :: _ => none

/-- A row of cells as one value: data if all of them are. -/
def mkAgg (cs : List H) : H := match allD cs with
  | some ds => .d (.agg ds)
  | none => .agg cs

def isCell : Value → Bool
  | .agg _ => false
  | .tuple _ => false
  | _ => true

/-- The cells of a value. -/
def H.cells : H → Option (List H)
  | .d (.agg ds) => some (ds.map .d)
  | .d (.v x) => if isCell x then some [.d (.v x)] else none
  | .d (.sl sz rows) => some [.d (.sl sz rows)]
  | .d (.rp cs) => some [.d (.rp cs)]
  | .d (.er b) => some [.d (.er b)]
  | .agg cs => some cs
  | .tup _ => none
  | .junk => none
  | .bp n o => some [.bp n o]
  | .vh n l => some [.vh n l]
  | .ep n s i o => some [.ep n s i o]
  | .mp n => some [.mp n]
  | .np n b => some [.np n b]
  | .sd n => some [.sd n]
  | .fn f a b => some [.fn f a b]

def D.one : D → Bool
  | .v x => x.oneCell'
  | .agg _ => false
  | _ => true

def H.one : H → Bool
  | .d x => x.one
  | .junk => false
  | .agg _ => false
  | .tup _ => false
  | _ => true

mutual
/-- No handle stands in it. -/
def H.plain : H → Bool
  | .d _ => true
  | .junk => true
  | .agg cs => H.plainL cs
  | .tup vs => H.plainL vs
  | .fn _ a b => H.plainL a && H.plainL b
  | _ => false
def H.plainL : List H → Bool
  | [] => true
  | x :: r => H.plain x && H.plainL r
end

mutual
theorem H.plain_has : ∀ {x : H}, H.plain x = true → ∀ n, H.has n x = false
  | .d _, _, n => by simp [H.has]
  | .junk, _, n => by simp [H.has]
  | .bp .., h, n => by simp [H.plain] at h
  | .vh .., h, n => by simp [H.plain] at h
  | .ep .., h, n => by simp [H.plain] at h
  | .mp .., h, n => by simp [H.plain] at h
  | .np .., h, n => by simp [H.plain] at h
  | .sd .., h, n => by simp [H.plain] at h
  | .agg cs, h, n => by rw [H.has]; exact H.plainL_has (by simpa [H.plain] using h) n
  | .tup cs, h, n => by rw [H.has]; exact H.plainL_has (by simpa [H.plain] using h) n
  | .fn f a b, h, n => by
    rw [H.plain, Bool.and_eq_true] at h
    rw [H.has, H.plainL_has h.1 n, H.plainL_has h.2 n]; rfl
theorem H.plainL_has : ∀ {l : List H}, H.plainL l = true → ∀ n, H.hasL n l = false
  | [], _, n => by simp [H.hasL]
  | x :: r, h, n => by
    rw [H.plainL, Bool.and_eq_true] at h
    rw [H.hasL, H.plain_has h.1 n, H.plainL_has h.2 n]; rfl
end

def loadC (ag : Bool) (sz : Nat) (cells : List H) : Option H :=
  match ag with
  | true => if sz ≤ cells.length then some (mkAgg (cells.take sz)) else none
  | false => cells.head?

def loadD (ag : Bool) (sz : Nat) (cells : List D) : Option D :=
  match ag with
  | true => if sz ≤ cells.length then some (.agg (cells.take sz)) else none
  | false => cells.head?

def AState.get (S : AState) (t : Nat) : H := (gt S.tmps t).getD .junk

def ev (S : AState) : Operand → H
  | .tmp t => S.get t
  | .const v => match v with
    | .agg cs => .d (.agg (cs.toList.map .v))
    | v => .d (.v v)
  | .global g => .d (.v (.pointer (some ⟨g, 0, none⟩)))
  | .func f => .fn f [] []

/-- What an operation does: the value, the names that it looks at, what becomes of names, the names that are new. -/
structure Eff where
  val : H
  acc : List Nat := []
  upd : List (Nat × Option Own) := []
  new : List Nat := []

/-- Values and what they stand for, one by one. -/
def HReps (E : Env) (M : Mem) (vs : Array Value) (l : List H) : Prop :=
  vs.size = l.length ∧ ∀ (i : Nat) (c : Value) (x : H), vs[i]? = some c → l[i]? = some x → HRep E M c x

def inExt (E : Env) (own : List (Nat × Own)) (b : Nat) : Prop := ∃ n o, gt own n = some o ∧ blockOf (E n) = some b

structure Owns (E : Env) (M : Mem) (w : World) (own : List (Nat × Own)) : Prop where
  ok : ∀ n o, gt own n = some o → OwnOk E M w n o
  apart : ∀ n m o o' b, n ≠ m → gt own n = some o → gt own m = some o' → blockOf (E n) = some b → blockOf (E m) ≠ some b

structure FnPost (E : Env) (M : Mem) (own : List (Nat × Own)) (w : World) (v : Value) (r : H) (own' : List (Nat × Own)) (E' : Env) (M' : Mem) (w' : World) : Prop where
  rep : HRep E' M' v r
  owns : Owns E' M' w' own'
  mle : M.le M'
  mem : ∀ b o v, M' b o = some v → w'.cell? ⟨b, o, none⟩ = some v
  mnew : ∀ b o v, M' b o = some v → M b o = some v ∨ inExt E own b ∨ w.heap.size ≤ b
  home : ∀ n o b, gt own' n = some o → blockOf (E' n) = some b → inExt E own b ∨ w.heap.size ≤ b
  frame : ∀ k, k < w.heap.size → ¬ inExt E own k → w'.heap[k]? = w.heap[k]?
  grows : w.heap.size ≤ w'.heap.size
  os : w'.os = w.os
  tape : w'.tape = w.tape
  output : w'.output = w.output
  env : ∀ n, given ≤ n → E' n = E n

/-- A function with a text of its own. -/
def callable (P : Program) (f : FuncId) : Bool :=
  match P.funcs[f]? with
  | some fn => fn.name != "runtime.NumGoroutine" && fn.body.isSome
  | none => false

/-- THE CONTRACT OF A FUNCTION: called with such args, owning that, it returns this, owning this. -/
def FnOk (P : Program) (f : FuncId) (args : List H) (own : List (Nat × Own)) (r : H) (own' : List (Nat × Own)) : Prop :=
  callable P f = true ∧ ∀ (E : Env) (M : Mem) (w : World) (vs : Array Value), GOk M w → (∀ b o v, M b o = some v → w.cell? ⟨b, o, none⟩ = some v) → Owns E M w own → HReps E M vs args →
    Calls P f vs w fun e w' => ∃ v E' M', e = .returned v ∧ FnPost E M own w v r own' E' M' w'

/-- The same where it is called: names that do not come back, and names that stay, lie where they lay. -/
def FnAt (P : Program) (f : FuncId) (args : List H) (own : List (Nat × Own)) (r : H) (own' : List (Nat × Own)) : Prop :=
  callable P f = true ∧ ∀ (E : Env) (M : Mem) (w : World) (vs : Array Value), GOk M w → (∀ b o v, M b o = some v → w.cell? ⟨b, o, none⟩ = some v) → Owns E M w own → HReps E M vs args →
    Calls P f vs w fun e w' => ∃ v E' M', e = .returned v ∧ FnPost E M own w v r own' E' M' w' ∧ ∀ n, (gt own' n = none ∨ ∃ o, gt own n = some o) → E' n = E n

/-- The names of the second list that are not in the first one. -/
def newNames (own : List (Nat × Own)) : List (Nat × Own) → List Nat
  | [] => []
  | (n, _) :: r => match gt own n with
    | some _ => newNames own r
    | none => n :: newNames own r

def callEff (r : H) (own own' : List (Nat × Own)) : Eff :=
  { val := r, acc := own.map (·.1), upd := own'.map (fun p => (p.1, some p.2)) ++ own.map (fun p => (p.1, none)), new := newNames own own' }

/-- A call of a function by its contract. -/
def ACall (P : Program) (f : FuncId) (args : List H) (ω : Nat → Option Own) (k : Eff → Prop) : Prop :=
  ∃ own r own', FnAt P f args own r own' ∧ (∀ p ∈ own, ω p.1 = some p.2) ∧ k (callEff r own own')

def intBin (op : BinOp) (k : IntKind) (x y : Int) : Option Value :=
  match op with
  | .add => some (.int k (k.wrap (x + y)))
  | .sub => some (.int k (k.wrap (x - y)))
  | .mul => some (.int k (k.wrap (x * y)))
  | .eql => some (.bool (x == y))
  | .neq => some (.bool (x != y))
  | .lss => some (.bool (decide (x < y)))
  | .leq => some (.bool (decide (x ≤ y)))
  | .gtr => some (.bool (decide (x > y)))
  | .geq => some (.bool (decide (x ≥ y)))
  | .and => some (.int k (Bs.iand k x y))
  | .or => some (.int k (Bs.ior k x y))
  | .xor => some (.int k (Bs.ixor k x y))
  | .andNot => some (.int k (Bs.iandn k x y))
  | _ => none

/-- Fields put into the cells of a struct. -/
def spliceH (cells : List H) (off : Nat) (new : List H) : List H := cells.take off ++ new ++ cells.drop (off + new.length)

def fillH (pl : List (Nat × Nat)) : List H → List (Nat × H) → Option (List H)
  | cells, [] => some cells
  | cells, (i, x) :: r => match pl[i]?, x.cells with
    | some (off, sz), some cs => if cs.length = sz ∧ off + sz ≤ cells.length then fillH pl (spliceH cells off cs) r else none
    | _, _ => none

/-- Elements that are written out, one a place. -/
def rowsOf (sz : Nat) : Nat → List (Nat × H) → Option (List (List D))
  | _, [] => some []
  | i, (j, x) :: r => if i = j then match x.cells with
      | some cs => match allD cs, rowsOf sz (i + 1) r with
        | some ds, some rows => if ds.length = sz then some (ds :: rows) else none
        | _, _ => none
      | none => none
    else none

/-- The operand of a bound, if there is one. -/
def bnd (ρ : Operand → H) : Option Operand → Int → Option Int
  | some l, _ => match ρ l with
    | .d (.v (.int _ n)) => some n
    | _ => none
  | none, n => some n

/-- Keys that are compared at once. -/
def simpleKey : TypeDesc → Bool
  | .int _ => true
  | .string => true
  | .bool => true
  | _ => false

/-- The value under a key; nothing if a key is of another kind. -/
def findM (kind : TypeDesc) (key : Value) : List (Value × D) → Option (Option D)
  | [] => some none
  | (k, d) :: r => match Instr.sameNow kind key k with
    | some true => some (some d)
    | some false => findM kind key r
    | none => none

def setM (kind : TypeDesc) (key : Value) (x : D) : List (Value × D) → Option (List (Value × D))
  | [] => some [(key, x)]
  | (k, d) :: r => match Instr.sameNow kind key k with
    | some true => some ((key, x) :: r)
    | some false => match setM kind key x r with
      | some l => some ((k, d) :: l)
      | none => none
    | none => none

/-- The zero value of a type, as data. -/
def zeroX (P : Program) (t : TypeId) : Option D := match P.info? t with
  | some i => match i.zero with
    | some (.agg cs) => some (.agg (cs.toList.map .v))
    | some v => some (.v v)
    | none => none
  | none => none

/-- A slice type. -/
def isSl (P : Program) (t : TypeId) : Bool := match P.underlying t with
  | some (.slice _) => true
  | _ => false

/-- What kind of type the first argument of a builtin has. -/
def argKind (P : Program) : List TypeId → Nat
  | [] => 0
  | t :: _ => match P.underlying t with
    | some .string => 1
    | some (.slice _) => 2
    | some (.map _ _) => 3
    | _ => 0

def updM (P : Program) (ρ : Operand → H) (ω : Nat → Option Own) (t : TypeId) (x i y : Operand) (k : Eff → Prop) : Prop := match P.underlying t with
    | some (.map kt _) => match P.underlying kt, ρ x, ρ i, ρ y with
      | some kind, .mp n, .d (.v key), .d dv => match ω n with
        | some (.map es) => match setM kind key dv es with
          | some es' => (simpleKey kind = true) ∧ k { val := .junk, acc := [n], upd := [(n, some (.map es'))] }
          | none => False
        | _ => False
      | _, _, _, _ => False
    | _ => False

def hintOk (ρ : Operand → H) : Option Operand → Bool
  | none => true
  | some x => match ρ x with
    | .d (.v (.int _ _)) => true
    | _ => false

def isIf (P : Program) (t : TypeId) : Bool := match P.underlying t with
  | some (.interface _) => true
  | _ => false

def isPtr (P : Program) (t : TypeId) : Bool := match P.underlying t with
  | some (.pointer _) => true
  | _ => false

def row1 (k : IntKind) (n : Int) : List D := [.v (.int k n)]

/-- Rows of numbers of one kind. -/
def intsD (k : IntKind) : List (List D) → Option (List Int)
  | [] => some []
  | [.v (.int k' n)] :: r => if k' = k then match intsD k r with
    | some l => some (n :: l)
    | none => none
    else none
  | _ :: _ => none

/-- A struct of two cells, a pointer the first: its type is kept. -/
def keepTy (t : TypeId) : List Value → Option TypeId
  | [.pointer none, .slice none 0 0] => some t
  | _ => none

def AVal (P : Program) (nm : Nat → Nat) (o : Oper) (ρ : Operand → H) (ω : Nat → Option Own) (k : Eff → Prop) : Prop :=
  match o.op with
  | .move x => k { val := ρ x }
  | .assign x => k { val := ρ x }
  | .pick c x y => match ρ c with
    | .d (.v (.bool t)) => k { val := if t then ρ x else ρ y }
    | _ => False
  | .alloc t => match zeroD P t, o.dst with
    | some z, some d => k { val := .bp (nm d) 0, acc := [], upd := [(nm d, some (.box (keepTy t z) (z.map fun x => .d (.v x))))], new := [nm d] }
    | _, _ => False
  | .box _ x => match (ρ x).cells, o.dst with
    | some cs, some d => k { val := .bp (nm d) 0, acc := [], upd := [(nm d, some (.box none cs))], new := [nm d] }
    | _, _ => False
  | .load t x => match tyLoad P t with
    | some (ag, sz) => match ρ x with
      | .bp n off => match ω n with
        | some (.box _ cells) => match loadC ag sz (cells.drop off) with
          | some h => k { val := h, acc := [n] }
          | none => False
        | _ => False
      | .ep n s i off => match ω n with
        | some (.vec _ s' rows) => match rows[i]? with
          | some r => match loadD ag sz (r.drop off) with
            | some x => s = s' ∧ k { val := .d x, acc := [n] }
            | none => False
          | none => False
        | _ => False
      | .d (.rp cells) => match loadD ag sz cells with
        | some x => k { val := .d x }
        | none => False
      | _ => False
    | none => False
  | .store t x y => match tyLoad P t with
    | some (_, sz) => match ρ x, (ρ y).cells with
      | .bp n off, some cs => match ω n with
        | some (.box o cells) => (cs.length = sz ∧ cs.all H.one = true ∧ off + sz ≤ cells.length) ∧ k { val := .junk, acc := [n], upd := [(n, some (.box o (spliceH cells off cs)))] }
        | _ => False
      | .ep n s i off, some cs => match ω n with
        | some (.vec e s' rows) => match rows[i]?, allD cs with
          | some r, some ds => (s = s' ∧ cs.length = sz ∧ cs.all H.one = true ∧ off + sz ≤ s') ∧
              k { val := .junk, acc := [n], upd := [(n, some (.vec e s' (rows.set i (r.take off ++ ds ++ r.drop (off + ds.length)))))] }
          | _, _ => False
        | _ => False
      | _, _ => False
    | none => False
  | .nilCheck x => match ρ x with
    | .bp n off => k { val := .bp n off }
    | .ep n s i off => k { val := .ep n s i off }
    | .d (.rp cells) => k { val := .d (.rp cells) }
    | .np n b => match b with
      | true => k { val := .bp n 0 }
      | false => False
    | _ => False
  | .binOp op xt x y _ => match ρ x, ρ y with
    | .d (.v (.int kx a)), .d (.v (.int ky b)) => match intBin op kx a b with
      | some v => kx = ky ∧ k { val := .d (.v v) }
      | none => match op with
        | .quo => (kx = ky ∧ b ≠ 0) ∧ k { val := .d (.v (.int kx (kx.wrap (a.tdiv b)))) }
        | .rem => (kx = ky ∧ b ≠ 0) ∧ k { val := .d (.v (.int kx (a.tmod b))) }
        | .shl => (0 ≤ b) ∧ k { val := .d (.v (.int kx (Bs.ishl kx a b))) }
        | .shr => (0 ≤ b) ∧ k { val := .d (.v (.int kx (Bs.ishr kx a b))) }
        | _ => False
    | .d (.v (.bool a)), .d (.v (.bool b)) => match op with
      | .eql => (P.underlying xt = some .bool) ∧ k { val := .d (.v (.bool (a == b))) }
      | .neq => (P.underlying xt = some .bool) ∧ k { val := .d (.v (.bool (!(a == b)))) }
      | _ => False
    | .d (.v (.string a)), .d (.v (.string b)) => match op with
      | .eql => k { val := .d (.v (.bool (a.toList == b.toList))) }
      | .neq => k { val := .d (.v (.bool (!(a.toList == b.toList)))) }
      | .add => (a.size + b.size ≤ 1000000000000) ∧ k { val := .d (.v (.string (a ++ b))) }
      | _ => False
    | .d (.v (.slice a _ _)), .d (.v (.slice none 0 0)) => match op with
      | .eql => (isSl P xt = true) ∧ k { val := .d (.v (.bool a.isNone)) }
      | .neq => (isSl P xt = true) ∧ k { val := .d (.v (.bool (!a.isNone))) }
      | _ => False
    | .d (.sl _ (_ :: _)), .d (.v (.slice none 0 0)) => match op with
      | .eql => (isSl P xt = true) ∧ k { val := .d (.v (.bool false)) }
      | .neq => (isSl P xt = true) ∧ k { val := .d (.v (.bool true)) }
      | _ => False
    | .np _ b, .d (.v (.pointer none)) => match op with
      | .eql => (isPtr P xt = true) ∧ k { val := .d (.v (.bool (!b))) }
      | .neq => (isPtr P xt = true) ∧ k { val := .d (.v (.bool b)) }
      | _ => False
    | .d (.er b), .d (.v .nilIface) => match op with
      | .eql => (isIf P xt = true ∧ y = .const .nilIface) ∧ k { val := .d (.v (.bool (!b))) }
      | .neq => (isIf P xt = true ∧ y = .const .nilIface) ∧ k { val := .d (.v (.bool b)) }
      | _ => False
    | _, _ => False
  | .unOp op _ x => match op, ρ x with
    | .not, .d (.v (.bool b)) => k { val := .d (.v (.bool (!b))) }
    | .neg, .d (.v (.int ki n)) => k { val := .d (.v (.int ki (ki.wrap (0 - n)))) }
    | _, _ => False
  | .convert s t x => match P.underlying s, P.underlying t, ρ x with
    | some _, some (.int ki), .d (.v (.int _ n)) => k { val := .d (.v (.int ki (ki.wrap n))) }
    | some _, some .string, .d (.v (.int _ n)) => k { val := .d (.v (.string (Bs.enc1 n))) }
    | some .string, some (.slice e), .d (.v (.string s)) => match P.underlying e, o.dst with
      | some (.int .i32), some d => ((Bs.runes s).length ≤ 1000000000000) ∧ k { val := .vh (nm d) (Bs.runes s).length, acc := [], upd := [(nm d, some (.vec e 1 ((Bs.runes s).map (row1 .i32))))], new := [nm d] }
      | _, _ => False
    | some (.slice e), some .string, .d (.sl z rows) => match P.underlying e with
      | some (.int .i32) => match intsD .i32 rows with
        | some ns => (z = 1) ∧ k { val := .d (.v (.string (Bs.text ns))) }
        | none => False
      | some (.int .u8) => match intsD .u8 rows with
        | some ns => (z = 1) ∧ k { val := .d (.v (.string (Bs.bytes ns))) }
        | none => False
      | _ => False
    | some (.slice e), some .string, .d (.v (.slice none 0 0)) => match P.underlying e with
      | some (.int .i32) => k { val := .d (.v (.string ByteArray.empty)) }
      | some (.int .u8) => k { val := .d (.v (.string ByteArray.empty)) }
      | _ => False
    | _, _, _ => False
  | .build t parts => match zeroD P t, places P t with
    | some z, some pl => match fillH pl (z.map fun x => .d (.v x)) (parts.toList.map fun (i, x) => (i, ρ x)) with
      | some cs => k { val := mkAgg cs }
      | none => False
    | _, _ => False
  | .buildSlice t len parts => match elemTy P t with
    | some (e, sz, _) => match rowsOf sz 0 (parts.toList.map fun (i, x) => (i, ρ x)) with
      | some rows => (rows.length = len ∧ len * sz ≤ 16777216) ∧ match o.dst with
        | some d => if nm d = d then k { val := .d (.sl sz rows) } else k { val := .vh (nm d) rows.length, acc := [], upd := [(nm d, some (.vec e sz rows))], new := [nm d] }
        | none => k { val := .d (.sl sz rows) }
      | none => False
    | none => False
  | .makeSlice t l c => match elemTy P t, o.dst with
    | some (e, sz, bytes), some d => match zeroD P e, ρ l, ρ c with
      | some z, .d (.v (.int _ n)), .d (.v (.int _ m)) => ((n = m ∨ n = 0) ∧ 0 ≤ n ∧ 0 ≤ m ∧ m ≤ 4294967296 ∧ bytes ≤ 32768) ∧
          k { val := .vh (nm d) n.toNat, acc := [], upd := [(nm d, some (.vec e sz (List.replicate n.toNat (z.map .v))))], new := [nm d] }
      | _, _, _ => False
    | _, _ => False
  | .makeMap t hint => match P.underlying t, o.dst with
    | some (.map _ _), some d => (hintOk ρ hint = true) ∧ k { val := .mp (nm d), acc := [], upd := [(nm d, some (.map []))], new := [nm d] }
    | _, _ => False
  | .lookup t x i commaOk => match P.underlying t with
    | some (.map kt et) => match P.underlying kt, zeroX P et, ρ x, ρ i with
      | some kind, some z, .mp n, .d (.v key) => match ω n with
        | some (.map es) => match findM kind key es with
          | some q => match commaOk with
            | true => (simpleKey kind = true) ∧ k { val := .tup [.d (q.getD z), .d (.v (.bool q.isSome))], acc := [n] }
            | false => (simpleKey kind = true) ∧ k { val := .d (q.getD z), acc := [n] }
          | none => False
        | _ => False
      | _, _, _, _ => False
    | _ => False
  | .mapUpdate t x i y => updM P ρ ω t x i y k
  | .insert t x i y => updM P ρ ω t x i y k
  | .range t x => match P.underlying t, ρ x, o.dst with
    | some .string, .d (.v (.string s)), some d => k { val := .bp (nm d) 0, acc := [], upd := [(nm d, some (.iter s 0))], new := [nm d] }
    | _, _, _ => False
  | .next x is => match is with
    | false => False
    | true => match ρ x with
      | .bp n off => match ω n with
        | some (.iter s pos) => match Nat.blt pos s.size with
          | true => (off = 0) ∧ k { val := .tup [.d (.v (.bool true)), .d (.v (.int .i64 pos)), .d (.v (.int .i32 (Utf8.decode s pos).1))], acc := [n], upd := [(n, some (.iter s (pos + (Utf8.decode s pos).2)))] }
          | false => (off = 0) ∧ k { val := .tup [.d (.v (.bool false))], acc := [n] }
        | _ => False
      | _ => False
  | .fieldAddr s x f => match fieldOff P s f with
    | some fo => match ρ x with
      | .bp n off => k { val := .bp n (off + fo) }
      | .ep n sz i off => k { val := .ep n sz i (off + fo) }
      | .d (.rp cells) => (fo ≤ cells.length) ∧ k { val := .d (.rp (cells.drop fo)) }
      | _ => False
    | none => False
  | .field s x f => match fieldTy P s f with
    | some (off, ag, sz) => match ρ x with
      | .d (.agg ds) => match loadD ag sz (ds.drop off) with
        | some y => k { val := .d y }
        | none => False
      | .agg cs => match loadC ag sz (cs.drop off) with
        | some y => k { val := y }
        | none => False
      | _ => False
    | none => False
  | .indexAddr t x i => match elemTy P t with
    | some (_, sz, _) => match ρ x, ρ i with
      | .d (.sl sz' rows), .d (.v (.int _ n)) => match rows[n.toNat]? with
        | some r => (sz = sz' ∧ 0 ≤ n) ∧ k { val := .d (.rp r) }
        | none => False
      | .vh m len, .d (.v (.int _ n)) => match ω m with
        | some (.vec _ _ _) => (0 ≤ n ∧ n < len) ∧ k { val := .ep m sz n.toNat 0, acc := [m] }
        | _ => False
      | _, _ => False
    | none => False
  | .index t x i => match P.underlying t, ρ x, ρ i with
    | some .string, .d (.v (.string s)), .d (.v (.int _ n)) => match s[n.toNat]? with
      | some b => (0 ≤ n) ∧ k { val := .d (.v (.int .u8 b.toNat)) }
      | none => False
    | _, _, _ => False
  | .slice t x lo hi mx => match mx with
    | some _ => False
    | none => match P.underlying t, ρ x with
      | some .string, .d (.v (.string s)) => match bnd ρ lo 0, bnd ρ hi s.size with
        | some l, some h => (0 ≤ l ∧ l ≤ h ∧ h ≤ s.size) ∧ k { val := .d (.v (.string (s.extract l.toNat h.toNat))) }
        | _, _ => False
      | some (.slice _), .d (.sl sz rows) => match elemTy P t, bnd ρ lo 0, bnd ρ hi rows.length with
        | some (_, sz', _), some l, some h => (sz' = sz ∧ 0 ≤ l ∧ l ≤ h ∧ h ≤ rows.length) ∧ k { val := .d (.sl sz ((rows.take h.toNat).drop l.toNat)) }
        | _, _, _ => False
      | some (.slice _), .vh m len => match ω m, elemTy P t, bnd ρ lo 0, bnd ρ hi len with
        | some (.vec _ _ _), some _, some l, some h => (l = 0 ∧ 0 ≤ h ∧ h ≤ len) ∧ k { val := .vh m h.toNat, acc := [m] }
        | _, _, _, _ => False
      | _, _ => False
  | .extract x i => match ρ x with
    | .tup vs => match vs[i]? with
      | some h => k { val := h }
      | none => False
    | _ => False
  | .makeFunc fn first captured => match fn with
    | .func f => k { val := .fn f (first.toList.map ρ) (captured.toList.map ρ) }
    | _ => False
  | .call c => match c.callee with
    | .value f => match ρ f with
      | .fn fid first captured => ACall P fid (first ++ c.args.toList.map ρ ++ captured) ω k
      | _ => False
    | .builtin b => match b, c.args.toList.map ρ with
      | .len, [x] => match x with
        | .d (.sl _ rows) => (argKind P c.argTypes.toList = 2) ∧ k { val := .d (.v (.int .i64 rows.length)) }
        | .vh _ n => (argKind P c.argTypes.toList = 2) ∧ k { val := .d (.v (.int .i64 n)) }
        | .mp n => match ω n with
          | some (.map es) => (argKind P c.argTypes.toList = 3) ∧ k { val := .d (.v (.int .i64 es.length)), acc := [n] }
          | _ => False
        | .d (.v (.string s)) => (argKind P c.argTypes.toList = 1) ∧ k { val := .d (.v (.int .i64 s.size)) }
        | _ => False
      | .min, [x, y] => match x, y with
        | .d (.v (.int kx a)), .d (.v (.int _ b)) => k { val := .d (.v (.int kx (min a b))) }
        | _, _ => False
      | .max, [x, y] => match x, y with
        | .d (.v (.int kx a)), .d (.v (.int _ b)) => k { val := .d (.v (.int kx (max a b))) }
        | _, _ => False
      | .append, [x, y] => match o.dst with
        | none => False
        | some d => match c.argTypes.toList with
          | [t, t'] => match elemTy P t with
            | some (e, sz, bytes) => match y with
              | .d (.sl sz' news) => match x with
                | .vh n len => match ω n with
                  | some (.vec e' s' rows) =>
                    (t = t' ∧ e = e' ∧ sz = s' ∧ sz = sz' ∧ len = rows.length ∧ news.all (fun r => r.all D.one) = true ∧ (rows.length + news.length) * bytes ≤ 140737488355328 ∧ rows.length + news.length ≤ 1000000000000) ∧
                    k { val := .vh (nm d) (len + news.length), acc := [n], upd := [(nm d, some (.vec e sz (rows ++ news))), (n, none)], new := [nm d] }
                  | _ => False
                | .d (.v (.slice none 0 0)) =>
                    (t = t' ∧ sz = sz' ∧ news.all (fun r => r.all D.one) = true ∧ news.length * bytes ≤ 140737488355328 ∧ news.length ≤ 1000000000000) ∧
                    k { val := .vh (nm d) news.length, acc := [], upd := [(nm d, some (.vec e sz news))], new := [nm d] }
                | _ => False
              | .d (.v (.string s)) => match x with
                | .vh n len => match ω n with
                  | some (.vec e' s' rows) =>
                    (P.underlying t' = some .string ∧ zeroX P e = some (.v (.int .u8 0)) ∧ e = e' ∧ sz = 1 ∧ s' = 1 ∧ bytes = 1 ∧ len = rows.length ∧ rows.length + s.size ≤ 1000000000000) ∧
                    k { val := .vh (nm d) (len + (Bs.ints s).length), acc := [n], upd := [(nm d, some (.vec e 1 (rows ++ (Bs.ints s).map (row1 .u8)))), (n, none)], new := [nm d] }
                  | _ => False
                | .d (.v (.slice none 0 0)) =>
                    (P.underlying t' = some .string ∧ zeroX P e = some (.v (.int .u8 0)) ∧ sz = 1 ∧ bytes = 1 ∧ s.size ≤ 1000000000000) ∧
                    k { val := .vh (nm d) (Bs.ints s).length, acc := [], upd := [(nm d, some (.vec e 1 ((Bs.ints s).map (row1 .u8))))], new := [nm d] }
                | _ => False
              | _ => False
            | none => False
          | _ => False
      | .unsafeSliceData, [x] => match x with
        | .vh n _ => match ω n with
          | some (.vec _ _ _) => (isPtr P o.type = true) ∧ k { val := .sd n, acc := [n] }
          | _ => False
        | _ => False
      | .unsafeString, [x, y] => match x, y with
        | .sd n, .d (.v (.int ki l)) => match ω n with
          | some (.vec e z rows) => match intsD .u8 rows, c.argTypes.toList with
            | some ns, [pt, _] => (P.underlying pt = some (.pointer e) ∧ P.cellsOf e = 1 ∧ z = 1 ∧ ki = .i64 ∧ l = rows.length ∧ l ≤ 1000000000000) ∧
                k { val := .d (.v (.string (Bs.bytes ns))), acc := [n], upd := [(n, none)] }
            | _, _ => False
          | _ => False
        | _, _ => False
      | _, _ => False
    | _ => False
  | _ => False

end Go.Awp
