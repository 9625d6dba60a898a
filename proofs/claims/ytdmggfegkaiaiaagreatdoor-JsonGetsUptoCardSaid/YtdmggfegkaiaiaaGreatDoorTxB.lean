/-
  Typed states: what an operation does to a typed state, in Lean's own types.
-/
import Derived.Test.YtdmggfegkaiaiaaGreatDoorTxA
namespace Go.Tx
open Go.Awp
set_option linter.unusedSectionVars false
variable [Inhabited GMem]

/-- What an operation does. -/
structure TE {ι : Type} (N : ι → Type) where
  val : TV N
  acc : List Nat := []
  upd : List (Nat × TO N) := []
  new : List Nat := []

section
variable {ι : Type} {N : ι → Type}

def tvc : Value → TV N
  | .int k n => .lf (.int k) n
  | .bool b => .lf .bool b
  | .string s => .lf .str s
  | v => .raw v

def isNilC : Operand → Bool
  | .const .nilIface => true
  | _ => false

def tev (S : TS N) : Operand → TV N
  | .tmp t => S.get t
  | .const v => tvc v
  | .global g => .raw (.pointer (some ⟨g, 0, none⟩))
  | .func f => .fn f [] []

def TV.one : TV N → Bool
  | .lf t _ => t.cell
  | .raw v => isCell v && v.oneCell'
  | .bp .. => true
  | .vh .. => true
  | .ep .. => true
  | .mp .. => true
  | .np .. => true
  | .sd .. => true
  | .rp .. => true
  | .fn .. => true
  | _ => false

def putV (dst : Option Tmp) (x : TV N) (l : List (Nat × TV N)) : List (Nat × TV N) := match dst with | some d => (d, x) :: l | none => l

def TS.app (S : TS N) (dst : Option Tmp) (e : TE N) : TS N := { tmps := putV dst e.val S.tmps, own := e.upd ++ S.own }
end

section
variable (V : View)

def leafOf (ex : Bool) (t : Ty V.ι) : TV V.N → Option (Leaf V.N)
  | .lf t' x => some ⟨t', x⟩
  | .raw v => match ex with
    | true => none
    | false => match v, t with
      | .slice none 0 0, .sl e => some ⟨.sl e, []⟩
      | .nilIface, .er => some ⟨.er, false⟩
      | _, _ => none
  | _ => none

def leavesOf (ex : Bool) : List (Ty V.ι) → List (TV V.N) → Option (List (Leaf V.N))
  | [], [] => some []
  | t :: ts, x :: xs => match leafOf V ex t x, leavesOf ex ts xs with
    | some l, some ls => some (l :: ls)
    | _, _ => none
  | _, _ => none

/-- The cells of a box. -/
def boxC : Option (TO V.N) → Option (List (TV V.N))
  | some (.box _ cells) => some cells
  | some (.bst i x) => some ((V.cells i x).map fun l => .lf l.t l.x)
  | _ => none

/-- A box that holds a struct whole is loaded whole. -/
def wholeV (ag : Bool) (off sz : Nat) (ot : Option (Ty V.ι)) : Option (TO V.N) → Option (TV V.N)
  | some (.bst i x) => if ag = true ∧ off = 0 ∧ sz = V.sz i ∧ ot = some (.st i) then some (.lf (.st i) x) else none
  | _ => none

/-- What a box becomes. -/
def boxOf (v : TV V.N) (cs : List (TV V.N)) : TO V.N := match v with
  | .lf (.st i) x => .bst i x
  | _ => .box none cs

def boxO : Option (TO V.N) → Option TypeId
  | some (.box o _) => o
  | _ => none

/-- What a box becomes whose cells all turn. -/
def reBox (o : Option TypeId) (v : TV V.N) (cs : List (TV V.N)) : TO V.N := match o with
  | none => boxOf V v cs
  | some t => .box (some t) cs

/-- Cells as one value. -/
def mkV (ex : Bool) (ot : Option (Ty V.ι)) (cs : List (TV V.N)) : TV V.N := match ot with
  | some (.st i) => match leavesOf V ex (V.tys i) cs with
    | some ls => match V.ofCells i ls with
      | some x => .lf (.st i) x
      | none => .agg cs
    | none => .agg cs
  | _ => .agg cs

def rcells : (t : Ty V.ι) → den V.N t → List (Leaf V.N)
  | .st i, x => V.cells i x
  | t, x => [⟨t, x⟩]

/-- The cells of a value. -/
def TV.cells : TV V.N → Option (List (TV V.N))
  | .lf t x => some ((rcells V t x).map fun l => .lf l.t l.x)
  | .raw v => if isCell v then some [.raw v] else none
  | .agg cs => some cs
  | .tup _ => none
  | .junk => none
  | v => some [v]

/-- One element out of cells. -/
def ofRow (ex : Bool) : (e : Ty V.ι) → List (TV V.N) → Option (den V.N e)
  | .st i, cs => match leavesOf V ex (V.tys i) cs with
    | some ls => V.ofCells i ls
    | none => none
  | t, [x] => match leafOf V ex t x with
    | some l => if h : l.t = t then some (h ▸ l.x) else none
    | none => none
  | _, _ => none

def ofLeaves : (e : Ty V.ι) → List (Leaf V.N) → Option (den V.N e)
  | .st i, ls => V.ofCells i ls
  | t, [l] => if h : l.t = t then some (h ▸ l.x) else none
  | _, _ => none

def loadV (ex : Bool) (ag : Bool) (sz : Nat) (ot : Option (Ty V.ι)) (cells : List (TV V.N)) : Option (TV V.N) := match ag with
  | true => if sz ≤ cells.length then some (mkV V ex ot (cells.take sz)) else none
  | false => cells.head?

/-- Loading out of a row of data. -/
def loadL (ag : Bool) (sz : Nat) (ot : Option (Ty V.ι)) (t : Ty V.ι) (x : den V.N t) (off : Nat) : Option (TV V.N) := match ag with
  | true => if off = 0 ∧ ot = some t ∧ t.cell = false ∧ sz = tsz V.sz t then some (.lf t x) else match ot with
    | some (.st i) => if off + sz ≤ (rcells V t x).length then match V.ofCells i (((rcells V t x).drop off).take sz) with
        | some y => some (.lf (.st i) y)
        | none => none
      else none
    | _ => none
  | false => match ((rcells V t x).drop off).head? with
    | some l => some (.lf l.t l.x)
    | none => none

def fillV (pl : List (Nat × Nat)) : List (TV V.N) → List (Nat × TV V.N) → Option (List (TV V.N))
  | cells, [] => some cells
  | cells, (i, x) :: r => match pl[i]?, TV.cells V x with
    | some (off, sz), some cs => if cs.length = sz ∧ off + sz ≤ cells.length then fillV pl (cells.take off ++ cs ++ cells.drop (off + cs.length)) r else none
    | _, _ => none

/-- One element that is written out. -/
def elemV (ex : Bool) (e : Ty V.ι) (x : TV V.N) : Option (den V.N e) := match x with
  | .lf t y => if h : t = e then some (h ▸ y) else none
  | x => match TV.cells V x with
    | some cs => ofRow V ex e cs
    | none => none

/-- A struct whose nil slices are kept as they are. -/
def keepB (nm : Nat → Nat) : Option Tmp → Bool
  | some d => !(Nat.beq (nm d) d)
  | none => false

/-- Elements that are written out. -/
def rowsV (ex : Bool) (e : Ty V.ι) : Nat → List (Nat × TV V.N) → Option (List (den V.N e))
  | _, [] => some []
  | i, (j, x) :: r => if i = j then match elemV V ex e x, rowsV ex e (i + 1) r with
        | some y, some ys => some (y :: ys)
        | _, _ => none
    else none

/-- Keys that are the same. -/
def keq {ι : Type} {N : ι → Type} : (t : Ty ι) → den N t → den N t → Bool
  | .int _ => Mp.ieq
  | .bool => Mp.beq
  | .str => Mp.seq
  | _ => fun _ _ => false

/-- Keys of a type that are compared at once. -/
def kindOk {ι : Type} : Option TypeDesc → Ty ι → Bool
  | some (.int k), .int k' => decide (k = k')
  | some .string, .str => true
  | some .bool, .bool => true
  | _, _ => false

def valsOf : List D → Option (List Value)
  | [] => some []
  | .v x :: r => match valsOf r with
    | some l => some (x :: l)
    | none => none
  | _ :: _ => none

/-- The zero value of a type. -/
def ofZ (ex : Bool) : (t : Ty V.ι) → D → Option (den V.N t)
  | .int k, .v (.int k' n) => if k = k' then some n else none
  | .bool, .v (.bool b) => some b
  | .str, .v (.string s) => some s
  | .sl _, .v (.slice none 0 0) => match ex with
    | true => none
    | false => some []
  | .st i, .agg ds => match valsOf ds with
    | some z => if z.all isCell = true then ofRow V ex (.st i) (z.map tvc) else none
    | none => none
  | _, _ => none

def hintV (S : TS V.N) : Option Operand → Bool
  | none => true
  | some x => match tev S x with
    | .lf (.int _) _ => true
    | _ => false

def bndV (S : TS V.N) : Option Operand → Int → Option Int
  | some l, _ => match tev S l with
    | .lf (.int _) n => some n
    | _ => none
  | none, n => some n

/-- The same operand twice. -/
def sameOp : Operand → Operand → Bool
  | .tmp a, .tmp b => Nat.beq a b
  | _, _ => false

/-- Bounds that keep all lengths small. -/
def most : Nat := 4294967296

variable (P : Program) (nm : Nat → Nat)

/-- A program's calls. -/
abbrev Caller := (A : Type) → Nat → List (TV V.N) → TS V.N → (TE V.N → Option A) → Option A

def isStr (P : Program) (t : TypeId) : Bool := match P.underlying t with
  | some .string => true
  | _ => false

def isPtrTo (P : Program) (t e : TypeId) : Bool := match P.underlying t with
  | some (.pointer e') => Nat.beq e' e
  | _ => false

def zeroU8 (P : Program) (t : TypeId) : Bool := match zeroX P t with
  | some (.v (.int .u8 n)) => n == 0
  | _ => false

def tbuiltin {A : Type} (b : Builtin) (rt : TypeId) (args : List (TV V.N)) (tys : List TypeId) (dst : Option Tmp) (S : TS V.N) (k : TE V.N → Option A) : Option A := match b, args with
  | .len, [.lf (.sl _) xs] => if argKind P tys = 2 then k { val := .lf (.int .i64) xs.length } else none
  | .len, [.vh n] => if argKind P tys = 2 then k { val := .lf (.int .i64) (S.len n) } else none
  | .len, [.mp n] => match S.own? n with
    | some (.map _ _ es) => if argKind P tys = 3 then k { val := .lf (.int .i64) es.length, acc := [n] } else none
    | _ => none
  | .len, [.lf .str s] => if argKind P tys = 1 then k { val := .lf (.int .i64) s.size } else none
  | .min, [.lf (.int kx) a, .lf (.int _) b] => k { val := .lf (.int kx) (min a b) }
  | .max, [.lf (.int kx) a, .lf (.int _) b] => k { val := .lf (.int kx) (max a b) }
  | .append, [x, .lf (.sl e') news] => match dst, tys with
    | some d, [t, t'] => match elemTy P t with
      | some (te, sz, bytes) => match x with
        | .vh n => match S.own? n with
          | some (.vec te2 e xs) => if h : e' = e then
              if t = t' ∧ te = te2 ∧ sz = tsz V.sz e ∧ bytes ≤ 32768 ∧ ¬ n = nm d then
                if xs.length + news.length ≤ most then k { val := .vh (nm d), acc := [n], upd := [(nm d, .vec te e (xs ++ h ▸ news)), (n, .gone xs.length)], new := [nm d] } else none
              else none
            else none
          | _ => none
        | .raw (.slice none 0 0) => if t = t' ∧ sz = tsz V.sz e' ∧ bytes ≤ 32768 then
              if news.length ≤ most then k { val := .vh (nm d), upd := [(nm d, .vec te e' news)], new := [nm d] } else none
            else none
        | _ => none
      | none => none
    | _, _ => none
  | .append, [x, .lf .str s] => match dst, tys with
    | some d, [t, t'] => match elemTy P t with
      | some (te, sz, bytes) => if isStr P t' = true ∧ sz = 1 ∧ bytes = 1 ∧ zeroU8 P te = true then match x with
          | .vh n => match S.own? n with
            | some (.vec te2 (.int .u8) xs) => if te = te2 ∧ ¬ n = nm d then
                if xs.length + s.size ≤ most then k { val := .vh (nm d), acc := [n], upd := [(nm d, .vec te (.int .u8) (xs ++ Bs.ints s)), (n, .gone xs.length)], new := [nm d] } else none
              else none
            | _ => none
          | .raw (.slice none 0 0) => if s.size ≤ most then k { val := .vh (nm d), upd := [(nm d, .vec te (.int .u8) (Bs.ints s))], new := [nm d] } else none
          | _ => none
        else none
      | none => none
    | _, _ => none
  | .unsafeSliceData, [.vh n] => match S.own? n with
    | some (.vec _ _ _) => if isPtr P rt = true then k { val := .sd n, acc := [n] } else none
    | _ => none
  | .unsafeString, [.sd n, .lf (.int ki) l] => match S.own? n, tys with
    | some (.vec te (.int .u8) xs), [pt, _] => if isPtrTo P pt te = true ∧ P.cellsOf te = 1 ∧ ki = .i64 then
        if l = xs.length ∧ xs.length ≤ most then k { val := .lf .str (Bs.bytes xs), acc := [n], upd := [(n, .gone xs.length)] } else none
      else none
    | _, _ => none
  | _, _ => none

/-- A map is changed. -/
def tupd {A : Type} (t : TypeId) (x i y : Operand) (S : TS V.N) (k : TE V.N → Option A) : Option A := match P.underlying t, tev S x, tev S i, tev S y with
  | some (.map kt _), .mp n, .lf tk key, .lf tv z => match S.own? n with
    | some (.map tk' tv' es) => if h : tk = tk' then
        if h' : tv = tv' then
          if kindOk (P.underlying kt) tk' = true then k { val := .junk, acc := [n], upd := [(n, .map tk' tv' (Mp.set (keq tk') (h ▸ key) (h' ▸ z) es))] } else none
        else none
      else none
    | _ => none
  | _, _, _, _ => none

def shiftOp : BinOp → Option Bool
  | .shl => some true
  | .shr => some false
  | _ => none

/-- What an operation does, then the rest. -/
def tx {A : Type} (call : Caller V) (ex : Bool) (o : Oper) (S : TS V.N) (k : TE V.N → Option A) : Option A := match o.op with
  | .move x => k { val := tev S x }
  | .assign x => k { val := tev S x }
  | .pick c x y => match tev S c with
    | .lf .bool b => if b = true then k { val := tev S x } else k { val := tev S y }
    | _ => none
  | .alloc t => match zeroD P t, o.dst with
    | some z, some d => if z.all isCell = true then k { val := .bp (nm d) 0, upd := [(nm d, .box (keepTy t z) (z.map tvc))], new := [nm d] } else none
    | _, _ => none
  | .box _ x => match TV.cells V (tev S x), o.dst with
    | some cs, some d => k { val := .bp (nm d) 0, upd := [(nm d, boxOf V (tev S x) cs)], new := [nm d] }
    | _, _ => none
  | .load t x => match tyLoad P t with
    | some (ag, sz) => match tev S x with
      | .bp n off => match wholeV V ag off sz (V.ty t) (S.own? n) with
        | some v => k { val := v, acc := [n] }
        | none => match boxC V (S.own? n) with
          | some cells => match loadV V ex ag sz (V.ty t) (cells.drop off) with
            | some v => k { val := v, acc := [n] }
            | none => none
          | none => none
      | .ep n s i off => match S.own? n with
        | some (.vec _ e xs) => if s = tsz V.sz e then xs[i]? >>= fun x => match loadL V ag sz (V.ty t) e x off with
            | some v => k { val := v, acc := [n] }
            | none => none
          else none
        | _ => none
      | .rp t' x off => match loadL V ag sz (V.ty t) t' x off with
        | some v => k { val := v }
        | none => none
      | _ => none
    | none => none
  | .store t x y => match tyLoad P t with
    | some (_, sz) => match tev S x, TV.cells V (tev S y) with
      | .bp n off, some cs => match boxC V (S.own? n) with
        | some cells => if cs.length = sz ∧ cs.all TV.one = true ∧ off + sz ≤ cells.length then
            if off = 0 ∧ sz = cells.length then k { val := .junk, acc := [n], upd := [(n, reBox V (boxO V (S.own? n)) (tev S y) cs)] }
            else k { val := .junk, acc := [n], upd := [(n, .box (boxO V (S.own? n)) (cells.take off ++ cs ++ cells.drop (off + cs.length)))] }
          else none
        | none => none
      | .ep n s i off, some cs => match S.own? n with
        | some (.vec te e xs) => if s = tsz V.sz e ∧ cs.length = sz ∧ cs.all TV.one = true ∧ off + sz ≤ s then
            xs[i]? >>= fun x => match ofRow V true e ((((rcells V e x).take off).map fun l => .lf l.t l.x) ++ cs ++ (((rcells V e x).drop (off + cs.length)).map fun l => .lf l.t l.x)) with
              | some y => k { val := .junk, acc := [n], upd := [(n, .vec te e (xs.set i y))] }
              | none => none
          else none
        | _ => none
      | _, _ => none
    | none => none
  | .nilCheck x => match tev S x with
    | .bp n off => k { val := .bp n off }
    | .ep n s i off => k { val := .ep n s i off }
    | .rp t x off => k { val := .rp t x off }
    | .np n b => if b = true then k { val := .bp n 0 } else none
    | _ => none
  | .binOp op xt x y _ => match tev S x, tev S y with
    | .lf (.int kx) a, .lf (.int ky) b => match shiftOp op with
      | some true => if 0 ≤ b then k { val := .lf (.int kx) (Bs.ishl kx a b) } else none
      | some false => if 0 ≤ b then k { val := .lf (.int kx) (Bs.ishr kx a b) } else none
      | none => if kx = ky then match op with
        | .add => k { val := .lf (.int kx) (kx.wrap (a + b)) }
        | .sub => k { val := .lf (.int kx) (kx.wrap (a - b)) }
        | .mul => k { val := .lf (.int kx) (kx.wrap (a * b)) }
        | .eql => k { val := .lf .bool (a == b) }
        | .neq => k { val := .lf .bool (a != b) }
        | .lss => k { val := .lf .bool (decide (a < b)) }
        | .leq => k { val := .lf .bool (decide (a ≤ b)) }
        | .gtr => k { val := .lf .bool (decide (a > b)) }
        | .geq => k { val := .lf .bool (decide (a ≥ b)) }
        | .quo => if b = 0 then none else k { val := .lf (.int kx) (kx.wrap (a.tdiv b)) }
        | .rem => if b = 0 then none else k { val := .lf (.int kx) (a.tmod b) }
        | .and => k { val := .lf (.int kx) (Bs.iand kx a b) }
        | .or => k { val := .lf (.int kx) (Bs.ior kx a b) }
        | .xor => k { val := .lf (.int kx) (Bs.ixor kx a b) }
        | .andNot => k { val := .lf (.int kx) (Bs.iandn kx a b) }
        | _ => none
      else none
    | .lf .bool a, .lf .bool b => match P.underlying xt, op with
      | some .bool, .eql => k { val := .lf .bool (a == b) }
      | some .bool, .neq => k { val := .lf .bool (!(a == b)) }
      | _, _ => none
    | .lf .str a, .lf .str b => match op with
      | .eql => k { val := .lf .bool (a.toList == b.toList) }
      | .neq => k { val := .lf .bool (!(a.toList == b.toList)) }
      | .add => if a.size + b.size ≤ most then k { val := .lf .str (a ++ b) } else none
      | _ => none
    | .raw (.slice a _ _), .raw (.slice none 0 0) => match isSl P xt, op with
      | true, .eql => k { val := .lf .bool a.isNone }
      | true, .neq => k { val := .lf .bool (!a.isNone) }
      | _, _ => none
    | .lf (.sl _) (_ :: _), .raw (.slice none 0 0) => match isSl P xt, op with
      | true, .eql => k { val := .lf .bool false }
      | true, .neq => k { val := .lf .bool true }
      | _, _ => none
    | .np _ b, .raw (.pointer none) => match isPtr P xt, op with
      | true, .eql => k { val := .lf .bool (!b) }
      | true, .neq => k { val := .lf .bool b }
      | _, _ => none
    | .lf .er b, .raw .nilIface => if isIf P xt = true ∧ isNilC y = true then match op with
        | .eql => k { val := .lf .bool (!b) }
        | .neq => k { val := .lf .bool b }
        | _ => none
      else none
    | _, _ => none
  | .unOp op _ x => match op, tev S x with
    | .not, .lf .bool b => k { val := .lf .bool (!b) }
    | .neg, .lf (.int ki) n => k { val := .lf (.int ki) (ki.wrap (0 - n)) }
    | _, _ => none
  | .convert s t x => match P.underlying s, P.underlying t, tev S x with
    | some _, some (.int ki), .lf (.int _) n => k { val := .lf (.int ki) (ki.wrap n) }
    | some _, some .string, .lf (.int _) n => k { val := .lf .str (Bs.enc1 n) }
    | some .string, some (.slice e), .lf .str x => match P.underlying e, o.dst with
      | some (.int .i32), some d => if x.size ≤ most then k { val := .vh (nm d), upd := [(nm d, .vec e (.int .i32) (Bs.runes x))], new := [nm d] } else none
      | _, _ => none
    | some (.slice e), some .string, .lf (.sl (.int ik)) xs => match P.underlying e, ik with
      | some (.int .i32), .i32 => k { val := .lf .str (Bs.text xs) }
      | some (.int .u8), .u8 => k { val := .lf .str (Bs.bytes xs) }
      | _, _ => none
    | some (.slice e), some .string, .raw (.slice none 0 0) => match P.underlying e with
      | some (.int .i32) => k { val := .lf .str ByteArray.empty }
      | some (.int .u8) => k { val := .lf .str ByteArray.empty }
      | _ => none
    | _, _, _ => none
  | .build t parts => match zeroD P t, places P t with
    | some z, some pl => if z.all isCell = true then match fillV V pl (z.map tvc) (parts.toList.map fun (i, x) => (i, tev S x)) with
        | some cs => match keepB nm o.dst with
          | true => k { val := .agg cs }
          | false => k { val := mkV V ex (V.ty t) cs }
        | none => none
      else none
    | _, _ => none
  | .buildSlice t len parts => match elemTy P t, V.ty t with
    | some (te, sz, _), some (.sl e) => if sz = tsz V.sz e then match rowsV V ex e 0 (parts.toList.map fun (i, x) => (i, tev S x)) with
        | some ys => if parts.toList.length = len ∧ len * sz ≤ 16777216 then match o.dst with
            | some d => if nm d = d then k { val := .lf (.sl e) ys } else k { val := .vh (nm d), upd := [(nm d, .vec te e ys)], new := [nm d] }
            | none => k { val := .lf (.sl e) ys }
          else none
        | none => none
      else none
    | _, _ => none
  | .makeSlice t l c => match elemTy P t, V.ty t, o.dst with
    | some (te, sz, bytes), some (.sl e), some d => match zeroD P te, tev S l, tev S c with
      | some z, .lf (.int _) n, .lf (.int _) m => match ofRow V ex e (z.map tvc) with
        | some y => if sz = tsz V.sz e ∧ bytes ≤ 32768 ∧ z.all isCell = true then
            match sameOp l c with
            | true => if 0 ≤ m then
                if m ≤ 4294967296 then k { val := .vh (nm d), upd := [(nm d, .vec te e (List.replicate m.toNat y))], new := [nm d] } else none
              else none
            | false => if n = 0 then
                if 0 ≤ m then
                  if m ≤ 4294967296 then k { val := .vh (nm d), upd := [(nm d, .vec te e [])], new := [nm d] } else none
                else none
              else none
          else none
        | none => none
      | _, _, _ => none
    | _, _, _ => none
  | .makeMap t hint => match P.underlying t, o.dst with
    | some (.map kt et), some d => match V.ty kt, V.ty et with
      | some tk, some tv => if hintV V S hint = true then k { val := .mp (nm d), upd := [(nm d, .map tk tv [])], new := [nm d] } else none
      | _, _ => none
    | _, _ => none
  | .lookup t x i c => match P.underlying t, tev S x, tev S i with
    | some (.map kt et), .mp n, .lf tk key => match S.own? n, zeroX P et with
      | some (.map tk' tv es), some d => match ofZ V ex tv d with
        | some z => if h : tk = tk' then
            if kindOk (P.underlying kt) tk' = true then match c with
              | true => k { val := .tup [.lf tv ((Mp.get (keq tk') (h ▸ key) es).getD z), .lf .bool (Mp.get (keq tk') (h ▸ key) es).isSome], acc := [n] }
              | false => k { val := .lf tv ((Mp.get (keq tk') (h ▸ key) es).getD z), acc := [n] }
            else none
          else none
        | none => none
      | _, _ => none
    | _, _, _ => none
  | .range t x => match P.underlying t, tev S x, o.dst with
    | some .string, .lf .str s, some d => k { val := .bp (nm d) 0, upd := [(nm d, .iter s 0)], new := [nm d] }
    | _, _, _ => none
  | .next x true => match tev S x with
    | .bp n 0 => match S.own? n with
      | some (.iter s p) => if 0 ≤ p then
          if p < s.size then k { val := .tup [.lf .bool true, .lf (.int .i64) p, .lf (.int .i32) (Bs.dec s p)], acc := [n], upd := [(n, .iter s (p + Bs.wid s p))] }
          else k { val := .tup [.lf .bool false], acc := [n] }
        else none
      | _ => none
    | _ => none
  | .mapUpdate t x i y => tupd V P t x i y S k
  | .insert t x i y => tupd V P t x i y S k
  | .fieldAddr s x f => match fieldOff P s f with
    | some fo => match tev S x with
      | .bp n off => k { val := .bp n (off + fo) }
      | .ep n sz i off => k { val := .ep n sz i (off + fo) }
      | .rp t x off => if off + fo ≤ (rcells V t x).length then k { val := .rp t x (off + fo) } else none
      | _ => none
    | none => none
  | .field s x f => match fieldTy P s f, tev S x with
    | some (off, ag, sz), .lf t y => if t.cell = false then match loadL V ag sz (match P.underlying s with | some (.struct fs) => (fs[f]?).bind fun fd => V.ty fd.type | _ => none) t y off with
        | some v => k { val := v }
        | none => none
      else none
    | some (off, ag, sz), .agg cs => match loadV V ex ag sz (match P.underlying s with | some (.struct fs) => (fs[f]?).bind fun fd => V.ty fd.type | _ => none) (cs.drop off) with
      | some v => k { val := v }
      | none => none
    | _, _ => none
  | .indexAddr t x i => match elemTy P t with
    | some (_, sz, _) => match tev S x, tev S i with
      | .lf (.sl e) xs, .lf (.int _) n => if sz = tsz V.sz e then
          if 0 ≤ n then xs[n.toNat]? >>= fun x => k { val := .rp e x 0 } else none
        else none
      | .vh m, .lf (.int _) n => match S.own? m with
        | some (.vec _ _ xs) => if 0 ≤ n ∧ n < xs.length then k { val := .ep m sz n.toNat 0, acc := [m] } else none
        | _ => none
      | _, _ => none
    | none => none
  | .index t x i => match P.underlying t, tev S x, tev S i with
    | some .string, .lf .str s, .lf (.int _) n => if 0 ≤ n then s[n.toNat]? >>= fun b => k { val := .lf (.int .u8) b.toNat } else none
    | _, _, _ => none
  | .slice t x lo hi none => match P.underlying t, tev S x with
    | some .string, .lf .str s => match bndV V S lo 0, bndV V S hi s.size with
      | some l, some h => if 0 ≤ l ∧ l ≤ h ∧ h ≤ s.size then k { val := .lf .str (s.extract l.toNat h.toNat) } else none
      | _, _ => none
    | some (.slice _), .lf (.sl e) xs => match elemTy P t, bndV V S lo 0, bndV V S hi xs.length with
      | some (_, sz', _), some l, some h => if sz' = tsz V.sz e then
          if 0 ≤ l ∧ l ≤ h ∧ h ≤ xs.length then k { val := .lf (.sl e) ((xs.take h.toNat).drop l.toNat) } else none
        else none
      | _, _, _ => none
    | _, _ => none
  | .extract x i => match tev S x with
    | .tup vs => match vs[i]? with
      | some v => k { val := v }
      | none => none
    | _ => none
  | .makeFunc (.func f) first captured => k { val := .fn f (first.toList.map (tev S)) (captured.toList.map (tev S)) }
  | .call c => match c.callee with
    | .value f => match tev S f with
      | .fn fid first captured => call A fid (first ++ c.args.toList.map (tev S) ++ captured) S k
      | _ => none
    | .builtin b => tbuiltin V P nm b o.type (c.args.toList.map (tev S)) c.argTypes.toList o.dst S k
    | _ => none
  | _ => none

end
end Go.Tx
