/-
  Pure values and an evaluator of the model's code over them: definitions alone; nothing is claimed here.
-/
import Derived.WalkKit
namespace Go.Ev

abbrev Str := List UInt8
structure AVA where
  attr : Str
  value : Str
structure Mod where
  kind : Int
  attr : Str
  values : List Str
inductive Elem where
  | mk (tag : Int) (body : Str) (kids : List Elem)
def Elem.tag : Elem → Int | .mk t _ _ => t
def Elem.body : Elem → Str | .mk _ b _ => b
def Elem.kids : Elem → List Elem | .mk _ _ k => k
structure Typ where
  name : Str
  syn : Int
  single : Bool

/-- The kinds of elements that slices have. -/
inductive K where
  | byte | str | int | ava | rdn | mod | elem | typ | ptr
def El : K → Type
  | .byte => Int
  | .str => Str
  | .int => Int
  | .ava => AVA
  | .rdn => List AVA
  | .mod => Mod
  | .elem => Elem
  | .typ => Typ
  | .ptr => Nat × Nat × Nat
def El.dflt : (k : K) → El k
  | .byte => (0 : Int)
  | .str => ([] : Str)
  | .int => (0 : Int)
  | .ava => (⟨[], []⟩ : AVA)
  | .rdn => ([] : List AVA)
  | .mod => (⟨0, [], []⟩ : Mod)
  | .elem => Elem.mk 0 [] []
  | .typ => (⟨[], 0, false⟩ : Typ)
  | .ptr => ((0, 0, 0) : Nat × Nat × Nat)

inductive V where
  | undef
  | int (k : IntKind) (n : Int)
  | bool (b : Bool)
  | str (s : Str)
  | nilErr
  | ifc (t : TypeId) (k : IntKind) (n : Int)
  | err
  | errq (b : Bool)          -- an error that is nil, or is not
  | fn (f : FuncId) (caps : List V)
  | ptr (b g o : Nat)        -- into a box of this frame
  | optr (j o : Nat)         -- into a box of a caller's
  | bptr (id v i : Nat)      -- at a byte of a row of this frame
  | sl (k : K) (xs : List (El k))
  | own (id v : Nat)         -- a row of this frame
  | dptr (cs : List V) (o : Nat)   -- at cells that nobody writes any more
  | agg (cs : List V)
  | tup (vs : List V)
  | emp (isnil : Bool)       -- an empty slice that is nil, or is not

def enc : (k : K) → El k → List V
  | .byte, n => [.int .u8 n]
  | .str, s => [.str s]
  | .int, n => [.int .i64 n]
  | .ava, x => [.str x.attr, .str x.value]
  | .rdn, l => [.sl .ava l]
  | .mod, m => [.int .i64 m.kind, .str m.attr, .sl .str m.values]
  | .elem, e => [.int .u8 e.tag, .str e.body, .sl .elem e.kids]
  | .typ, t => [.str t.name, .int .i64 t.syn, .bool t.single]
  | .ptr, p => [.ptr p.1 p.2.1 p.2.2]
def K.size : K → Nat
  | .byte | .str | .int | .rdn | .ptr => 1
  | .ava => 2
  | .mod | .elem | .typ => 3
def dec : (k : K) → List V → Option (El k)
  | .byte, [.int .u8 n] => some n
  | .str, [.str s] => some s
  | .int, [.int .i64 n] => some n
  | .ava, [.str a, .str v] => some ⟨a, v⟩
  | .rdn, [.sl .ava l] => some l
  | .mod, [.int .i64 n, .str a, .sl .str l] => some ⟨n, a, l⟩
  | .elem, [.int .u8 t, .str b, .sl .elem l] => some (.mk t b l)
  | .typ, [.str n, .int .i64 s, .bool b] => some ⟨n, s, b⟩
  | .ptr, [.ptr b g o] => some (b, g, o)
  | _, _ => none

def K.same : K → K → Bool
  | .byte, .byte | .str, .str | .int, .int | .ava, .ava | .rdn, .rdn | .mod, .mod | .elem, .elem | .typ, .typ | .ptr, .ptr => true
  | _, _ => false
/-- Is t a slice type with elements of kind k? -/
def isKd (x : Option K) (k : K) : Bool := match x with | some k' => K.same k' k | none => false

structure Row where
  k : K
  xs : List (El k)

structure St where
  sl : Nat → V
  box : Nat → Option (List V)
  gen : Nat → Nat
  row : Nat → Option Row
  ver : Nat → Nat
  out : List (List V)

/-- Zero cells. -/
inductive Z where
  | int (k : IntKind) | bool | str | sl (k : K) | err | other

structure Env where
  fld : TypeId → Nat → Option (Nat × Nat)   -- where a field begins, how many cells it has
  agg : TypeId → Option (Option Nat)     -- some (some n): a struct or an array of n cells; some none: one cell
  kd : TypeId → Option K                 -- a slice type's elements
  zero : TypeId → Option (List Z)
  ik : TypeId → Option IntKind
  str : TypeId → Bool
  eqk : TypeId → Nat                     -- what '==' may compare: 1: bools, 3: errors, 10 + 2n: structs of n ints, 11 + 2n: of n strings
  arr : TypeId → Option Nat              -- an array's length, its elements one cell each
  live : FuncId → Nat → List Nat × List Nat × List Nat     -- at a loop's head: slots, boxes, rows

def put {α : Type} (t : Nat) (x : α) (s : Nat → α) : Nat → α := fun u => bif Nat.beq u t then x else s u
def look {α : Type} (d : α) : List (Nat × α) → Nat → α
  | [], _ => d
  | (a, x) :: r, t => bif Nat.beq t a then x else look d r t
def isIn (n : Nat) : List Nat → Bool
  | [] => false
  | a :: r => bif Nat.beq n a then true else isIn n r

/-- A constant. -/
def ofConst : Value → V
  | .int k n => .int k n
  | .bool b => .bool b
  | .string s => .str s.data.toList
  | .nilIface => .nilErr
  | _ => .undef
def val (s : St) : Operand → V
  | .tmp t => s.sl t
  | .const c => ofConst c
  | .func f => .fn f []
  | .global _ => .undef
def isNilSl : Operand → Bool
  | .const (.slice none 0 0) => true
  | _ => false

/-- What a cell is to others: rows that are being made are read as what they hold. -/
def escC (s : St) : V → V
  | .own id v => bif Nat.beq v (s.ver id) then (match s.row id with | some ⟨.byte, _⟩ => .undef | some ⟨.ptr, _⟩ => .undef | some ⟨k, xs⟩ => .sl k xs | none => .undef) else .undef
  | v => v
def esc (s : St) : V → V
  | .agg cs => .agg (cs.map (escC s))
  | v => escC s v
/-- Is it data, through and through? -/
def isDataC : V → Bool
  | .int .. | .bool _ | .str _ | .nilErr | .ifc .. | .err | .errq _ => true
  | .sl .ptr _ => false
  | .sl .. => true
  | _ => false
def isData : V → Bool
  | .agg cs => cs.all isDataC
  | v => isDataC v

structure Eff where
  v : V
  box : List (Nat × Nat × List V) := []
  row : List (Nat × Nat × Row) := []
  out : Option (List (List V)) := none
  rb : List Nat := []
  rr : List Nat := []
  ro : Bool := false

def putBoxes : List (Nat × Nat × List V) → St → St
  | [], s => s
  | (b, g, cs) :: r, s => putBoxes r { s with box := put b (some cs) s.box, gen := put b g s.gen }
def putRows : List (Nat × Nat × Row) → St → St
  | [], s => s
  | (i, v, x) :: r, s => putRows r { s with row := put i (some x) s.row, ver := put i v s.ver }
def putOut : Option (List (List V)) → St → St
  | none, s => s
  | some o, s => { s with out := o }
def putDst (d : Option Tmp) (v : V) (s : St) : St :=
  match d with
  | some t => { s with sl := put t v s.sl }
  | none => s
def app (d : Option Tmp) (e : Eff) (s : St) : St := putDst d e.v (putOut e.out (putBoxes e.box (putRows e.row s)))

def plain (v : V) : Option Eff := some { v }

/-- Zero cells of a new box or struct: its nil slices are rows of their own, numbered from 'base' on. -/
def zeroCells (s : St) (base : Nat) : List Z → Nat → List V × List (Nat × Nat × Row)
  | [], _ => ([], [])
  | z :: r, i =>
    let rest := zeroCells s base r (i + 1)
    match z with
    | .int k => (.int k 0 :: rest.1, rest.2)
    | .bool => (.bool false :: rest.1, rest.2)
    | .str => (.str [] :: rest.1, rest.2)
    | .sl k => (.own (base + i) (s.ver (base + i) + 1) :: rest.1, (base + i, s.ver (base + i) + 1, ⟨k, []⟩) :: rest.2)
    | .err => (.nilErr :: rest.1, rest.2)
    | .other => (.undef :: rest.1, rest.2)
def nilBase (d : Nat) : Nat := 1000 * (d + 1)

/-- Is it the value of one cell? -/
def oneV : V → Bool
  | .undef | .agg _ | .tup _ => false
  | _ => true
def fits (a : Option (Option Nat)) (x : V) : Bool :=
  match a, x with
  | some (some n), .agg cs => Nat.beq cs.length n && cs.all oneV
  | some none, x => oneV x
  | _, _ => false
/-- n cells from o on are replaced. -/
def setCells (cs : List V) (o : Nat) (new : List V) : List V := cs.take o ++ new ++ cs.drop (o + new.length)
def cellsOf : V → List V
  | .agg cs => cs
  | v => [v]
/-- Cells as a value of n cells of a struct, or of one. -/
def asVal (a : Option Nat) (cs : List V) (o : Nat) : Option V :=
  match a with
  | some n => bif Nat.ble (o + n) cs.length then some (.agg ((cs.drop o).take n)) else none
  | none => match cs.drop o with
    | v :: _ => some v
    | [] => none

def intOp (op : BinOp) (k : IntKind) (x y : Int) : Option V :=
  match op with
  | .add => some (.int k (k.wrap (x + y)))
  | .sub => some (.int k (k.wrap (x - y)))
  | .mul => some (.int k (k.wrap (x * y)))
  | .quo => bif decide (y = 0) then none else some (.int k (k.wrap (x.tdiv y)))
  | .rem => bif decide (y = 0) then none else some (.int k (x.tmod y))
  | .and => some (.int k (k.wrap (BitVec.ofInt k.bits x &&& BitVec.ofInt k.bits y).toNat))
  | .or => some (.int k (k.wrap (BitVec.ofInt k.bits x ||| BitVec.ofInt k.bits y).toNat))
  | .xor => some (.int k (k.wrap (BitVec.ofInt k.bits x ^^^ BitVec.ofInt k.bits y).toNat))
  | .eql => some (.bool (x == y))
  | .neq => some (.bool (x != y))
  | .lss => some (.bool (decide (x < y)))
  | .leq => some (.bool (decide (x ≤ y)))
  | .gtr => some (.bool (decide (x > y)))
  | .geq => some (.bool (decide (x ≥ y)))
  | _ => none
def shiftOp (op : BinOp) (k : IntKind) (x y : Int) : Option V :=
  bif decide (y < 0) then none else
  match op with
  | .shl => some (.int k (k.wrap (x * 2 ^ (min y.toNat k.bits))))
  | .shr => some (.int k (x.fdiv (2 ^ (min y.toNat k.bits))))
  | _ => none
def strLim : Nat := 2 ^ 40
def strOp (op : BinOp) (x y : Str) : Option V :=
  match op with
  | .add => bif Nat.ble (x.length + y.length) strLim then some (.str (x ++ y)) else none
  | .eql => some (.bool (x == y))
  | .neq => some (.bool (!(x == y)))
  | .lss => some (.bool (Op.bytesLess x y))
  | .leq => some (.bool (Op.bytesLess x y || x == y))
  | .gtr => some (.bool (!(Op.bytesLess x y || x == y)))
  | .geq => some (.bool (!(Op.bytesLess x y)))
  | _ => none
/-- '==' of two cells of data. -/
def eqC : V → V → Option Bool
  | .int k a, .int k' b => if k = k' then some (a == b) else none
  | .bool a, .bool b => some (a == b)
  | .str a, .str b => some (a == b)
  | _, _ => none
def eqCs : List V → List V → Option Bool
  | [], [] => some true
  | x :: r, y :: q => (eqC x y).bind fun b => (eqCs r q).bind fun c => some (b && c)
  | _, _ => none
def isIntV : V → Bool
  | .int .. => true
  | _ => false
def isStrV : V → Bool
  | .str _ => true
  | _ => false
def eqOp (q : Nat) (x y : V) : Option Bool :=
  match x, y with
  | .bool a, .bool b => bif Nat.beq q 1 then some (a == b) else none
  | .agg a, .agg b => bif (Nat.beq q (10 + 2 * a.length) && a.all isIntV) || (Nat.beq q (11 + 2 * a.length) && a.all isStrV) then eqCs a b else none
  | .nilErr, .ifc .. | .nilErr, .err | .ifc .., .nilErr | .err, .nilErr => bif Nat.beq q 3 then some false else none
  | _, _ => none

def binEff (q : Nat) (op : BinOp) (x y : V) : Option V :=
  match op, x, y with
  | .shl, .int k a, .int _ b => shiftOp .shl k a b
  | .shr, .int k a, .int _ b => shiftOp .shr k a b
  | op, .int k a, .int k' b => if k = k' then intOp op k a b else none
  | op, .str a, .str b => strOp op a b
  | .eql, x, y => (eqOp q x y).map .bool
  | .neq, x, y => (eqOp q x y).map fun b => .bool (!b)
  | _, _, _ => none
def isNilI : Operand → Bool
  | .const .nilIface => true
  | _ => false
/-- A comparison with the literal nil, at an interface type. -/
def nilEq (x y : V) : Option Bool :=
  match x, y with
  | .nilErr, .nilErr => some true
  | .nilErr, .ifc .. | .nilErr, .err | .ifc .., .nilErr | .err, .nilErr => some false
  | .errq b, .nilErr => some b
  | _, _ => none
def nilEff (q : Nat) (op : BinOp) (x y : V) : Option V :=
  bif Nat.beq q 3 then match op with
    | .eql => (nilEq x y).map .bool
    | .neq => (nilEq x y).map fun b => .bool (!b)
    | _ => none
  else none
/-- A slice compared with nil. -/
def nilSl (op : BinOp) (x : V) : Option V :=
  match op, x with
  | .eql, .emp b => some (.bool b)
  | .neq, .emp b => some (.bool (!b))
  | .eql, .sl _ (_ :: _) => some (.bool false)
  | .neq, .sl _ (_ :: _) => some (.bool true)
  | _, _ => none
def unEff (op : UnOp) (x : V) : Option V :=
  match op, x with
  | .neg, .int k n => some (.int k (k.wrap (0 - n)))
  | .not, .bool b => some (.bool (!b))
  | _, _ => none

def rowLim : Nat := 2 ^ 30
/-- Pointers among arguments: the boxes that a callee may touch, as it counts them. -/
inductive Ref where
  | box (b : Nat)
  | out (j : Nat)
def refIx : Ref → List Ref → Nat → Option Nat
  | _, [], _ => none
  | .box b, .box c :: r, i => bif Nat.beq b c then some i else refIx (.box b) r (i + 1)
  | .out b, .out c :: r, i => bif Nat.beq b c then some i else refIx (.out b) r (i + 1)
  | x, _ :: r, i => refIx x r (i + 1)
/-- One argument as the callee sees it. -/
def pass1 (s : St) (x : V) (rs : List Ref) : Option (V × List Ref) :=
  match x with
  | .ptr b g o => bif Nat.beq g (s.gen b) then
      (match refIx (.box b) rs 0 with
       | some i => some (.optr i o, rs)
       | none => some (.optr rs.length o, rs ++ [.box b]))
      else none
  | .optr j o =>
      (match refIx (.out j) rs 0 with
       | some i => some (.optr i o, rs)
       | none => some (.optr rs.length o, rs ++ [.out j]))
  | x => bif isData (esc s x) then some (esc s x, rs) else none
def passCaps (s : St) : List V → List Ref → Option (List V × List Ref)
  | [], rs => some ([], rs)
  | x :: r, rs => (pass1 s x rs).bind fun p => (passCaps s r p.2).bind fun q => some (p.1 :: q.1, q.2)
/-- Arguments as the callee sees them. -/
def passArgs (s : St) : List V → List Ref → Option (List V × List Ref)
  | [], rs => some ([], rs)
  | x :: r, rs =>
    (match x with
     | .fn f caps => (passCaps s caps rs).bind fun p => some (V.fn f p.1, p.2)
     | x => pass1 s x rs).bind fun p => (passArgs s r p.2).bind fun q => some (p.1 :: q.1, q.2)
def getRefs (s : St) : List Ref → Option (List (List V))
  | [] => some []
  | .box b :: r => (s.box b).bind fun cs => bif (cs.map (escC s)).all isDataC then (getRefs s r).bind fun q => some (cs.map (escC s) :: q) else none
  | .out j :: r => match s.out.drop j with
    | cs :: _ => (getRefs s r).bind fun q => some (cs :: q)
    | [] => none
/-- The boxes behind a call. -/
def refBoxes (s : St) : List Ref → List (List V) → List (Nat × Nat × List V)
  | .box b :: r, cs :: q => (b, s.gen b, cs) :: refBoxes s r q
  | .out _ :: r, _ :: q => refBoxes s r q
  | _, _ => []
def refOuts : List Ref → List (List V) → List (List V) → List (List V)
  | .box _ :: r, _ :: q, o => refOuts r q o
  | .out j :: r, cs :: q, o => refOuts r q (o.set j cs)
  | _, _, o => o
def refBs : List Ref → List Nat
  | [] => []
  | .box b :: r => b :: refBs r
  | .out _ :: r => refBs r
def refRo : List Ref → Bool
  | [] => false
  | .box _ :: r => refRo r
  | .out _ :: _ => true
/-- Rows that are read when a value is handed on. -/
def escC1 : V → List Nat
  | .own id _ => [id]
  | _ => []
def esc1 : V → List Nat
  | .own id _ => [id]
  | .agg cs => cs.flatMap escC1
  | _ => []
def escRows : List V → List Nat
  | [] => []
  | .fn _ cs :: r => cs.flatMap esc1 ++ escRows r
  | x :: r => esc1 x ++ escRows r
def boxRows (s : St) : List Nat → List Nat
  | [] => []
  | b :: r => (match s.box b with | some cs => escRows cs | none => []) ++ boxRows s r

/-- A call's answer: of a function, its arguments, the boxes that it may touch; the Bool: does it hold? -/
abbrev Orc := FuncId → List V → List (List V) → Option (Bool × V × List (List V))

def callEff (C : Orc) (s : St) (f : FuncId) (args : List V) : Option Eff :=
  (passArgs s args []).bind fun q =>
  (getRefs s q.2).bind fun os =>
  (C f q.1 os).bind fun r => bif r.1 then
  some { v := r.2.1, box := refBoxes s q.2 r.2.2, out := bif refRo q.2 then some (refOuts q.2 r.2.2 s.out) else none, rb := refBs q.2, rr := escRows args ++ boxRows s (refBs q.2), ro := refRo q.2 } else none

def argV (E : Env) (s : St) (t : TypeId) (x : Operand) : V :=
  bif isNilSl x then (match E.kd t with | some .byte => .undef | some .ptr => .undef | some k => .sl k [] | none => .undef) else val s x
def argVs (E : Env) (s : St) : List Operand → List TypeId → List V
  | x :: r, t :: q => argV E s t x :: argVs E s r q
  | x :: r, [] => val s x :: argVs E s r []
  | [], _ => []

/-- The elements behind an appended argument. -/
def appended (s : St) (k : K) : V → Option (List (El k) × List Nat)
  | .sl k' xs => match k, k', xs with
    | .str, .str, xs => some (xs, [])
    | .ava, .ava, xs => some (xs, [])
    | .mod, .mod, xs => some (xs, [])
    | .elem, .elem, xs => some (xs, [])
    | .rdn, .rdn, xs => some (xs, [])
    | _, _, _ => none
  | .own id v => bif Nat.beq v (s.ver id) then
      (match k, s.row id with
       | .byte, some ⟨.byte, xs⟩ => some (xs, [id])
       | .str, some ⟨.str, xs⟩ => some (xs, [id])
       | .int, some ⟨.int, xs⟩ => some (xs, [id])
       | .ava, some ⟨.ava, xs⟩ => some (xs, [id])
       | .rdn, some ⟨.rdn, xs⟩ => some (xs, [id])
       | .mod, some ⟨.mod, xs⟩ => some (xs, [id])
       | .elem, some ⟨.elem, xs⟩ => some (xs, [id])
       | .typ, some ⟨.typ, xs⟩ => some (xs, [id])
       | _, _ => none)
      else none
  | .str b => match k with
    | .byte => some (b.map fun (c : UInt8) => ((c.toNat : Int)), [])
    | _ => none
  | .emp _ => some ([], [])
  | _ => none

def decAll (k : K) : List (List V) → Option (List (El k))
  | [] => some []
  | cs :: r => (dec k cs).bind fun x => (decAll k r).bind fun q => some (x :: q)
/-- The parts of a literal slice: all, in order. -/
def litParts (s : St) : List (Nat × Operand) → Nat → Option (List (List V))
  | [], _ => some []
  | (i, x) :: r, j => bif Nat.beq i j then (litParts s r (j + 1)).bind fun q => some (((cellsOf (val s x)).map (escC s)) :: q) else none
def fillParts (E : Env) (s : St) (t : TypeId) : List (Nat × Operand) → List V → Option (List V)
  | [], cs => some cs
  | (i, x) :: r, cs => (E.fld t i).bind fun p => bif Nat.beq (cellsOf (val s x)).length p.2 && Nat.ble (p.1 + p.2) cs.length && fits (some (match val s x with | .agg c => some c.length | _ => none)) (val s x) then fillParts E s t r (setCells cs p.1 (cellsOf (val s x))) else none

def natIx (n : Int) (len : Nat) : Option Nat := bif decide (0 ≤ n) then (bif decide (n < (len : Int)) then some n.toNat else none) else none
/-- The bounds of a slice expression with no third. -/
def bounds (len : Nat) (lo hi : Option V) : Option (Nat × Nat) :=
  (match hi with
   | none => some len
   | some (.int _ h) => bif decide (0 ≤ h) then (bif decide (h ≤ (len : Int)) then some h.toNat else none) else none
   | some _ => none).bind fun h =>
  (match lo with
   | none => some 0
   | some (.int _ l) => bif decide (0 ≤ l) then (bif decide (l ≤ (h : Int)) then some l.toNat else none) else none
   | some _ => none).bind fun l => some (l, h)

/-- A name for a new literal row: the slot's own, or another where that one stands. -/
def alt (s : St) (d : Nat) : Nat := match s.row d with
  | some _ => d + 5000
  | none => d

def eff (E : Env) (C : Orc) (s : St) (o : Oper) : Option Eff :=
  let d := o.dst.getD 0
  match o.op with
  | .move x | .assign x =>
    bif isNilSl x then (E.kd o.type).bind fun k => some { v := .own d (s.ver d + 1), row := [(d, s.ver d + 1, ⟨k, []⟩)] }
    else plain (val s x)
  | .pick c a b => match val s c with
    | .bool t => plain (bif t then val s a else val s b)
    | _ => none
  | .alloc t => (E.zero t).bind fun zs =>
    let z := zeroCells s (nilBase d) zs 0
    some { v := .ptr d (s.gen d + 1) 0, box := [(d, s.gen d + 1, z.1)], row := z.2 }
  | .box t x => bif fits (E.agg t) (val s x) then some { v := .ptr d (s.gen d + 1) 0, box := [(d, s.gen d + 1, cellsOf (val s x))] } else none
  | .build t ps => (E.fld t 0).bind fun _ => (E.zero t).bind fun zs =>
    let z := zeroCells s (nilBase d) zs 0
    (fillParts E s t ps.toList z.1).bind fun cs => some { v := .agg cs, row := z.2 }
  | .buildSlice t n ps => (E.kd t).bind fun k => (litParts s ps.toList 0).bind fun cs => bif Nat.beq cs.length n && Nat.ble n 1000000 then
      (decAll k cs).bind fun xs => some { v := .own (alt s d) (s.ver (alt s d) + 1), row := [(alt s d, s.ver (alt s d) + 1, ⟨k, xs⟩)], rr := d :: escRows (ps.toList.map fun p => val s p.2) } else none
  | .load t a => match val s a with
    | .ptr b g o => bif Nat.beq g (s.gen b) then (s.box b).bind fun cs => ((E.agg t).bind fun a => asVal a cs o).bind fun v => some { v, rb := [b] } else none
    | .optr j o => match s.out.drop j with
      | cs :: _ => ((E.agg t).bind fun a => asVal a cs o).bind fun v => some { v, ro := true }
      | [] => none
    | .dptr cs o => ((E.agg t).bind fun a => asVal a cs o).bind plain
    | .bptr id v i => bif Nat.beq v (s.ver id) then (match s.row id with | some ⟨.byte, xs⟩ => bif (match E.agg t with | some none => true | _ => false) then some { v := .int .u8 (List.getD (α := Int) xs i 0), rr := [id] } else none | _ => none) else none
    | _ => none
  | .store t a x => match val s a with
    | .ptr b g o => bif Nat.beq g (s.gen b) then (s.box b).bind fun cs =>
        bif fits (E.agg t) (val s x) then
        bif Nat.ble (o + (cellsOf (val s x)).length) cs.length then some { v := .undef, box := [(b, g, setCells cs o (cellsOf (val s x)))], rb := [b] } else none else none else none
    | .optr j o => match s.out.drop j with
      | cs :: _ => bif fits (E.agg t) (val s x) then
        bif Nat.ble (o + (cellsOf (val s x)).length) cs.length then bif (cellsOf (val s x)).all isDataC then some { v := .undef, out := some (s.out.set j (setCells cs o (cellsOf (val s x)))), ro := true } else none else none else none
      | [] => none
    | .bptr id v i => match val s x with
      | .int .u8 n => bif Nat.beq v (s.ver id) then (match s.row id with | some ⟨.byte, xs⟩ => bif (match E.agg t with | some none => true | _ => false) then some { v := .undef, row := [(id, v, ⟨.byte, List.set (α := Int) xs i n⟩)], rr := [id] } else none | _ => none) else none
      | _ => none
    | _ => none
  | .nilCheck x => match val s x with
    | .ptr b g o => bif Nat.beq g (s.gen b) && (s.box b).isSome then some { v := .ptr b g o, rb := [b] } else none
    | .optr j o => plain (.optr j o)
    | .dptr cs o => plain (.dptr cs o)
    | _ => none
  | .binOp op t x y _ => (bif isNilSl y then (bif (match E.kd t with | some _ => true | none => false) then nilSl op (val s x) else none) else bif isNilI x || isNilI y then nilEff (E.eqk t) op (val s x) (val s y) else binEff (E.eqk t) op (val s x) (val s y)).bind plain
  | .unOp op _ x => (unEff op (val s x)).bind plain
  | .convert src dst x => match val s x with
    | .int _ n => (E.ik src).bind fun _ => (E.ik dst).bind fun k => plain (.int k (k.wrap n))
    | .str b => bif E.str src then bif E.str dst then plain (.str b) else (match E.kd dst with
      | some .byte => some { v := .own d (s.ver d + 1), row := [(d, s.ver d + 1, ⟨.byte, b.map fun (c : UInt8) => ((c.toNat : Int))⟩)] }
      | _ => none) else none
    | .own id v => bif E.str dst then bif Nat.beq v (s.ver id) then (match s.row id, E.kd src with
      | some ⟨.byte, xs⟩, some .byte => some { v := .str (List.map (fun (n : Int) => UInt8.ofNat n.toNat) xs), rr := [id] }
      | _, _ => none) else none else none
    | _ => none
  | .makeInterface t x => match val s x with
    | .int k n => bif (match E.ik t with | some _ => true | none => false) then plain (.ifc t k n) else none
    | _ => none
  | .makeFunc (.func f) first caps => bif Nat.beq first.size 0 then plain (.fn f (caps.toList.map (val s))) else none
  | .slice t x lo hi none => match val s x with
    | .str b => bif E.str t then (bounds b.length (lo.map (val s)) (hi.map (val s))).bind fun p => plain (.str ((b.take p.2).drop p.1)) else none
    | .sl k xs => (bounds xs.length (lo.map (val s)) (hi.map (val s))).bind fun p => bif isKd (E.kd t) k then plain (.sl k ((xs.take p.2).drop p.1)) else none
    | _ => none
  | .fieldAddr t x f => (E.fld t f).bind fun o => match val s x with
    | .ptr b g p => bif Nat.beq g (s.gen b) && (s.box b).isSome then some { v := .ptr b g (p + o.1), rb := [b] } else none
    | .optr j p => plain (.optr j (p + o.1))
    | .dptr cs p => plain (.dptr cs (p + o.1))
    | _ => none
  | .indexAddr t x i => match val s i with
    | .int _ n => match val s x with
      | .sl k xs => bif isKd (E.kd t) k then (natIx n xs.length).bind fun j => plain (.dptr (enc k (xs.getD j (El.dflt k))) 0) else none
      | .own id v => bif Nat.beq v (s.ver id) then (match s.row id with
        | some ⟨.byte, xs⟩ => bif isKd (E.kd t) .byte then (natIx n xs.length).bind fun j => some { v := .bptr id v j, rr := [id] } else none
        | some ⟨k, xs⟩ => bif isKd (E.kd t) k then (natIx n xs.length).bind fun j => some { v := .dptr (enc k (xs.getD j (El.dflt k))) 0, rr := [id] } else none
        | none => none) else none
      | .ptr b g p => bif Nat.beq g (s.gen b) && (s.box b).isSome then (E.arr t).bind fun m => (natIx n m).bind fun j => some { v := .ptr b g (p + j), rb := [b] } else none
      | _ => none
    | _ => none
  | .index t x i => match val s i, val s x with
    | .int _ n, .str b => bif E.str t then (natIx n b.length).bind fun j => plain (.int .u8 ((b.getD j 0).toNat : Int)) else none
    | _, _ => none
  | .extract x i => match val s x with
    | .tup vs => match vs.drop i with
      | v :: _ => plain v
      | [] => none
    | _ => none
  | .call c => match c.callee with
    | .value f => match val s f with
      | .fn g caps => callEff C s g (argVs E s c.args.toList c.argTypes.toList ++ caps)
      | _ => none
    | .builtin .len => match c.args.toList, c.argTypes.toList with
      | [x], [t] => match val s x with
        | .str b => bif E.str t then plain (.int .i64 (b.length : Int)) else none
        | .sl _ xs => bif (match E.kd t with | some _ => true | none => false) then plain (.int .i64 (xs.length : Int)) else none
        | .own id v => bif Nat.beq v (s.ver id) then (match s.row id with | some ⟨k, xs⟩ => bif isKd (E.kd t) k then some { v := .int .i64 (xs.length : Int), rr := [id] } else none | none => none) else none
        | _ => none
      | _, _ => none
    | .builtin .append => match c.args.toList, c.argTypes.toList with
      | [x, y], [t, t2] => match val s x with
        | .own id v => bif Nat.beq v (s.ver id) then (match s.row id with
          | some ⟨k, xs⟩ => bif isKd (E.kd t) k && (isKd (E.kd t2) k || E.str t2) then (appended s k (val s y)).bind fun ys => bif Nat.ble (xs.length + ys.1.length) rowLim then
              some { v := .own id (v + 1), row := [(id, v + 1, ⟨k, xs ++ ys.1⟩)], rr := id :: ys.2 } else none else none
          | none => none) else none
        | _ => none
      | _, _ => none
    | .builtin .max => match c.args.toList.map (val s) with
      | [.int k x, .int k' y] => if k = k' then plain (.int k (bif decide (y > x) then y else x)) else none
      | _ => none
    | .builtin .min => match c.args.toList.map (val s) with
      | [.int k x, .int k' y] => if k = k' then plain (.int k (bif decide (y < x) then y else x)) else none
      | _ => none
    | _ => none
  | _ => none

/-! ### An operation and what comes behind it: conditions that hang on unknown values stand outermost -/
section
variable {R : Type}
def natIxK (n : Int) (len : Nat) (k : Nat → Option R) : Option R := bif decide (0 ≤ n) then (bif decide (n < (len : Int)) then k n.toNat else none) else none
def loK (h : Nat) (lo : Option V) (k : Nat × Nat → Option R) : Option R :=
  match lo with
  | none => k (0, h)
  | some (.int _ l) => bif decide (0 ≤ l) then (bif decide (l ≤ (h : Int)) then k (l.toNat, h) else none) else none
  | some _ => none
def boundsK (len : Nat) (lo hi : Option V) (k : Nat × Nat → Option R) : Option R :=
  match hi with
  | none => loK len lo k
  | some (.int _ h) => bif decide (0 ≤ h) then (bif decide (h ≤ (len : Int)) then loK h.toNat lo k else none) else none
  | some _ => none
def binK (q : Nat) (op : BinOp) (x y : V) (k : V → Option R) : Option R :=
  match op, x, y with
  | .quo, .int a m, .int b n => if a = b then bif decide (n = 0) then none else k (.int a (a.wrap (m.tdiv n))) else none
  | .rem, .int a m, .int b n => if a = b then bif decide (n = 0) then none else k (.int a (m.tmod n)) else none
  | .shl, .int a m, .int _ n => bif decide (n < 0) then none else k (.int a (a.wrap (m * 2 ^ (min n.toNat a.bits))))
  | .shr, .int a m, .int _ n => bif decide (n < 0) then none else k (.int a (m.fdiv (2 ^ (min n.toNat a.bits))))
  | .add, .str m, .str n => bif Nat.ble (m.length + n.length) strLim then k (.str (m ++ n)) else none
  | op, x, y => (binEff q op x y).bind k
def callK (C : Orc) (s : St) (f : FuncId) (args : List V) (k : Eff → Option R) : Option R :=
  (passArgs s args []).bind fun q =>
  (getRefs s q.2).bind fun os =>
  (C f q.1 os).bind fun r => bif r.1 then
  k { v := r.2.1, box := refBoxes s q.2 r.2.2, out := bif refRo q.2 then some (refOuts q.2 r.2.2 s.out) else none, rb := refBs q.2, rr := escRows args ++ boxRows s (refBs q.2), ro := refRo q.2 } else none
def effK (E : Env) (C : Orc) (s : St) (o : Oper) (k : Eff → Option R) : Option R :=
  match o.op with
  | .binOp op t x y _ => bif isNilSl y || (isNilI x || isNilI y) then (eff E C s o).bind k else binK (E.eqk t) op (val s x) (val s y) fun v => k { v }
  | .slice t x lo hi none => match val s x with
    | .str b => bif E.str t then boundsK b.length (lo.map (val s)) (hi.map (val s)) fun p => k { v := .str ((b.take p.2).drop p.1) } else none
    | .sl kk xs => bif isKd (E.kd t) kk then boundsK xs.length (lo.map (val s)) (hi.map (val s)) fun p => k { v := .sl kk ((xs.take p.2).drop p.1) } else none
    | _ => none
  | .indexAddr t x i => match val s i with
    | .int _ n => match val s x with
      | .sl kk xs => bif isKd (E.kd t) kk then natIxK n xs.length fun j => k { v := .dptr (enc kk (xs.getD j (El.dflt kk))) 0 } else none
      | .own id v => bif Nat.beq v (s.ver id) then (match s.row id with
        | some ⟨.byte, xs⟩ => bif isKd (E.kd t) .byte then natIxK n xs.length fun j => k { v := .bptr id v j, rr := [id] } else none
        | some ⟨kk, xs⟩ => bif isKd (E.kd t) kk then natIxK n xs.length fun j => k { v := .dptr (enc kk (xs.getD j (El.dflt kk))) 0, rr := [id] } else none
        | none => none) else none
      | .ptr b g p => bif Nat.beq g (s.gen b) && (s.box b).isSome then (E.arr t).bind fun m => natIxK n m fun j => k { v := .ptr b g (p + j), rb := [b] } else none
      | _ => none
    | _ => none
  | .index t x i => match val s i, val s x with
    | .int _ n, .str b => bif E.str t then natIxK n b.length fun j => k { v := .int .u8 ((b.getD j 0).toNat : Int) } else none
    | _, _ => none
  | .call c => match c.callee with
    | .value f => match val s f with
      | .fn g caps => callK C s g (argVs E s c.args.toList c.argTypes.toList ++ caps) k
      | _ => none
    | .builtin .append => match c.args.toList, c.argTypes.toList with
      | [x, y], [t, t2] => match val s x with
        | .own id v => bif Nat.beq v (s.ver id) then (match s.row id with
          | some ⟨kk, xs⟩ => bif isKd (E.kd t) kk && (isKd (E.kd t2) kk || E.str t2) then (appended s kk (val s y)).bind fun ys => bif Nat.ble (xs.length + ys.1.length) rowLim then
              k { v := .own id (v + 1), row := [(id, v + 1, ⟨kk, xs ++ ys.1⟩)], rr := id :: ys.2 } else none else none
          | none => none) else none
        | _ => none
      | _, _ => none
    | _ => (eff E C s o).bind k
  | _ => (eff E C s o).bind k
end

/-! ### Code -/
inductive X where
  | normal | ret
  | exit (id : Nat)

def dstOk (nt : Nat) : Option Tmp → Bool
  | some d => Nat.blt d nt
  | none => true
def slotsOf (ops : List Oper) (o : Oper) : List Nat :=
  (o.op.operands.toList.filterMap fun | .tmp t => some t | _ => none) ++
  (match o.guard with
   | some (g, _) => ((ops[g]?).bind (·.dst)).toList
   | none => [])
/-- What an operation has touched: for a region that draws its order. -/
structure Tr where
  dst : Option Tmp
  sl : List Nat
  e : Eff
def disj : List Nat → List Nat → Bool
  | [], _ => true
  | a :: r, l => bif isIn a l then false else disj r l
def Eff.wb (e : Eff) : List Nat := e.box.map (·.1)
def Eff.wr (e : Eff) : List Nat := e.row.map (·.1)
def noSlot : Option Tmp → List Nat → Bool
  | some d, l => !isIn d l
  | none, _ => true
def indep (x y : Tr) : Bool :=
  noSlot x.dst (y.dst.toList ++ y.sl) && noSlot y.dst x.sl &&
  disj x.e.wb (y.e.rb ++ y.e.wb) && disj y.e.wb x.e.rb &&
  disj x.e.wr (y.e.rr ++ y.e.wr) && disj y.e.wr x.e.rr &&
  !(x.e.out.isSome && (y.e.ro || y.e.out.isSome)) && !(y.e.out.isSome && x.e.ro)
def uni : List Nat → List Nat → List Nat
  | [], l => l
  | a :: r, l => bif isIn a l then uni r l else a :: uni r l
/-- What comes ahead of an operation by the edges that bind. -/
def psAt (j : Nat) : List (Nat × List Nat × Tr) → List Nat
  | [] => []
  | (i, ps, _) :: r => bif Nat.beq j i then ps else psAt j r
def predsOf (tr : List (Nat × List Nat × Tr)) : List Edge → List Nat
  | [] => []
  | e :: r => bif Region.binds .any e then uni (e.on :: psAt e.on tr) (predsOf tr r) else predsOf tr r
def edgesOk (i : Nat) : List Edge → Bool
  | [] => true
  | e :: r => (!Region.binds .any e || Nat.blt e.on i) && edgesOk i r
/-- Is an operation that did y free of those ahead of it in the text that need not come ahead of it? -/
def freeOf (ps : List Nat) (y : Tr) : List (Nat × List Nat × Tr) → Bool
  | [] => true
  | (i, _, x) :: r => (isIn i ps || indep x y) && freeOf ps y r

section
variable {R : Type} (E : Env) (C : Orc) (nt : Nat) (ops : List Oper)

def skipped (o : Oper) (s : St) : St := putDst o.dst (.tup []) s

def opsK : List Oper → St → (St → Option R) → Option R
  | [], s, k => k s
  | o :: rest, s, k =>
    bif dstOk nt o.dst then
    match o.guard with
    | none => effK E C s o fun e => opsK rest (app o.dst e s) k
    | some (j, want) => match (ops[j]?).bind (·.dst) with
      | none => none
      | some g => match s.sl g with
        | .bool b => bif b then
            (bif want then effK E C { s with sl := put g (.bool true) s.sl } o fun e => opsK rest (app o.dst e { s with sl := put g (.bool true) s.sl }) k
             else opsK rest (skipped o { s with sl := put g (.bool true) s.sl }) k)
          else
            (bif want then opsK rest (skipped o { s with sl := put g (.bool false) s.sl }) k
             else effK E C { s with sl := put g (.bool false) s.sl } o fun e => opsK rest (app o.dst e { s with sl := put g (.bool false) s.sl }) k)
        | .tup [] => opsK rest (skipped o s) k
        | _ => none
    else none

/-- The same for a region that draws its order: beside it, that the order plays no part. -/
def opsD : Nat → List Oper → St → List (Nat × List Nat × Tr) → (St → Option R) → Option R
  | _, [], s, _, k => k s
  | i, o :: rest, s, tr, k =>
    bif dstOk nt o.dst && edgesOk i o.after.toList then
    let go (s : St) (e : Eff) : Option R :=
      bif freeOf (predsOf tr o.after.toList) ⟨o.dst, slotsOf ops o, e⟩ tr then opsD (i + 1) rest (app o.dst e s) ((i, predsOf tr o.after.toList, ⟨o.dst, slotsOf ops o, e⟩) :: tr) k else none
    match o.guard with
    | none => effK E C s o fun e => go s e
    | some (j, want) => match (ops[j]?).bind (·.dst) with
      | none => none
      | some g => match s.sl g with
        | .bool b => bif b then
            (bif want then effK E C { s with sl := put g (.bool true) s.sl } o fun e => go { s with sl := put g (.bool true) s.sl } e
             else go { s with sl := put g (.bool true) s.sl } { v := .tup [] })
          else
            (bif want then go { s with sl := put g (.bool false) s.sl } { v := .tup [] }
             else effK E C { s with sl := put g (.bool false) s.sl } o fun e => go { s with sl := put g (.bool false) s.sl } e)
        | .tup [] => go s { v := .tup [] }
        | _ => none
    else none
end

/-- What lives on at a loop's head, spelled anew. -/
def normP (s : St) (bs rs : List Nat) : V → V
  | .ptr b g o => bif isIn b bs && Nat.beq g (s.gen b) then .ptr b 1 o else .undef
  | .own id v => bif isIn id rs && Nat.beq v (s.ver id) then .own id 0 else .undef
  | .optr j o => .optr j o
  | .dptr cs o => bif cs.all isDataC then .dptr cs o else .undef
  | .tup vs => bif vs.all isData then .tup vs else .undef
  | v => bif isDataC v then v else .undef
def normC (s : St) (bs rs : List Nat) : V → V
  | .fn f caps => .fn f (caps.map (normP s bs rs))
  | v => normP s bs rs v
def normV (s : St) (bs rs : List Nat) : V → V
  | .agg cs => .agg (cs.map (normC s bs rs))
  | v => normC s bs rs v
/-- A row of pointers, spelled anew (a dangling one stays dangling). -/
def normR (s : St) (bs : List Nat) : Row → Row
  | ⟨.ptr, xs⟩ => ⟨.ptr, List.map (fun (p : Nat × Nat × Nat) => bif isIn p.1 bs && Nat.beq p.2.1 (s.gen p.1) then (p.1, 1, p.2.2) else (p.1, 0, p.2.2)) xs⟩
  | r => r
/-- Does a value lead to a row? -/
def refC (id : Nat) : V → Bool
  | .own i _ => Nat.beq i id
  | .bptr i _ _ => Nat.beq i id
  | _ => false
def refF (id : Nat) : V → Bool
  | .fn _ cs => cs.any (refC id)
  | v => refC id v
def refV (id : Nat) : V → Bool
  | .agg cs => cs.any (refF id)
  | v => refF id v
def refd (l : List Nat × List Nat × List Nat) (s : St) (id : Nat) : Bool :=
  (l.1.any fun t => refV id (s.sl t)) || (l.2.1.any fun b => match s.box b with | some cs => cs.any (refV id) | none => false)
def restrict (l : List Nat × List Nat × List Nat) (s : St) : St :=
  { sl := look .undef (l.1.map fun t => (t, normV s l.2.1 l.2.2 (s.sl t)))
    box := look none (l.2.1.map fun b => (b, (s.box b).map (·.map (normC s l.2.1 l.2.2))))
    gen := fun _ => 1
    row := look none (l.2.2.map fun r => (r, bif refd l s r then (s.row r).map (normR s l.2.1) else none))
    ver := fun _ => 0
    out := s.out }

def iter {R : Type} (f : St → (X → St → Option R) → Option R) (rs : St → St) : Nat → St → (X → St → Option R) → Option R
  | 0, _, _ => none
  | n + 1, s, k => f s fun e s' => match e with
    | .normal => iter f rs n (rs s') k
    | e => k e s'

/-- The first region of a piece of code: a loop's name. -/
def firstReg : Code → Option Nat
  | .region id _ _ => some id
  | .seq a b => match firstReg a with
    | some i => some i
    | none => firstReg b
  | .block _ c | .loop c | .scope c => firstReg c
  | .cond _ a b => match firstReg a with
    | some i => some i
    | none => firstReg b
  | _ => none

def codeK {R : Type} (E : Env) (C : Orc) (nt : Nat) (F : FuncId) (n : Nat) : Code → St → (X → St → Option R) → Option R
  | .skip, s, k => k .normal s
  | .region id ops draw, s, k =>
    bif draw then opsD E C nt ops.toList 0 ops.toList s [] (k .normal) else opsK E C nt ops.toList ops.toList s (k .normal)
  | .seq a b, s, k => codeK E C nt F n a s fun e s' => match e with
    | .normal => codeK E C nt F n b s' k
    | e => k e s'
  | .cond (.tmp t) a b, s, k => match s.sl t with
    | .bool x => bif x then codeK E C nt F n a { s with sl := put t (.bool true) s.sl } k else codeK E C nt F n b { s with sl := put t (.bool false) s.sl } k
    | _ => none
  | .block id c, s, k => codeK E C nt F n c s fun e s' => match e with
    | .exit i => bif Nat.beq i id then k .normal s' else k (.exit i) s'
    | e => k e s'
  | .loop c, s, k => iter (codeK E C nt F n c) (restrict (E.live F ((firstReg c).getD 0))) n (restrict (E.live F ((firstReg c).getD 0)) s) k
  | .exit id, s, k => k (.exit id) s
  | .ret, s, k => k .ret s
  | _, _, _ => none

/-- The results. -/
def resV (E : Env) (s : St) : List ResultVar → Option (List V)
  | [] => some []
  | .tmp t :: r => bif isData (esc s (s.sl t)) then (resV E s r).bind fun q => some (esc s (s.sl t) :: q) else none
  | .cell a t :: r => match s.sl a with
    | .ptr b g o => bif Nat.beq g (s.gen b) then (s.box b).bind fun cs => ((E.agg t).bind fun a => asVal a cs o).bind fun v => bif isData (esc s v) then (resV E s r).bind fun q => some (esc s v :: q) else none else none
    | _ => none
def resT : List V → V
  | [v] => v
  | vs => .tup vs
def finish (E : Env) (fn : Func) (s : St) : Option (V × List (List V)) :=
  (resV E s fn.results.toList).bind fun vs => some (resT vs, s.out)
def start (args : List V) (out : List (List V)) : St :=
  { sl := fun t => args.getD t .undef, box := fun _ => none, gen := fun _ => 0, row := fun _ => none, ver := fun _ => 0, out := out }
/-- A function, its rounds bounded. -/
def evalBody (E : Env) (C : Orc) (F : FuncId) (fn : Func) (n : Nat) (args : List V) (out : List (List V)) : Option (V × List (List V)) :=
  match fn.body with
  | none => none
  | some c => bif Nat.ble args.length fn.ntmps then codeK E C fn.ntmps F n c (start args out) fun e s => match e with
    | .normal => finish E fn s
    | .ret => finish E fn s
    | .exit _ => none
    else none

end Go.Ev
