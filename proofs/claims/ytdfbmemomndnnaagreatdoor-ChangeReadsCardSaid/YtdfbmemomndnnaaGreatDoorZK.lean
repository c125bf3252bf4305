/-
  Loops of a function's code, each by its place: what one of them does with so many rounds left, and what comes behind it.
-/
import Derived.Test.YtdfbmemomndnnaaGreatDoorZJ
namespace Go.Ev

/-- A state at a loop's head. -/
def hd (sl : List (Nat × V)) (bx : List (Nat × Option (List V))) (rw : List (Nat × Option Row)) (out : List (List V)) : St :=
  { sl := look .undef sl, box := look none bx, gen := fun _ => 1, row := look none rw, ver := fun _ => 0, out := out }

/-- The loop at a place: 0: into the first part, 1: into the second, 2 + q: into a loop's body, q rounds left of that loop. -/
def loopIn {R : Type} (E : Env) (C : Orc) (nt : Nat) (F : FuncId) (n : Nat) : List Nat → Code → (X → St → Option R) → Nat → St → Option R
  | [], .loop c, k, m, s => iter (codeK E C nt F n c) (restrict (E.live F ((firstReg c).getD 0))) m s k
  | 0 :: p, .seq a b, k, m, s => loopIn E C nt F n p a (fun e s' => match e with
    | .normal => codeK E C nt F n b s' k
    | e => k e s') m s
  | _ :: p, .seq _ b, k, m, s => loopIn E C nt F n p b k m s
  | 0 :: p, .cond _ a _, k, m, s => loopIn E C nt F n p a k m s
  | _ :: p, .cond _ _ b, k, m, s => loopIn E C nt F n p b k m s
  | _ :: p, .block id c, k, m, s => loopIn E C nt F n p c (fun e s' => match e with
    | .exit i => bif Nat.beq i id then k .normal s' else k (.exit i) s'
    | e => k e s') m s
  | (q + 2) :: p, .loop c, k, m, s => loopIn E C nt F n p c (fun e s' => match e with
    | .normal => iter (codeK E C nt F n c) (restrict (E.live F ((firstReg c).getD 0))) q (restrict (E.live F ((firstReg c).getD 0)) s') k
    | e => k e s') m s
  | _, _, _, _, _ => none
def loopOf (E : Env) (C : Orc) (F : FuncId) (fn : Func) (n : Nat) (p : List Nat) (m : Nat) (s : St) : Option (V × List (List V)) :=
  match fn.body with
  | none => none
  | some c => loopIn E C fn.ntmps F n p c (fun e s => match e with
    | .normal => finish E fn s
    | .ret => finish E fn s
    | .exit _ => none) m s
end Go.Ev
/-
  What the program's functions compute, in plain Lean: definitions alone.
-/
namespace Go.Ev.Sp
open Go.Ev

def lim : Nat := 1000000000
def ok (s : Str) : Bool := Nat.ble s.length lim
/-- Numbers of changes. -/
structure Csn where
  t : Int
  s : Int
  r : Int
def cmp3 (x y : Int) : Int := bif decide (x < y) then -1 else bif decide (y < x) then 1 else 0
def orInt : List Int → Int
  | [] => 0
  | x :: l => bif x == 0 then orInt l else x
def csnIs (t s r : Int) : Bool := decide (0 ≤ t) && decide (t ≤ 1099511627776) && decide (0 ≤ s) && decide (s ≤ 65535) && decide (0 ≤ r) && decide (r < 6)
def csnZero (t s r : Int) : Bool := t == 0 && s == 0 && r == 0
def csnCmp (t s r t' s' r' : Int) : Int := orInt [cmp3 t t', cmp3 s s', cmp3 r r']

/-! Texts -/
abbrev ch (c : UInt8) : Int := (c.toNat : Int)
def low (c : UInt8) : UInt8 := bif decide (65 ≤ ch c) && decide (ch c ≤ 90) then c + 32 else c
def lower (s : Str) : Str := s.map low
def isDig (c : UInt8) : Bool := decide (48 ≤ ch c) && decide (ch c ≤ 57)
def isSmall (c : UInt8) : Bool := decide (97 ≤ ch c) && decide (ch c ≤ 122)
def isPl (c : UInt8) : Bool := decide (32 ≤ ch c) && decide (ch c ≤ 126)
def isPlain (s : Str) : Bool := s.all isPl
def hasPre (s p : Str) : Bool := Nat.ble p.length s.length && (s.take p.length == p)
def trimPre (s p : Str) : Str := bif hasPre s p then s.drop p.length else s
def isInt (s : Str) : Bool :=
  !(trimPre s [45] == []) && Nat.ble (trimPre s [45]).length 15 && !((trimPre s [45]).head? == some 48 && !(s == [48])) && (trimPre s [45]).all isDig
def ltrim (n : Int) (s : Str) : Str := s.dropWhile fun c => ch c == n
def rtrim (n : Int) (s : Str) : Str := (s.reverse.dropWhile fun c => ch c == n).reverse
def trim (n : Int) (s : Str) : Str := ltrim n (rtrim n s)
/-- Where a byte first is; -1: nowhere. -/
def find (n : Int) : Str → Nat → Int
  | [], _ => -1
  | x :: s, i => bif ch x == n then (i : Int) else find n s (i + 1)
def isTyc (c : UInt8) : Bool := isSmall c || isDig c || ch c == 45
def isType (s : Str) : Bool :=
  match s with
  | [] => false
  | c :: _ => Nat.ble s.length 16 && isSmall c && s.all isTyc

/-! Types -/
def tx (s : List UInt8) (syn : Int) (single : Bool) : Typ := ⟨s, syn, single⟩
def sId : Str := [101, 110, 116, 114, 121, 105, 100]
def allT : List Typ := [
  ⟨[97, 99, 105], 2, false⟩, ⟨[99], 1, true⟩, ⟨[99, 110], 1, false⟩, ⟨[100, 99], 1, false⟩,
  ⟨[100, 101, 115, 99, 114, 105, 112, 116, 105, 111, 110], 1, false⟩, ⟨sId, 2, true⟩, ⟨[109, 97, 105, 108], 2, false⟩,
  ⟨[109, 101, 109, 98, 101, 114], 5, false⟩, ⟨[111], 1, false⟩, ⟨[111, 117], 1, false⟩, ⟨[115, 110], 1, false⟩, ⟨[116, 105, 116, 108, 101], 1, true⟩,
  ⟨[117, 105, 100], 1, false⟩, ⟨[117, 105, 100, 110, 117, 109, 98, 101, 114], 3, true⟩,
  ⟨[117, 115, 101, 114, 112, 97, 115, 115, 119, 111, 114, 100], 4, false⟩]
def findIn (l : List Typ) (s : Str) : Option Typ := l.find? fun t => t.name == s
def findT (name : Str) : Option Typ := findIn allT (lower name)
def noT : Typ := ⟨[], 0, false⟩

/-! Names -/
/-- Pieces between bytes that no backslash is ahead of; the first piece begins with what is in 'acc'. -/
def cutA (sep : Int) : Nat → Str → Str → List Str
  | 0, s, acc => [acc ++ s]
  | _, [], acc => [acc]
  | n + 1, c :: s, acc => bif ch c == 92 then (match s with | [] => [acc ++ [c]] | d :: r => cutA sep n r (acc ++ [c, d])) else bif ch c == sep then acc :: cutA sep n s [] else cutA sep n s (acc ++ [c])
def cut (sep : Int) (s : Str) : List Str := cutA sep s.length s []
def hexd (c : UInt8) : Option Int :=
  bif decide (48 ≤ ch c) && decide (ch c ≤ 57) then some (ch c - 48) else
  bif decide (97 ≤ ch c) && decide (ch c ≤ 102) then some (ch c - 87) else
  bif decide (65 ≤ ch c) && decide (ch c ≤ 70) then some (ch c - 55) else none
def special (c : UInt8) : Bool := ch c == 44 || ch c == 43 || ch c == 34 || ch c == 92 || ch c == 60 || ch c == 62 || ch c == 59
def mayEsc (c : UInt8) : Bool := special c || ch c == 35 || ch c == 61 || ch c == 32
/-- A value that was written, and whether it is one; the Bool beside it: was the byte ahead a blank? -/
def unescA : Nat → Str → Bool → Option (Str × Bool)
  | _, [], b => some ([], !b)
  | 0, _ :: _, _ => none
  | n + 1, c :: s, _ =>
    bif ch c == 92 then
      match s with
      | [] => none
      | d :: r =>
        bif mayEsc d then (unescA n r false).map fun p => (d :: p.1, p.2) else
        match hexd d, r with
        | some a, e :: q => (match hexd e with
          | some b => (unescA n q false).map fun p => (UInt8.ofNat (16 * a + b).toNat :: p.1, p.2)
          | none => none)
        | _, _ => none
    else bif special c then none else (unescA n s (ch c == 32)).map fun p => (c :: p.1, p.2)
def unescP (s : Str) : Str × Bool :=
  match s with
  | [] => ([], true)
  | c :: _ => bif ch c == 35 || ch c == 32 then ([], false) else (unescA s.length s false).getD ([], false)
def unesc (s : Str) : Option Str := bif (unescP s).2 then some (unescP s).1 else none
def isAva (a : AVA) : Bool := isType a.attr && !(a.value == []) && Nat.ble a.value.length 60
/-- No type twice: of those ahead, and those behind. -/
def uniqA : List AVA → List AVA → Bool
  | _, [] => true
  | pre, a :: l => !(pre.any fun o => o.attr == a.attr) && uniqA (pre ++ [a]) l
def isRDN (r : List AVA) : Bool := Nat.ble 1 r.length && Nat.ble r.length 4 && r.all isAva && uniqA [] r
/-- Ahead of the first '=', and behind it. -/
def cutEq : Str → Option (Str × Str)
  | [] => none
  | c :: s => bif ch c == 61 then some ([], s) else (cutEq s).map fun p => (c :: p.1, p.2)
def eqL (s : Str) : Str := match cutEq s with | some p => p.1 | none => s
def eqR (s : Str) : Str := match cutEq s with | some p => p.2 | none => []
def hasEq (s : Str) : Bool := (cutEq s).isSome
def ava (p : Str) : Option AVA := bif hasEq p then (unesc (eqR p)).map fun v => ⟨lower (eqL p), v⟩ else none
def allSome {α β : Type} (f : α → Option β) : List α → Option (List β)
  | [] => some []
  | x :: l => (f x).bind fun y => (allSome f l).map (y :: ·)
def parseRDN (s : Str) : Option (List AVA) := (allSome ava (cut 43 s)).bind fun r => bif isRDN r then some r else none
def parse (s : Str) : Option (List (List AVA)) :=
  match s with
  | [] => some []
  | s => (allSome parseRDN (cut 44 s)).bind fun d => bif Nat.ble d.length 8 then some d else none

/-! Values -/
def may (syn : Int) (v : Str) : Bool :=
  bif syn == 1 then !(v.all fun c => ch c == 32) && isPlain v else bif syn == 2 then isPlain v else bif syn == 3 then isInt v else bif syn == 5 then (parse v).isSome else true
def check (name v : Str) : Int :=
  match findT name with
  | none => 16
  | some t => bif (v == []) || !(Nat.ble v.length 60) || !(may t.syn v) then 17 else 0
def isRDNc (r : List AVA) : Bool := isRDN r && Nat.blt r.length 4 && r.all fun a => !(a.attr == sId) && check a.attr a.value == 0
def isMod (last : Int) (m : Mod) : Bool :=
  (match findT m.attr with | some t => t.name == m.attr | none => false) && !(m.attr == sId) && decide (1 ≤ m.kind) && decide (m.kind ≤ last) && Nat.ble m.values.length 12 &&
  !(m.kind == 1 && m.values.isEmpty) && m.values.all fun v => check m.attr v == 0
def isMods (last : Int) (l : List Mod) : Bool := l.all (isMod last) && Nat.ble l.length 8

/-! Changes -/
structure Chn where
  c : Csn
  kind : Int
  id : Csn
  par : Csn
  rdn : List AVA
  del : Bool
  mods : List Mod
def Csn.is (x : Csn) : Bool := csnIs x.t x.s x.r
def Csn.zero (x : Csn) : Bool := csnZero x.t x.s x.r
def Csn.cmp (x y : Csn) : Int := csnCmp x.t x.s x.r y.t y.s y.r
def Csn.same (x y : Csn) : Bool := x.t == y.t && x.s == y.s && x.r == y.r
def Csn.below (x y : Csn) : Bool := decide (x.cmp y < 0)
def Chn.bare (x : Chn) : Bool := x.par.zero && x.rdn.isEmpty && !x.del
def isChange (x : Chn) : Bool :=
  x.c.is && !x.c.zero && x.id.is && x.par.is &&
  (bif x.kind == 1 then x.id.same x.c && x.par.below x.c && isRDNc x.rdn && isMods 1 x.mods && !x.del else
   bif x.kind == 2 then !x.id.zero && x.id.below x.c && x.bare && x.mods.isEmpty else
   bif x.kind == 3 then x.id.below x.c && x.bare && !x.mods.isEmpty && isMods 3 x.mods else
   bif x.kind == 4 then !x.id.zero && x.id.below x.c && x.par.below x.c && isRDNc x.rdn && x.mods.isEmpty else false)
end Go.Ev.Sp
/-
  The program's functions as tables of answers: what each is claimed to answer; the oracles that their callers ask.
-/
namespace Go.Ev
open Go.Proofs
abbrev Ans := Option (Bool × V × List (List V))
abbrev Spec := List V → List (List V) → Ans
def orc : List (FuncId × Spec) → Orc
  | [], _, _, _ => none
  | (g, sp) :: l, f, args, outs => bif Nat.beq f g then sp args outs else orc l f args outs
def SpecOk (T : Tab) (f : FuncId) (sp : Spec) : Prop := ∀ args outs r outs', sp args outs = some (true, r, outs') → Answers Tryz.prog T f args outs r outs'
theorem orc_nil {T : Tab} : OrcOk Tryz.prog T (orc []) := fun _ _ _ _ _ h => by cases h
theorem orc_cons {T : Tab} {g : FuncId} {sp : Spec} {l : List (FuncId × Spec)} (h1 : SpecOk T g sp) (h2 : OrcOk Tryz.prog T (orc l)) : OrcOk Tryz.prog T (orc ((g, sp) :: l)) := fun f args outs r outs' h => by
  simp only [orc] at h
  cases hb : Nat.beq f g with
  | true => rw [hb] at h; obtain rfl := natbeq hb; exact h1 args outs r outs' h
  | false => rw [hb] at h; exact h2 f args outs r outs' h
theorem orc1 {T : Tab} {g : FuncId} {sp : Spec} (h1 : SpecOk T g sp) : OrcOk Tryz.prog T (orc [(g, sp)]) := orc_cons h1 orc_nil
/-- By a function's body. -/
theorem body {T : Tab} {C : Orc} (hC : OrcOk Tryz.prog T C) {f : FuncId} {fn : Func} (hf : Tryz.prog.funcs[f]? = some fn) {n : Nat} {args : List V} {outs : List (List V)} {r : V} {outs' : List (List V)}
    (h : evalBody E C f fn n args outs = some (r, outs')) : Answers Tryz.prog T f args outs r outs' :=
  body_ok envOk hC mixedOk hf (by have := List.all_eq_true.1 namesOk fn (Array.mem_toList_iff.2 (Array.mem_of_getElem? hf)); simpa using this) h

namespace Sp
def Csn.cells (x : Csn) : List V := [.int .i64 x.t, .int .i64 x.s, .int .i64 x.r]
def Chn.cells (x : Chn) : List V := [.int .i64 x.c.t, .int .i64 x.c.s, .int .i64 x.c.r, .int .i64 x.kind, .int .i64 x.id.t, .int .i64 x.id.s, .int .i64 x.id.r, .int .i64 x.par.t, .int .i64 x.par.s, .int .i64 x.par.r, .sl .ava x.rdn, .bool x.del, .sl .mod x.mods]
def csnOf : List V → Option Csn
  | [.int .i64 t, .int .i64 s, .int .i64 r] => some ⟨t, s, r⟩
  | _ => none
def chgOf : List V → Option Chn
  | [.int .i64 a1, .int .i64 a2, .int .i64 a3, .int .i64 k, .int .i64 b1, .int .i64 b2, .int .i64 b3, .int .i64 c1, .int .i64 c2, .int .i64 c3, .sl .ava rdn, .bool del, .sl .mod mods] =>
    some ⟨⟨a1, a2, a3⟩, k, ⟨b1, b2, b3⟩, ⟨c1, c2, c3⟩, rdn, del, mods⟩
  | _ => none
theorem chgOf_cells {cs : List V} {x : Chn} (h : chgOf cs = some x) : cs = x.cells := by
  unfold chgOf at h
  split at h
  · simp only [Option.some.injEq] at h; subst h; rfl
  · cases h
theorem csnOf_cells {cs : List V} {x : Csn} (h : csnOf cs = some x) : cs = x.cells := by
  unfold csnOf at h
  split at h
  · simp only [Option.some.injEq] at h; subst h; rfl
  · cases h
def okA (a : AVA) : Bool := ok a.attr && ok a.value
def okAs (l : List AVA) : Bool := Nat.ble l.length lim && l.all okA
def okSs (l : List Str) : Bool := Nat.ble l.length lim && l.all ok
def okM (m : Mod) : Bool := ok m.attr && okSs m.values
def okMs (l : List Mod) : Bool := Nat.ble l.length lim && l.all okM
def Chn.ok (x : Chn) : Bool := okAs x.rdn && okMs x.mods
def ixOf {α : Type} (p : α → Bool) : List α → Nat → Int
  | [], _ => -1
  | x :: l, i => bif p x then (i : Int) else ixOf p l (i + 1)
def typV (t : Typ) : V := .agg [.str t.name, .int .i64 t.syn, .bool t.single]
def parseV (s : Str) : V := .tup [.sl .rdn ((parse s).getD []), .int .i64 (bif (parse s).isSome then 0 else 15)]
def parseRV (s : Str) : V := .tup [.sl .ava ((parseRDN s).getD []), .int .i64 (bif (parseRDN s).isSome then 0 else 15)]
def digV (s : Str) (i : Int) : Option Int := (s.drop i.toNat).head?.bind hexd
def digN (s : Str) (i : Int) : Int := (digV s i).getD 0
def digB (s : Str) (i : Int) : Bool := (digV s i).isSome
def isB (n : Int) : Bool := decide (0 ≤ n) && decide (n < 256)
end Sp
open Sp

def sp72 : Spec | [.int .i64 _], [] => some (true, .bool false, []) | _, _ => none
def sp73 : Spec | [.int .i64 _], [] => some (true, .bool false, []) | _, _ => none
def sp52 : Spec | [.int .i64 x, .int .i64 y], [] => some (true, .int .i64 (cmp3 x y), []) | _, _ => none
def sp53 : Spec | [.int .i64 x, .int .i64 y], [] => some (true, .int .i64 (cmp3 x y), []) | _, _ => none
def sp51 : Spec | [.sl .int l], [] => some (Nat.ble (List.length (α := Int) l) lim, .int .i64 (orInt l), []) | _, _ => none
def sp27 : Spec | [.agg xs, .agg ys], [] => (csnOf xs).bind fun x => (csnOf ys).bind fun y => some (true, .int .i64 (x.cmp y), []) | _, _ => none
def sp24 : Spec | [.agg xs], [] => (csnOf xs).bind fun x => some (true, .bool x.is, []) | _, _ => none
def sp25 : Spec | [.agg xs], [] => (csnOf xs).bind fun x => some (true, .bool x.zero, []) | _, _ => none
def sp26 : Spec | [.agg xs, .optr 0 0], [cs] => (csnOf xs).bind fun x => (chgOf cs).bind fun y => some (true, .bool (x.below y.c), [cs]) | _, _ => none
def sp78 : Spec | [.str s], [] => some (ok s, .str (lower s), []) | _, _ => none
def sp79 : Spec | [], [] => some (true, .sl .typ allT, []) | _, _ => none
def sp58 : Spec | [.str s], [] => some (ok s, .tup [typV ((findT s).getD noT), .bool (findT s).isSome], []) | _, _ => none
def sp94 : Spec | [.str s], [] => some (ok s, .bool (isPlain s), []) | _, _ => none
def sp153 : Spec | [.str s, .str p], [] => some (true, .bool (hasPre s p), []) | _, _ => none
def sp139 : Spec | [.str s, .str p], [] => some (true, .str (trimPre s p), []) | _, _ => none
def sp95 : Spec | [.str s], [] => some (true, .bool (isInt s), []) | _, _ => none
def sp112 : Spec | [.str s, .int .u8 n], [] => some (true, .str (ltrim n s), []) | _, _ => none
def sp113 : Spec | [.str s, .int .u8 n], [] => some (ok s, .str (rtrim n s), []) | _, _ => none
def sp93 : Spec | [.str s, .str [32]], [] => some (ok s, .str (trim 32 s), []) | _, _ => none
def sp158 : Spec | [.str s, .int .u8 n], [] => some (isB n, .int .i64 (find n s 0), []) | _, _ => none
def sp126 : Spec | [.str s, .str [c]], [] => some (true, .int .i64 (find (ch c) s 0), []) | _, _ => none
def sp154 : Spec | [.str s, .str [61]], [] => some (ok s, .tup [.str (eqL s), .str (eqR s), .bool (hasEq s)], []) | _, _ => none
def sp157 : Spec | [.str s, .int .i64 i], [] => some (ok s && decide (0 ≤ i), .tup [.int .u8 (digN s i), .bool (digB s i)], []) | _, _ => none
def sp141 : Spec | [.str s], [] => some (ok s, .tup [.str (unescP s).1, .bool (unescP s).2], []) | _, _ => none
def sp120 : Spec | [.str s, .int .u8 n], [] => some (ok s, .sl .str (cut n s), []) | _, _ => none
def sp74 : Spec | [.str s], [] => some (true, .bool (isType s), []) | _, _ => none
def sp75 : Spec | [.agg [.str a, .str _], .optr 0 0], [[.str b, .str w]] => some (true, .bool (a == b), [[.str b, .str w]]) | _, _ => none
def sp76a : Spec | [.sl .ava xs, .fn 75 [.optr 0 0]], [[.str b, .str w]] => some (Nat.ble (List.length (α := AVA) xs) lim, .int .i64 (ixOf (fun (o : AVA) => o.attr == b) xs 0), [[.str b, .str w]]) | _, _ => none
def sp55a : Spec | [.sl .ava xs, .fn 75 [.optr 0 0]], [[.str b, .str w]] => some (Nat.ble (List.length (α := AVA) xs) lim, .bool (List.any (α := AVA) xs fun o => o.attr == b), [[.str b, .str w]]) | _, _ => none
def sp54 : Spec | [.sl .ava r], [] => some (Nat.ble (List.length (α := AVA) r) lim, .bool (isRDN r), []) | _, _ => none
def sp121 : Spec | [.str s], [] => some (ok s, parseRV s, []) | _, _ => none
def sp96 : Spec | [.str s], [] => some (ok s, parseV s, []) | _, _ => none
def sp77 : Spec | [.int .i64 n, .str s], [] => some (ok s, .bool (may n s), []) | _, _ => none
def sp57 : Spec | [.str a, .str v], [] => some (ok a && ok v, .int .i64 (check a v), []) | _, _ => none
def badA (a : AVA) : Bool := a.attr == sId || !(check a.attr a.value == 0)
def sp56 : Spec | [.agg [.str a, .str v]], [] => some (ok a && ok v, .bool (badA ⟨a, v⟩), []) | _, _ => none
def sp76b : Spec | [.sl .ava xs, .fn 56 []], [] => some (okAs xs, .int .i64 (ixOf badA xs 0), []) | _, _ => none
def sp55b : Spec | [.sl .ava xs, .fn 56 []], [] => some (okAs xs, .bool (List.any (α := AVA) xs badA), []) | _, _ => none
def sp28 : Spec | [.sl .ava r], [] => some (okAs r, .bool (isRDNc r), []) | _, _ => none
def sp60 : Spec | [.str v, .optr 0 0], [[.int .i64 k, .str a, .sl .str l]] => some (ok v && ok a, .bool (!(check a v == 0)), [[.int .i64 k, .str a, .sl .str l]]) | _, _ => none
def sp80 : Spec | [.sl .str xs, .fn 60 [.optr 0 0]], [[.int .i64 k, .str a, .sl .str l]] => some (okSs xs && ok a, .int .i64 (ixOf (fun v => !(check a v == 0)) xs 0), [[.int .i64 k, .str a, .sl .str l]]) | _, _ => none
def sp59 : Spec | [.sl .str xs, .fn 60 [.optr 0 0]], [[.int .i64 k, .str a, .sl .str l]] => some (okSs xs && ok a, .bool (List.any (α := Str) xs fun v => !(check a v == 0)), [[.int .i64 k, .str a, .sl .str l]]) | _, _ => none
def sp29 : Spec | [.sl .mod l, .int .i64 last], [] => some (okMs l, .bool (isMods last l), []) | _, _ => none
def sp10 : Spec | [.agg cs], [] => (chgOf cs).bind fun x => some (x.ok, .bool (isChange x), []) | _, _ => none

def c0 : Orc := orc []
def c52 : Orc := orc [(72, sp72)]
def c53 : Orc := orc [(73, sp73)]
def c27 : Orc := orc [(52, sp52), (53, sp53), (51, sp51)]
def c26 : Orc := orc [(27, sp27)]
def c58 : Orc := orc [(78, sp78), (79, sp79)]
def c95 : Orc := orc [(119, sp139)]
def c119 : Orc := orc [(139, sp139)]
def c139 : Orc := orc [(153, sp153)]
def c155 : Orc := orc [(153, sp153)]
def c93 : Orc := orc [(112, sp112), (113, sp113)]
def c145 : Orc := orc [(158, sp158)]
def c156 : Orc := orc [(145, sp158)]
def c126 : Orc := orc [(145, sp158)]
def c154 : Orc := orc [(126, sp126)]
def c140 : Orc := orc [(154, sp154)]
def c157 : Orc := orc [(78, sp78), (156, sp158)]
def c141 : Orc := orc [(155, sp153), (156, sp158), (157, sp157)]
def c54 : Orc := orc [(74, sp74), (55, sp55a)]
def c55a : Orc := orc [(76, sp76a)]
def c76a : Orc := orc [(75, sp75)]
def c121 : Orc := orc [(120, sp120), (140, sp154), (141, sp141), (78, sp78), (54, sp54)]
def c96 : Orc := orc [(120, sp120), (121, sp121)]
def c77 : Orc := orc [(93, sp93), (94, sp94), (95, sp95), (96, sp96)]
def c57 : Orc := orc [(58, sp58), (77, sp77)]
def c56 : Orc := orc [(57, sp57)]
def c76b : Orc := orc [(56, sp56)]
def c55b : Orc := orc [(76, sp76b)]
def c28 : Orc := orc [(54, sp54), (55, sp55b)]
def c60 : Orc := orc [(57, sp57)]
def c80 : Orc := orc [(60, sp60)]
def c59 : Orc := orc [(80, sp80)]
def c29 : Orc := orc [(58, sp58), (59, sp59)]
def c10 : Orc := orc [(24, sp24), (25, sp25), (26, sp26), (28, sp28), (29, sp29)]
end Go.Ev
