/-
  What the program's readers compute, in plain Lean: definitions; their tables of answers.
-/
import Derived.Test.YtdfbmemomndnnaaGreatDoorZU
namespace Go.Ev
open Go.Proofs
namespace Sp
def e0 : Elem := .mk 0 [] []
/-- A number with a byte behind it; bytes as a number, behind what is ahead of them. -/
def step8 (a : Int) (c : UInt8) : Int := IntKind.wrap .i64 (BitVec.toNat (BitVec.ofInt 64 (IntKind.wrap .i64 (a * 2 ^ 8)) ||| BitVec.ofInt 64 (IntKind.wrap .i64 (ch c))) : Int)
def cat8 (i : Int) (s : Str) : Int := s.foldl step8 i
/-- An element's head: its length, its body's length, an error. -/
def headF : Str → Int × Int × Int
  | [] => (0, 0, 10)
  | c :: r => bif band (ch c) 31 == 31 then (0, 0, 14) else match r with
    | [] => (0, 0, 10)
    | d :: q => bif ch d == 128 || decide (ch d > 132) then (0, 0, 11) else bif decide (ch d > 128) then
        (bif decide ((q.length : Int) < ch d - 128) then (0, 0, 10) else
         bif decide (cat8 0 (q.take (ch d - 128).toNat) > 4000) then (0, 0, 13) else (2 + (ch d - 128), cat8 0 (q.take (ch d - 128).toNat), 0)) else (2, ch d, 0)
/-- What a reading comes to: an element, where it ends, an error, where the last one began. -/
structure Rdg where
  e : Elem
  next : Int
  err : Int
  at' : Int
def kidsF (f : Int → Rdg) (stop : Int) : Nat → Int → List Elem → Int → Rdg
  | 0, _, _, a => ⟨e0, 0, 0, a⟩
  | m + 1, p, acc, a => bif decide (p < stop) then (bif !((f p).err == 0) then ⟨e0, 0, (f p).err, (f p).at'⟩ else kidsF f stop m (f p).next (acc ++ [(f p).e]) (f p).at') else ⟨.mk 0 [] acc, p, 0, a⟩
def slc (s : Str) (p e : Int) : Str := (s.take e.toNat).drop p.toNat
def kidsR (tag stop : Int) (r : Rdg) : Rdg := bif r.err == 0 then ⟨.mk tag [] r.e.kids, stop, 0, r.at'⟩ else ⟨e0, 0, r.err, r.at'⟩
def readB (f : Int → Int → Rdg) (raw : Str) (p e dep : Int) (h : Int × Int × Int) : Rdg :=
  bif h.2.2 == 0 then
    bif decide (h.2.1 > e - p - h.1) then ⟨e0, 0, bif decide (dep > 1) then 11 else 10, p⟩ else
    bif band (ch (raw.getD p.toNat 0)) 32 == 0 then ⟨.mk (ch (raw.getD p.toNat 0)) (slc raw (p + h.1) (p + h.1 + h.2.1)) [], p + h.1 + h.2.1, 0, p⟩ else
    kidsR (ch (raw.getD p.toNat 0)) (p + h.1 + h.2.1) (kidsF (fun q => f q (p + h.1 + h.2.1)) (p + h.1 + h.2.1) (h.2.1.toNat + 1) (p + h.1) [] p)
  else ⟨e0, 0, bif h.2.2 == 10 && decide (dep > 1) then 11 else h.2.2, p⟩
def readF : Nat → Str → Int → Int → Int → Rdg
  | 0, _, p, _, _ => ⟨e0, 0, 12, p⟩
  | d + 1, raw, p, e, dep => bif decide (dep > 20) then ⟨e0, 0, 12, p⟩ else readB (fun q stop => readF d raw q stop (dep + 1)) raw p e dep (headF (slc raw p e))
def rdG (d : Nat) (raw : Str) (p e dep : Int) : Bool :=
  ok raw && Nat.blt 0 d && decide (0 ≤ p) && decide (p ≤ e) && decide (e ≤ raw.length) && decide (1 ≤ dep) && decide (dep ≤ 21) && decide (22 ≤ (d : Int) + dep)
def topF (s : Str) : Rdg := readF 22 s 0 s.length 1
def topE (s : Str) : Elem := bif (topF s).err == 0 then (topF s).e else e0
def topN (s : Str) : Int := bif (topF s).err == 0 then (topF s).next else 0
def topA (s : Str) : Int := bif (topF s).err == 0 then 0 else (topF s).at'
/-! Numbers -/
def rdN (s : Str) : Int := cat8 (bif band (ch (s.getD 0 0)) 128 == 0 then 0 else -1) s
def rdOk (s : Str) : Bool := !(s == []) && Nat.ble s.length 8 && (intB (rdN s) == s)
def rdI (s : Str) : Int := bif rdOk s then rdN s else 0
/-! Numbers of changes -/
def numOk (s : Str) : Bool := numK s && decide (0 ≤ numN s) && decide (numN s ≤ 1099511627776)
def csn3 (a b c : Str) : Csn := ⟨numN a, numN b, numN c⟩
def csn0 : Csn := ⟨0, 0, 0⟩
def parseC (s : Str) : Option Csn := match Lib.split s [46] with
  | [a, b, c] => bif numOk a && numOk b && numOk c && ((csn3 a b c).is && csnText (csn3 a b c) == s) then some (csn3 a b c) else none
  | _ => none
end Sp
open Sp
def sp86 : Spec | [.str s], [] => some (ok s, .tup [.int .i64 (headF s).1, .int .i64 (headF s).2.1, .int .i64 (headF s).2.2], []) | _, _ => none
def sp64 (d : Nat) : Spec
  | [.optr 0 0, .int .i64 p, .int .i64 e, .int .i64 dep], [[.str raw, .int .i64 _]] =>
    some (rdG d raw p e dep, .tup [.agg [.int .u8 (readF d raw p e dep).e.tag, .str (readF d raw p e dep).e.body, .sl .elem (readF d raw p e dep).e.kids], .int .i64 (readF d raw p e dep).next, .int .i64 (readF d raw p e dep).err], [[.str raw, .int .i64 (readF d raw p e dep).at']])
  | _, _ => none
def sp43 : Spec | [.str s], [] => some (ok s, .tup [.agg [.int .u8 (topE s).tag, .str (topE s).body, .sl .elem (topE s).kids], .int .i64 (topN s), .int .i64 (topA s), .int .i64 (topF s).err], []) | _, _ => none
def sp44 : Spec | [.str s], [] => some (ok s, .tup [.int .i64 (rdI s), .bool (rdOk s)], []) | _, _ => none
def sp45 : Spec | [.str s], [] => some (ok s, .tup [.agg [.int .i64 ((parseC s).getD csn0).t, .int .i64 ((parseC s).getD csn0).s, .int .i64 ((parseC s).getD csn0).r], .int .i64 (bif (parseC s).isSome then 0 else 14)], []) | _, _ => none
def c64 (d : Nat) : Orc := orc [(86, sp86), (64, sp64 d)]
def c43 : Orc := orc [(64, sp64 22)]
def c44 : Orc := orc [(46, sp46)]
/-- A text cut at a dot, told ahead. -/
def sp65x (s : Str) (l : List Str) : Spec | [.str s', .str [46]], [] => some (s' == s, .sl .str l, []) | _, _ => none
def c45 (s : Str) (l : List Str) : Orc := orc [(65, sp65x s l), (66, sp66), (24, sp24), (50, sp50)]
def c16 : Orc := orc [(43, sp43), (44, sp44), (45, sp45), (9, sp9)]
end Go.Ev
/-
  The statements' own readers: their tables of answers.
-/
namespace Go.Ev
open Go.Proofs Sp
def sp16x (s : Str) (c : Chn) (e : Int) : Spec | [.str s'], [] => some (s' == s, .tup [.agg c.cells, .int .i64 e], []) | _, _ => none
def c14 (s : Str) (c : Chn) (e : Int) : Orc := orc [(16, sp16x s c e), (13, sp12), (9, sp9), (11, sp10)]
def sp14 : Spec | [.str s], [] => some (ok s, .bool true, []) | _, _ => none
def c4 : Orc := orc [(7, sp7), (8, sp8), (9, sp9), (14, sp14)]
end Go.Ev
