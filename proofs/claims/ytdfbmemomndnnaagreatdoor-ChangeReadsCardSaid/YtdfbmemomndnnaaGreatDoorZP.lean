/-
  What further functions of the program, of the references and of the statements compute, in plain Lean: definitions; their tables of answers.
-/
import Derived.Test.YtdfbmemomndnnaaGreatDoorZK
import Derived.Lib.ItoaNum
namespace Go.Ev
open Go.Proofs
namespace Sp
def big : Nat := 9223372036854775807
/-! What the statements speak of -/
def fewA (a : AVA) : Bool := Nat.ble a.attr.length 30 && Nat.ble a.value.length 80
def fewRDN (l : List AVA) : Bool := l.all fewA && Nat.ble l.length 6
def fewM (m : Mod) : Bool := Nat.ble m.attr.length 30 && Nat.ble m.values.length 20 && m.values.all fun v => Nat.ble v.length 80
def fewMods (l : List Mod) : Bool := l.all fewM && Nat.ble l.length 14
def few (x : Chn) : Bool := fewMods x.mods && fewRDN x.rdn
def bigMs (l : List Mod) : Bool := Nat.ble l.length big && l.all fun m => Nat.ble m.values.length big
def bigC (x : Chn) : Bool := bigMs x.mods && Nat.ble x.rdn.length big
/-! Alike -/
def sameA (a b : AVA) : Bool := a.attr == b.attr && a.value == b.value
def sameAs : List AVA → List AVA → Bool
  | [], [] => true
  | a :: l, b :: r => sameA a b && sameAs l r
  | _, _ => false
def sameSs : List Str → List Str → Bool
  | [], [] => true
  | a :: l, b :: r => a == b && sameSs l r
  | _, _ => false
def sameM (a b : Mod) : Bool := a.kind == b.kind && a.attr == b.attr && sameSs a.values b.values
def sameMs : List Mod → List Mod → Bool
  | [], [] => true
  | a :: l, b :: r => sameM a b && sameMs l r
  | _, _ => false
def sameC (x y : Chn) : Bool := x.c.same y.c && x.kind == y.kind && x.id.same y.id && x.par.same y.par && sameAs x.rdn y.rdn && x.del == y.del && sameMs x.mods y.mods
/-! The reference's names -/
def ava2 (p : Str) : Option AVA := bif Nat.ble 2 (cut 44 p).length then none else ava p
def parseRDN2 (s : Str) : Option (List AVA) := (allSome ava2 (cut 43 s)).bind fun r => bif isRDN r then some r else none
def isDN (d : List (List AVA)) : Bool := Nat.ble d.length 8 && d.all isRDN
def okDN (d : List (List AVA)) : Bool := Nat.ble d.length lim && d.all fun r => Nat.ble r.length lim
def ok2 (s : Str) : Bool := Nat.ble s.length 1000
def speI (n : Int) : Bool := n == 44 || n == 43 || n == 34 || n == 92 || n == 60 || n == 62 || n == 59
def digI (n : Int) : Int :=
  bif decide (48 ≤ n) && decide (n ≤ 57) then n - 48 else
  bif decide (97 ≤ n) && decide (n ≤ 102) then n - 87 else
  bif decide (65 ≤ n) && decide (n ≤ 70) then n - 55 else -1
/-! Elements -/
def band (t m : Int) : Int := IntKind.wrap .u8 (BitVec.toNat (BitVec.ofInt 8 t &&& BitVec.ofInt 8 m) : Int)
/-- Within a depth, and of no great lists and texts. -/
def inF : Nat → Elem → Bool
  | 0, _ => false
  | d + 1, .mk _ b k => ok b && Nat.ble k.length lim && k.all (inF d)
def formedF : Nat → Elem → Bool
  | 0, _ => false
  | d + 1, .mk t b k => bif band t 31 == 31 then false else bif band t 32 == 0 then k.isEmpty else b == [] && k.all (formedF d)
def maxN (a b : Int) : Int := bif decide (b > a) then b else a
def deepF : Nat → Elem → Int
  | 0, _ => 0
  | d + 1, .mk _ _ k => k.foldl (fun n e => maxN n (deepF d e)) 0 + 1
def lenB (n : Nat) : Str := bif Nat.blt n 128 then [UInt8.ofNat n] else bif Nat.blt n 256 then [129, UInt8.ofNat n] else [130, UInt8.ofNat (n / 256), UInt8.ofNat (n % 256)]
def joinF (f : Elem → Option Str) : List Elem → Str → Option Str
  | [], acc => some acc
  | e :: l, acc => (f e).bind fun b => bif Nat.ble (acc.length + b.length) 4000 then joinF f l (acc ++ b) else none
def bytesF : Nat → Elem → Option Str
  | 0, _ => none
  | d + 1, .mk t b k => (joinF (bytesF d) k b).bind fun s => bif Nat.ble s.length 4000 then some (UInt8.ofNat t.toNat :: (lenB s.length ++ s)) else none
def writeF (d : Nat) (e : Elem) : Str × Int :=
  bif !formedF d e then ([], 14) else bif decide (deepF d e > 20) then ([], 12) else match bytesF d e with | some s => (s, 0) | none => ([], 13)
/-- A number's bytes: what is ahead of some. -/
def intA : Nat → Int → Str → Option Str
  | 0, _, _ => none
  | n + 1, rest, b => bif rest == (bif decide (ch (b.getD 0 0) ≥ 128) then -1 else 0) then some b else intA n (rest.fdiv 256) (UInt8.ofNat (IntKind.wrap .u8 rest).toNat :: b)
def intB (n : Int) : Str := (intA 12 (n.fdiv 256) [UInt8.ofNat (IntKind.wrap .u8 n).toNat]).getD []
def csnText (x : Csn) : Str := Lib.itoa x.t ++ [46] ++ Lib.itoa x.s ++ [46] ++ Lib.itoa x.r
def tText (s : Str) : Elem := .mk 4 s []
def tInt (n : Int) : Elem := .mk 2 (intB n) []
def tList (l : List Elem) : Elem := .mk 48 [] l
def avaE (a : AVA) : List Elem := [tText a.attr, tText a.value]
def modE (m : Mod) : Elem := tList (tInt m.kind :: tText m.attr :: m.values.map tText)
def kindI (x : Chn) : Int := bif x.del then IntKind.wrap .i64 (0 - x.kind) else x.kind
def chgE (x : Chn) : Elem := tList [tInt (kindI x), tText (csnText x.c), tText (csnText x.id), tText (csnText x.par), tList (x.rdn.flatMap avaE), tList (x.mods.map modE)]
def bytesC (x : Chn) : Str × Int :=
  bif !isChange x then ([], 14) else bif (writeF 4 (chgE x)).2 == 0 && decide (((writeF 4 (chgE x)).1.length : Int) > 4000) then ([], 13) else writeF 4 (chgE x)
def elV (e : Elem) : V := .agg [.int .u8 e.tag, .str e.body, .sl .elem e.kids]
def elOf : List V → Option Elem
  | [.int .u8 t, .str b, .sl .elem k] => some (.mk t b k)
  | _ => none
theorem elOf_cells {cs : List V} {e : Elem} (h : elOf cs = some e) : cs = [.int .u8 e.tag, .str e.body, .sl .elem e.kids] := by
  unfold elOf at h
  split at h
  · simp only [Option.some.injEq] at h; subst h; rfl
  · cases h
def isI64 (n : Int) : Bool := decide (-9223372036854775808 ≤ n) && decide (n ≤ 9223372036854775807)
def Csn.i64 (x : Csn) : Bool := isI64 x.t && isI64 x.s && isI64 x.r
def Chn.i64 (x : Chn) : Bool := x.c.i64 && x.id.i64 && x.par.i64 && isI64 x.kind && x.mods.all fun m => isI64 m.kind
end Sp
open Sp
def sp18 : Spec | [.sl .ava l], [] => some (Nat.ble (List.length (α := AVA) l) big, .bool (fewRDN l), []) | _, _ => none
def sp17 : Spec | [.sl .mod l], [] => some (bigMs l, .bool (fewMods l), []) | _, _ => none
def sp8 : Spec | [.agg cs], [] => (chgOf cs).bind fun x => some (bigC x, .bool (few x), []) | _, _ => none
def sp37 : Spec | [.sl .str a, .sl .str b], [] => some (Nat.ble (List.length (α := Str) a) big, .bool (sameSs a b), []) | _, _ => none
def sp38 : Spec | [.sl .ava a, .sl .ava b], [] => some (Nat.ble (List.length (α := AVA) a) big, .bool (sameAs a b), []) | _, _ => none
def modOf : List V → Option Mod
  | [.int .i64 k, .str a, .sl .str l] => some ⟨k, a, l⟩
  | _ => none
theorem modOf_cells {cs : List V} {m : Mod} (h : modOf cs = some m) : cs = [.int .i64 m.kind, .str m.attr, .sl .str m.values] := by
  unfold modOf at h
  split at h
  · simp only [Option.some.injEq] at h; subst h; rfl
  · cases h
def sp36 : Spec | [.agg a, .agg b], [] => (modOf a).bind fun m => (modOf b).bind fun k => some (Nat.ble m.values.length big, .bool (sameM m k), []) | _, _ => none
def sp35 : Spec | [.sl .mod a, .sl .mod b, .fn 36 []], [] => some (bigMs a, .bool (sameMs a b), []) | _, _ => none
def sp12 : Spec | [.agg a, .agg b], [] => (chgOf a).bind fun x => (chgOf b).bind fun y => some (bigC x, .bool (sameC x y), []) | _, _ => none
def sp34 : Spec | [.sl .mod l, .bool only], [] => some (okMs l, .bool (isMods (bif only then 1 else 3) l), []) | _, _ => none
def sp142 : Spec | [.int .u8 n], [] => some (true, .bool (speI n), []) | _, _ => none
def sp143 : Spec | [.int .u8 n], [] => some (isB n, .int .i64 (digI n), []) | _, _ => none
def sp122 : Spec | [.str s], [] => some (ok s, .tup [.str ((unesc s).getD []), .bool (unesc s).isSome], []) | _, _ => none
def sp98 : Spec | [.str s], [] => some (ok2 s, .tup [.sl .ava ((parseRDN2 s).getD []), .bool (parseRDN2 s).isSome], []) | _, _ => none
def sp99 : Spec | [.sl .rdn d], [] => some (okDN d, .bool (isDN d), []) | _, _ => none
def sp83 : Spec | [.str s], [] => some (ok2 s, .tup [.sl .rdn ((parse s).getD []), .bool (parse s).isSome], []) | _, _ => none
def sp19 : Spec | [.int .u8 t, .str s], [] => some (true, .agg [.int .u8 t, .str s, .sl .elem []], []) | _, _ => none
def sp20 : Spec | [.int .u8 t, .int .i64 n], [] => some (isI64 n, .agg [.int .u8 t, .str (intB n), .sl .elem []], []) | _, _ => none
def sp21 : Spec | [.int .u8 t, .sl .elem l], [] => some (true, .agg [.int .u8 t, .str [], .sl .elem l], []) | _, _ => none
def sp46 : Spec | [.int .i64 n], [] => some (isI64 n, .str (intB n), []) | _, _ => none
def sp69 : Spec | [.int .i64 n], [] => some (decide (0 ≤ n) && decide (n ≤ 4000), .str (lenB n.toNat), []) | _, _ => none
def sp47 (d : Nat) : Spec | [.agg cs], [] => (elOf cs).bind fun e => some (inF d e, .bool (formedF d e), []) | _, _ => none
def sp68 (d : Nat) : Spec | [.agg cs], [] => (elOf cs).bind fun e => some (inF d e, .bool (!formedF d e), []) | _, _ => none
def sp90 (d : Nat) : Spec | [.sl .elem l, .fn 68 []], [] => some (Nat.ble (List.length (α := Elem) l) lim && List.all (α := Elem) l (inF d), .int .i64 (ixOf (fun e => !formedF d e) l 0), []) | _, _ => none
def sp67 (d : Nat) : Spec | [.sl .elem l, .fn 68 []], [] => some (Nat.ble (List.length (α := Elem) l) lim && List.all (α := Elem) l (inF d), .bool (List.any (α := Elem) l fun e => !formedF d e), []) | _, _ => none
def sp48 (d : Nat) : Spec | [.agg cs], [] => (elOf cs).bind fun e => some (inF d e && Nat.ble d 1000, .int .i64 (deepF d e), []) | _, _ => none
def sp49 (d : Nat) : Spec | [.agg cs], [] => (elOf cs).bind fun e => some (inF d e, .tup [.str ((bytesF d e).getD []), .bool (bytesF d e).isSome], []) | _, _ => none
def sp22 (d : Nat) : Spec | [.agg cs], [] => (elOf cs).bind fun e => some (inF d e && Nat.ble d 1000, .tup [.str (writeF d e).1, .int .i64 (writeF d e).2], []) | _, _ => none
def sp70 : Spec | [.int .i64 n, .int .i64 10], [] => some (isI64 n, .str (Lib.itoa n), []) | _, _ => none
def sp71 : Spec | [.int .i64 n], [] => some (isI64 n, .str (Lib.itoa n), []) | _, _ => none
def sp50 : Spec | [.agg cs], [] => (csnOf cs).bind fun x => some (x.i64, .str (csnText x), []) | _, _ => none
def sp23 : Spec | [.agg cs], [] => (csnOf cs).bind fun x => some (x.i64, .agg [.int .u8 4, .str (csnText x), .sl .elem []], []) | _, _ => none
def sp9 : Spec | [.agg cs], [] => (chgOf cs).bind fun x => some (x.ok && x.i64, .tup [.str (bytesC x).1, .int .i64 (bytesC x).2], []) | _, _ => none

def c8 : Orc := orc [(17, sp17), (18, sp18)]
def c36 : Orc := orc [(37, sp37)]
def c35 : Orc := orc [(36, sp36)]
def c12 : Orc := orc [(35, sp35), (38, sp38)]
def c13 : Orc := orc [(39, sp38)]
def c85 : Orc := orc []
def c63 : Orc := orc [(85, sp78), (84, sp79)]
def c62 : Orc := orc [(63, sp58), (82, sp95), (83, sp83)]
def c83 : Orc := orc [(97, sp120), (98, sp98), (99, sp99)]
def c98 : Orc := orc [(97, sp120), (122, sp122), (85, sp78), (61, sp54)]
def c99 : Orc := orc [(61, sp54)]
def c61 : Orc := orc [(81, sp74)]
def c122 : Orc := orc [(142, sp142), (143, sp143)]
def c33 : Orc := orc [(61, sp54), (62, sp57)]
def c34 : Orc := orc [(63, sp58), (62, sp57)]
def c11 : Orc := orc [(30, sp24), (31, sp25), (32, sp27), (33, sp28), (34, sp34)]
def c20 : Orc := orc [(46, sp46), (19, sp19)]
def c68 (d : Nat) : Orc := orc [(47, sp47 d)]
def c90 (d : Nat) : Orc := orc [(68, sp68 d)]
def c67 (d : Nat) : Orc := orc [(90, sp90 d)]
def c47 (d : Nat) : Orc := orc [(67, sp67 d)]
def c48 (d : Nat) : Orc := orc [(48, sp48 d)]
def c49 (d : Nat) : Orc := orc [(49, sp49 d), (69, sp69)]
def c22 (d : Nat) : Orc := orc [(47, sp47 d), (48, sp48 d), (49, sp49 d)]
def c50 : Orc := orc [(70, sp70), (71, sp71)]
def c23 : Orc := orc [(50, sp50), (19, sp19)]
def c9 : Orc := orc [(10, sp10), (19, sp19), (20, sp20), (21, sp21), (22, sp22 4), (23, sp23)]
end Go.Ev
