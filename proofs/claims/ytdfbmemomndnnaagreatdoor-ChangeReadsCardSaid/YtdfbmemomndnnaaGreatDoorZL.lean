/-
  What single functions of the program compute, region by region, as the evaluator tells it: printed by a program (tools/YtreeTool) and checked here.
-/
import Derived.Test.YtdfbmemomndnnaaGreatDoorZK
namespace Go.Ev
open Go.Proofs Go.Ev.Sp
theorem bd72 {T : Tab} (hC : OrcOk Tryz.prog T c0) (n : Nat) {args : List V} {outs : List (List V)} {r : V} {outs' : List (List V)} (h : evalBody E c0 72 Tryz.f72 n args outs = some (r, outs')) : Answers Tryz.prog T 72 args outs r outs' := body hC (by kernel_rfl) h
theorem ev72 (n : Nat) (x : Int) : evalBody E c0 72 Tryz.f72 n [.int .i64 x] [] =
  some (V.bool (x != x), []) := by kernel_rfl
theorem bd73 {T : Tab} (hC : OrcOk Tryz.prog T c0) (n : Nat) {args : List V} {outs : List (List V)} {r : V} {outs' : List (List V)} (h : evalBody E c0 73 Tryz.f73 n args outs = some (r, outs')) : Answers Tryz.prog T 73 args outs r outs' := body hC (by kernel_rfl) h
theorem ev73 (n : Nat) (x : Int) : evalBody E c0 73 Tryz.f73 n [.int .i64 x] [] =
  some (V.bool (x != x), []) := by kernel_rfl
theorem bd52 {T : Tab} (hC : OrcOk Tryz.prog T c52) (n : Nat) {args : List V} {outs : List (List V)} {r : V} {outs' : List (List V)} (h : evalBody E c52 52 Tryz.f52 n args outs = some (r, outs')) : Answers Tryz.prog T 52 args outs r outs' := body hC (by kernel_rfl) h
theorem ev52 (n : Nat) (x y : Int) : evalBody E c52 52 Tryz.f52 n [.int .i64 x, .int .i64 y] [] =
  bif decide (x < y) then some (V.int Go.IntKind.i64 (-1 : Int), []) else bif decide (x > y) then some (V.int Go.IntKind.i64 (1 : Int), []) else some (V.int Go.IntKind.i64 (0 : Int), []) := by kernel_rfl
theorem bd53 {T : Tab} (hC : OrcOk Tryz.prog T c53) (n : Nat) {args : List V} {outs : List (List V)} {r : V} {outs' : List (List V)} (h : evalBody E c53 53 Tryz.f53 n args outs = some (r, outs')) : Answers Tryz.prog T 53 args outs r outs' := body hC (by kernel_rfl) h
theorem ev53 (n : Nat) (x y : Int) : evalBody E c53 53 Tryz.f53 n [.int .i64 x, .int .i64 y] [] =
  bif decide (x < y) then some (V.int Go.IntKind.i64 (-1 : Int), []) else bif decide (x > y) then some (V.int Go.IntKind.i64 (1 : Int), []) else some (V.int Go.IntKind.i64 (0 : Int), []) := by kernel_rfl
theorem bd51 {T : Tab} (hC : OrcOk Tryz.prog T c0) (n : Nat) {args : List V} {outs : List (List V)} {r : V} {outs' : List (List V)} (h : evalBody E c0 51 Tryz.f51 n args outs = some (r, outs')) : Answers Tryz.prog T 51 args outs r outs' := body hC (by kernel_rfl) h
noncomputable def L51_3 (n m3 : Nat) (s3 : Int) (s6 : List Int) (s7 : Int) (s8 : Int) : Option (V × List (List V)) := loopOf E c0 51 Tryz.f51 n [1, 1, 0, 1, 1] m3 (hd [((3 : Nat), V.int Go.IntKind.i64 s3), ((6 : Nat), V.sl K.int s6), ((7 : Nat), V.int Go.IntKind.i64 s7), ((8 : Nat), V.int Go.IntKind.i64 s8)] [] [] [])
theorem ev51 (n : Nat) (l : List Int) : evalBody E c0 51 Tryz.f51 n [.sl .int l] [] =
  L51_3 n n (0 : Int) l (↑(List.length l) : Int) (0 : Int) := by kernel_rfl
theorem rd51_3 (n  m3 : Nat) (s3 : Int) (s6 : List Int) (s7 : Int) (s8 : Int) : L51_3 n  (m3 + 1) s3 s6 s7 s8 =
  bif decide (s8 < s7) then
  bif decide ((0 : Int) ≤ s8) then
    bif decide (s8 < (↑(List.length s6) : Int)) then
      bif List.getD s6 (Int.toNat s8) (0 : Int) != s3 then some (V.int Go.IntKind.i64 (List.getD s6 (Int.toNat s8) (0 : Int)), [])
      else L51_3 n m3 s3 s6 s7 (Go.IntKind.wrap Go.IntKind.i64 (s8 + (1 : Int)))
    else none
  else none
else some (V.int Go.IntKind.i64 s3, []) := by kernel_rfl
theorem bd27 {T : Tab} (hC : OrcOk Tryz.prog T c27) (n : Nat) {args : List V} {outs : List (List V)} {r : V} {outs' : List (List V)} (h : evalBody E c27 27 Tryz.f27 n args outs = some (r, outs')) : Answers Tryz.prog T 27 args outs r outs' := body hC (by kernel_rfl) h
theorem ev27 (n : Nat) (x y : Csn) : evalBody E c27 27 Tryz.f27 n [.agg (Csn.cells x), .agg (Csn.cells y)] [] =
  some (V.int Go.IntKind.i64 (orInt [cmp3 (Csn.t x) (Csn.t y), cmp3 (Csn.s x) (Csn.s y), cmp3 (Csn.r x) (Csn.r y)]), []) := by kernel_rfl
theorem bd24 {T : Tab} (hC : OrcOk Tryz.prog T c0) (n : Nat) {args : List V} {outs : List (List V)} {r : V} {outs' : List (List V)} (h : evalBody E c0 24 Tryz.f24 n args outs = some (r, outs')) : Answers Tryz.prog T 24 args outs r outs' := body hC (by kernel_rfl) h
theorem ev24 (n : Nat) (x : Csn) : evalBody E c0 24 Tryz.f24 n [.agg (Csn.cells x)] [] =
  bif decide (Csn.t x ≥ (0 : Int)) then
  bif decide (Csn.t x ≤ (1099511627776 : Int)) then
    bif decide (Csn.s x ≥ (0 : Int)) then
      bif decide (Csn.s x ≤ (65535 : Int)) then bif decide (Csn.r x ≥ (0 : Int)) then some (V.bool (decide (Csn.r x < (6 : Int))), []) else some (V.bool false, []) else some (V.bool false, [])
    else some (V.bool false, [])
  else some (V.bool false, [])
else some (V.bool false, []) := by kernel_rfl
theorem bd25 {T : Tab} (hC : OrcOk Tryz.prog T c0) (n : Nat) {args : List V} {outs : List (List V)} {r : V} {outs' : List (List V)} (h : evalBody E c0 25 Tryz.f25 n args outs = some (r, outs')) : Answers Tryz.prog T 25 args outs r outs' := body hC (by kernel_rfl) h
theorem ev25 (n : Nat) (x : Csn) : evalBody E c0 25 Tryz.f25 n [.agg (Csn.cells x)] [] =
  some (V.bool (Csn.t x == (0 : Int) && (Csn.s x == (0 : Int) && (Csn.r x == (0 : Int) && true))), []) := by kernel_rfl
theorem bd26 {T : Tab} (hC : OrcOk Tryz.prog T c26) (n : Nat) {args : List V} {outs : List (List V)} {r : V} {outs' : List (List V)} (h : evalBody E c26 26 Tryz.f26 n args outs = some (r, outs')) : Answers Tryz.prog T 26 args outs r outs' := body hC (by kernel_rfl) h
theorem ev26 (n : Nat) (x : Csn) (y : Chn) : evalBody E c26 26 Tryz.f26 n [.agg (Csn.cells x), .optr 0 0] [Chn.cells y] =
  some
  (V.bool (decide (Csn.cmp (Csn.mk (Csn.t x) (Csn.s x) (Csn.r x)) (Csn.mk (Csn.t (Chn.c y)) (Csn.s (Chn.c y)) (Csn.r (Chn.c y))) < (0 : Int))),
    [[V.int Go.IntKind.i64 (Csn.t (Chn.c y)), V.int Go.IntKind.i64 (Csn.s (Chn.c y)), V.int Go.IntKind.i64 (Csn.r (Chn.c y)), V.int Go.IntKind.i64 (Chn.kind y),
        V.int Go.IntKind.i64 (Csn.t (Chn.id y)), V.int Go.IntKind.i64 (Csn.s (Chn.id y)), V.int Go.IntKind.i64 (Csn.r (Chn.id y)), V.int Go.IntKind.i64 (Csn.t (Chn.par y)),
        V.int Go.IntKind.i64 (Csn.s (Chn.par y)), V.int Go.IntKind.i64 (Csn.r (Chn.par y)), V.sl K.ava (Chn.rdn y), V.bool (Chn.del y), V.sl K.mod (Chn.mods y)]]) := by kernel_rfl
theorem bd78 {T : Tab} (hC : OrcOk Tryz.prog T c0) (n : Nat) {args : List V} {outs : List (List V)} {r : V} {outs' : List (List V)} (h : evalBody E c0 78 Tryz.f78 n args outs = some (r, outs')) : Answers Tryz.prog T 78 args outs r outs' := body hC (by kernel_rfl) h
noncomputable def L78_3 (n m3 : Nat) (s9 : Int) (s10 : Int) (r7 : List Int) : Option (V × List (List V)) := loopOf E c0 78 Tryz.f78 n [1, 1, 0, 1, 1] m3 (hd [((3 : Nat), V.own (7 : Nat) (0 : Nat)), ((8 : Nat), V.own (7 : Nat) (0 : Nat)), ((9 : Nat), V.int Go.IntKind.i64 s9), ((10 : Nat), V.int Go.IntKind.i64 s10)] []
  [((7 : Nat), some (Row.mk K.byte r7))] [])
theorem ev78 (n : Nat) (s : Str) : evalBody E c0 78 Tryz.f78 n [.str s] [] =
  L78_3 n n (↑(List.length (List.map (fun (c : UInt8) => (↑(UInt8.toNat c) : Int)) s)) : Int) (0 : Int) (List.map (fun (c : UInt8) => (↑(UInt8.toNat c) : Int)) s) := by kernel_rfl
theorem rd78_3 (n  m3 : Nat) (s9 : Int) (s10 : Int) (r7 : List Int) : L78_3 n  (m3 + 1) s9 s10 r7 =
  bif decide (s10 < s9) then
  bif decide ((0 : Int) ≤ s10) then
    bif decide (s10 < (↑(List.length r7) : Int)) then
      bif decide (List.getD r7 (Int.toNat s10) (0 : Int) ≥ (65 : Int)) then
        bif decide (List.getD r7 (Int.toNat s10) (0 : Int) ≤ (90 : Int)) then
          bif decide ((0 : Int) ≤ s10) then
            bif decide (s10 < (↑(List.length r7) : Int)) then
              L78_3 n m3 s9 (Go.IntKind.wrap Go.IntKind.i64 (s10 + (1 : Int))) (List.set r7 (Int.toNat s10) (Go.IntKind.wrap Go.IntKind.u8 (List.getD r7 (Int.toNat s10) (0 : Int) + (32 : Int))))
            else none
          else none
        else L78_3 n m3 s9 (Go.IntKind.wrap Go.IntKind.i64 (s10 + (1 : Int))) r7
      else L78_3 n m3 s9 (Go.IntKind.wrap Go.IntKind.i64 (s10 + (1 : Int))) r7
    else none
  else none
else some (V.str (List.map (fun (n : Int) => UInt8.ofNat (Int.toNat n)) r7), []) := by kernel_rfl
theorem bd79 {T : Tab} (hC : OrcOk Tryz.prog T c0) (n : Nat) {args : List V} {outs : List (List V)} {r : V} {outs' : List (List V)} (h : evalBody E c0 79 Tryz.f79 n args outs = some (r, outs')) : Answers Tryz.prog T 79 args outs r outs' := body hC (by kernel_rfl) h
theorem ev79 (n : Nat)  : evalBody E c0 79 Tryz.f79 n [] [] =
  some
  (V.sl K.typ
      [Typ.mk [(97 : UInt8), (99 : UInt8), (105 : UInt8)] (2 : Int) false, Typ.mk [(99 : UInt8)] (1 : Int) true, Typ.mk [(99 : UInt8), (110 : UInt8)] (1 : Int) false,
        Typ.mk [(100 : UInt8), (99 : UInt8)] (1 : Int) false,
        Typ.mk [(100 : UInt8), (101 : UInt8), (115 : UInt8), (99 : UInt8), (114 : UInt8), (105 : UInt8), (112 : UInt8), (116 : UInt8), (105 : UInt8), (111 : UInt8), (110 : UInt8)] (1 : Int) false,
        Typ.mk [(101 : UInt8), (110 : UInt8), (116 : UInt8), (114 : UInt8), (121 : UInt8), (105 : UInt8), (100 : UInt8)] (2 : Int) true,
        Typ.mk [(109 : UInt8), (97 : UInt8), (105 : UInt8), (108 : UInt8)] (2 : Int) false,
        Typ.mk [(109 : UInt8), (101 : UInt8), (109 : UInt8), (98 : UInt8), (101 : UInt8), (114 : UInt8)] (5 : Int) false, Typ.mk [(111 : UInt8)] (1 : Int) false,
        Typ.mk [(111 : UInt8), (117 : UInt8)] (1 : Int) false, Typ.mk [(115 : UInt8), (110 : UInt8)] (1 : Int) false,
        Typ.mk [(116 : UInt8), (105 : UInt8), (116 : UInt8), (108 : UInt8), (101 : UInt8)] (1 : Int) true, Typ.mk [(117 : UInt8), (105 : UInt8), (100 : UInt8)] (1 : Int) false,
        Typ.mk [(117 : UInt8), (105 : UInt8), (100 : UInt8), (110 : UInt8), (117 : UInt8), (109 : UInt8), (98 : UInt8), (101 : UInt8), (114 : UInt8)] (3 : Int) true,
        Typ.mk [(117 : UInt8), (115 : UInt8), (101 : UInt8), (114 : UInt8), (112 : UInt8), (97 : UInt8), (115 : UInt8), (115 : UInt8), (119 : UInt8), (111 : UInt8), (114 : UInt8), (100 : UInt8)]
          (4 : Int) false],
    []) := by kernel_rfl
theorem bd58 {T : Tab} (hC : OrcOk Tryz.prog T c58) (n : Nat) {args : List V} {outs : List (List V)} {r : V} {outs' : List (List V)} (h : evalBody E c58 58 Tryz.f58 n args outs = some (r, outs')) : Answers Tryz.prog T 58 args outs r outs' := body hC (by kernel_rfl) h
noncomputable def L58_3 (n m3 : Nat) (s0 : Str) (s8 : List Typ) (s9 : Int) (s10 : Int) (b2_ : Str) (b2'_ : Int) (b2''_ : Bool) : Option (V × List (List V)) := loopOf E c58 58 Tryz.f58 n [1, 1, 0, 1, 1] m3 (hd [((0 : Nat), V.str s0), ((2 : Nat), V.ptr (2 : Nat) (1 : Nat) (0 : Nat)), ((8 : Nat), V.sl K.typ s8), ((9 : Nat), V.int Go.IntKind.i64 s9), ((10 : Nat), V.int Go.IntKind.i64 s10)]
  [((2 : Nat), some [V.str b2_, V.int Go.IntKind.i64 b2'_, V.bool b2''_])] [] [])
theorem ev58 (n : Nat) (s : Str) : evalBody E c58 58 Tryz.f58 n [.str s] [] =
  bif ok s then L58_3 n n (lower s) allT (↑(15 : Nat) : Int) (0 : Int) [] (0 : Int) false else none := by kernel_rfl
theorem rd58_3 (n  m3 : Nat) (s0 : Str) (s8 : List Typ) (s9 : Int) (s10 : Int) (b2_ : Str) (b2'_ : Int) (b2''_ : Bool) : L58_3 n  (m3 + 1) s0 s8 s9 s10 b2_ b2'_ b2''_ =
  bif decide (s10 < s9) then
  bif decide ((0 : Int) ≤ s10) then
    bif decide (s10 < (↑(List.length s8) : Int)) then
      bif Typ.name (List.getD s8 (Int.toNat s10) (Typ.mk [] (0 : Int) false)) == s0 then
        some
          (V.tup
              [V.agg
                  [V.str (Typ.name (List.getD s8 (Int.toNat s10) (Typ.mk [] (0 : Int) false))), V.int Go.IntKind.i64 (Typ.syn (List.getD s8 (Int.toNat s10) (Typ.mk [] (0 : Int) false))),
                    V.bool (Typ.single (List.getD s8 (Int.toNat s10) (Typ.mk [] (0 : Int) false)))],
                V.bool true],
            [])
      else L58_3 n m3 s0 s8 s9 (Go.IntKind.wrap Go.IntKind.i64 (s10 + (1 : Int))) b2_ b2'_ b2''_
    else none
  else none
else some (V.tup [V.agg [V.str [], V.int Go.IntKind.i64 (0 : Int), V.bool false], V.bool false], []) := by kernel_rfl
theorem bd94 {T : Tab} (hC : OrcOk Tryz.prog T c0) (n : Nat) {args : List V} {outs : List (List V)} {r : V} {outs' : List (List V)} (h : evalBody E c0 94 Tryz.f94 n args outs = some (r, outs')) : Answers Tryz.prog T 94 args outs r outs' := body hC (by kernel_rfl) h
noncomputable def L94_2 (n m2 : Nat) (s7 : Int) (s8 : Int) (r6 : List Int) : Option (V × List (List V)) := loopOf E c0 94 Tryz.f94 n [1, 0, 1, 1] m2 (hd [((6 : Nat), V.own (6 : Nat) (0 : Nat)), ((7 : Nat), V.int Go.IntKind.i64 s7), ((8 : Nat), V.int Go.IntKind.i64 s8)] [] [((6 : Nat), some (Row.mk K.byte r6))] [])
theorem ev94 (n : Nat) (s : Str) : evalBody E c0 94 Tryz.f94 n [.str s] [] =
  L94_2 n n (↑(List.length (List.map (fun (c : UInt8) => (↑(UInt8.toNat c) : Int)) s)) : Int) (0 : Int) (List.map (fun (c : UInt8) => (↑(UInt8.toNat c) : Int)) s) := by kernel_rfl
theorem rd94_2 (n  m2 : Nat) (s7 : Int) (s8 : Int) (r6 : List Int) : L94_2 n  (m2 + 1) s7 s8 r6 =
  bif decide (s8 < s7) then
  bif decide ((0 : Int) ≤ s8) then
    bif decide (s8 < (↑(List.length r6) : Int)) then
      bif decide (List.getD r6 (Int.toNat s8) (0 : Int) < (32 : Int)) then some (V.bool false, [])
      else bif decide (List.getD r6 (Int.toNat s8) (0 : Int) > (126 : Int)) then some (V.bool false, []) else L94_2 n m2 s7 (Go.IntKind.wrap Go.IntKind.i64 (s8 + (1 : Int))) r6
    else none
  else none
else some (V.bool true, []) := by kernel_rfl
theorem bd153 {T : Tab} (hC : OrcOk Tryz.prog T c0) (n : Nat) {args : List V} {outs : List (List V)} {r : V} {outs' : List (List V)} (h : evalBody E c0 153 Tryz.f153 n args outs = some (r, outs')) : Answers Tryz.prog T 153 args outs r outs' := body hC (by kernel_rfl) h
theorem ev153 (n : Nat) (s p : Str) : evalBody E c0 153 Tryz.f153 n [.str s, .str p] [] =
  bif decide ((↑(List.length s) : Int) ≥ (↑(List.length p) : Int)) then
  bif decide ((↑(List.length p) : Int) ≤ (↑(List.length s) : Int)) then some (V.bool (List.drop (0 : Nat) (List.take (Int.toNat (↑(List.length p) : Int)) s) == p), []) else none
else some (V.bool false, []) := by kernel_rfl
theorem bd139 {T : Tab} (hC : OrcOk Tryz.prog T c139) (n : Nat) {args : List V} {outs : List (List V)} {r : V} {outs' : List (List V)} (h : evalBody E c139 139 Tryz.f139 n args outs = some (r, outs')) : Answers Tryz.prog T 139 args outs r outs' := body hC (by kernel_rfl) h
theorem ev139 (n : Nat) (s p : Str) : evalBody E c139 139 Tryz.f139 n [.str s, .str p] [] =
  bif hasPre s p then bif decide ((↑(List.length p) : Int) ≤ (↑(List.length s) : Int)) then some (V.str (List.drop (Int.toNat (↑(List.length p) : Int)) (List.take (List.length s) s)), []) else none
else some (V.str s, []) := by kernel_rfl
theorem bd119 {T : Tab} (hC : OrcOk Tryz.prog T c119) (n : Nat) {args : List V} {outs : List (List V)} {r : V} {outs' : List (List V)} (h : evalBody E c119 119 Tryz.f119 n args outs = some (r, outs')) : Answers Tryz.prog T 119 args outs r outs' := body hC (by kernel_rfl) h
theorem ev119 (n : Nat) (s p : Str) : evalBody E c119 119 Tryz.f119 n [.str s, .str p] [] =
  some (V.str (trimPre s p), []) := by kernel_rfl
theorem bd95 {T : Tab} (hC : OrcOk Tryz.prog T c95) (n : Nat) {args : List V} {outs : List (List V)} {r : V} {outs' : List (List V)} (h : evalBody E c95 95 Tryz.f95 n args outs = some (r, outs')) : Answers Tryz.prog T 95 args outs r outs' := body hC (by kernel_rfl) h
noncomputable def L95_5 (n m5 : Nat) (s26 : Int) (s27 : Int) (r25 : List Int) : Option (V × List (List V)) := loopOf E c95 95 Tryz.f95 n [1, 1, 1, 0, 1, 1] m5 (hd [((25 : Nat), V.own (25 : Nat) (0 : Nat)), ((26 : Nat), V.int Go.IntKind.i64 s26), ((27 : Nat), V.int Go.IntKind.i64 s27)] [] [((25 : Nat), some (Row.mk K.byte r25))] [])
theorem ev95 (n : Nat) (s : Str) : evalBody E c95 95 Tryz.f95 n [.str s] [] =
  bif trimPre s [(45 : UInt8)] == [] then some (V.bool false, [])
else
  bif decide ((↑(List.length (trimPre s [(45 : UInt8)])) : Int) > (15 : Int)) then some (V.bool false, [])
  else
    bif decide ((0 : Int) < (↑(List.length (trimPre s [(45 : UInt8)])) : Int)) then
      bif (↑(UInt8.toNat (List.getD (trimPre s [(45 : UInt8)]) (0 : Nat) (0 : UInt8))) : Int) == (48 : Int) then
        bif !s == [(48 : UInt8)] then some (V.bool false, [])
        else
          L95_5 n n (↑(List.length (List.map (fun (c : UInt8) => (↑(UInt8.toNat c) : Int)) (trimPre s [(45 : UInt8)]))) : Int) (0 : Int)
            (List.map (fun (c : UInt8) => (↑(UInt8.toNat c) : Int)) (trimPre s [(45 : UInt8)]))
      else
        L95_5 n n (↑(List.length (List.map (fun (c : UInt8) => (↑(UInt8.toNat c) : Int)) (trimPre s [(45 : UInt8)]))) : Int) (0 : Int)
          (List.map (fun (c : UInt8) => (↑(UInt8.toNat c) : Int)) (trimPre s [(45 : UInt8)]))
    else none := by kernel_rfl
theorem rd95_5 (n  m5 : Nat) (s26 : Int) (s27 : Int) (r25 : List Int) : L95_5 n  (m5 + 1) s26 s27 r25 =
  bif decide (s27 < s26) then
  bif decide ((0 : Int) ≤ s27) then
    bif decide (s27 < (↑(List.length r25) : Int)) then
      bif decide (List.getD r25 (Int.toNat s27) (0 : Int) < (48 : Int)) then some (V.bool false, [])
      else bif decide (List.getD r25 (Int.toNat s27) (0 : Int) > (57 : Int)) then some (V.bool false, []) else L95_5 n m5 s26 (Go.IntKind.wrap Go.IntKind.i64 (s27 + (1 : Int))) r25
    else none
  else none
else some (V.bool true, []) := by kernel_rfl
theorem bd112 {T : Tab} (hC : OrcOk Tryz.prog T c0) (n : Nat) {args : List V} {outs : List (List V)} {r : V} {outs' : List (List V)} (h : evalBody E c0 112 Tryz.f112 n args outs = some (r, outs')) : Answers Tryz.prog T 112 args outs r outs' := body hC (by kernel_rfl) h
noncomputable def L112_1 (n m1 : Nat) (s0 : Str) (s1 : Int) : Option (V × List (List V)) := loopOf E c0 112 Tryz.f112 n [1, 0, 1] m1 (hd [((0 : Nat), V.str s0), ((1 : Nat), V.int Go.IntKind.u8 s1)] [] [] [])
theorem ev112 (n : Nat) (s : Str) (c : Int) : evalBody E c0 112 Tryz.f112 n [.str s, .int .u8 c] [] =
  L112_1 n n s c := by kernel_rfl
theorem rd112_1 (n  m1 : Nat) (s0 : Str) (s1 : Int) : L112_1 n  (m1 + 1) s0 s1 =
  bif decide ((↑(List.length s0) : Int) > (0 : Int)) then
  bif decide ((0 : Int) < (↑(List.length s0) : Int)) then
    bif (↑(UInt8.toNat (List.getD s0 (0 : Nat) (0 : UInt8))) : Int) == s1 then
      bif decide ((1 : Int) ≤ (↑(List.length s0) : Int)) then L112_1 n m1 (List.drop (1 : Nat) (List.take (List.length s0) s0)) s1 else none
    else some (V.str s0, [])
  else none
else some (V.str s0, []) := by kernel_rfl
theorem bd113 {T : Tab} (hC : OrcOk Tryz.prog T c0) (n : Nat) {args : List V} {outs : List (List V)} {r : V} {outs' : List (List V)} (h : evalBody E c0 113 Tryz.f113 n args outs = some (r, outs')) : Answers Tryz.prog T 113 args outs r outs' := body hC (by kernel_rfl) h
noncomputable def L113_1 (n m1 : Nat) (s0 : Str) (s1 : Int) : Option (V × List (List V)) := loopOf E c0 113 Tryz.f113 n [1, 0, 1] m1 (hd [((0 : Nat), V.str s0), ((1 : Nat), V.int Go.IntKind.u8 s1)] [] [] [])
theorem ev113 (n : Nat) (s : Str) (c : Int) : evalBody E c0 113 Tryz.f113 n [.str s, .int .u8 c] [] =
  L113_1 n n s c := by kernel_rfl
theorem rd113_1 (n  m1 : Nat) (s0 : Str) (s1 : Int) : L113_1 n  (m1 + 1) s0 s1 =
  bif decide ((↑(List.length s0) : Int) > (0 : Int)) then
  bif decide ((0 : Int) ≤ Go.IntKind.wrap Go.IntKind.i64 ((↑(List.length s0) : Int) - (1 : Int))) then
    bif decide (Go.IntKind.wrap Go.IntKind.i64 ((↑(List.length s0) : Int) - (1 : Int)) < (↑(List.length s0) : Int)) then
      bif (↑(UInt8.toNat (List.getD s0 (Int.toNat (Go.IntKind.wrap Go.IntKind.i64 ((↑(List.length s0) : Int) - (1 : Int)))) (0 : UInt8))) : Int) == s1 then
        bif decide ((0 : Int) ≤ Go.IntKind.wrap Go.IntKind.i64 ((↑(List.length s0) : Int) - (1 : Int))) then
          bif decide (Go.IntKind.wrap Go.IntKind.i64 ((↑(List.length s0) : Int) - (1 : Int)) ≤ (↑(List.length s0) : Int)) then
            L113_1 n m1 (List.drop (0 : Nat) (List.take (Int.toNat (Go.IntKind.wrap Go.IntKind.i64 ((↑(List.length s0) : Int) - (1 : Int)))) s0)) s1
          else none
        else none
      else some (V.str s0, [])
    else none
  else none
else some (V.str s0, []) := by kernel_rfl
theorem bd93 {T : Tab} (hC : OrcOk Tryz.prog T c93) (n : Nat) {args : List V} {outs : List (List V)} {r : V} {outs' : List (List V)} (h : evalBody E c93 93 Tryz.f93 n args outs = some (r, outs')) : Answers Tryz.prog T 93 args outs r outs' := body hC (by kernel_rfl) h
theorem ev93 (n : Nat) (s : Str) : evalBody E c93 93 Tryz.f93 n [.str s, .str [32]] [] =
  bif s == [] then some (V.str s, []) else bif ok s then some (V.str (ltrim (↑(32 : Nat) : Int) (rtrim (↑(32 : Nat) : Int) s)), []) else none := by kernel_rfl
theorem bd145 {T : Tab} (hC : OrcOk Tryz.prog T c145) (n : Nat) {args : List V} {outs : List (List V)} {r : V} {outs' : List (List V)} (h : evalBody E c145 145 Tryz.f145 n args outs = some (r, outs')) : Answers Tryz.prog T 145 args outs r outs' := body hC (by kernel_rfl) h
theorem ev145 (n : Nat) (s : Str) (c : Int) : evalBody E c145 145 Tryz.f145 n [.str s, .int .u8 c] [] =
  bif isB c then some (V.int Go.IntKind.i64 (find c s (0 : Nat)), []) else none := by kernel_rfl
theorem bd156 {T : Tab} (hC : OrcOk Tryz.prog T c156) (n : Nat) {args : List V} {outs : List (List V)} {r : V} {outs' : List (List V)} (h : evalBody E c156 156 Tryz.f156 n args outs = some (r, outs')) : Answers Tryz.prog T 156 args outs r outs' := body hC (by kernel_rfl) h
theorem ev156 (n : Nat) (s : Str) (c : Int) : evalBody E c156 156 Tryz.f156 n [.str s, .int .u8 c] [] =
  bif isB c then some (V.int Go.IntKind.i64 (find c s (0 : Nat)), []) else none := by kernel_rfl
theorem bd126 {T : Tab} (hC : OrcOk Tryz.prog T c126) (n : Nat) {args : List V} {outs : List (List V)} {r : V} {outs' : List (List V)} (h : evalBody E c126 126 Tryz.f126 n args outs = some (r, outs')) : Answers Tryz.prog T 126 args outs r outs' := body hC (by kernel_rfl) h
theorem ev126 (n : Nat) (s : Str) (c : UInt8) : evalBody E c126 126 Tryz.f126 n [.str s, .str [c]] [] =
  bif [c] == s then some (V.int Go.IntKind.i64 (0 : Int), [])
else bif isB (↑(UInt8.toNat (List.getD [c] (0 : Nat) (0 : UInt8))) : Int) then some (V.int Go.IntKind.i64 (find (↑(UInt8.toNat (List.getD [c] (0 : Nat) (0 : UInt8))) : Int) s (0 : Nat)), []) else none := by kernel_rfl
theorem bd154 {T : Tab} (hC : OrcOk Tryz.prog T c154) (n : Nat) {args : List V} {outs : List (List V)} {r : V} {outs' : List (List V)} (h : evalBody E c154 154 Tryz.f154 n args outs = some (r, outs')) : Answers Tryz.prog T 154 args outs r outs' := body hC (by kernel_rfl) h
theorem ev154 (n : Nat) (s : Str) : evalBody E c154 154 Tryz.f154 n [.str s, .str [61]] [] =
  bif decide (find (ch (61 : UInt8)) s (0 : Nat) ≥ (0 : Int)) then
  bif decide ((0 : Int) ≤ find (ch (61 : UInt8)) s (0 : Nat)) then
    bif decide (find (ch (61 : UInt8)) s (0 : Nat) ≤ (↑(List.length s) : Int)) then
      bif decide ((0 : Int) ≤ Go.IntKind.wrap Go.IntKind.i64 (find (ch (61 : UInt8)) s (0 : Nat) + (↑(1 : Nat) : Int))) then
        bif decide (Go.IntKind.wrap Go.IntKind.i64 (find (ch (61 : UInt8)) s (0 : Nat) + (↑(1 : Nat) : Int)) ≤ (↑(List.length s) : Int)) then
          some
            (V.tup
                [V.str (List.drop (0 : Nat) (List.take (Int.toNat (find (ch (61 : UInt8)) s (0 : Nat))) s)),
                  V.str (List.drop (Int.toNat (Go.IntKind.wrap Go.IntKind.i64 (find (ch (61 : UInt8)) s (0 : Nat) + (↑(1 : Nat) : Int)))) (List.take (List.length s) s)), V.bool true],
              [])
        else none
      else none
    else none
  else none
else some (V.tup [V.str s, V.str [], V.bool false], []) := by kernel_rfl
theorem bd140 {T : Tab} (hC : OrcOk Tryz.prog T c140) (n : Nat) {args : List V} {outs : List (List V)} {r : V} {outs' : List (List V)} (h : evalBody E c140 140 Tryz.f140 n args outs = some (r, outs')) : Answers Tryz.prog T 140 args outs r outs' := body hC (by kernel_rfl) h
theorem ev140 (n : Nat) (s : Str) : evalBody E c140 140 Tryz.f140 n [.str s, .str [61]] [] =
  bif ok s then some (V.tup [V.str (eqL s), V.str (eqR s), V.bool (hasEq s)], []) else none := by kernel_rfl
theorem bd155 {T : Tab} (hC : OrcOk Tryz.prog T c155) (n : Nat) {args : List V} {outs : List (List V)} {r : V} {outs' : List (List V)} (h : evalBody E c155 155 Tryz.f155 n args outs = some (r, outs')) : Answers Tryz.prog T 155 args outs r outs' := body hC (by kernel_rfl) h
theorem ev155 (n : Nat) (s p : Str) : evalBody E c155 155 Tryz.f155 n [.str s, .str p] [] =
  some (V.bool (hasPre s p), []) := by kernel_rfl
theorem bd157 {T : Tab} (hC : OrcOk Tryz.prog T c157) (n : Nat) {args : List V} {outs : List (List V)} {r : V} {outs' : List (List V)} (h : evalBody E c157 157 Tryz.f157 n args outs = some (r, outs')) : Answers Tryz.prog T 157 args outs r outs' := body hC (by kernel_rfl) h
theorem ev157 (n : Nat) (s : Str) (i : Int) : evalBody E c157 157 Tryz.f157 n [.str s, .int .i64 i] [] =
  bif decide (i ≥ (↑(List.length s) : Int)) then some (V.tup [V.int Go.IntKind.u8 (0 : Int), V.bool false], [])
else
  bif decide ((0 : Int) ≤ Go.IntKind.wrap Go.IntKind.i64 (i + (1 : Int))) then
    bif decide (Go.IntKind.wrap Go.IntKind.i64 (i + (1 : Int)) ≤ (↑(List.length s) : Int)) then
      bif decide ((0 : Int) ≤ i) then
        bif decide (i ≤ (↑(Int.toNat (Go.IntKind.wrap Go.IntKind.i64 (i + (1 : Int)))) : Int)) then
          bif ok (List.drop (Int.toNat i) (List.take (Int.toNat (Go.IntKind.wrap Go.IntKind.i64 (i + (1 : Int)))) s)) then
            bif decide ((0 : Int) < (↑(List.length (lower (List.drop (Int.toNat i) (List.take (Int.toNat (Go.IntKind.wrap Go.IntKind.i64 (i + (1 : Int)))) s)))) : Int)) then
              bif isB (↑(UInt8.toNat (List.getD (lower (List.drop (Int.toNat i) (List.take (Int.toNat (Go.IntKind.wrap Go.IntKind.i64 (i + (1 : Int)))) s))) (0 : Nat) (0 : UInt8))) : Int) then
                some
                  (V.tup
                      [V.int Go.IntKind.u8
                          (Go.IntKind.wrap Go.IntKind.u8
                            (bif
                                decide
                                  ((0 : Int) >
                                    find
                                      (↑(UInt8.toNat (List.getD (lower (List.drop (Int.toNat i) (List.take (Int.toNat (Go.IntKind.wrap Go.IntKind.i64 (i + (1 : Int)))) s))) (0 : Nat) (0 : UInt8))) :
                                        Int)
                                      [(48 : UInt8), (49 : UInt8), (50 : UInt8), (51 : UInt8), (52 : UInt8), (53 : UInt8), (54 : UInt8), (55 : UInt8), (56 : UInt8), (57 : UInt8), (97 : UInt8),
                                        (98 : UInt8), (99 : UInt8), (100 : UInt8), (101 : UInt8), (102 : UInt8)]
                                      (0 : Nat)) then
                              (0 : Int)
                            else
                              find (↑(UInt8.toNat (List.getD (lower (List.drop (Int.toNat i) (List.take (Int.toNat (Go.IntKind.wrap Go.IntKind.i64 (i + (1 : Int)))) s))) (0 : Nat) (0 : UInt8))) : Int)
                                [(48 : UInt8), (49 : UInt8), (50 : UInt8), (51 : UInt8), (52 : UInt8), (53 : UInt8), (54 : UInt8), (55 : UInt8), (56 : UInt8), (57 : UInt8), (97 : UInt8), (98 : UInt8),
                                  (99 : UInt8), (100 : UInt8), (101 : UInt8), (102 : UInt8)]
                                (0 : Nat))),
                        V.bool
                          (decide
                            (find (↑(UInt8.toNat (List.getD (lower (List.drop (Int.toNat i) (List.take (Int.toNat (Go.IntKind.wrap Go.IntKind.i64 (i + (1 : Int)))) s))) (0 : Nat) (0 : UInt8))) : Int)
                                [(48 : UInt8), (49 : UInt8), (50 : UInt8), (51 : UInt8), (52 : UInt8), (53 : UInt8), (54 : UInt8), (55 : UInt8), (56 : UInt8), (57 : UInt8), (97 : UInt8), (98 : UInt8),
                                  (99 : UInt8), (100 : UInt8), (101 : UInt8), (102 : UInt8)]
                                (0 : Nat) ≥
                              (0 : Int)))],
                    [])
              else none
            else none
          else none
        else none
      else none
    else none
  else none := by kernel_rfl
theorem bd141 {T : Tab} (hC : OrcOk Tryz.prog T c141) (n : Nat) {args : List V} {outs : List (List V)} {r : V} {outs' : List (List V)} (h : evalBody E c141 141 Tryz.f141 n args outs = some (r, outs')) : Answers Tryz.prog T 141 args outs r outs' := body hC (by kernel_rfl) h
noncomputable def L141_6 (n m6 : Nat) (s0 : Str) (s5 : Bool) (s6 : Int) (r4 : List Int) : Option (V × List (List V)) := loopOf E c141 141 Tryz.f141 n [1, 1, 1, 1, 0, 1, 1] m6 (hd [((0 : Nat), V.str s0), ((4 : Nat), V.own (4 : Nat) (0 : Nat)), ((5 : Nat), V.bool s5), ((6 : Nat), V.int Go.IntKind.i64 s6)] [] [((4 : Nat), some (Row.mk K.byte r4))] [])
theorem ev141 (n : Nat) (s : Str) : evalBody E c141 141 Tryz.f141 n [.str s] [] =
  bif hasPre s [(35 : UInt8)] then some (V.tup [V.str [], V.bool false], []) else bif hasPre s [(32 : UInt8)] then some (V.tup [V.str [], V.bool false], []) else L141_6 n n s false (0 : Int) [] := by kernel_rfl
theorem rd141_6 (n  m6 : Nat) (s0 : Str) (s5 : Bool) (s6 : Int) (r4 : List Int) : L141_6 n  (m6 + 1) s0 s5 s6 r4 =
  bif decide (s6 < (↑(List.length s0) : Int)) then
  bif decide ((0 : Int) ≤ s6) then
    bif decide (s6 < (↑(List.length s0) : Int)) then
      bif (↑(UInt8.toNat (List.getD s0 (Int.toNat s6) (0 : UInt8))) : Int) == (92 : Int) then
        bif decide (Go.IntKind.wrap Go.IntKind.i64 (s6 + (1 : Int)) < (↑(List.length s0) : Int)) then
          bif decide ((0 : Int) ≤ Go.IntKind.wrap Go.IntKind.i64 (s6 + (1 : Int))) then
            bif decide (Go.IntKind.wrap Go.IntKind.i64 (s6 + (1 : Int)) < (↑(List.length s0) : Int)) then
              bif isB (↑(UInt8.toNat (List.getD s0 (Int.toNat (Go.IntKind.wrap Go.IntKind.i64 (s6 + (1 : Int)))) (0 : UInt8))) : Int) then
                bif
                    decide
                      (find (↑(UInt8.toNat (List.getD s0 (Int.toNat (Go.IntKind.wrap Go.IntKind.i64 (s6 + (1 : Int)))) (0 : UInt8))) : Int)
                          [(44 : UInt8), (43 : UInt8), (34 : UInt8), (92 : UInt8), (60 : UInt8), (62 : UInt8), (59 : UInt8), (35 : UInt8), (61 : UInt8), (32 : UInt8)] (0 : Nat) ≥
                        (0 : Int)) then
                  bif decide ((0 : Int) ≤ Go.IntKind.wrap Go.IntKind.i64 (s6 + (1 : Int))) then
                    bif decide (Go.IntKind.wrap Go.IntKind.i64 (s6 + (1 : Int)) < (↑(List.length s0) : Int)) then
                      bif
                          Nat.ble (List.length r4 + List.length [(↑(UInt8.toNat (List.getD s0 (Int.toNat (Go.IntKind.wrap Go.IntKind.i64 (s6 + (1 : Int)))) (0 : UInt8))) : Int)])
                            (1073741824 : Nat) then
                        L141_6 n m6 s0 ((↑(UInt8.toNat (List.getD s0 (Int.toNat s6) (0 : UInt8))) : Int) == (32 : Int))
                          (Go.IntKind.wrap Go.IntKind.i64 (Go.IntKind.wrap Go.IntKind.i64 (s6 + (1 : Int)) + (1 : Int)))
                          (r4 ++ [(↑(UInt8.toNat (List.getD s0 (Int.toNat (Go.IntKind.wrap Go.IntKind.i64 (s6 + (1 : Int)))) (0 : UInt8))) : Int)])
                      else none
                    else none
                  else none
                else
                  bif ok s0 && decide ((0 : Int) ≤ Go.IntKind.wrap Go.IntKind.i64 (s6 + (1 : Int))) then
                    bif ok s0 && decide ((0 : Int) ≤ Go.IntKind.wrap Go.IntKind.i64 (Go.IntKind.wrap Go.IntKind.i64 (s6 + (1 : Int)) + (1 : Int))) then
                      bif !digB s0 (Go.IntKind.wrap Go.IntKind.i64 (s6 + (1 : Int))) then some (V.tup [V.str [], V.bool false], [])
                      else
                        bif !digB s0 (Go.IntKind.wrap Go.IntKind.i64 (Go.IntKind.wrap Go.IntKind.i64 (s6 + (1 : Int)) + (1 : Int))) then some (V.tup [V.str [], V.bool false], [])
                        else
                          bif
                              Nat.ble
                                (List.length r4 +
                                  List.length
                                    [Go.IntKind.wrap Go.IntKind.u8
                                        (↑(BitVec.toNat
                                              (BitVec.ofInt (8 : Nat) (Go.IntKind.wrap Go.IntKind.u8 (digN s0 (Go.IntKind.wrap Go.IntKind.i64 (s6 + (1 : Int))) * (2 : Int) ^ (4 : Nat))) |||
                                                BitVec.ofInt (8 : Nat) (digN s0 (Go.IntKind.wrap Go.IntKind.i64 (Go.IntKind.wrap Go.IntKind.i64 (s6 + (1 : Int)) + (1 : Int)))))) :
                                          Int)])
                                (1073741824 : Nat) then
                            L141_6 n m6 s0 ((↑(UInt8.toNat (List.getD s0 (Int.toNat s6) (0 : UInt8))) : Int) == (32 : Int))
                              (Go.IntKind.wrap Go.IntKind.i64 (Go.IntKind.wrap Go.IntKind.i64 (Go.IntKind.wrap Go.IntKind.i64 (s6 + (1 : Int)) + (1 : Int)) + (1 : Int)))
                              (r4 ++
                                [Go.IntKind.wrap Go.IntKind.u8
                                    (↑(BitVec.toNat
                                          (BitVec.ofInt (8 : Nat) (Go.IntKind.wrap Go.IntKind.u8 (digN s0 (Go.IntKind.wrap Go.IntKind.i64 (s6 + (1 : Int))) * (2 : Int) ^ (4 : Nat))) |||
                                            BitVec.ofInt (8 : Nat) (digN s0 (Go.IntKind.wrap Go.IntKind.i64 (Go.IntKind.wrap Go.IntKind.i64 (s6 + (1 : Int)) + (1 : Int)))))) :
                                      Int)])
                          else none
                    else none
                  else none
              else none
            else none
          else none
        else
          bif ok s0 && decide ((0 : Int) ≤ Go.IntKind.wrap Go.IntKind.i64 (s6 + (1 : Int))) then
            bif ok s0 && decide ((0 : Int) ≤ Go.IntKind.wrap Go.IntKind.i64 (Go.IntKind.wrap Go.IntKind.i64 (s6 + (1 : Int)) + (1 : Int))) then
              bif !digB s0 (Go.IntKind.wrap Go.IntKind.i64 (s6 + (1 : Int))) then some (V.tup [V.str [], V.bool false], [])
              else
                bif !digB s0 (Go.IntKind.wrap Go.IntKind.i64 (Go.IntKind.wrap Go.IntKind.i64 (s6 + (1 : Int)) + (1 : Int))) then some (V.tup [V.str [], V.bool false], [])
                else
                  bif
                      Nat.ble
                        (List.length r4 +
                          List.length
                            [Go.IntKind.wrap Go.IntKind.u8
                                (↑(BitVec.toNat
                                      (BitVec.ofInt (8 : Nat) (Go.IntKind.wrap Go.IntKind.u8 (digN s0 (Go.IntKind.wrap Go.IntKind.i64 (s6 + (1 : Int))) * (2 : Int) ^ (4 : Nat))) |||
                                        BitVec.ofInt (8 : Nat) (digN s0 (Go.IntKind.wrap Go.IntKind.i64 (Go.IntKind.wrap Go.IntKind.i64 (s6 + (1 : Int)) + (1 : Int)))))) :
                                  Int)])
                        (1073741824 : Nat) then
                    L141_6 n m6 s0 ((↑(UInt8.toNat (List.getD s0 (Int.toNat s6) (0 : UInt8))) : Int) == (32 : Int))
                      (Go.IntKind.wrap Go.IntKind.i64 (Go.IntKind.wrap Go.IntKind.i64 (Go.IntKind.wrap Go.IntKind.i64 (s6 + (1 : Int)) + (1 : Int)) + (1 : Int)))
                      (r4 ++
                        [Go.IntKind.wrap Go.IntKind.u8
                            (↑(BitVec.toNat
                                  (BitVec.ofInt (8 : Nat) (Go.IntKind.wrap Go.IntKind.u8 (digN s0 (Go.IntKind.wrap Go.IntKind.i64 (s6 + (1 : Int))) * (2 : Int) ^ (4 : Nat))) |||
                                    BitVec.ofInt (8 : Nat) (digN s0 (Go.IntKind.wrap Go.IntKind.i64 (Go.IntKind.wrap Go.IntKind.i64 (s6 + (1 : Int)) + (1 : Int)))))) :
                              Int)])
                  else none
            else none
          else none
      else
        bif isB (↑(UInt8.toNat (List.getD s0 (Int.toNat s6) (0 : UInt8))) : Int) then
          bif
              decide
                (find (↑(UInt8.toNat (List.getD s0 (Int.toNat s6) (0 : UInt8))) : Int) [(44 : UInt8), (43 : UInt8), (34 : UInt8), (92 : UInt8), (60 : UInt8), (62 : UInt8), (59 : UInt8)] (0 : Nat) ≥
                  (0 : Int)) then
            some (V.tup [V.str [], V.bool false], [])
          else
            bif Nat.ble (List.length r4 + List.length [(↑(UInt8.toNat (List.getD s0 (Int.toNat s6) (0 : UInt8))) : Int)]) (1073741824 : Nat) then
              L141_6 n m6 s0 ((↑(UInt8.toNat (List.getD s0 (Int.toNat s6) (0 : UInt8))) : Int) == (32 : Int)) (Go.IntKind.wrap Go.IntKind.i64 (s6 + (1 : Int)))
                (r4 ++ [(↑(UInt8.toNat (List.getD s0 (Int.toNat s6) (0 : UInt8))) : Int)])
            else none
        else none
    else none
  else none
else some (V.tup [V.str (List.map (fun (n : Int) => UInt8.ofNat (Int.toNat n)) r4), V.bool !s5], []) := by kernel_rfl
theorem bd120 {T : Tab} (hC : OrcOk Tryz.prog T c0) (n : Nat) {args : List V} {outs : List (List V)} {r : V} {outs' : List (List V)} (h : evalBody E c0 120 Tryz.f120 n args outs = some (r, outs')) : Answers Tryz.prog T 120 args outs r outs' := body hC (by kernel_rfl) h
noncomputable def L120_4 (n m4 : Nat) (s0 : Str) (s1 : Int) (s6 : Int) (s7 : Int) (r5 : List Str) : Option (V × List (List V)) := loopOf E c0 120 Tryz.f120 n [1, 1, 1, 0, 1, 1] m4 (hd [((0 : Nat), V.str s0), ((1 : Nat), V.int Go.IntKind.u8 s1), ((5 : Nat), V.own (5 : Nat) (0 : Nat)), ((6 : Nat), V.int Go.IntKind.i64 s6), ((7 : Nat), V.int Go.IntKind.i64 s7)] []
  [((5 : Nat), some (Row.mk K.str r5))] [])
theorem ev120 (n : Nat) (s : Str) (c : Int) : evalBody E c0 120 Tryz.f120 n [.str s, .int .u8 c] [] =
  L120_4 n n s c (0 : Int) (0 : Int) [] := by kernel_rfl
theorem rd120_4 (n  m4 : Nat) (s0 : Str) (s1 : Int) (s6 : Int) (s7 : Int) (r5 : List Str) : L120_4 n  (m4 + 1) s0 s1 s6 s7 r5 =
  bif decide (s7 < (↑(List.length s0) : Int)) then
  bif decide ((0 : Int) ≤ s7) then
    bif decide (s7 < (↑(List.length s0) : Int)) then
      bif (↑(UInt8.toNat (List.getD s0 (Int.toNat s7) (0 : UInt8))) : Int) == (92 : Int) then
        L120_4 n m4 s0 s1 s6 (Go.IntKind.wrap Go.IntKind.i64 (Go.IntKind.wrap Go.IntKind.i64 (s7 + (1 : Int)) + (1 : Int))) r5
      else
        bif (↑(UInt8.toNat (List.getD s0 (Int.toNat s7) (0 : UInt8))) : Int) == s1 then
          bif decide ((0 : Int) ≤ s7) then
            bif decide (s7 ≤ (↑(List.length s0) : Int)) then
              bif decide ((0 : Int) ≤ s6) then
                bif decide (s6 ≤ (↑(Int.toNat s7) : Int)) then
                  bif Nat.ble (List.length r5 + List.length [List.drop (Int.toNat s6) (List.take (Int.toNat s7) s0)]) (1073741824 : Nat) then
                    L120_4 n m4 s0 s1 (Go.IntKind.wrap Go.IntKind.i64 (s7 + (1 : Int))) (Go.IntKind.wrap Go.IntKind.i64 (s7 + (1 : Int)))
                      (r5 ++ [List.drop (Int.toNat s6) (List.take (Int.toNat s7) s0)])
                  else none
                else none
              else none
            else none
          else none
        else L120_4 n m4 s0 s1 s6 (Go.IntKind.wrap Go.IntKind.i64 (s7 + (1 : Int))) r5
    else none
  else none
else
  bif decide ((0 : Int) ≤ s6) then
    bif decide (s6 ≤ (↑(List.length s0) : Int)) then
      bif Nat.ble (List.length r5 + List.length [List.drop (Int.toNat s6) (List.take (List.length s0) s0)]) (1073741824 : Nat) then
        some (V.sl K.str (r5 ++ [List.drop (Int.toNat s6) (List.take (List.length s0) s0)]), [])
      else none
    else none
  else none := by kernel_rfl
theorem bd74 {T : Tab} (hC : OrcOk Tryz.prog T c0) (n : Nat) {args : List V} {outs : List (List V)} {r : V} {outs' : List (List V)} (h : evalBody E c0 74 Tryz.f74 n args outs = some (r, outs')) : Answers Tryz.prog T 74 args outs r outs' := body hC (by kernel_rfl) h
noncomputable def L74_4 (n m4 : Nat) (s24 : Int) (s25 : Int) (r23 : List Int) : Option (V × List (List V)) := loopOf E c0 74 Tryz.f74 n [1, 1, 0, 1, 1] m4 (hd [((23 : Nat), V.own (23 : Nat) (0 : Nat)), ((24 : Nat), V.int Go.IntKind.i64 s24), ((25 : Nat), V.int Go.IntKind.i64 s25)] [] [((23 : Nat), some (Row.mk K.byte r23))] [])
theorem ev74 (n : Nat) (s : Str) : evalBody E c0 74 Tryz.f74 n [.str s] [] =
  bif s == [] then some (V.bool false, [])
else
  bif decide ((↑(List.length s) : Int) > (16 : Int)) then some (V.bool false, [])
  else
    bif decide ((0 : Int) < (↑(List.length s) : Int)) then
      bif decide ((↑(UInt8.toNat (List.getD s (0 : Nat) (0 : UInt8))) : Int) < (97 : Int)) then some (V.bool false, [])
      else
        bif decide ((0 : Int) < (↑(List.length s) : Int)) then
          bif decide ((↑(UInt8.toNat (List.getD s (0 : Nat) (0 : UInt8))) : Int) > (122 : Int)) then some (V.bool false, [])
          else L74_4 n n (↑(List.length (List.map (fun (c : UInt8) => (↑(UInt8.toNat c) : Int)) s)) : Int) (0 : Int) (List.map (fun (c : UInt8) => (↑(UInt8.toNat c) : Int)) s)
        else none
    else none := by kernel_rfl
theorem rd74_4 (n  m4 : Nat) (s24 : Int) (s25 : Int) (r23 : List Int) : L74_4 n  (m4 + 1) s24 s25 r23 =
  bif decide (s25 < s24) then
  bif decide ((0 : Int) ≤ s25) then
    bif decide (s25 < (↑(List.length r23) : Int)) then
      bif decide (List.getD r23 (Int.toNat s25) (0 : Int) ≥ (97 : Int)) then
        bif decide (List.getD r23 (Int.toNat s25) (0 : Int) ≤ (122 : Int)) then L74_4 n m4 s24 (Go.IntKind.wrap Go.IntKind.i64 (s25 + (1 : Int))) r23
        else
          bif decide (List.getD r23 (Int.toNat s25) (0 : Int) ≥ (48 : Int)) then
            bif decide (List.getD r23 (Int.toNat s25) (0 : Int) ≤ (57 : Int)) then L74_4 n m4 s24 (Go.IntKind.wrap Go.IntKind.i64 (s25 + (1 : Int))) r23
            else bif List.getD r23 (Int.toNat s25) (0 : Int) == (45 : Int) then L74_4 n m4 s24 (Go.IntKind.wrap Go.IntKind.i64 (s25 + (1 : Int))) r23 else some (V.bool false, [])
          else bif List.getD r23 (Int.toNat s25) (0 : Int) == (45 : Int) then L74_4 n m4 s24 (Go.IntKind.wrap Go.IntKind.i64 (s25 + (1 : Int))) r23 else some (V.bool false, [])
      else
        bif decide (List.getD r23 (Int.toNat s25) (0 : Int) ≥ (48 : Int)) then
          bif decide (List.getD r23 (Int.toNat s25) (0 : Int) ≤ (57 : Int)) then L74_4 n m4 s24 (Go.IntKind.wrap Go.IntKind.i64 (s25 + (1 : Int))) r23
          else bif List.getD r23 (Int.toNat s25) (0 : Int) == (45 : Int) then L74_4 n m4 s24 (Go.IntKind.wrap Go.IntKind.i64 (s25 + (1 : Int))) r23 else some (V.bool false, [])
        else bif List.getD r23 (Int.toNat s25) (0 : Int) == (45 : Int) then L74_4 n m4 s24 (Go.IntKind.wrap Go.IntKind.i64 (s25 + (1 : Int))) r23 else some (V.bool false, [])
    else none
  else none
else some (V.bool true, []) := by kernel_rfl
theorem bd75 {T : Tab} (hC : OrcOk Tryz.prog T c0) (n : Nat) {args : List V} {outs : List (List V)} {r : V} {outs' : List (List V)} (h : evalBody E c0 75 Tryz.f75 n args outs = some (r, outs')) : Answers Tryz.prog T 75 args outs r outs' := body hC (by kernel_rfl) h
theorem ev75 (n : Nat) (a v b w : Str) : evalBody E c0 75 Tryz.f75 n [.agg [.str a, .str v], .optr 0 0] [[.str b, .str w]] =
  some (V.bool (a == b), [[V.str b, V.str w]]) := by kernel_rfl
theorem bd76a {T : Tab} (hC : OrcOk Tryz.prog T c76a) (n : Nat) {args : List V} {outs : List (List V)} {r : V} {outs' : List (List V)} (h : evalBody E c76a 76 Tryz.f76 n args outs = some (r, outs')) : Answers Tryz.prog T 76 args outs r outs' := body hC (by kernel_rfl) h
noncomputable def L76a_2 (n m2 : Nat) (s0 : List AVA) (s7 : Int) (s8 : Int) (o__ : Str) (o_'_ : Str) : Option (V × List (List V)) := loopOf E c76a 76 Tryz.f76 n [1, 0, 1, 1] m2 (hd [((0 : Nat), V.sl K.ava s0), ((1 : Nat), V.fn (75 : Go.FuncId) [V.optr (0 : Nat) (0 : Nat)]), ((7 : Nat), V.int Go.IntKind.i64 s7), ((8 : Nat), V.int Go.IntKind.i64 s8)] [] []
  [[V.str o__, V.str o_'_]])
theorem ev76a (n : Nat) (xs : List AVA) (b w : Str) : evalBody E c76a 76 Tryz.f76 n [.sl .ava xs, .fn 75 [.optr 0 0]] [[.str b, .str w]] =
  L76a_2 n n xs (↑(List.length xs) : Int) (0 : Int) b w := by kernel_rfl
theorem rd76a_2 (n  m2 : Nat) (s0 : List AVA) (s7 : Int) (s8 : Int) (o__ : Str) (o_'_ : Str) : L76a_2 n  (m2 + 1) s0 s7 s8 o__ o_'_ =
  bif decide (s8 < s7) then
  bif decide ((0 : Int) ≤ s8) then
    bif decide (s8 < (↑(List.length s0) : Int)) then
      bif AVA.attr (List.getD s0 (Int.toNat s8) (AVA.mk [] [])) == o__ then some (V.int Go.IntKind.i64 s8, [[V.str o__, V.str o_'_]])
      else L76a_2 n m2 s0 s7 (Go.IntKind.wrap Go.IntKind.i64 (s8 + (1 : Int))) o__ o_'_
    else none
  else none
else some (V.int Go.IntKind.i64 (-1 : Int), [[V.str o__, V.str o_'_]]) := by kernel_rfl
theorem bd55a {T : Tab} (hC : OrcOk Tryz.prog T c55a) (n : Nat) {args : List V} {outs : List (List V)} {r : V} {outs' : List (List V)} (h : evalBody E c55a 55 Tryz.f55 n args outs = some (r, outs')) : Answers Tryz.prog T 55 args outs r outs' := body hC (by kernel_rfl) h
theorem ev55a (n : Nat) (xs : List AVA) (b w : Str) : evalBody E c55a 55 Tryz.f55 n [.sl .ava xs, .fn 75 [.optr 0 0]] [[.str b, .str w]] =
  bif Nat.ble (List.length xs) (1000000000 : Nat) then some (V.bool (decide (ixOf (fun (o : AVA) => AVA.attr o == b) xs (0 : Nat) ≥ (0 : Int))), [[V.str b, V.str w]]) else none := by kernel_rfl
theorem bd54 {T : Tab} (hC : OrcOk Tryz.prog T c54) (n : Nat) {args : List V} {outs : List (List V)} {r : V} {outs' : List (List V)} (h : evalBody E c54 54 Tryz.f54 n args outs = some (r, outs')) : Answers Tryz.prog T 54 args outs r outs' := body hC (by kernel_rfl) h
noncomputable def L54_2 (n m2 : Nat) (s0 : List AVA) (s5 : List AVA) (s6 : Int) (s7 : Int) : Option (V × List (List V)) := loopOf E c54 54 Tryz.f54 n [1, 0, 1, 1] m2 (hd [((0 : Nat), V.sl K.ava s0), ((5 : Nat), V.sl K.ava s5), ((6 : Nat), V.int Go.IntKind.i64 s6), ((7 : Nat), V.int Go.IntKind.i64 s7)] [] [] [])
theorem ev54 (n : Nat) (xs : List AVA) : evalBody E c54 54 Tryz.f54 n [.sl .ava xs] [] =
  L54_2 n n xs xs (↑(List.length xs) : Int) (0 : Int) := by kernel_rfl
theorem rd54_2 (n  m2 : Nat) (s0 : List AVA) (s5 : List AVA) (s6 : Int) (s7 : Int) : L54_2 n  (m2 + 1) s0 s5 s6 s7 =
  bif decide (s7 < s6) then
  bif decide ((0 : Int) ≤ s7) then
    bif decide (s7 < (↑(List.length s5) : Int)) then
      bif decide (s7 ≥ (4 : Int)) then some (V.bool false, [])
      else
        bif !isType (AVA.attr (List.getD s5 (Int.toNat s7) (AVA.mk [] []))) then some (V.bool false, [])
        else
          bif AVA.value (List.getD s5 (Int.toNat s7) (AVA.mk [] [])) == [] then some (V.bool false, [])
          else
            bif decide ((↑(List.length (AVA.value (List.getD s5 (Int.toNat s7) (AVA.mk [] [])))) : Int) > (60 : Int)) then some (V.bool false, [])
            else
              bif decide ((0 : Int) ≤ s7) then
                bif decide (s7 ≤ (↑(List.length s0) : Int)) then
                  bif Nat.ble (List.length (List.drop (0 : Nat) (List.take (Int.toNat s7) s0))) (1000000000 : Nat) then
                    bif List.any (List.drop (0 : Nat) (List.take (Int.toNat s7) s0)) fun (o : AVA) => AVA.attr o == AVA.attr (List.getD s5 (Int.toNat s7) (AVA.mk [] [])) then some (V.bool false, [])
                    else L54_2 n m2 s0 s5 s6 (Go.IntKind.wrap Go.IntKind.i64 (s7 + (1 : Int)))
                  else none
                else none
              else none
    else none
  else none
else some (V.bool (decide ((↑(List.length s0) : Int) > (0 : Int))), []) := by kernel_rfl
theorem bd121 {T : Tab} (hC : OrcOk Tryz.prog T c121) (n : Nat) {args : List V} {outs : List (List V)} {r : V} {outs' : List (List V)} (h : evalBody E c121 121 Tryz.f121 n args outs = some (r, outs')) : Answers Tryz.prog T 121 args outs r outs' := body hC (by kernel_rfl) h
noncomputable def L121_3 (n m3 : Nat) (s13 : List Str) (s14 : Int) (s15 : Int) (r4 : List AVA) : Option (V × List (List V)) := loopOf E c121 121 Tryz.f121 n [1, 1, 0, 1, 1] m3 (hd [((4 : Nat), V.own (4 : Nat) (0 : Nat)), ((13 : Nat), V.sl K.str s13), ((14 : Nat), V.int Go.IntKind.i64 s14), ((15 : Nat), V.int Go.IntKind.i64 s15)] [] [((4 : Nat), some (Row.mk K.ava r4))] [])
theorem ev121 (n : Nat) (s : Str) : evalBody E c121 121 Tryz.f121 n [.str s] [] =
  bif ok s then L121_3 n n (cut (43 : Int) s) (↑(List.length (cut (43 : Int) s)) : Int) (0 : Int) [] else none := by kernel_rfl
theorem rd121_3 (n  m3 : Nat) (s13 : List Str) (s14 : Int) (s15 : Int) (r4 : List AVA) : L121_3 n  (m3 + 1) s13 s14 s15 r4 =
  bif decide (s15 < s14) then
  bif decide ((0 : Int) ≤ s15) then
    bif decide (s15 < (↑(List.length s13) : Int)) then
      bif ok (List.getD s13 (Int.toNat s15) []) then
        bif ok (eqR (List.getD s13 (Int.toNat s15) [])) then
          bif !hasEq (List.getD s13 (Int.toNat s15) []) then some (V.tup [V.sl K.ava [], V.int Go.IntKind.i64 (15 : Int)], [])
          else
            bif !Prod.snd (unescP (eqR (List.getD s13 (Int.toNat s15) []))) then some (V.tup [V.sl K.ava [], V.int Go.IntKind.i64 (15 : Int)], [])
            else
              bif decide ((↑(List.length r4) : Int) > (4 : Int)) then some (V.tup [V.sl K.ava [], V.int Go.IntKind.i64 (15 : Int)], [])
              else
                bif ok (eqL (List.getD s13 (Int.toNat s15) [])) then
                  bif
                      Nat.ble (List.length r4 + List.length [AVA.mk (lower (eqL (List.getD s13 (Int.toNat s15) []))) (Prod.fst (unescP (eqR (List.getD s13 (Int.toNat s15) []))))])
                        (1073741824 : Nat) then
                    L121_3 n m3 s13 s14 (Go.IntKind.wrap Go.IntKind.i64 (s15 + (1 : Int)))
                      (r4 ++ [AVA.mk (lower (eqL (List.getD s13 (Int.toNat s15) []))) (Prod.fst (unescP (eqR (List.getD s13 (Int.toNat s15) []))))])
                  else none
                else none
        else none
      else none
    else none
  else none
else
  bif Nat.ble (List.length r4) (1000000000 : Nat) then
    bif !isRDN r4 then some (V.tup [V.sl K.ava [], V.int Go.IntKind.i64 (15 : Int)], []) else some (V.tup [V.sl K.ava r4, V.int Go.IntKind.i64 (0 : Int)], [])
  else none := by kernel_rfl
theorem bd96 {T : Tab} (hC : OrcOk Tryz.prog T c96) (n : Nat) {args : List V} {outs : List (List V)} {r : V} {outs' : List (List V)} (h : evalBody E c96 96 Tryz.f96 n args outs = some (r, outs')) : Answers Tryz.prog T 96 args outs r outs' := body hC (by kernel_rfl) h
noncomputable def L96_5 (n m5 : Nat) (s12 : List Str) (s13 : Int) (s14 : Int) (r4 : List (List AVA)) : Option (V × List (List V)) := loopOf E c96 96 Tryz.f96 n [1, 1, 1, 0, 1, 1] m5 (hd [((4 : Nat), V.own (4 : Nat) (0 : Nat)), ((12 : Nat), V.sl K.str s12), ((13 : Nat), V.int Go.IntKind.i64 s13), ((14 : Nat), V.int Go.IntKind.i64 s14)] [] [((4 : Nat), some (Row.mk K.rdn r4))] [])
theorem ev96 (n : Nat) (s : Str) : evalBody E c96 96 Tryz.f96 n [.str s] [] =
  bif s == [] then some (V.tup [V.sl K.rdn [], V.int Go.IntKind.i64 (0 : Int)], []) else bif ok s then L96_5 n n (cut (44 : Int) s) (↑(List.length (cut (44 : Int) s)) : Int) (0 : Int) [] else none := by kernel_rfl
theorem rd96_5 (n  m5 : Nat) (s12 : List Str) (s13 : Int) (s14 : Int) (r4 : List (List AVA)) : L96_5 n  (m5 + 1) s12 s13 s14 r4 =
  bif decide (s14 < s13) then
  bif decide ((0 : Int) ≤ s14) then
    bif decide (s14 < (↑(List.length s12) : Int)) then
      bif ok (List.getD s12 (Int.toNat s14) []) then
        bif (bif Option.isSome (parseRDN (List.getD s12 (Int.toNat s14) [])) then (0 : Int) else (15 : Int)) != (0 : Int) then some (V.tup [V.sl K.rdn [], V.int Go.IntKind.i64 (15 : Int)], [])
        else
          bif (↑(List.length r4) : Int) == (8 : Int) then some (V.tup [V.sl K.rdn [], V.int Go.IntKind.i64 (15 : Int)], [])
          else
            bif Nat.ble (List.length r4 + List.length [Option.getD (parseRDN (List.getD s12 (Int.toNat s14) [])) []]) (1073741824 : Nat) then
              L96_5 n m5 s12 s13 (Go.IntKind.wrap Go.IntKind.i64 (s14 + (1 : Int))) (r4 ++ [Option.getD (parseRDN (List.getD s12 (Int.toNat s14) [])) []])
            else none
      else none
    else none
  else none
else some (V.tup [V.sl K.rdn r4, V.int Go.IntKind.i64 (0 : Int)], []) := by kernel_rfl
theorem bd77 {T : Tab} (hC : OrcOk Tryz.prog T c77) (n : Nat) {args : List V} {outs : List (List V)} {r : V} {outs' : List (List V)} (h : evalBody E c77 77 Tryz.f77 n args outs = some (r, outs')) : Answers Tryz.prog T 77 args outs r outs' := body hC (by kernel_rfl) h
theorem ev77 (n : Nat) (y : Int) (s : Str) : evalBody E c77 77 Tryz.f77 n [.int .i64 y, .str s] [] =
  bif y == (1 : Int) then bif ok s then bif trim (32 : Int) s == [] then some (V.bool false, []) else bif ok s then some (V.bool (isPlain s), []) else none else none
else
  bif y == (2 : Int) then bif ok s then some (V.bool (isPlain s), []) else none
  else
    bif y == (3 : Int) then some (V.bool (isInt s), [])
    else bif y == (5 : Int) then bif ok s then some (V.bool ((bif Option.isSome (parse s) then (0 : Int) else (15 : Int)) == (0 : Int)), []) else none else some (V.bool true, []) := by kernel_rfl
theorem bd57 {T : Tab} (hC : OrcOk Tryz.prog T c57) (n : Nat) {args : List V} {outs : List (List V)} {r : V} {outs' : List (List V)} (h : evalBody E c57 57 Tryz.f57 n args outs = some (r, outs')) : Answers Tryz.prog T 57 args outs r outs' := body hC (by kernel_rfl) h
theorem ev57 (n : Nat) (a v : Str) : evalBody E c57 57 Tryz.f57 n [.str a, .str v] [] =
  bif ok a then
  bif !Option.isSome (findT a) then some (V.int Go.IntKind.i64 (16 : Int), [])
  else
    bif v == [] then some (V.int Go.IntKind.i64 (17 : Int), [])
    else
      bif decide ((↑(List.length v) : Int) > (60 : Int)) then some (V.int Go.IntKind.i64 (17 : Int), [])
      else bif ok v then bif !may (Typ.syn (Option.getD (findT a) noT)) v then some (V.int Go.IntKind.i64 (17 : Int), []) else some (V.int Go.IntKind.i64 (0 : Int), []) else none
else none := by kernel_rfl
theorem bd56 {T : Tab} (hC : OrcOk Tryz.prog T c56) (n : Nat) {args : List V} {outs : List (List V)} {r : V} {outs' : List (List V)} (h : evalBody E c56 56 Tryz.f56 n args outs = some (r, outs')) : Answers Tryz.prog T 56 args outs r outs' := body hC (by kernel_rfl) h
theorem ev56 (n : Nat) (a v : Str) : evalBody E c56 56 Tryz.f56 n [.agg [.str a, .str v]] [] =
  bif a == [(101 : UInt8), (110 : UInt8), (116 : UInt8), (114 : UInt8), (121 : UInt8), (105 : UInt8), (100 : UInt8)] then some (V.bool true, [])
else bif ok a && ok v then some (V.bool (check a v != (0 : Int)), []) else none := by kernel_rfl
theorem bd76b {T : Tab} (hC : OrcOk Tryz.prog T c76b) (n : Nat) {args : List V} {outs : List (List V)} {r : V} {outs' : List (List V)} (h : evalBody E c76b 76 Tryz.f76 n args outs = some (r, outs')) : Answers Tryz.prog T 76 args outs r outs' := body hC (by kernel_rfl) h
noncomputable def L76b_2 (n m2 : Nat) (s0 : List AVA) (s7 : Int) (s8 : Int) : Option (V × List (List V)) := loopOf E c76b 76 Tryz.f76 n [1, 0, 1, 1] m2 (hd [((0 : Nat), V.sl K.ava s0), ((1 : Nat), V.fn (56 : Go.FuncId) []), ((7 : Nat), V.int Go.IntKind.i64 s7), ((8 : Nat), V.int Go.IntKind.i64 s8)] [] [] [])
theorem ev76b (n : Nat) (xs : List AVA) : evalBody E c76b 76 Tryz.f76 n [.sl .ava xs, .fn 56 []] [] =
  L76b_2 n n xs (↑(List.length xs) : Int) (0 : Int) := by kernel_rfl
theorem rd76b_2 (n  m2 : Nat) (s0 : List AVA) (s7 : Int) (s8 : Int) : L76b_2 n  (m2 + 1) s0 s7 s8 =
  bif decide (s8 < s7) then
  bif decide ((0 : Int) ≤ s8) then
    bif decide (s8 < (↑(List.length s0) : Int)) then
      bif ok (AVA.attr (List.getD s0 (Int.toNat s8) (AVA.mk [] []))) && ok (AVA.value (List.getD s0 (Int.toNat s8) (AVA.mk [] []))) then
        bif
            AVA.attr (AVA.mk (AVA.attr (List.getD s0 (Int.toNat s8) (AVA.mk [] []))) (AVA.value (List.getD s0 (Int.toNat s8) (AVA.mk [] [])))) == sId ||
              !check (AVA.attr (AVA.mk (AVA.attr (List.getD s0 (Int.toNat s8) (AVA.mk [] []))) (AVA.value (List.getD s0 (Int.toNat s8) (AVA.mk [] [])))))
                    (AVA.value (AVA.mk (AVA.attr (List.getD s0 (Int.toNat s8) (AVA.mk [] []))) (AVA.value (List.getD s0 (Int.toNat s8) (AVA.mk [] []))))) ==
                  (0 : Int) then
          some (V.int Go.IntKind.i64 s8, [])
        else L76b_2 n m2 s0 s7 (Go.IntKind.wrap Go.IntKind.i64 (s8 + (1 : Int)))
      else none
    else none
  else none
else some (V.int Go.IntKind.i64 (-1 : Int), []) := by kernel_rfl
theorem bd55b {T : Tab} (hC : OrcOk Tryz.prog T c55b) (n : Nat) {args : List V} {outs : List (List V)} {r : V} {outs' : List (List V)} (h : evalBody E c55b 55 Tryz.f55 n args outs = some (r, outs')) : Answers Tryz.prog T 55 args outs r outs' := body hC (by kernel_rfl) h
theorem ev55b (n : Nat) (xs : List AVA) : evalBody E c55b 55 Tryz.f55 n [.sl .ava xs, .fn 56 []] [] =
  bif okAs xs then some (V.bool (decide (ixOf (fun (a : AVA) => AVA.attr a == sId || !check (AVA.attr a) (AVA.value a) == (0 : Int)) xs (0 : Nat) ≥ (0 : Int))), []) else none := by kernel_rfl
theorem bd28 {T : Tab} (hC : OrcOk Tryz.prog T c28) (n : Nat) {args : List V} {outs : List (List V)} {r : V} {outs' : List (List V)} (h : evalBody E c28 28 Tryz.f28 n args outs = some (r, outs')) : Answers Tryz.prog T 28 args outs r outs' := body hC (by kernel_rfl) h
theorem ev28 (n : Nat) (xs : List AVA) : evalBody E c28 28 Tryz.f28 n [.sl .ava xs] [] =
  bif Nat.ble (List.length xs) (1000000000 : Nat) then
  bif !isRDN xs then some (V.bool false, [])
  else
    bif decide ((↑(List.length xs) : Int) ≥ (4 : Int)) then some (V.bool false, [])
    else bif okAs xs then some (V.bool !List.any xs fun (a : AVA) => AVA.attr a == sId || !check (AVA.attr a) (AVA.value a) == (0 : Int), []) else none
else none := by kernel_rfl
theorem bd60 {T : Tab} (hC : OrcOk Tryz.prog T c60) (n : Nat) {args : List V} {outs : List (List V)} {r : V} {outs' : List (List V)} (h : evalBody E c60 60 Tryz.f60 n args outs = some (r, outs')) : Answers Tryz.prog T 60 args outs r outs' := body hC (by kernel_rfl) h
theorem ev60 (n : Nat) (v a : Str) (k : Int) (l : List Str) : evalBody E c60 60 Tryz.f60 n [.str v, .optr 0 0] [[.int .i64 k, .str a, .sl .str l]] =
  bif ok a && ok v then some (V.bool (check a v != (0 : Int)), [[V.int Go.IntKind.i64 k, V.str a, V.sl K.str l]]) else none := by kernel_rfl
theorem bd80 {T : Tab} (hC : OrcOk Tryz.prog T c80) (n : Nat) {args : List V} {outs : List (List V)} {r : V} {outs' : List (List V)} (h : evalBody E c80 80 Tryz.f80 n args outs = some (r, outs')) : Answers Tryz.prog T 80 args outs r outs' := body hC (by kernel_rfl) h
noncomputable def L80_2 (n m2 : Nat) (s0 : List Str) (s7 : Int) (s8 : Int) (o__ : Int) (o_'_ : Str) (o_''_ : List Str) : Option (V × List (List V)) := loopOf E c80 80 Tryz.f80 n [1, 0, 1, 1] m2 (hd [((0 : Nat), V.sl K.str s0), ((1 : Nat), V.fn (60 : Go.FuncId) [V.optr (0 : Nat) (0 : Nat)]), ((7 : Nat), V.int Go.IntKind.i64 s7), ((8 : Nat), V.int Go.IntKind.i64 s8)] [] []
  [[V.int Go.IntKind.i64 o__, V.str o_'_, V.sl K.str o_''_]])
theorem ev80 (n : Nat) (xs l : List Str) (a : Str) (k : Int) : evalBody E c80 80 Tryz.f80 n [.sl .str xs, .fn 60 [.optr 0 0]] [[.int .i64 k, .str a, .sl .str l]] =
  L80_2 n n xs (↑(List.length xs) : Int) (0 : Int) k a l := by kernel_rfl
theorem rd80_2 (n  m2 : Nat) (s0 : List Str) (s7 : Int) (s8 : Int) (o__ : Int) (o_'_ : Str) (o_''_ : List Str) : L80_2 n  (m2 + 1) s0 s7 s8 o__ o_'_ o_''_ =
  bif decide (s8 < s7) then
  bif decide ((0 : Int) ≤ s8) then
    bif decide (s8 < (↑(List.length s0) : Int)) then
      bif ok (List.getD s0 (Int.toNat s8) []) && ok o_'_ then
        bif !check o_'_ (List.getD s0 (Int.toNat s8) []) == (0 : Int) then some (V.int Go.IntKind.i64 s8, [[V.int Go.IntKind.i64 o__, V.str o_'_, V.sl K.str o_''_]])
        else L80_2 n m2 s0 s7 (Go.IntKind.wrap Go.IntKind.i64 (s8 + (1 : Int))) o__ o_'_ o_''_
      else none
    else none
  else none
else some (V.int Go.IntKind.i64 (-1 : Int), [[V.int Go.IntKind.i64 o__, V.str o_'_, V.sl K.str o_''_]]) := by kernel_rfl
theorem bd59 {T : Tab} (hC : OrcOk Tryz.prog T c59) (n : Nat) {args : List V} {outs : List (List V)} {r : V} {outs' : List (List V)} (h : evalBody E c59 59 Tryz.f59 n args outs = some (r, outs')) : Answers Tryz.prog T 59 args outs r outs' := body hC (by kernel_rfl) h
theorem ev59 (n : Nat) (xs l : List Str) (a : Str) (k : Int) : evalBody E c59 59 Tryz.f59 n [.sl .str xs, .fn 60 [.optr 0 0]] [[.int .i64 k, .str a, .sl .str l]] =
  bif okSs xs && ok a then some (V.bool (decide (ixOf (fun (v : Str) => !check a v == (0 : Int)) xs (0 : Nat) ≥ (0 : Int))), [[V.int Go.IntKind.i64 k, V.str a, V.sl K.str l]]) else none := by kernel_rfl
theorem bd29 {T : Tab} (hC : OrcOk Tryz.prog T c29) (n : Nat) {args : List V} {outs : List (List V)} {r : V} {outs' : List (List V)} (h : evalBody E c29 29 Tryz.f29 n args outs = some (r, outs')) : Answers Tryz.prog T 29 args outs r outs' := body hC (by kernel_rfl) h
noncomputable def L29_2 (n m2 : Nat) (s0 : List Go.Ev.Mod) (s1 : Int) (s9 : List Go.Ev.Mod) (s10 : Int) (s11 : Int) : Option (V × List (List V)) := loopOf E c29 29 Tryz.f29 n [1, 0, 1, 1] m2 (hd [((0 : Nat), V.sl K.mod s0), ((1 : Nat), V.int Go.IntKind.i64 s1), ((9 : Nat), V.sl K.mod s9), ((10 : Nat), V.int Go.IntKind.i64 s10), ((11 : Nat), V.int Go.IntKind.i64 s11)] [] [] [])
theorem ev29 (n : Nat) (l : List Mod) (last : Int) : evalBody E c29 29 Tryz.f29 n [.sl .mod l, .int .i64 last] [] =
  L29_2 n n l last l (↑(List.length l) : Int) (0 : Int) := by kernel_rfl
theorem rd29_2 (n  m2 : Nat) (s0 : List Go.Ev.Mod) (s1 : Int) (s9 : List Go.Ev.Mod) (s10 : Int) (s11 : Int) : L29_2 n  (m2 + 1) s0 s1 s9 s10 s11 =
  bif decide (s11 < s10) then
  bif decide ((0 : Int) ≤ s11) then
    bif decide (s11 < (↑(List.length s9) : Int)) then
      bif ok (Mod.attr (List.getD s9 (Int.toNat s11) (Go.Ev.Mod.mk (0 : Int) [] []))) then
        bif !Option.isSome (findT (Mod.attr (List.getD s9 (Int.toNat s11) (Go.Ev.Mod.mk (0 : Int) [] [])))) then some (V.bool false, [])
        else
          bif
              !Typ.name (Option.getD (findT (Mod.attr (List.getD s9 (Int.toNat s11) (Go.Ev.Mod.mk (0 : Int) [] [])))) noT) ==
                  Mod.attr (List.getD s9 (Int.toNat s11) (Go.Ev.Mod.mk (0 : Int) [] [])) then
            some (V.bool false, [])
          else
            bif Mod.attr (List.getD s9 (Int.toNat s11) (Go.Ev.Mod.mk (0 : Int) [] [])) == [(101 : UInt8), (110 : UInt8), (116 : UInt8), (114 : UInt8), (121 : UInt8), (105 : UInt8), (100 : UInt8)] then
              some (V.bool false, [])
            else
              bif decide (Mod.kind (List.getD s9 (Int.toNat s11) (Go.Ev.Mod.mk (0 : Int) [] [])) < (1 : Int)) then some (V.bool false, [])
              else
                bif decide (Mod.kind (List.getD s9 (Int.toNat s11) (Go.Ev.Mod.mk (0 : Int) [] [])) > s1) then some (V.bool false, [])
                else
                  bif decide ((↑(List.length (Mod.values (List.getD s9 (Int.toNat s11) (Go.Ev.Mod.mk (0 : Int) [] [])))) : Int) > (12 : Int)) then some (V.bool false, [])
                  else
                    bif Mod.kind (List.getD s9 (Int.toNat s11) (Go.Ev.Mod.mk (0 : Int) [] [])) == (1 : Int) then
                      bif (↑(List.length (Mod.values (List.getD s9 (Int.toNat s11) (Go.Ev.Mod.mk (0 : Int) [] [])))) : Int) == (0 : Int) then some (V.bool false, [])
                      else
                        bif okSs (Mod.values (List.getD s9 (Int.toNat s11) (Go.Ev.Mod.mk (0 : Int) [] []))) && ok (Mod.attr (List.getD s9 (Int.toNat s11) (Go.Ev.Mod.mk (0 : Int) [] []))) then
                          bif
                              List.any (Mod.values (List.getD s9 (Int.toNat s11) (Go.Ev.Mod.mk (0 : Int) [] []))) fun (v : Str) =>
                                !check (Mod.attr (List.getD s9 (Int.toNat s11) (Go.Ev.Mod.mk (0 : Int) [] []))) v == (0 : Int) then
                            some (V.bool false, [])
                          else L29_2 n m2 s0 s1 s9 s10 (Go.IntKind.wrap Go.IntKind.i64 (s11 + (1 : Int)))
                        else none
                    else
                      bif okSs (Mod.values (List.getD s9 (Int.toNat s11) (Go.Ev.Mod.mk (0 : Int) [] []))) && ok (Mod.attr (List.getD s9 (Int.toNat s11) (Go.Ev.Mod.mk (0 : Int) [] []))) then
                        bif
                            List.any (Mod.values (List.getD s9 (Int.toNat s11) (Go.Ev.Mod.mk (0 : Int) [] []))) fun (v : Str) =>
                              !check (Mod.attr (List.getD s9 (Int.toNat s11) (Go.Ev.Mod.mk (0 : Int) [] []))) v == (0 : Int) then
                          some (V.bool false, [])
                        else L29_2 n m2 s0 s1 s9 s10 (Go.IntKind.wrap Go.IntKind.i64 (s11 + (1 : Int)))
                      else none
      else none
    else none
  else none
else some (V.bool (decide ((↑(List.length s0) : Int) ≤ (8 : Int))), []) := by kernel_rfl
theorem bd10 {T : Tab} (hC : OrcOk Tryz.prog T c10) (n : Nat) {args : List V} {outs : List (List V)} {r : V} {outs' : List (List V)} (h : evalBody E c10 10 Tryz.f10 n args outs = some (r, outs')) : Answers Tryz.prog T 10 args outs r outs' := body hC (by kernel_rfl) h
theorem ev10 (n : Nat) (x : Chn) : evalBody E c10 10 Tryz.f10 n [.agg (Chn.cells x)] [] =
  bif !Csn.is (Csn.mk (Csn.t (Chn.c x)) (Csn.s (Chn.c x)) (Csn.r (Chn.c x))) then some (V.bool false, [])
else
  bif Csn.zero (Csn.mk (Csn.t (Chn.c x)) (Csn.s (Chn.c x)) (Csn.r (Chn.c x))) then some (V.bool false, [])
  else
    bif !Csn.is (Csn.mk (Csn.t (Chn.id x)) (Csn.s (Chn.id x)) (Csn.r (Chn.id x))) then some (V.bool false, [])
    else
      bif !Csn.is (Csn.mk (Csn.t (Chn.par x)) (Csn.s (Chn.par x)) (Csn.r (Chn.par x))) then some (V.bool false, [])
      else
        bif Csn.zero (Csn.mk (Csn.t (Chn.par x)) (Csn.s (Chn.par x)) (Csn.r (Chn.par x))) then
          bif (↑(List.length (Chn.rdn x)) : Int) == (0 : Int) then
            bif Chn.kind x == (1 : Int) then
              bif Csn.t (Chn.id x) == Csn.t (Chn.c x) && (Csn.s (Chn.id x) == Csn.s (Chn.c x) && (Csn.r (Chn.id x) == Csn.r (Chn.c x) && true)) then
                bif
                    Csn.below (Csn.mk (Csn.t (Chn.par x)) (Csn.s (Chn.par x)) (Csn.r (Chn.par x)))
                      (Chn.c
                        (Chn.mk (Csn.mk (Csn.t (Chn.c x)) (Csn.s (Chn.c x)) (Csn.r (Chn.c x))) (Chn.kind x) (Csn.mk (Csn.t (Chn.id x)) (Csn.s (Chn.id x)) (Csn.r (Chn.id x)))
                          (Csn.mk (Csn.t (Chn.par x)) (Csn.s (Chn.par x)) (Csn.r (Chn.par x))) (Chn.rdn x) (Chn.del x) (Chn.mods x))) then
                  bif okAs (Chn.rdn x) then
                    bif isRDNc (Chn.rdn x) then bif okMs (Chn.mods x) then bif isMods (1 : Int) (Chn.mods x) then some (V.bool !Chn.del x, []) else some (V.bool false, []) else none
                    else some (V.bool false, [])
                  else none
                else some (V.bool false, [])
              else some (V.bool false, [])
            else
              bif Chn.kind x == (2 : Int) then
                bif !Csn.zero (Csn.mk (Csn.t (Chn.id x)) (Csn.s (Chn.id x)) (Csn.r (Chn.id x))) then
                  bif
                      Csn.below (Csn.mk (Csn.t (Chn.id x)) (Csn.s (Chn.id x)) (Csn.r (Chn.id x)))
                        (Chn.c
                          (Chn.mk (Csn.mk (Csn.t (Chn.c x)) (Csn.s (Chn.c x)) (Csn.r (Chn.c x))) (Chn.kind x) (Csn.mk (Csn.t (Chn.id x)) (Csn.s (Chn.id x)) (Csn.r (Chn.id x)))
                            (Csn.mk (Csn.t (Chn.par x)) (Csn.s (Chn.par x)) (Csn.r (Chn.par x))) (Chn.rdn x) (Chn.del x) (Chn.mods x))) then
                    bif !Chn.del x then some (V.bool ((↑(List.length (Chn.mods x)) : Int) == (0 : Int)), []) else some (V.bool false, [])
                  else some (V.bool false, [])
                else some (V.bool false, [])
              else
                bif Chn.kind x == (3 : Int) then
                  bif
                      Csn.below (Csn.mk (Csn.t (Chn.id x)) (Csn.s (Chn.id x)) (Csn.r (Chn.id x)))
                        (Chn.c
                          (Chn.mk (Csn.mk (Csn.t (Chn.c x)) (Csn.s (Chn.c x)) (Csn.r (Chn.c x))) (Chn.kind x) (Csn.mk (Csn.t (Chn.id x)) (Csn.s (Chn.id x)) (Csn.r (Chn.id x)))
                            (Csn.mk (Csn.t (Chn.par x)) (Csn.s (Chn.par x)) (Csn.r (Chn.par x))) (Chn.rdn x) (Chn.del x) (Chn.mods x))) then
                    bif !Chn.del x then
                      bif decide ((↑(List.length (Chn.mods x)) : Int) > (0 : Int)) then bif okMs (Chn.mods x) then some (V.bool (isMods (3 : Int) (Chn.mods x)), []) else none
                      else some (V.bool false, [])
                    else some (V.bool false, [])
                  else some (V.bool false, [])
                else
                  bif Chn.kind x == (4 : Int) then
                    bif !Csn.zero (Csn.mk (Csn.t (Chn.id x)) (Csn.s (Chn.id x)) (Csn.r (Chn.id x))) then
                      bif
                          Csn.below (Csn.mk (Csn.t (Chn.id x)) (Csn.s (Chn.id x)) (Csn.r (Chn.id x)))
                            (Chn.c
                              (Chn.mk (Csn.mk (Csn.t (Chn.c x)) (Csn.s (Chn.c x)) (Csn.r (Chn.c x))) (Chn.kind x) (Csn.mk (Csn.t (Chn.id x)) (Csn.s (Chn.id x)) (Csn.r (Chn.id x)))
                                (Csn.mk (Csn.t (Chn.par x)) (Csn.s (Chn.par x)) (Csn.r (Chn.par x))) (Chn.rdn x) (Chn.del x) (Chn.mods x))) then
                        bif
                            Csn.below (Csn.mk (Csn.t (Chn.par x)) (Csn.s (Chn.par x)) (Csn.r (Chn.par x)))
                              (Chn.c
                                (Chn.mk (Csn.mk (Csn.t (Chn.c x)) (Csn.s (Chn.c x)) (Csn.r (Chn.c x))) (Chn.kind x) (Csn.mk (Csn.t (Chn.id x)) (Csn.s (Chn.id x)) (Csn.r (Chn.id x)))
                                  (Csn.mk (Csn.t (Chn.par x)) (Csn.s (Chn.par x)) (Csn.r (Chn.par x))) (Chn.rdn x) (Chn.del x) (Chn.mods x))) then
                          bif okAs (Chn.rdn x) then bif isRDNc (Chn.rdn x) then some (V.bool ((↑(List.length (Chn.mods x)) : Int) == (0 : Int)), []) else some (V.bool false, []) else none
                        else some (V.bool false, [])
                      else some (V.bool false, [])
                    else some (V.bool false, [])
                  else some (V.bool false, [])
          else
            bif Chn.kind x == (1 : Int) then
              bif Csn.t (Chn.id x) == Csn.t (Chn.c x) && (Csn.s (Chn.id x) == Csn.s (Chn.c x) && (Csn.r (Chn.id x) == Csn.r (Chn.c x) && true)) then
                bif
                    Csn.below (Csn.mk (Csn.t (Chn.par x)) (Csn.s (Chn.par x)) (Csn.r (Chn.par x)))
                      (Chn.c
                        (Chn.mk (Csn.mk (Csn.t (Chn.c x)) (Csn.s (Chn.c x)) (Csn.r (Chn.c x))) (Chn.kind x) (Csn.mk (Csn.t (Chn.id x)) (Csn.s (Chn.id x)) (Csn.r (Chn.id x)))
                          (Csn.mk (Csn.t (Chn.par x)) (Csn.s (Chn.par x)) (Csn.r (Chn.par x))) (Chn.rdn x) (Chn.del x) (Chn.mods x))) then
                  bif okAs (Chn.rdn x) then
                    bif isRDNc (Chn.rdn x) then bif okMs (Chn.mods x) then bif isMods (1 : Int) (Chn.mods x) then some (V.bool !Chn.del x, []) else some (V.bool false, []) else none
                    else some (V.bool false, [])
                  else none
                else some (V.bool false, [])
              else some (V.bool false, [])
            else
              bif Chn.kind x == (2 : Int) then
                bif !Csn.zero (Csn.mk (Csn.t (Chn.id x)) (Csn.s (Chn.id x)) (Csn.r (Chn.id x))) then
                  bif
                      Csn.below (Csn.mk (Csn.t (Chn.id x)) (Csn.s (Chn.id x)) (Csn.r (Chn.id x)))
                        (Chn.c
                          (Chn.mk (Csn.mk (Csn.t (Chn.c x)) (Csn.s (Chn.c x)) (Csn.r (Chn.c x))) (Chn.kind x) (Csn.mk (Csn.t (Chn.id x)) (Csn.s (Chn.id x)) (Csn.r (Chn.id x)))
                            (Csn.mk (Csn.t (Chn.par x)) (Csn.s (Chn.par x)) (Csn.r (Chn.par x))) (Chn.rdn x) (Chn.del x) (Chn.mods x))) then
                    some (V.bool false, [])
                  else some (V.bool false, [])
                else some (V.bool false, [])
              else
                bif Chn.kind x == (3 : Int) then
                  bif
                      Csn.below (Csn.mk (Csn.t (Chn.id x)) (Csn.s (Chn.id x)) (Csn.r (Chn.id x)))
                        (Chn.c
                          (Chn.mk (Csn.mk (Csn.t (Chn.c x)) (Csn.s (Chn.c x)) (Csn.r (Chn.c x))) (Chn.kind x) (Csn.mk (Csn.t (Chn.id x)) (Csn.s (Chn.id x)) (Csn.r (Chn.id x)))
                            (Csn.mk (Csn.t (Chn.par x)) (Csn.s (Chn.par x)) (Csn.r (Chn.par x))) (Chn.rdn x) (Chn.del x) (Chn.mods x))) then
                    some (V.bool false, [])
                  else some (V.bool false, [])
                else
                  bif Chn.kind x == (4 : Int) then
                    bif !Csn.zero (Csn.mk (Csn.t (Chn.id x)) (Csn.s (Chn.id x)) (Csn.r (Chn.id x))) then
                      bif
                          Csn.below (Csn.mk (Csn.t (Chn.id x)) (Csn.s (Chn.id x)) (Csn.r (Chn.id x)))
                            (Chn.c
                              (Chn.mk (Csn.mk (Csn.t (Chn.c x)) (Csn.s (Chn.c x)) (Csn.r (Chn.c x))) (Chn.kind x) (Csn.mk (Csn.t (Chn.id x)) (Csn.s (Chn.id x)) (Csn.r (Chn.id x)))
                                (Csn.mk (Csn.t (Chn.par x)) (Csn.s (Chn.par x)) (Csn.r (Chn.par x))) (Chn.rdn x) (Chn.del x) (Chn.mods x))) then
                        bif
                            Csn.below (Csn.mk (Csn.t (Chn.par x)) (Csn.s (Chn.par x)) (Csn.r (Chn.par x)))
                              (Chn.c
                                (Chn.mk (Csn.mk (Csn.t (Chn.c x)) (Csn.s (Chn.c x)) (Csn.r (Chn.c x))) (Chn.kind x) (Csn.mk (Csn.t (Chn.id x)) (Csn.s (Chn.id x)) (Csn.r (Chn.id x)))
                                  (Csn.mk (Csn.t (Chn.par x)) (Csn.s (Chn.par x)) (Csn.r (Chn.par x))) (Chn.rdn x) (Chn.del x) (Chn.mods x))) then
                          bif okAs (Chn.rdn x) then bif isRDNc (Chn.rdn x) then some (V.bool ((↑(List.length (Chn.mods x)) : Int) == (0 : Int)), []) else some (V.bool false, []) else none
                        else some (V.bool false, [])
                      else some (V.bool false, [])
                    else some (V.bool false, [])
                  else some (V.bool false, [])
        else
          bif Chn.kind x == (1 : Int) then
            bif Csn.t (Chn.id x) == Csn.t (Chn.c x) && (Csn.s (Chn.id x) == Csn.s (Chn.c x) && (Csn.r (Chn.id x) == Csn.r (Chn.c x) && true)) then
              bif
                  Csn.below (Csn.mk (Csn.t (Chn.par x)) (Csn.s (Chn.par x)) (Csn.r (Chn.par x)))
                    (Chn.c
                      (Chn.mk (Csn.mk (Csn.t (Chn.c x)) (Csn.s (Chn.c x)) (Csn.r (Chn.c x))) (Chn.kind x) (Csn.mk (Csn.t (Chn.id x)) (Csn.s (Chn.id x)) (Csn.r (Chn.id x)))
                        (Csn.mk (Csn.t (Chn.par x)) (Csn.s (Chn.par x)) (Csn.r (Chn.par x))) (Chn.rdn x) (Chn.del x) (Chn.mods x))) then
                bif okAs (Chn.rdn x) then
                  bif isRDNc (Chn.rdn x) then bif okMs (Chn.mods x) then bif isMods (1 : Int) (Chn.mods x) then some (V.bool !Chn.del x, []) else some (V.bool false, []) else none
                  else some (V.bool false, [])
                else none
              else some (V.bool false, [])
            else some (V.bool false, [])
          else
            bif Chn.kind x == (2 : Int) then
              bif !Csn.zero (Csn.mk (Csn.t (Chn.id x)) (Csn.s (Chn.id x)) (Csn.r (Chn.id x))) then
                bif
                    Csn.below (Csn.mk (Csn.t (Chn.id x)) (Csn.s (Chn.id x)) (Csn.r (Chn.id x)))
                      (Chn.c
                        (Chn.mk (Csn.mk (Csn.t (Chn.c x)) (Csn.s (Chn.c x)) (Csn.r (Chn.c x))) (Chn.kind x) (Csn.mk (Csn.t (Chn.id x)) (Csn.s (Chn.id x)) (Csn.r (Chn.id x)))
                          (Csn.mk (Csn.t (Chn.par x)) (Csn.s (Chn.par x)) (Csn.r (Chn.par x))) (Chn.rdn x) (Chn.del x) (Chn.mods x))) then
                  some (V.bool false, [])
                else some (V.bool false, [])
              else some (V.bool false, [])
            else
              bif Chn.kind x == (3 : Int) then
                bif
                    Csn.below (Csn.mk (Csn.t (Chn.id x)) (Csn.s (Chn.id x)) (Csn.r (Chn.id x)))
                      (Chn.c
                        (Chn.mk (Csn.mk (Csn.t (Chn.c x)) (Csn.s (Chn.c x)) (Csn.r (Chn.c x))) (Chn.kind x) (Csn.mk (Csn.t (Chn.id x)) (Csn.s (Chn.id x)) (Csn.r (Chn.id x)))
                          (Csn.mk (Csn.t (Chn.par x)) (Csn.s (Chn.par x)) (Csn.r (Chn.par x))) (Chn.rdn x) (Chn.del x) (Chn.mods x))) then
                  some (V.bool false, [])
                else some (V.bool false, [])
              else
                bif Chn.kind x == (4 : Int) then
                  bif !Csn.zero (Csn.mk (Csn.t (Chn.id x)) (Csn.s (Chn.id x)) (Csn.r (Chn.id x))) then
                    bif
                        Csn.below (Csn.mk (Csn.t (Chn.id x)) (Csn.s (Chn.id x)) (Csn.r (Chn.id x)))
                          (Chn.c
                            (Chn.mk (Csn.mk (Csn.t (Chn.c x)) (Csn.s (Chn.c x)) (Csn.r (Chn.c x))) (Chn.kind x) (Csn.mk (Csn.t (Chn.id x)) (Csn.s (Chn.id x)) (Csn.r (Chn.id x)))
                              (Csn.mk (Csn.t (Chn.par x)) (Csn.s (Chn.par x)) (Csn.r (Chn.par x))) (Chn.rdn x) (Chn.del x) (Chn.mods x))) then
                      bif
                          Csn.below (Csn.mk (Csn.t (Chn.par x)) (Csn.s (Chn.par x)) (Csn.r (Chn.par x)))
                            (Chn.c
                              (Chn.mk (Csn.mk (Csn.t (Chn.c x)) (Csn.s (Chn.c x)) (Csn.r (Chn.c x))) (Chn.kind x) (Csn.mk (Csn.t (Chn.id x)) (Csn.s (Chn.id x)) (Csn.r (Chn.id x)))
                                (Csn.mk (Csn.t (Chn.par x)) (Csn.s (Chn.par x)) (Csn.r (Chn.par x))) (Chn.rdn x) (Chn.del x) (Chn.mods x))) then
                        bif okAs (Chn.rdn x) then bif isRDNc (Chn.rdn x) then some (V.bool ((↑(List.length (Chn.mods x)) : Int) == (0 : Int)), []) else some (V.bool false, []) else none
                      else some (V.bool false, [])
                    else some (V.bool false, [])
                  else some (V.bool false, [])
                else some (V.bool false, []) := by kernel_rfl
end Go.Ev
