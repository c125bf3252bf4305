/-
  What single functions of the program compute, region by region, as the evaluator tells it: printed by a program (tools/YtreeTool) and checked here.
-/
import Derived.Test.YtdfbmemomndnnaaGreatDoorZP
namespace Go.Ev
open Go.Proofs Go.Ev.Sp
theorem bd18 {T : Tab} (hC : OrcOk Tryz.prog T c0) (n : Nat) {args : List V} {outs : List (List V)} {r : V} {outs' : List (List V)} (h : evalBody E c0 18 Tryz.f18 n args outs = some (r, outs')) : Answers Tryz.prog T 18 args outs r outs' := body hC (by kernel_rfl) h
noncomputable def L18_2 (n m2 : Nat) (s0 : List AVA) (s3 : Int) : Option (V × List (List V)) := loopOf E c0 18 Tryz.f18 n [1, 0, 1, 1] m2 (hd [((0 : Nat), V.sl K.ava s0), ((3 : Nat), V.int Go.IntKind.i64 s3)] [] [] [])
theorem ev18 (n : Nat) (l : List AVA) : evalBody E c0 18 Tryz.f18 n [.sl .ava l] [] =
  L18_2 n n l (0 : Int) := by kernel_rfl
theorem rd18_2 (n  m2 : Nat) (s0 : List AVA) (s3 : Int) : L18_2 n  (m2 + 1) s0 s3 =
  bif decide (s3 < (↑(List.length s0) : Int)) then
  bif decide ((0 : Int) ≤ s3) then
    bif decide (s3 < (↑(List.length s0) : Int)) then
      bif decide ((↑(List.length (AVA.attr (List.getD s0 (Int.toNat s3) (AVA.mk [] [])))) : Int) > (30 : Int)) then some (V.bool false, [])
      else
        bif decide ((0 : Int) ≤ s3) then
          bif decide (s3 < (↑(List.length s0) : Int)) then
            bif decide ((↑(List.length (AVA.value (List.getD s0 (Int.toNat s3) (AVA.mk [] [])))) : Int) > (80 : Int)) then some (V.bool false, [])
            else L18_2 n m2 s0 (Go.IntKind.wrap Go.IntKind.i64 (s3 + (1 : Int)))
          else none
        else none
    else none
  else none
else some (V.bool (decide ((↑(List.length s0) : Int) ≤ (6 : Int))), []) := by kernel_rfl
theorem bd17 {T : Tab} (hC : OrcOk Tryz.prog T c0) (n : Nat) {args : List V} {outs : List (List V)} {r : V} {outs' : List (List V)} (h : evalBody E c0 17 Tryz.f17 n args outs = some (r, outs')) : Answers Tryz.prog T 17 args outs r outs' := body hC (by kernel_rfl) h
noncomputable def L17_2 (n m2 : Nat) (s0 : List Go.Ev.Mod) (s3 : Int) : Option (V × List (List V)) := loopOf E c0 17 Tryz.f17 n [1, 0, 1, 1] m2 (hd [((0 : Nat), V.sl K.mod s0), ((3 : Nat), V.int Go.IntKind.i64 s3)] [] [] [])
noncomputable def L17_7 (n m2 m7 : Nat) (s0 : List Go.Ev.Mod) (s3 : Int) (s4 : Int) : Option (V × List (List V)) := loopOf E c0 17 Tryz.f17 n [1, 0, 1, 1, m2 + 2, 1, 0, 1, 1, 1, 1] m7 (hd [((0 : Nat), V.sl K.mod s0), ((3 : Nat), V.int Go.IntKind.i64 s3), ((4 : Nat), V.int Go.IntKind.i64 s4)] [] [] [])
theorem ev17 (n : Nat) (l : List Mod) : evalBody E c0 17 Tryz.f17 n [.sl .mod l] [] =
  L17_2 n n l (0 : Int) := by kernel_rfl
theorem rd17_2 (n  m2 : Nat) (s0 : List Go.Ev.Mod) (s3 : Int) : L17_2 n  (m2 + 1) s0 s3 =
  bif decide (s3 < (↑(List.length s0) : Int)) then
  bif decide ((0 : Int) ≤ s3) then
    bif decide (s3 < (↑(List.length s0) : Int)) then
      bif decide ((↑(List.length (Mod.attr (List.getD s0 (Int.toNat s3) (Go.Ev.Mod.mk (0 : Int) [] [])))) : Int) > (30 : Int)) then some (V.bool false, [])
      else
        bif decide ((0 : Int) ≤ s3) then
          bif decide (s3 < (↑(List.length s0) : Int)) then
            bif decide ((↑(List.length (Mod.values (List.getD s0 (Int.toNat s3) (Go.Ev.Mod.mk (0 : Int) [] [])))) : Int) > (20 : Int)) then some (V.bool false, []) else L17_7 n m2 n s0 s3 (0 : Int)
          else none
        else none
    else none
  else none
else some (V.bool (decide ((↑(List.length s0) : Int) ≤ (14 : Int))), []) := by kernel_rfl
theorem rd17_7 (n m2 m7 : Nat) (s0 : List Go.Ev.Mod) (s3 : Int) (s4 : Int) : L17_7 n m2 (m7 + 1) s0 s3 s4 =
  bif decide ((0 : Int) ≤ s3) then
  bif decide (s3 < (↑(List.length s0) : Int)) then
    bif decide (s4 < (↑(List.length (Mod.values (List.getD s0 (Int.toNat s3) (Go.Ev.Mod.mk (0 : Int) [] [])))) : Int)) then
      bif decide ((0 : Int) ≤ s3) then
        bif decide (s3 < (↑(List.length s0) : Int)) then
          bif decide ((0 : Int) ≤ s4) then
            bif decide (s4 < (↑(List.length (Mod.values (List.getD s0 (Int.toNat s3) (Go.Ev.Mod.mk (0 : Int) [] [])))) : Int)) then
              bif decide ((↑(List.length (List.getD (Mod.values (List.getD s0 (Int.toNat s3) (Go.Ev.Mod.mk (0 : Int) [] []))) (Int.toNat s4) [])) : Int) > (80 : Int)) then some (V.bool false, [])
              else L17_7 n m2 m7 s0 s3 (Go.IntKind.wrap Go.IntKind.i64 (s4 + (1 : Int)))
            else none
          else none
        else none
      else none
    else L17_2 n m2 s0 (Go.IntKind.wrap Go.IntKind.i64 (s3 + (1 : Int)))
  else none
else none := by kernel_rfl
theorem bd8 {T : Tab} (hC : OrcOk Tryz.prog T c8) (n : Nat) {args : List V} {outs : List (List V)} {r : V} {outs' : List (List V)} (h : evalBody E c8 8 Tryz.f8 n args outs = some (r, outs')) : Answers Tryz.prog T 8 args outs r outs' := body hC (by kernel_rfl) h
theorem ev8 (n : Nat) (x : Chn) : evalBody E c8 8 Tryz.f8 n [.agg (Chn.cells x)] [] =
  bif bigMs (Chn.mods x) then
  bif fewMods (Chn.mods x) then bif Nat.ble (List.length (Chn.rdn x)) (9223372036854775807 : Nat) then some (V.bool (fewRDN (Chn.rdn x)), []) else none else some (V.bool false, [])
else none := by kernel_rfl
theorem bd37 {T : Tab} (hC : OrcOk Tryz.prog T c0) (n : Nat) {args : List V} {outs : List (List V)} {r : V} {outs' : List (List V)} (h : evalBody E c0 37 Tryz.f37 n args outs = some (r, outs')) : Answers Tryz.prog T 37 args outs r outs' := body hC (by kernel_rfl) h
noncomputable def L37_4 (n m4 : Nat) (s0 : List Str) (s1 : List Str) (s12 : Int) (s13 : Int) : Option (V × List (List V)) := loopOf E c0 37 Tryz.f37 n [1, 1, 0, 1, 1] m4 (hd [((0 : Nat), V.sl K.str s0), ((1 : Nat), V.sl K.str s1), ((12 : Nat), V.int Go.IntKind.i64 s12), ((13 : Nat), V.int Go.IntKind.i64 s13)] [] [] [])
theorem ev37 (n : Nat) (a b : List Str) : evalBody E c0 37 Tryz.f37 n [.sl .str a, .sl .str b] [] =
  bif (↑(List.length a) : Int) != (↑(List.length b) : Int) then some (V.bool false, []) else L37_4 n n a b (↑(List.length a) : Int) (0 : Int) := by kernel_rfl
theorem rd37_4 (n  m4 : Nat) (s0 : List Str) (s1 : List Str) (s12 : Int) (s13 : Int) : L37_4 n  (m4 + 1) s0 s1 s12 s13 =
  bif decide (s13 < s12) then
  bif decide ((0 : Int) ≤ s13) then
    bif decide (s13 < (↑(List.length s0) : Int)) then
      bif decide ((0 : Int) ≤ s13) then
        bif decide (s13 < (↑(List.length s1) : Int)) then
          bif !List.getD s0 (Int.toNat s13) [] == List.getD s1 (Int.toNat s13) [] then some (V.bool false, []) else L37_4 n m4 s0 s1 s12 (Go.IntKind.wrap Go.IntKind.i64 (s13 + (1 : Int)))
        else none
      else none
    else none
  else none
else some (V.bool true, []) := by kernel_rfl
theorem bd38 {T : Tab} (hC : OrcOk Tryz.prog T c0) (n : Nat) {args : List V} {outs : List (List V)} {r : V} {outs' : List (List V)} (h : evalBody E c0 38 Tryz.f38 n args outs = some (r, outs')) : Answers Tryz.prog T 38 args outs r outs' := body hC (by kernel_rfl) h
noncomputable def L38_4 (n m4 : Nat) (s0 : List AVA) (s1 : List AVA) (s12 : Int) (s13 : Int) : Option (V × List (List V)) := loopOf E c0 38 Tryz.f38 n [1, 1, 0, 1, 1] m4 (hd [((0 : Nat), V.sl K.ava s0), ((1 : Nat), V.sl K.ava s1), ((12 : Nat), V.int Go.IntKind.i64 s12), ((13 : Nat), V.int Go.IntKind.i64 s13)] [] [] [])
theorem ev38 (n : Nat) (a b : List AVA) : evalBody E c0 38 Tryz.f38 n [.sl .ava a, .sl .ava b] [] =
  bif (↑(List.length a) : Int) != (↑(List.length b) : Int) then some (V.bool false, []) else L38_4 n n a b (↑(List.length a) : Int) (0 : Int) := by kernel_rfl
theorem rd38_4 (n  m4 : Nat) (s0 : List AVA) (s1 : List AVA) (s12 : Int) (s13 : Int) : L38_4 n  (m4 + 1) s0 s1 s12 s13 =
  bif decide (s13 < s12) then
  bif decide ((0 : Int) ≤ s13) then
    bif decide (s13 < (↑(List.length s0) : Int)) then
      bif decide ((0 : Int) ≤ s13) then
        bif decide (s13 < (↑(List.length s1) : Int)) then
          bif
              !(AVA.attr (List.getD s0 (Int.toNat s13) (AVA.mk [] [])) == AVA.attr (List.getD s1 (Int.toNat s13) (AVA.mk [] [])) &&
                  (AVA.value (List.getD s0 (Int.toNat s13) (AVA.mk [] [])) == AVA.value (List.getD s1 (Int.toNat s13) (AVA.mk [] [])) && true)) then
            some (V.bool false, [])
          else L38_4 n m4 s0 s1 s12 (Go.IntKind.wrap Go.IntKind.i64 (s13 + (1 : Int)))
        else none
      else none
    else none
  else none
else some (V.bool true, []) := by kernel_rfl
theorem bd39 {T : Tab} (hC : OrcOk Tryz.prog T c0) (n : Nat) {args : List V} {outs : List (List V)} {r : V} {outs' : List (List V)} (h : evalBody E c0 39 Tryz.f39 n args outs = some (r, outs')) : Answers Tryz.prog T 39 args outs r outs' := body hC (by kernel_rfl) h
noncomputable def L39_4 (n m4 : Nat) (s0 : List AVA) (s1 : List AVA) (s5 : Int) : Option (V × List (List V)) := loopOf E c0 39 Tryz.f39 n [1, 1, 0, 1, 1] m4 (hd [((0 : Nat), V.sl K.ava s0), ((1 : Nat), V.sl K.ava s1), ((5 : Nat), V.int Go.IntKind.i64 s5)] [] [] [])
theorem ev39 (n : Nat) (a b : List AVA) : evalBody E c0 39 Tryz.f39 n [.sl .ava a, .sl .ava b] [] =
  bif (↑(List.length a) : Int) != (↑(List.length b) : Int) then some (V.bool false, []) else L39_4 n n a b (0 : Int) := by kernel_rfl
theorem rd39_4 (n  m4 : Nat) (s0 : List AVA) (s1 : List AVA) (s5 : Int) : L39_4 n  (m4 + 1) s0 s1 s5 =
  bif decide (s5 < (↑(List.length s0) : Int)) then
  bif decide ((0 : Int) ≤ s5) then
    bif decide (s5 < (↑(List.length s0) : Int)) then
      bif decide ((0 : Int) ≤ s5) then
        bif decide (s5 < (↑(List.length s1) : Int)) then
          bif
              !(AVA.attr (List.getD s0 (Int.toNat s5) (AVA.mk [] [])) == AVA.attr (List.getD s1 (Int.toNat s5) (AVA.mk [] [])) &&
                  (AVA.value (List.getD s0 (Int.toNat s5) (AVA.mk [] [])) == AVA.value (List.getD s1 (Int.toNat s5) (AVA.mk [] [])) && true)) then
            some (V.bool false, [])
          else L39_4 n m4 s0 s1 (Go.IntKind.wrap Go.IntKind.i64 (s5 + (1 : Int)))
        else none
      else none
    else none
  else none
else some (V.bool true, []) := by kernel_rfl
theorem bd36 {T : Tab} (hC : OrcOk Tryz.prog T c36) (n : Nat) {args : List V} {outs : List (List V)} {r : V} {outs' : List (List V)} (h : evalBody E c36 36 Tryz.f36 n args outs = some (r, outs')) : Answers Tryz.prog T 36 args outs r outs' := body hC (by kernel_rfl) h
theorem ev36 (n : Nat) (a b : Mod) : evalBody E c36 36 Tryz.f36 n [.agg [.int .i64 a.kind, .str a.attr, .sl .str a.values], .agg [.int .i64 b.kind, .str b.attr, .sl .str b.values]] [] =
  bif Mod.kind a == Mod.kind b then
  bif Mod.attr a == Mod.attr b then bif Nat.ble (List.length (Mod.values a)) (9223372036854775807 : Nat) then some (V.bool (sameSs (Mod.values a) (Mod.values b)), []) else none
  else some (V.bool false, [])
else some (V.bool false, []) := by kernel_rfl
theorem bd35 {T : Tab} (hC : OrcOk Tryz.prog T c35) (n : Nat) {args : List V} {outs : List (List V)} {r : V} {outs' : List (List V)} (h : evalBody E c35 35 Tryz.f35 n args outs = some (r, outs')) : Answers Tryz.prog T 35 args outs r outs' := body hC (by kernel_rfl) h
noncomputable def L35_4 (n m4 : Nat) (s1 : List Go.Ev.Mod) (s15 : List Go.Ev.Mod) (s16 : Int) (s17 : Int) : Option (V × List (List V)) := loopOf E c35 35 Tryz.f35 n [1, 1, 0, 1, 1] m4 (hd [((1 : Nat), V.sl K.mod s1), ((2 : Nat), V.fn (36 : Go.FuncId) []), ((15 : Nat), V.sl K.mod s15), ((16 : Nat), V.int Go.IntKind.i64 s16), ((17 : Nat), V.int Go.IntKind.i64 s17)] [] [] [])
theorem ev35 (n : Nat) (a b : List Mod) : evalBody E c35 35 Tryz.f35 n [.sl .mod a, .sl .mod b, .fn 36 []] [] =
  bif (↑(List.length a) : Int) != (↑(List.length b) : Int) then some (V.bool false, []) else L35_4 n n b a (↑(List.length a) : Int) (0 : Int) := by kernel_rfl
theorem rd35_4 (n  m4 : Nat) (s1 : List Go.Ev.Mod) (s15 : List Go.Ev.Mod) (s16 : Int) (s17 : Int) : L35_4 n  (m4 + 1) s1 s15 s16 s17 =
  bif decide (s17 < s16) then
  bif decide ((0 : Int) ≤ s17) then
    bif decide (s17 < (↑(List.length s15) : Int)) then
      bif decide ((0 : Int) ≤ s17) then
        bif decide (s17 < (↑(List.length s1) : Int)) then
          bif
              Nat.ble
                (List.length
                  (Mod.values
                    (Go.Ev.Mod.mk (Mod.kind (List.getD s15 (Int.toNat s17) (Go.Ev.Mod.mk (0 : Int) [] []))) (Mod.attr (List.getD s15 (Int.toNat s17) (Go.Ev.Mod.mk (0 : Int) [] [])))
                      (Mod.values (List.getD s15 (Int.toNat s17) (Go.Ev.Mod.mk (0 : Int) [] []))))))
                (9223372036854775807 : Nat) then
            bif
                !sameM
                    (Go.Ev.Mod.mk (Mod.kind (List.getD s15 (Int.toNat s17) (Go.Ev.Mod.mk (0 : Int) [] []))) (Mod.attr (List.getD s15 (Int.toNat s17) (Go.Ev.Mod.mk (0 : Int) [] [])))
                      (Mod.values (List.getD s15 (Int.toNat s17) (Go.Ev.Mod.mk (0 : Int) [] []))))
                    (Go.Ev.Mod.mk (Mod.kind (List.getD s1 (Int.toNat s17) (Go.Ev.Mod.mk (0 : Int) [] []))) (Mod.attr (List.getD s1 (Int.toNat s17) (Go.Ev.Mod.mk (0 : Int) [] [])))
                      (Mod.values (List.getD s1 (Int.toNat s17) (Go.Ev.Mod.mk (0 : Int) [] [])))) then
              some (V.bool false, [])
            else L35_4 n m4 s1 s15 s16 (Go.IntKind.wrap Go.IntKind.i64 (s17 + (1 : Int)))
          else none
        else none
      else none
    else none
  else none
else some (V.bool true, []) := by kernel_rfl
theorem bd12 {T : Tab} (hC : OrcOk Tryz.prog T c12) (n : Nat) {args : List V} {outs : List (List V)} {r : V} {outs' : List (List V)} (h : evalBody E c12 12 Tryz.f12 n args outs = some (r, outs')) : Answers Tryz.prog T 12 args outs r outs' := body hC (by kernel_rfl) h
theorem ev12 (n : Nat) (x y : Chn) : evalBody E c12 12 Tryz.f12 n [.agg (Chn.cells x), .agg (Chn.cells y)] [] =
  bif bigMs (Chn.mods x) then
  bif Csn.t (Chn.c x) == Csn.t (Chn.c y) && (Csn.s (Chn.c x) == Csn.s (Chn.c y) && (Csn.r (Chn.c x) == Csn.r (Chn.c y) && true)) then
    bif Chn.kind x == Chn.kind y then
      bif Csn.t (Chn.id x) == Csn.t (Chn.id y) && (Csn.s (Chn.id x) == Csn.s (Chn.id y) && (Csn.r (Chn.id x) == Csn.r (Chn.id y) && true)) then
        bif Csn.t (Chn.par x) == Csn.t (Chn.par y) && (Csn.s (Chn.par x) == Csn.s (Chn.par y) && (Csn.r (Chn.par x) == Csn.r (Chn.par y) && true)) then
          bif Nat.ble (List.length (Chn.rdn x)) (9223372036854775807 : Nat) then
            bif sameAs (Chn.rdn x) (Chn.rdn y) then bif Chn.del x == Chn.del y then some (V.bool (sameMs (Chn.mods x) (Chn.mods y)), []) else some (V.bool false, []) else some (V.bool false, [])
          else none
        else some (V.bool false, [])
      else some (V.bool false, [])
    else some (V.bool false, [])
  else some (V.bool false, [])
else none := by kernel_rfl
theorem bd13 {T : Tab} (hC : OrcOk Tryz.prog T c13) (n : Nat) {args : List V} {outs : List (List V)} {r : V} {outs' : List (List V)} (h : evalBody E c13 13 Tryz.f13 n args outs = some (r, outs')) : Answers Tryz.prog T 13 args outs r outs' := body hC (by kernel_rfl) h
noncomputable def L13_4 (n m4 : Nat) (s5 : Int) (b2_ : Int) (b2'_ : Int) (b2''_ : Int) (b2'''_ : Int) (b2''''_ : Int) (b2'''''_ : Int) (b2''''''_ : Int) (b2'''''''_ : Int) (b2''''''''_ : Int) (b2'''''''''_ : Int) (b2''''''''''_ : List AVA) (b2'''''''''''_ : Bool) (b2''''''''''''_ : List Go.Ev.Mod) (b3_ : Int) (b3'_ : Int) (b3''_ : Int) (b3'''_ : Int) (b3''''_ : Int) (b3'''''_ : Int) (b3''''''_ : Int) (b3'''''''_ : Int) (b3''''''''_ : Int) (b3'''''''''_ : Int) (b3''''''''''_ : List AVA) (b3'''''''''''_ : Bool) (b3''''''''''''_ : List Go.Ev.Mod) : Option (V × List (List V)) := loopOf E c13 13 Tryz.f13 n [1, 1, 0, 1, 1] m4 (hd [((2 : Nat), V.ptr (2 : Nat) (1 : Nat) (0 : Nat)), ((3 : Nat), V.ptr (3 : Nat) (1 : Nat) (0 : Nat)), ((5 : Nat), V.int Go.IntKind.i64 s5)]
  [((2 : Nat),
      some
        [V.int Go.IntKind.i64 b2_, V.int Go.IntKind.i64 b2'_, V.int Go.IntKind.i64 b2''_, V.int Go.IntKind.i64 b2'''_, V.int Go.IntKind.i64 b2''''_, V.int Go.IntKind.i64 b2'''''_,
          V.int Go.IntKind.i64 b2''''''_, V.int Go.IntKind.i64 b2'''''''_, V.int Go.IntKind.i64 b2''''''''_, V.int Go.IntKind.i64 b2'''''''''_, V.sl K.ava b2''''''''''_, V.bool b2'''''''''''_,
          V.sl K.mod b2''''''''''''_]),
    ((3 : Nat),
      some
        [V.int Go.IntKind.i64 b3_, V.int Go.IntKind.i64 b3'_, V.int Go.IntKind.i64 b3''_, V.int Go.IntKind.i64 b3'''_, V.int Go.IntKind.i64 b3''''_, V.int Go.IntKind.i64 b3'''''_,
          V.int Go.IntKind.i64 b3''''''_, V.int Go.IntKind.i64 b3'''''''_, V.int Go.IntKind.i64 b3''''''''_, V.int Go.IntKind.i64 b3'''''''''_, V.sl K.ava b3''''''''''_, V.bool b3'''''''''''_,
          V.sl K.mod b3''''''''''''_])]
  [] [])
noncomputable def L13_10 (n m4 m10 : Nat) (s5 : Int) (s8 : Int) (b2_ : Int) (b2'_ : Int) (b2''_ : Int) (b2'''_ : Int) (b2''''_ : Int) (b2'''''_ : Int) (b2''''''_ : Int) (b2'''''''_ : Int) (b2''''''''_ : Int) (b2'''''''''_ : Int) (b2''''''''''_ : List AVA) (b2'''''''''''_ : Bool) (b2''''''''''''_ : List Go.Ev.Mod) (b3_ : Int) (b3'_ : Int) (b3''_ : Int) (b3'''_ : Int) (b3''''_ : Int) (b3'''''_ : Int) (b3''''''_ : Int) (b3'''''''_ : Int) (b3''''''''_ : Int) (b3'''''''''_ : Int) (b3''''''''''_ : List AVA) (b3'''''''''''_ : Bool) (b3''''''''''''_ : List Go.Ev.Mod) (b6_ : Int) (b6'_ : Str) (b6''_ : List Str) (b7_ : Int) (b7'_ : Str) (b7''_ : List Str) : Option (V × List (List V)) := loopOf E c13 13 Tryz.f13 n [1, 1, 0, 1, 1, m4 + 2, 1, 0, 1, 1, 1, 1, 1] m10 (hd
  [((2 : Nat), V.ptr (2 : Nat) (1 : Nat) (0 : Nat)), ((3 : Nat), V.ptr (3 : Nat) (1 : Nat) (0 : Nat)), ((5 : Nat), V.int Go.IntKind.i64 s5), ((6 : Nat), V.ptr (6 : Nat) (1 : Nat) (0 : Nat)),
    ((7 : Nat), V.ptr (7 : Nat) (1 : Nat) (0 : Nat)), ((8 : Nat), V.int Go.IntKind.i64 s8)]
  [((2 : Nat),
      some
        [V.int Go.IntKind.i64 b2_, V.int Go.IntKind.i64 b2'_, V.int Go.IntKind.i64 b2''_, V.int Go.IntKind.i64 b2'''_, V.int Go.IntKind.i64 b2''''_, V.int Go.IntKind.i64 b2'''''_,
          V.int Go.IntKind.i64 b2''''''_, V.int Go.IntKind.i64 b2'''''''_, V.int Go.IntKind.i64 b2''''''''_, V.int Go.IntKind.i64 b2'''''''''_, V.sl K.ava b2''''''''''_, V.bool b2'''''''''''_,
          V.sl K.mod b2''''''''''''_]),
    ((3 : Nat),
      some
        [V.int Go.IntKind.i64 b3_, V.int Go.IntKind.i64 b3'_, V.int Go.IntKind.i64 b3''_, V.int Go.IntKind.i64 b3'''_, V.int Go.IntKind.i64 b3''''_, V.int Go.IntKind.i64 b3'''''_,
          V.int Go.IntKind.i64 b3''''''_, V.int Go.IntKind.i64 b3'''''''_, V.int Go.IntKind.i64 b3''''''''_, V.int Go.IntKind.i64 b3'''''''''_, V.sl K.ava b3''''''''''_, V.bool b3'''''''''''_,
          V.sl K.mod b3''''''''''''_]),
    ((6 : Nat), some [V.int Go.IntKind.i64 b6_, V.str b6'_, V.sl K.str b6''_]), ((7 : Nat), some [V.int Go.IntKind.i64 b7_, V.str b7'_, V.sl K.str b7''_])]
  [((7002 : Nat), none), ((8002 : Nat), none)] [])
theorem ev13 (n : Nat) (x y : Chn) : evalBody E c13 13 Tryz.f13 n [.agg (Chn.cells x), .agg (Chn.cells y)] [] =
  bif !(Csn.t (Chn.c x) == Csn.t (Chn.c y) && (Csn.s (Chn.c x) == Csn.s (Chn.c y) && (Csn.r (Chn.c x) == Csn.r (Chn.c y) && true))) then some (V.bool false, [])
else
  bif Chn.kind x != Chn.kind y then some (V.bool false, [])
  else
    bif !(Csn.t (Chn.id x) == Csn.t (Chn.id y) && (Csn.s (Chn.id x) == Csn.s (Chn.id y) && (Csn.r (Chn.id x) == Csn.r (Chn.id y) && true))) then some (V.bool false, [])
    else
      bif !(Csn.t (Chn.par x) == Csn.t (Chn.par y) && (Csn.s (Chn.par x) == Csn.s (Chn.par y) && (Csn.r (Chn.par x) == Csn.r (Chn.par y) && true))) then some (V.bool false, [])
      else
        bif !Chn.del x == Chn.del y then some (V.bool false, [])
        else
          bif Nat.ble (List.length (Chn.rdn x)) (9223372036854775807 : Nat) then
            bif !sameAs (Chn.rdn x) (Chn.rdn y) then some (V.bool false, [])
            else
              bif (↑(List.length (Chn.mods x)) : Int) != (↑(List.length (Chn.mods y)) : Int) then some (V.bool false, [])
              else
                L13_4 n n (0 : Int) (Csn.t (Chn.c x)) (Csn.s (Chn.c x)) (Csn.r (Chn.c x)) (Chn.kind x) (Csn.t (Chn.id x)) (Csn.s (Chn.id x)) (Csn.r (Chn.id x)) (Csn.t (Chn.par x)) (Csn.s (Chn.par x))
                  (Csn.r (Chn.par x)) (Chn.rdn x) (Chn.del x) (Chn.mods x) (Csn.t (Chn.c y)) (Csn.s (Chn.c y)) (Csn.r (Chn.c y)) (Chn.kind y) (Csn.t (Chn.id y)) (Csn.s (Chn.id y)) (Csn.r (Chn.id y))
                  (Csn.t (Chn.par y)) (Csn.s (Chn.par y)) (Csn.r (Chn.par y)) (Chn.rdn y) (Chn.del y) (Chn.mods y)
          else none := by kernel_rfl
theorem rd13_4 (n  m4 : Nat) (s5 : Int) (b2_ : Int) (b2'_ : Int) (b2''_ : Int) (b2'''_ : Int) (b2''''_ : Int) (b2'''''_ : Int) (b2''''''_ : Int) (b2'''''''_ : Int) (b2''''''''_ : Int) (b2'''''''''_ : Int) (b2''''''''''_ : List AVA) (b2'''''''''''_ : Bool) (b2''''''''''''_ : List Go.Ev.Mod) (b3_ : Int) (b3'_ : Int) (b3''_ : Int) (b3'''_ : Int) (b3''''_ : Int) (b3'''''_ : Int) (b3''''''_ : Int) (b3'''''''_ : Int) (b3''''''''_ : Int) (b3'''''''''_ : Int) (b3''''''''''_ : List AVA) (b3'''''''''''_ : Bool) (b3''''''''''''_ : List Go.Ev.Mod) : L13_4 n  (m4 + 1) s5 b2_ b2'_ b2''_ b2'''_ b2''''_ b2'''''_ b2''''''_ b2'''''''_ b2''''''''_ b2'''''''''_ b2''''''''''_ b2'''''''''''_ b2''''''''''''_ b3_ b3'_ b3''_ b3'''_ b3''''_ b3'''''_ b3''''''_ b3'''''''_ b3''''''''_ b3'''''''''_ b3''''''''''_ b3'''''''''''_ b3''''''''''''_ =
  bif decide (s5 < (↑(List.length b2''''''''''''_) : Int)) then
  bif decide ((0 : Int) ≤ s5) then
    bif decide (s5 < (↑(List.length b2''''''''''''_) : Int)) then
      bif decide ((0 : Int) ≤ s5) then
        bif decide (s5 < (↑(List.length b3''''''''''''_) : Int)) then
          bif Mod.kind (List.getD b2''''''''''''_ (Int.toNat s5) (Go.Ev.Mod.mk (0 : Int) [] [])) != Mod.kind (List.getD b3''''''''''''_ (Int.toNat s5) (Go.Ev.Mod.mk (0 : Int) [] [])) then
            some (V.bool false, [])
          else
            bif !Mod.attr (List.getD b2''''''''''''_ (Int.toNat s5) (Go.Ev.Mod.mk (0 : Int) [] [])) == Mod.attr (List.getD b3''''''''''''_ (Int.toNat s5) (Go.Ev.Mod.mk (0 : Int) [] [])) then
              some (V.bool false, [])
            else
              bif
                  (↑(List.length (Mod.values (List.getD b2''''''''''''_ (Int.toNat s5) (Go.Ev.Mod.mk (0 : Int) [] [])))) : Int) !=
                    (↑(List.length (Mod.values (List.getD b3''''''''''''_ (Int.toNat s5) (Go.Ev.Mod.mk (0 : Int) [] [])))) : Int) then
                some (V.bool false, [])
              else
                L13_10 n m4 n s5 (0 : Int) b2_ b2'_ b2''_ b2'''_ b2''''_ b2'''''_ b2''''''_ b2'''''''_ b2''''''''_ b2'''''''''_ b2''''''''''_ b2'''''''''''_ b2''''''''''''_ b3_ b3'_ b3''_ b3'''_
                  b3''''_ b3'''''_ b3''''''_ b3'''''''_ b3''''''''_ b3'''''''''_ b3''''''''''_ b3'''''''''''_ b3''''''''''''_
                  (Mod.kind (List.getD b2''''''''''''_ (Int.toNat s5) (Go.Ev.Mod.mk (0 : Int) [] []))) (Mod.attr (List.getD b2''''''''''''_ (Int.toNat s5) (Go.Ev.Mod.mk (0 : Int) [] [])))
                  (Mod.values (List.getD b2''''''''''''_ (Int.toNat s5) (Go.Ev.Mod.mk (0 : Int) [] []))) (Mod.kind (List.getD b3''''''''''''_ (Int.toNat s5) (Go.Ev.Mod.mk (0 : Int) [] [])))
                  (Mod.attr (List.getD b3''''''''''''_ (Int.toNat s5) (Go.Ev.Mod.mk (0 : Int) [] []))) (Mod.values (List.getD b3''''''''''''_ (Int.toNat s5) (Go.Ev.Mod.mk (0 : Int) [] [])))
        else none
      else none
    else none
  else none
else some (V.bool true, []) := by kernel_rfl
theorem rd13_10 (n m4 m10 : Nat) (s5 : Int) (s8 : Int) (b2_ : Int) (b2'_ : Int) (b2''_ : Int) (b2'''_ : Int) (b2''''_ : Int) (b2'''''_ : Int) (b2''''''_ : Int) (b2'''''''_ : Int) (b2''''''''_ : Int) (b2'''''''''_ : Int) (b2''''''''''_ : List AVA) (b2'''''''''''_ : Bool) (b2''''''''''''_ : List Go.Ev.Mod) (b3_ : Int) (b3'_ : Int) (b3''_ : Int) (b3'''_ : Int) (b3''''_ : Int) (b3'''''_ : Int) (b3''''''_ : Int) (b3'''''''_ : Int) (b3''''''''_ : Int) (b3'''''''''_ : Int) (b3''''''''''_ : List AVA) (b3'''''''''''_ : Bool) (b3''''''''''''_ : List Go.Ev.Mod) (b6_ : Int) (b6'_ : Str) (b6''_ : List Str) (b7_ : Int) (b7'_ : Str) (b7''_ : List Str) : L13_10 n m4 (m10 + 1) s5 s8 b2_ b2'_ b2''_ b2'''_ b2''''_ b2'''''_ b2''''''_ b2'''''''_ b2''''''''_ b2'''''''''_ b2''''''''''_ b2'''''''''''_ b2''''''''''''_ b3_ b3'_ b3''_ b3'''_ b3''''_ b3'''''_ b3''''''_ b3'''''''_ b3''''''''_ b3'''''''''_ b3''''''''''_ b3'''''''''''_ b3''''''''''''_ b6_ b6'_ b6''_ b7_ b7'_ b7''_ =
  bif decide (s8 < (↑(List.length b6''_) : Int)) then
  bif decide ((0 : Int) ≤ s8) then
    bif decide (s8 < (↑(List.length b6''_) : Int)) then
      bif decide ((0 : Int) ≤ s8) then
        bif decide (s8 < (↑(List.length b7''_) : Int)) then
          bif !List.getD b6''_ (Int.toNat s8) [] == List.getD b7''_ (Int.toNat s8) [] then some (V.bool false, [])
          else
            L13_10 n m4 m10 s5 (Go.IntKind.wrap Go.IntKind.i64 (s8 + (1 : Int))) b2_ b2'_ b2''_ b2'''_ b2''''_ b2'''''_ b2''''''_ b2'''''''_ b2''''''''_ b2'''''''''_ b2''''''''''_ b2'''''''''''_
              b2''''''''''''_ b3_ b3'_ b3''_ b3'''_ b3''''_ b3'''''_ b3''''''_ b3'''''''_ b3''''''''_ b3'''''''''_ b3''''''''''_ b3'''''''''''_ b3''''''''''''_ b6_ b6'_ b6''_ b7_ b7'_ b7''_
        else none
      else none
    else none
  else none
else
  L13_4 n m4 (Go.IntKind.wrap Go.IntKind.i64 (s5 + (1 : Int))) b2_ b2'_ b2''_ b2'''_ b2''''_ b2'''''_ b2''''''_ b2'''''''_ b2''''''''_ b2'''''''''_ b2''''''''''_ b2'''''''''''_ b2''''''''''''_ b3_
    b3'_ b3''_ b3'''_ b3''''_ b3'''''_ b3''''''_ b3'''''''_ b3''''''''_ b3'''''''''_ b3''''''''''_ b3'''''''''''_ b3''''''''''''_ := by kernel_rfl
theorem bd85 {T : Tab} (hC : OrcOk Tryz.prog T c85) (n : Nat) {args : List V} {outs : List (List V)} {r : V} {outs' : List (List V)} (h : evalBody E c85 85 Tryz.f85 n args outs = some (r, outs')) : Answers Tryz.prog T 85 args outs r outs' := body hC (by kernel_rfl) h
noncomputable def L85_3 (n m3 : Nat) (s4 : Int) (r6 : List Int) : Option (V × List (List V)) := loopOf E c85 85 Tryz.f85 n [1, 1, 0, 1, 1] m3 (hd [((3 : Nat), V.own (6 : Nat) (0 : Nat)), ((4 : Nat), V.int Go.IntKind.i64 s4)] [] [((6 : Nat), some (Row.mk K.byte r6))] [])
theorem ev85 (n : Nat) (s : Str) : evalBody E c85 85 Tryz.f85 n [.str s] [] =
  L85_3 n n (0 : Int) (List.map (fun (c : UInt8) => (↑(UInt8.toNat c) : Int)) s) := by kernel_rfl
theorem rd85_3 (n  m3 : Nat) (s4 : Int) (r6 : List Int) : L85_3 n  (m3 + 1) s4 r6 =
  bif decide (s4 < (↑(List.length r6) : Int)) then
  bif decide ((0 : Int) ≤ s4) then
    bif decide (s4 < (↑(List.length r6) : Int)) then
      bif decide (List.getD r6 (Int.toNat s4) (0 : Int) ≥ (65 : Int)) then
        bif decide ((0 : Int) ≤ s4) then
          bif decide (s4 < (↑(List.length r6) : Int)) then
            bif decide (List.getD r6 (Int.toNat s4) (0 : Int) ≤ (90 : Int)) then
              bif decide ((0 : Int) ≤ s4) then
                bif decide (s4 < (↑(List.length r6) : Int)) then
                  bif decide ((0 : Int) ≤ s4) then
                    bif decide (s4 < (↑(List.length r6) : Int)) then
                      L85_3 n m3 (Go.IntKind.wrap Go.IntKind.i64 (s4 + (1 : Int))) (List.set r6 (Int.toNat s4) (Go.IntKind.wrap Go.IntKind.u8 (List.getD r6 (Int.toNat s4) (0 : Int) + (32 : Int))))
                    else none
                  else none
                else none
              else none
            else L85_3 n m3 (Go.IntKind.wrap Go.IntKind.i64 (s4 + (1 : Int))) r6
          else none
        else none
      else L85_3 n m3 (Go.IntKind.wrap Go.IntKind.i64 (s4 + (1 : Int))) r6
    else none
  else none
else some (V.str (List.map (fun (n : Int) => UInt8.ofNat (Int.toNat n)) r6), []) := by kernel_rfl
theorem bd84 {T : Tab} (hC : OrcOk Tryz.prog T c0) (n : Nat) {args : List V} {outs : List (List V)} {r : V} {outs' : List (List V)} (h : evalBody E c0 84 Tryz.f84 n args outs = some (r, outs')) : Answers Tryz.prog T 84 args outs r outs' := body hC (by kernel_rfl) h
theorem ev84 (n : Nat)  : evalBody E c0 84 Tryz.f84 n [] [] =
  some
  (V.sl K.typ
      [Typ.mk [(97 : UInt8), (99 : UInt8), (105 : UInt8)] (2 : Int) false, Typ.mk [(99 : UInt8)] (1 : Int) true, Typ.mk [(99 : UInt8), (110 : UInt8)] (1 : Int) false,
        Typ.mk [(100 : UInt8), (99 : UInt8)] (1 : Int) false,
        Typ.mk [(100 : UInt8), (101 : UInt8), (115 : UInt8), (99 : UInt8), (114 : UInt8), (105 : UInt8), (112 : UInt8), (116 : UInt8), (105 : UInt8), (111 : UInt8), (110 : UInt8)] (1 : Int) false,
        Typ.mk [(101 : UInt8), (110 : UInt8), (116 : UInt8), (114 : UInt8), (121 : UInt8), (105 : UInt8), (100 : UInt8)] (2 : Int) true,
        Typ.mk [(109 : UInt8), (97 : UInt8), (105 : UInt8), (108 : UInt8)] (2 : Int) false,
        Typ.mk [(109 : UInt8), (101 : UInt8), (109 : UInt8), (98 : UInt8), (101 : UInt8), (114 : UInt8)] (5 : Int) false, Typ.mk [(111 : UInt8)] (1 : Int) false,
        Typ.mk [(111 : UInt8), (117 : UInt8)] (1 : Int) false, Typ.mk [(115 : UInt8), (110 : UInt8)] (1 : Int) false,
        Typ.mk [(116 : UInt8), (105 : UInt8), (116 : UInt8), (108 : UInt8), (101 : UInt8)] (1 : Int) true, Typ.mk [(117 : UInt8), (105 : UInt8), (100 : UInt8)] (1 : Int) false,
        Typ.mk [(117 : UInt8), (105 : UInt8), (100 : UInt8), (110 : UInt8), (117 : UInt8), (109 : UInt8), (98 : UInt8), (101 : UInt8), (114 : UInt8)] (3 : Int) true,
        Typ.mk [(117 : UInt8), (115 : UInt8), (101 : UInt8), (114 : UInt8), (112 : UInt8), (97 : UInt8), (115 : UInt8), (115 : UInt8), (119 : UInt8), (111 : UInt8), (114 : UInt8), (100 : UInt8)]
          (4 : Int) false],
    []) := by kernel_rfl
theorem bd63 {T : Tab} (hC : OrcOk Tryz.prog T c63) (n : Nat) {args : List V} {outs : List (List V)} {r : V} {outs' : List (List V)} (h : evalBody E c63 63 Tryz.f63 n args outs = some (r, outs')) : Answers Tryz.prog T 63 args outs r outs' := body hC (by kernel_rfl) h
noncomputable def L63_3 (n m3 : Nat) (s0 : Str) (s4 : List Typ) (s5 : Int) (b2_ : Str) (b2'_ : Int) (b2''_ : Bool) : Option (V × List (List V)) := loopOf E c63 63 Tryz.f63 n [1, 1, 0, 1, 1] m3 (hd [((0 : Nat), V.str s0), ((2 : Nat), V.ptr (2 : Nat) (1 : Nat) (0 : Nat)), ((4 : Nat), V.sl K.typ s4), ((5 : Nat), V.int Go.IntKind.i64 s5)]
  [((2 : Nat), some [V.str b2_, V.int Go.IntKind.i64 b2'_, V.bool b2''_])] [] [])
theorem ev63 (n : Nat) (s : Str) : evalBody E c63 63 Tryz.f63 n [.str s] [] =
  L63_3 n n s allT (0 : Int) [] (0 : Int) false := by kernel_rfl
theorem rd63_3 (n  m3 : Nat) (s0 : Str) (s4 : List Typ) (s5 : Int) (b2_ : Str) (b2'_ : Int) (b2''_ : Bool) : L63_3 n  (m3 + 1) s0 s4 s5 b2_ b2'_ b2''_ =
  bif decide (s5 < (↑(List.length s4) : Int)) then
  bif decide ((0 : Int) ≤ s5) then
    bif decide (s5 < (↑(List.length s4) : Int)) then
      bif ok s0 then
        bif Typ.name (List.getD s4 (Int.toNat s5) (Typ.mk [] (0 : Int) false)) == lower s0 then
          bif decide ((0 : Int) ≤ s5) then
            bif decide (s5 < (↑(List.length s4) : Int)) then
              some
                (V.tup
                    [V.agg
                        [V.str (Typ.name (List.getD s4 (Int.toNat s5) (Typ.mk [] (0 : Int) false))), V.int Go.IntKind.i64 (Typ.syn (List.getD s4 (Int.toNat s5) (Typ.mk [] (0 : Int) false))),
                          V.bool (Typ.single (List.getD s4 (Int.toNat s5) (Typ.mk [] (0 : Int) false)))],
                      V.bool true],
                  [])
            else none
          else none
        else L63_3 n m3 s0 s4 (Go.IntKind.wrap Go.IntKind.i64 (s5 + (1 : Int))) b2_ b2'_ b2''_
      else none
    else none
  else none
else some (V.tup [V.agg [V.str [], V.int Go.IntKind.i64 (0 : Int), V.bool false], V.bool false], []) := by kernel_rfl
theorem bd81 {T : Tab} (hC : OrcOk Tryz.prog T c0) (n : Nat) {args : List V} {outs : List (List V)} {r : V} {outs' : List (List V)} (h : evalBody E c0 81 Tryz.f81 n args outs = some (r, outs')) : Answers Tryz.prog T 81 args outs r outs' := body hC (by kernel_rfl) h
noncomputable def L81_4 (n m4 : Nat) (s0 : Str) (s3 : Int) : Option (V × List (List V)) := loopOf E c0 81 Tryz.f81 n [1, 1, 0, 1, 1] m4 (hd [((0 : Nat), V.str s0), ((3 : Nat), V.int Go.IntKind.i64 s3)] [] [] [])
theorem ev81 (n : Nat) (s : Str) : evalBody E c0 81 Tryz.f81 n [.str s] [] =
  bif decide ((↑(List.length s) : Int) < (1 : Int)) then some (V.bool false, [])
else
  bif decide ((↑(List.length s) : Int) > (16 : Int)) then some (V.bool false, [])
  else
    bif decide ((0 : Int) < (↑(List.length s) : Int)) then
      bif decide ((↑(UInt8.toNat (List.getD s (0 : Nat) (0 : UInt8))) : Int) < (97 : Int)) then some (V.bool false, [])
      else
        bif decide ((0 : Int) < (↑(List.length s) : Int)) then
          bif decide ((↑(UInt8.toNat (List.getD s (0 : Nat) (0 : UInt8))) : Int) > (122 : Int)) then some (V.bool false, []) else L81_4 n n s (0 : Int)
        else none
    else none := by kernel_rfl
theorem rd81_4 (n  m4 : Nat) (s0 : Str) (s3 : Int) : L81_4 n  (m4 + 1) s0 s3 =
  bif decide (s3 < (↑(List.length s0) : Int)) then
  bif decide ((0 : Int) ≤ s3) then
    bif decide (s3 < (↑(List.length s0) : Int)) then
      bif decide ((↑(UInt8.toNat (List.getD s0 (Int.toNat s3) (0 : UInt8))) : Int) < (97 : Int)) then
        bif decide ((↑(UInt8.toNat (List.getD s0 (Int.toNat s3) (0 : UInt8))) : Int) < (48 : Int)) then
          bif (↑(UInt8.toNat (List.getD s0 (Int.toNat s3) (0 : UInt8))) : Int) != (45 : Int) then some (V.bool false, []) else L81_4 n m4 s0 (Go.IntKind.wrap Go.IntKind.i64 (s3 + (1 : Int)))
        else
          bif decide ((↑(UInt8.toNat (List.getD s0 (Int.toNat s3) (0 : UInt8))) : Int) > (57 : Int)) then
            bif (↑(UInt8.toNat (List.getD s0 (Int.toNat s3) (0 : UInt8))) : Int) != (45 : Int) then some (V.bool false, []) else L81_4 n m4 s0 (Go.IntKind.wrap Go.IntKind.i64 (s3 + (1 : Int)))
          else L81_4 n m4 s0 (Go.IntKind.wrap Go.IntKind.i64 (s3 + (1 : Int)))
      else
        bif decide ((↑(UInt8.toNat (List.getD s0 (Int.toNat s3) (0 : UInt8))) : Int) > (122 : Int)) then
          bif decide ((↑(UInt8.toNat (List.getD s0 (Int.toNat s3) (0 : UInt8))) : Int) < (48 : Int)) then
            bif (↑(UInt8.toNat (List.getD s0 (Int.toNat s3) (0 : UInt8))) : Int) != (45 : Int) then some (V.bool false, []) else L81_4 n m4 s0 (Go.IntKind.wrap Go.IntKind.i64 (s3 + (1 : Int)))
          else
            bif decide ((↑(UInt8.toNat (List.getD s0 (Int.toNat s3) (0 : UInt8))) : Int) > (57 : Int)) then
              bif (↑(UInt8.toNat (List.getD s0 (Int.toNat s3) (0 : UInt8))) : Int) != (45 : Int) then some (V.bool false, []) else L81_4 n m4 s0 (Go.IntKind.wrap Go.IntKind.i64 (s3 + (1 : Int)))
            else L81_4 n m4 s0 (Go.IntKind.wrap Go.IntKind.i64 (s3 + (1 : Int)))
        else L81_4 n m4 s0 (Go.IntKind.wrap Go.IntKind.i64 (s3 + (1 : Int)))
    else none
  else none
else some (V.bool true, []) := by kernel_rfl
theorem bd82 {T : Tab} (hC : OrcOk Tryz.prog T c0) (n : Nat) {args : List V} {outs : List (List V)} {r : V} {outs' : List (List V)} (h : evalBody E c0 82 Tryz.f82 n args outs = some (r, outs')) : Answers Tryz.prog T 82 args outs r outs' := body hC (by kernel_rfl) h
noncomputable def L82_9 (n m9 : Nat) (s3 : Str) (s4 : Int) : Option (V × List (List V)) := loopOf E c0 82 Tryz.f82 n [1, 1, 1, 1, 0, 1, 1] m9 (hd [((3 : Nat), V.str s3), ((4 : Nat), V.int Go.IntKind.i64 s4)] [] [] [])
theorem ev82 (n : Nat) (s : Str) : evalBody E c0 82 Tryz.f82 n [.str s] [] =
  bif decide ((↑(List.length s) : Int) > (0 : Int)) then
  bif decide ((0 : Int) < (↑(List.length s) : Int)) then
    bif (↑(UInt8.toNat (List.getD s (0 : Nat) (0 : UInt8))) : Int) == (45 : Int) then
      bif decide ((1 : Int) ≤ (↑(List.length s) : Int)) then
        bif List.drop (1 : Nat) (List.take (List.length s) s) == [(48 : UInt8)] then some (V.bool false, [])
        else
          bif decide ((↑(List.length (List.drop (1 : Nat) (List.take (List.length s) s))) : Int) < (1 : Int)) then some (V.bool false, [])
          else
            bif decide ((↑(List.length (List.drop (1 : Nat) (List.take (List.length s) s))) : Int) > (15 : Int)) then some (V.bool false, [])
            else
              bif decide ((↑(List.length (List.drop (1 : Nat) (List.take (List.length s) s))) : Int) > (1 : Int)) then
                bif decide ((0 : Int) < (↑(List.length (List.drop (1 : Nat) (List.take (List.length s) s))) : Int)) then
                  bif (↑(UInt8.toNat (List.getD (List.drop (1 : Nat) (List.take (List.length s) s)) (0 : Nat) (0 : UInt8))) : Int) == (48 : Int) then some (V.bool false, [])
                  else L82_9 n n (List.drop (1 : Nat) (List.take (List.length s) s)) (0 : Int)
                else none
              else L82_9 n n (List.drop (1 : Nat) (List.take (List.length s) s)) (0 : Int)
      else none
    else
      bif decide ((↑(List.length s) : Int) < (1 : Int)) then some (V.bool false, [])
      else
        bif decide ((↑(List.length s) : Int) > (15 : Int)) then some (V.bool false, [])
        else
          bif decide ((↑(List.length s) : Int) > (1 : Int)) then
            bif decide ((0 : Int) < (↑(List.length s) : Int)) then bif (↑(UInt8.toNat (List.getD s (0 : Nat) (0 : UInt8))) : Int) == (48 : Int) then some (V.bool false, []) else L82_9 n n s (0 : Int)
            else none
          else L82_9 n n s (0 : Int)
  else none
else
  bif decide ((↑(List.length s) : Int) < (1 : Int)) then some (V.bool false, [])
  else
    bif decide ((↑(List.length s) : Int) > (15 : Int)) then some (V.bool false, [])
    else
      bif decide ((↑(List.length s) : Int) > (1 : Int)) then
        bif decide ((0 : Int) < (↑(List.length s) : Int)) then bif (↑(UInt8.toNat (List.getD s (0 : Nat) (0 : UInt8))) : Int) == (48 : Int) then some (V.bool false, []) else L82_9 n n s (0 : Int)
        else none
      else L82_9 n n s (0 : Int) := by kernel_rfl
theorem rd82_9 (n  m9 : Nat) (s3 : Str) (s4 : Int) : L82_9 n  (m9 + 1) s3 s4 =
  bif decide (s4 < (↑(List.length s3) : Int)) then
  bif decide ((0 : Int) ≤ s4) then
    bif decide (s4 < (↑(List.length s3) : Int)) then
      bif decide ((↑(UInt8.toNat (List.getD s3 (Int.toNat s4) (0 : UInt8))) : Int) < (48 : Int)) then some (V.bool false, [])
      else
        bif decide ((0 : Int) ≤ s4) then
          bif decide (s4 < (↑(List.length s3) : Int)) then
            bif decide ((↑(UInt8.toNat (List.getD s3 (Int.toNat s4) (0 : UInt8))) : Int) > (57 : Int)) then some (V.bool false, []) else L82_9 n m9 s3 (Go.IntKind.wrap Go.IntKind.i64 (s4 + (1 : Int)))
          else none
        else none
    else none
  else none
else some (V.bool true, []) := by kernel_rfl
theorem bd61 {T : Tab} (hC : OrcOk Tryz.prog T c61) (n : Nat) {args : List V} {outs : List (List V)} {r : V} {outs' : List (List V)} (h : evalBody E c61 61 Tryz.f61 n args outs = some (r, outs')) : Answers Tryz.prog T 61 args outs r outs' := body hC (by kernel_rfl) h
noncomputable def L61_4 (n m4 : Nat) (s0 : List AVA) (s3 : Int) : Option (V × List (List V)) := loopOf E c61 61 Tryz.f61 n [1, 1, 0, 1, 1] m4 (hd [((0 : Nat), V.sl K.ava s0), ((3 : Nat), V.int Go.IntKind.i64 s3)] [] [] [])
noncomputable def L61_9 (n m4 m9 : Nat) (s0 : List AVA) (s3 : Int) (s4 : Int) : Option (V × List (List V)) := loopOf E c61 61 Tryz.f61 n [1, 1, 0, 1, 1, m4 + 2, 1, 0, 1, 1, 1, 1] m9 (hd [((0 : Nat), V.sl K.ava s0), ((3 : Nat), V.int Go.IntKind.i64 s3), ((4 : Nat), V.int Go.IntKind.i64 s4)] [] [] [])
theorem ev61 (n : Nat) (xs : List AVA) : evalBody E c61 61 Tryz.f61 n [.sl .ava xs] [] =
  bif decide ((↑(List.length xs) : Int) < (1 : Int)) then some (V.bool false, []) else bif decide ((↑(List.length xs) : Int) > (4 : Int)) then some (V.bool false, []) else L61_4 n n xs (0 : Int) := by kernel_rfl
theorem rd61_4 (n  m4 : Nat) (s0 : List AVA) (s3 : Int) : L61_4 n  (m4 + 1) s0 s3 =
  bif decide (s3 < (↑(List.length s0) : Int)) then
  bif decide ((0 : Int) ≤ s3) then
    bif decide (s3 < (↑(List.length s0) : Int)) then
      bif !isType (AVA.attr (List.getD s0 (Int.toNat s3) (AVA.mk [] []))) then some (V.bool false, [])
      else
        bif decide ((0 : Int) ≤ s3) then
          bif decide (s3 < (↑(List.length s0) : Int)) then
            bif decide ((↑(List.length (AVA.value (List.getD s0 (Int.toNat s3) (AVA.mk [] [])))) : Int) < (1 : Int)) then some (V.bool false, [])
            else
              bif decide ((0 : Int) ≤ s3) then
                bif decide (s3 < (↑(List.length s0) : Int)) then
                  bif decide ((↑(List.length (AVA.value (List.getD s0 (Int.toNat s3) (AVA.mk [] [])))) : Int) > (60 : Int)) then some (V.bool false, []) else L61_9 n m4 n s0 s3 (0 : Int)
                else none
              else none
          else none
        else none
    else none
  else none
else some (V.bool true, []) := by kernel_rfl
theorem rd61_9 (n m4 m9 : Nat) (s0 : List AVA) (s3 : Int) (s4 : Int) : L61_9 n m4 (m9 + 1) s0 s3 s4 =
  bif decide (s4 < s3) then
  bif decide ((0 : Int) ≤ s4) then
    bif decide (s4 < (↑(List.length s0) : Int)) then
      bif decide ((0 : Int) ≤ s3) then
        bif decide (s3 < (↑(List.length s0) : Int)) then
          bif AVA.attr (List.getD s0 (Int.toNat s4) (AVA.mk [] [])) == AVA.attr (List.getD s0 (Int.toNat s3) (AVA.mk [] [])) then some (V.bool false, [])
          else L61_9 n m4 m9 s0 s3 (Go.IntKind.wrap Go.IntKind.i64 (s4 + (1 : Int)))
        else none
      else none
    else none
  else none
else L61_4 n m4 s0 (Go.IntKind.wrap Go.IntKind.i64 (s3 + (1 : Int))) := by kernel_rfl
theorem bd97 {T : Tab} (hC : OrcOk Tryz.prog T c0) (n : Nat) {args : List V} {outs : List (List V)} {r : V} {outs' : List (List V)} (h : evalBody E c0 97 Tryz.f97 n args outs = some (r, outs')) : Answers Tryz.prog T 97 args outs r outs' := body hC (by kernel_rfl) h
noncomputable def L97_4 (n m4 : Nat) (s0 : Str) (s1 : Int) (s6 : Int) (s7 : Int) (r5 : List Str) : Option (V × List (List V)) := loopOf E c0 97 Tryz.f97 n [1, 1, 1, 0, 1, 1] m4 (hd [((0 : Nat), V.str s0), ((1 : Nat), V.int Go.IntKind.u8 s1), ((5 : Nat), V.own (5 : Nat) (0 : Nat)), ((6 : Nat), V.int Go.IntKind.i64 s6), ((7 : Nat), V.int Go.IntKind.i64 s7)] []
  [((5 : Nat), some (Row.mk K.str r5))] [])
theorem ev97 (n : Nat) (s : Str) (c : Int) : evalBody E c0 97 Tryz.f97 n [.str s, .int .u8 c] [] =
  L97_4 n n s c (0 : Int) (0 : Int) [] := by kernel_rfl
theorem rd97_4 (n  m4 : Nat) (s0 : Str) (s1 : Int) (s6 : Int) (s7 : Int) (r5 : List Str) : L97_4 n  (m4 + 1) s0 s1 s6 s7 r5 =
  bif decide (s7 < (↑(List.length s0) : Int)) then
  bif decide ((0 : Int) ≤ s7) then
    bif decide (s7 < (↑(List.length s0) : Int)) then
      bif (↑(UInt8.toNat (List.getD s0 (Int.toNat s7) (0 : UInt8))) : Int) == (92 : Int) then
        L97_4 n m4 s0 s1 s6 (Go.IntKind.wrap Go.IntKind.i64 (Go.IntKind.wrap Go.IntKind.i64 (s7 + (1 : Int)) + (1 : Int))) r5
      else
        bif decide ((0 : Int) ≤ s7) then
          bif decide (s7 < (↑(List.length s0) : Int)) then
            bif (↑(UInt8.toNat (List.getD s0 (Int.toNat s7) (0 : UInt8))) : Int) == s1 then
              bif decide ((0 : Int) ≤ s7) then
                bif decide (s7 ≤ (↑(List.length s0) : Int)) then
                  bif decide ((0 : Int) ≤ s6) then
                    bif decide (s6 ≤ (↑(Int.toNat s7) : Int)) then
                      bif Nat.ble (List.length r5 + List.length [List.drop (Int.toNat s6) (List.take (Int.toNat s7) s0)]) (1073741824 : Nat) then
                        L97_4 n m4 s0 s1 (Go.IntKind.wrap Go.IntKind.i64 (s7 + (1 : Int))) (Go.IntKind.wrap Go.IntKind.i64 (s7 + (1 : Int)))
                          (r5 ++ [List.drop (Int.toNat s6) (List.take (Int.toNat s7) s0)])
                      else none
                    else none
                  else none
                else none
              else none
            else L97_4 n m4 s0 s1 s6 (Go.IntKind.wrap Go.IntKind.i64 (s7 + (1 : Int))) r5
          else none
        else none
    else none
  else none
else
  bif decide ((0 : Int) ≤ s6) then
    bif decide (s6 ≤ (↑(List.length s0) : Int)) then
      bif Nat.ble (List.length r5 + List.length [List.drop (Int.toNat s6) (List.take (List.length s0) s0)]) (1073741824 : Nat) then
        some (V.sl K.str (r5 ++ [List.drop (Int.toNat s6) (List.take (List.length s0) s0)]), [])
      else none
    else none
  else none := by kernel_rfl
theorem bd142 {T : Tab} (hC : OrcOk Tryz.prog T c0) (n : Nat) {args : List V} {outs : List (List V)} {r : V} {outs' : List (List V)} (h : evalBody E c0 142 Tryz.f142 n args outs = some (r, outs')) : Answers Tryz.prog T 142 args outs r outs' := body hC (by kernel_rfl) h
theorem ev142 (n : Nat) (c : Int) : evalBody E c0 142 Tryz.f142 n [.int .u8 c] [] =
  bif c == (44 : Int) then some (V.bool true, [])
else
  bif c == (43 : Int) then some (V.bool true, [])
  else
    bif c == (34 : Int) then some (V.bool true, [])
    else
      bif c == (92 : Int) then some (V.bool true, []) else bif c == (60 : Int) then some (V.bool true, []) else bif c == (62 : Int) then some (V.bool true, []) else some (V.bool (c == (59 : Int)), []) := by kernel_rfl
theorem bd143 {T : Tab} (hC : OrcOk Tryz.prog T c0) (n : Nat) {args : List V} {outs : List (List V)} {r : V} {outs' : List (List V)} (h : evalBody E c0 143 Tryz.f143 n args outs = some (r, outs')) : Answers Tryz.prog T 143 args outs r outs' := body hC (by kernel_rfl) h
theorem ev143 (n : Nat) (c : Int) : evalBody E c0 143 Tryz.f143 n [.int .u8 c] [] =
  bif decide (c ≥ (48 : Int)) then
  bif decide (c ≤ (57 : Int)) then some (V.int Go.IntKind.i64 (Go.IntKind.wrap Go.IntKind.i64 (Go.IntKind.wrap Go.IntKind.u8 (c - (48 : Int)))), [])
  else
    bif decide (c ≥ (97 : Int)) then
      bif decide (c ≤ (102 : Int)) then some (V.int Go.IntKind.i64 (Go.IntKind.wrap Go.IntKind.i64 (Go.IntKind.wrap Go.IntKind.i64 (Go.IntKind.wrap Go.IntKind.u8 (c - (97 : Int))) + (10 : Int))), [])
      else
        bif decide (c ≥ (65 : Int)) then
          bif decide (c ≤ (70 : Int)) then
            some (V.int Go.IntKind.i64 (Go.IntKind.wrap Go.IntKind.i64 (Go.IntKind.wrap Go.IntKind.i64 (Go.IntKind.wrap Go.IntKind.u8 (c - (65 : Int))) + (10 : Int))), [])
          else some (V.int Go.IntKind.i64 (-1 : Int), [])
        else some (V.int Go.IntKind.i64 (-1 : Int), [])
    else
      bif decide (c ≥ (65 : Int)) then
        bif decide (c ≤ (70 : Int)) then some (V.int Go.IntKind.i64 (Go.IntKind.wrap Go.IntKind.i64 (Go.IntKind.wrap Go.IntKind.i64 (Go.IntKind.wrap Go.IntKind.u8 (c - (65 : Int))) + (10 : Int))), [])
        else some (V.int Go.IntKind.i64 (-1 : Int), [])
      else some (V.int Go.IntKind.i64 (-1 : Int), [])
else
  bif decide (c ≥ (97 : Int)) then
    bif decide (c ≤ (102 : Int)) then some (V.int Go.IntKind.i64 (Go.IntKind.wrap Go.IntKind.i64 (Go.IntKind.wrap Go.IntKind.i64 (Go.IntKind.wrap Go.IntKind.u8 (c - (97 : Int))) + (10 : Int))), [])
    else
      bif decide (c ≥ (65 : Int)) then
        bif decide (c ≤ (70 : Int)) then some (V.int Go.IntKind.i64 (Go.IntKind.wrap Go.IntKind.i64 (Go.IntKind.wrap Go.IntKind.i64 (Go.IntKind.wrap Go.IntKind.u8 (c - (65 : Int))) + (10 : Int))), [])
        else some (V.int Go.IntKind.i64 (-1 : Int), [])
      else some (V.int Go.IntKind.i64 (-1 : Int), [])
  else
    bif decide (c ≥ (65 : Int)) then
      bif decide (c ≤ (70 : Int)) then some (V.int Go.IntKind.i64 (Go.IntKind.wrap Go.IntKind.i64 (Go.IntKind.wrap Go.IntKind.i64 (Go.IntKind.wrap Go.IntKind.u8 (c - (65 : Int))) + (10 : Int))), [])
      else some (V.int Go.IntKind.i64 (-1 : Int), [])
    else some (V.int Go.IntKind.i64 (-1 : Int), []) := by kernel_rfl
theorem bd122 {T : Tab} (hC : OrcOk Tryz.prog T c122) (n : Nat) {args : List V} {outs : List (List V)} {r : V} {outs' : List (List V)} (h : evalBody E c122 122 Tryz.f122 n args outs = some (r, outs')) : Answers Tryz.prog T 122 args outs r outs' := body hC (by kernel_rfl) h
noncomputable def L122_3 (n m3 : Nat) (s0 : Str) (s5 : Int) (r4 : List Int) : Option (V × List (List V)) := loopOf E c122 122 Tryz.f122 n [1, 1, 0, 1, 1] m3 (hd [((0 : Nat), V.str s0), ((4 : Nat), V.own (4 : Nat) (0 : Nat)), ((5 : Nat), V.int Go.IntKind.i64 s5)] [] [((4 : Nat), some (Row.mk K.byte r4))] [])
theorem ev122 (n : Nat) (s : Str) : evalBody E c122 122 Tryz.f122 n [.str s] [] =
  L122_3 n n s (0 : Int) [] := by kernel_rfl
theorem rd122_3 (n  m3 : Nat) (s0 : Str) (s5 : Int) (r4 : List Int) : L122_3 n  (m3 + 1) s0 s5 r4 =
  bif decide (s5 < (↑(List.length s0) : Int)) then
  bif decide ((0 : Int) ≤ s5) then
    bif decide (s5 < (↑(List.length s0) : Int)) then
      bif (↑(UInt8.toNat (List.getD s0 (Int.toNat s5) (0 : UInt8))) : Int) != (92 : Int) then
        bif speI (↑(UInt8.toNat (List.getD s0 (Int.toNat s5) (0 : UInt8))) : Int) then some (V.tup [V.str [], V.bool false], [])
        else
          bif s5 == (0 : Int) then
            bif (↑(UInt8.toNat (List.getD s0 (Int.toNat s5) (0 : UInt8))) : Int) == (35 : Int) then some (V.tup [V.str [], V.bool false], [])
            else
              bif (↑(UInt8.toNat (List.getD s0 (Int.toNat s5) (0 : UInt8))) : Int) == (32 : Int) then some (V.tup [V.str [], V.bool false], [])
              else
                bif s5 == Go.IntKind.wrap Go.IntKind.i64 ((↑(List.length s0) : Int) - (1 : Int)) then
                  bif (↑(UInt8.toNat (List.getD s0 (Int.toNat s5) (0 : UInt8))) : Int) == (32 : Int) then some (V.tup [V.str [], V.bool false], [])
                  else
                    bif Nat.ble (List.length r4 + List.length [(↑(UInt8.toNat (List.getD s0 (Int.toNat s5) (0 : UInt8))) : Int)]) (1073741824 : Nat) then
                      L122_3 n m3 s0 (Go.IntKind.wrap Go.IntKind.i64 (s5 + (1 : Int))) (r4 ++ [(↑(UInt8.toNat (List.getD s0 (Int.toNat s5) (0 : UInt8))) : Int)])
                    else none
                else
                  bif Nat.ble (List.length r4 + List.length [(↑(UInt8.toNat (List.getD s0 (Int.toNat s5) (0 : UInt8))) : Int)]) (1073741824 : Nat) then
                    L122_3 n m3 s0 (Go.IntKind.wrap Go.IntKind.i64 (s5 + (1 : Int))) (r4 ++ [(↑(UInt8.toNat (List.getD s0 (Int.toNat s5) (0 : UInt8))) : Int)])
                  else none
          else
            bif s5 == Go.IntKind.wrap Go.IntKind.i64 ((↑(List.length s0) : Int) - (1 : Int)) then
              bif (↑(UInt8.toNat (List.getD s0 (Int.toNat s5) (0 : UInt8))) : Int) == (32 : Int) then some (V.tup [V.str [], V.bool false], [])
              else
                bif Nat.ble (List.length r4 + List.length [(↑(UInt8.toNat (List.getD s0 (Int.toNat s5) (0 : UInt8))) : Int)]) (1073741824 : Nat) then
                  L122_3 n m3 s0 (Go.IntKind.wrap Go.IntKind.i64 (s5 + (1 : Int))) (r4 ++ [(↑(UInt8.toNat (List.getD s0 (Int.toNat s5) (0 : UInt8))) : Int)])
                else none
            else
              bif Nat.ble (List.length r4 + List.length [(↑(UInt8.toNat (List.getD s0 (Int.toNat s5) (0 : UInt8))) : Int)]) (1073741824 : Nat) then
                L122_3 n m3 s0 (Go.IntKind.wrap Go.IntKind.i64 (s5 + (1 : Int))) (r4 ++ [(↑(UInt8.toNat (List.getD s0 (Int.toNat s5) (0 : UInt8))) : Int)])
              else none
      else
        bif decide (Go.IntKind.wrap Go.IntKind.i64 (s5 + (1 : Int)) < (↑(List.length s0) : Int)) then
          bif decide ((0 : Int) ≤ Go.IntKind.wrap Go.IntKind.i64 (s5 + (1 : Int))) then
            bif decide (Go.IntKind.wrap Go.IntKind.i64 (s5 + (1 : Int)) < (↑(List.length s0) : Int)) then
              bif speI (↑(UInt8.toNat (List.getD s0 (Int.toNat (Go.IntKind.wrap Go.IntKind.i64 (s5 + (1 : Int)))) (0 : UInt8))) : Int) then
                bif decide ((0 : Int) ≤ Go.IntKind.wrap Go.IntKind.i64 (s5 + (1 : Int))) then
                  bif decide (Go.IntKind.wrap Go.IntKind.i64 (s5 + (1 : Int)) < (↑(List.length s0) : Int)) then
                    bif Nat.ble (List.length r4 + List.length [(↑(UInt8.toNat (List.getD s0 (Int.toNat (Go.IntKind.wrap Go.IntKind.i64 (s5 + (1 : Int)))) (0 : UInt8))) : Int)]) (1073741824 : Nat) then
                      L122_3 n m3 s0 (Go.IntKind.wrap Go.IntKind.i64 (Go.IntKind.wrap Go.IntKind.i64 (s5 + (1 : Int)) + (1 : Int)))
                        (r4 ++ [(↑(UInt8.toNat (List.getD s0 (Int.toNat (Go.IntKind.wrap Go.IntKind.i64 (s5 + (1 : Int)))) (0 : UInt8))) : Int)])
                    else none
                  else none
                else none
              else
                bif decide ((0 : Int) ≤ Go.IntKind.wrap Go.IntKind.i64 (s5 + (1 : Int))) then
                  bif decide (Go.IntKind.wrap Go.IntKind.i64 (s5 + (1 : Int)) < (↑(List.length s0) : Int)) then
                    bif (↑(UInt8.toNat (List.getD s0 (Int.toNat (Go.IntKind.wrap Go.IntKind.i64 (s5 + (1 : Int)))) (0 : UInt8))) : Int) == (35 : Int) then
                      bif decide ((0 : Int) ≤ Go.IntKind.wrap Go.IntKind.i64 (s5 + (1 : Int))) then
                        bif decide (Go.IntKind.wrap Go.IntKind.i64 (s5 + (1 : Int)) < (↑(List.length s0) : Int)) then
                          bif
                              Nat.ble (List.length r4 + List.length [(↑(UInt8.toNat (List.getD s0 (Int.toNat (Go.IntKind.wrap Go.IntKind.i64 (s5 + (1 : Int)))) (0 : UInt8))) : Int)])
                                (1073741824 : Nat) then
                            L122_3 n m3 s0 (Go.IntKind.wrap Go.IntKind.i64 (Go.IntKind.wrap Go.IntKind.i64 (s5 + (1 : Int)) + (1 : Int)))
                              (r4 ++ [(↑(UInt8.toNat (List.getD s0 (Int.toNat (Go.IntKind.wrap Go.IntKind.i64 (s5 + (1 : Int)))) (0 : UInt8))) : Int)])
                          else none
                        else none
                      else none
                    else
                      bif decide ((0 : Int) ≤ Go.IntKind.wrap Go.IntKind.i64 (s5 + (1 : Int))) then
                        bif decide (Go.IntKind.wrap Go.IntKind.i64 (s5 + (1 : Int)) < (↑(List.length s0) : Int)) then
                          bif (↑(UInt8.toNat (List.getD s0 (Int.toNat (Go.IntKind.wrap Go.IntKind.i64 (s5 + (1 : Int)))) (0 : UInt8))) : Int) == (61 : Int) then
                            bif decide ((0 : Int) ≤ Go.IntKind.wrap Go.IntKind.i64 (s5 + (1 : Int))) then
                              bif decide (Go.IntKind.wrap Go.IntKind.i64 (s5 + (1 : Int)) < (↑(List.length s0) : Int)) then
                                bif
                                    Nat.ble (List.length r4 + List.length [(↑(UInt8.toNat (List.getD s0 (Int.toNat (Go.IntKind.wrap Go.IntKind.i64 (s5 + (1 : Int)))) (0 : UInt8))) : Int)])
                                      (1073741824 : Nat) then
                                  L122_3 n m3 s0 (Go.IntKind.wrap Go.IntKind.i64 (Go.IntKind.wrap Go.IntKind.i64 (s5 + (1 : Int)) + (1 : Int)))
                                    (r4 ++ [(↑(UInt8.toNat (List.getD s0 (Int.toNat (Go.IntKind.wrap Go.IntKind.i64 (s5 + (1 : Int)))) (0 : UInt8))) : Int)])
                                else none
                              else none
                            else none
                          else
                            bif decide ((0 : Int) ≤ Go.IntKind.wrap Go.IntKind.i64 (s5 + (1 : Int))) then
                              bif decide (Go.IntKind.wrap Go.IntKind.i64 (s5 + (1 : Int)) < (↑(List.length s0) : Int)) then
                                bif (↑(UInt8.toNat (List.getD s0 (Int.toNat (Go.IntKind.wrap Go.IntKind.i64 (s5 + (1 : Int)))) (0 : UInt8))) : Int) == (32 : Int) then
                                  bif decide ((0 : Int) ≤ Go.IntKind.wrap Go.IntKind.i64 (s5 + (1 : Int))) then
                                    bif decide (Go.IntKind.wrap Go.IntKind.i64 (s5 + (1 : Int)) < (↑(List.length s0) : Int)) then
                                      bif
                                          Nat.ble (List.length r4 + List.length [(↑(UInt8.toNat (List.getD s0 (Int.toNat (Go.IntKind.wrap Go.IntKind.i64 (s5 + (1 : Int)))) (0 : UInt8))) : Int)])
                                            (1073741824 : Nat) then
                                        L122_3 n m3 s0 (Go.IntKind.wrap Go.IntKind.i64 (Go.IntKind.wrap Go.IntKind.i64 (s5 + (1 : Int)) + (1 : Int)))
                                          (r4 ++ [(↑(UInt8.toNat (List.getD s0 (Int.toNat (Go.IntKind.wrap Go.IntKind.i64 (s5 + (1 : Int)))) (0 : UInt8))) : Int)])
                                      else none
                                    else none
                                  else none
                                else
                                  bif decide (Go.IntKind.wrap Go.IntKind.i64 (s5 + (2 : Int)) < (↑(List.length s0) : Int)) then
                                    bif decide ((0 : Int) ≤ Go.IntKind.wrap Go.IntKind.i64 (s5 + (1 : Int))) then
                                      bif decide (Go.IntKind.wrap Go.IntKind.i64 (s5 + (1 : Int)) < (↑(List.length s0) : Int)) then
                                        bif isB (↑(UInt8.toNat (List.getD s0 (Int.toNat (Go.IntKind.wrap Go.IntKind.i64 (s5 + (1 : Int)))) (0 : UInt8))) : Int) then
                                          bif decide (digI (↑(UInt8.toNat (List.getD s0 (Int.toNat (Go.IntKind.wrap Go.IntKind.i64 (s5 + (1 : Int)))) (0 : UInt8))) : Int) ≥ (0 : Int)) then
                                            bif decide ((0 : Int) ≤ Go.IntKind.wrap Go.IntKind.i64 (s5 + (2 : Int))) then
                                              bif decide (Go.IntKind.wrap Go.IntKind.i64 (s5 + (2 : Int)) < (↑(List.length s0) : Int)) then
                                                bif isB (↑(UInt8.toNat (List.getD s0 (Int.toNat (Go.IntKind.wrap Go.IntKind.i64 (s5 + (2 : Int)))) (0 : UInt8))) : Int) then
                                                  bif decide (digI (↑(UInt8.toNat (List.getD s0 (Int.toNat (Go.IntKind.wrap Go.IntKind.i64 (s5 + (2 : Int)))) (0 : UInt8))) : Int) ≥ (0 : Int)) then
                                                    bif decide ((0 : Int) ≤ Go.IntKind.wrap Go.IntKind.i64 (s5 + (1 : Int))) then
                                                      bif decide (Go.IntKind.wrap Go.IntKind.i64 (s5 + (1 : Int)) < (↑(List.length s0) : Int)) then
                                                        bif isB (↑(UInt8.toNat (List.getD s0 (Int.toNat (Go.IntKind.wrap Go.IntKind.i64 (s5 + (1 : Int)))) (0 : UInt8))) : Int) then
                                                          bif decide ((0 : Int) ≤ Go.IntKind.wrap Go.IntKind.i64 (s5 + (2 : Int))) then
                                                            bif decide (Go.IntKind.wrap Go.IntKind.i64 (s5 + (2 : Int)) < (↑(List.length s0) : Int)) then
                                                              bif isB (↑(UInt8.toNat (List.getD s0 (Int.toNat (Go.IntKind.wrap Go.IntKind.i64 (s5 + (2 : Int)))) (0 : UInt8))) : Int) then
                                                                bif
                                                                    Nat.ble
                                                                      (List.length r4 +
                                                                        List.length
                                                                          [Go.IntKind.wrap Go.IntKind.u8
                                                                              (Go.IntKind.wrap Go.IntKind.i64
                                                                                (Go.IntKind.wrap Go.IntKind.i64
                                                                                    ((16 : Int) *
                                                                                      digI
                                                                                        (↑(UInt8.toNat (List.getD s0 (Int.toNat (Go.IntKind.wrap Go.IntKind.i64 (s5 + (1 : Int)))) (0 : UInt8))) :
                                                                                          Int)) +
                                                                                  digI
                                                                                    (↑(UInt8.toNat (List.getD s0 (Int.toNat (Go.IntKind.wrap Go.IntKind.i64 (s5 + (2 : Int)))) (0 : UInt8))) : Int)))])
                                                                      (1073741824 : Nat) then
                                                                  L122_3 n m3 s0 (Go.IntKind.wrap Go.IntKind.i64 (Go.IntKind.wrap Go.IntKind.i64 (s5 + (2 : Int)) + (1 : Int)))
                                                                    (r4 ++
                                                                      [Go.IntKind.wrap Go.IntKind.u8
                                                                          (Go.IntKind.wrap Go.IntKind.i64
                                                                            (Go.IntKind.wrap Go.IntKind.i64
                                                                                ((16 : Int) *
                                                                                  digI
                                                                                    (↑(UInt8.toNat (List.getD s0 (Int.toNat (Go.IntKind.wrap Go.IntKind.i64 (s5 + (1 : Int)))) (0 : UInt8))) : Int)) +
                                                                              digI (↑(UInt8.toNat (List.getD s0 (Int.toNat (Go.IntKind.wrap Go.IntKind.i64 (s5 + (2 : Int)))) (0 : UInt8))) : Int)))])
                                                                else none
                                                              else none
                                                            else none
                                                          else none
                                                        else none
                                                      else none
                                                    else none
                                                  else some (V.tup [V.str [], V.bool false], [])
                                                else none
                                              else none
                                            else none
                                          else some (V.tup [V.str [], V.bool false], [])
                                        else none
                                      else none
                                    else none
                                  else some (V.tup [V.str [], V.bool false], [])
                              else none
                            else none
                        else none
                      else none
                  else none
                else none
            else none
          else none
        else
          bif decide (Go.IntKind.wrap Go.IntKind.i64 (s5 + (2 : Int)) < (↑(List.length s0) : Int)) then
            bif decide ((0 : Int) ≤ Go.IntKind.wrap Go.IntKind.i64 (s5 + (1 : Int))) then
              bif decide (Go.IntKind.wrap Go.IntKind.i64 (s5 + (1 : Int)) < (↑(List.length s0) : Int)) then
                bif isB (↑(UInt8.toNat (List.getD s0 (Int.toNat (Go.IntKind.wrap Go.IntKind.i64 (s5 + (1 : Int)))) (0 : UInt8))) : Int) then
                  bif decide (digI (↑(UInt8.toNat (List.getD s0 (Int.toNat (Go.IntKind.wrap Go.IntKind.i64 (s5 + (1 : Int)))) (0 : UInt8))) : Int) ≥ (0 : Int)) then
                    bif decide ((0 : Int) ≤ Go.IntKind.wrap Go.IntKind.i64 (s5 + (2 : Int))) then
                      bif decide (Go.IntKind.wrap Go.IntKind.i64 (s5 + (2 : Int)) < (↑(List.length s0) : Int)) then
                        bif isB (↑(UInt8.toNat (List.getD s0 (Int.toNat (Go.IntKind.wrap Go.IntKind.i64 (s5 + (2 : Int)))) (0 : UInt8))) : Int) then
                          bif decide (digI (↑(UInt8.toNat (List.getD s0 (Int.toNat (Go.IntKind.wrap Go.IntKind.i64 (s5 + (2 : Int)))) (0 : UInt8))) : Int) ≥ (0 : Int)) then
                            bif decide ((0 : Int) ≤ Go.IntKind.wrap Go.IntKind.i64 (s5 + (1 : Int))) then
                              bif decide (Go.IntKind.wrap Go.IntKind.i64 (s5 + (1 : Int)) < (↑(List.length s0) : Int)) then
                                bif isB (↑(UInt8.toNat (List.getD s0 (Int.toNat (Go.IntKind.wrap Go.IntKind.i64 (s5 + (1 : Int)))) (0 : UInt8))) : Int) then
                                  bif decide ((0 : Int) ≤ Go.IntKind.wrap Go.IntKind.i64 (s5 + (2 : Int))) then
                                    bif decide (Go.IntKind.wrap Go.IntKind.i64 (s5 + (2 : Int)) < (↑(List.length s0) : Int)) then
                                      bif isB (↑(UInt8.toNat (List.getD s0 (Int.toNat (Go.IntKind.wrap Go.IntKind.i64 (s5 + (2 : Int)))) (0 : UInt8))) : Int) then
                                        bif
                                            Nat.ble
                                              (List.length r4 +
                                                List.length
                                                  [Go.IntKind.wrap Go.IntKind.u8
                                                      (Go.IntKind.wrap Go.IntKind.i64
                                                        (Go.IntKind.wrap Go.IntKind.i64
                                                            ((16 : Int) * digI (↑(UInt8.toNat (List.getD s0 (Int.toNat (Go.IntKind.wrap Go.IntKind.i64 (s5 + (1 : Int)))) (0 : UInt8))) : Int)) +
                                                          digI (↑(UInt8.toNat (List.getD s0 (Int.toNat (Go.IntKind.wrap Go.IntKind.i64 (s5 + (2 : Int)))) (0 : UInt8))) : Int)))])
                                              (1073741824 : Nat) then
                                          L122_3 n m3 s0 (Go.IntKind.wrap Go.IntKind.i64 (Go.IntKind.wrap Go.IntKind.i64 (s5 + (2 : Int)) + (1 : Int)))
                                            (r4 ++
                                              [Go.IntKind.wrap Go.IntKind.u8
                                                  (Go.IntKind.wrap Go.IntKind.i64
                                                    (Go.IntKind.wrap Go.IntKind.i64
                                                        ((16 : Int) * digI (↑(UInt8.toNat (List.getD s0 (Int.toNat (Go.IntKind.wrap Go.IntKind.i64 (s5 + (1 : Int)))) (0 : UInt8))) : Int)) +
                                                      digI (↑(UInt8.toNat (List.getD s0 (Int.toNat (Go.IntKind.wrap Go.IntKind.i64 (s5 + (2 : Int)))) (0 : UInt8))) : Int)))])
                                        else none
                                      else none
                                    else none
                                  else none
                                else none
                              else none
                            else none
                          else some (V.tup [V.str [], V.bool false], [])
                        else none
                      else none
                    else none
                  else some (V.tup [V.str [], V.bool false], [])
                else none
              else none
            else none
          else some (V.tup [V.str [], V.bool false], [])
    else none
  else none
else some (V.tup [V.str (List.map (fun (n : Int) => UInt8.ofNat (Int.toNat n)) r4), V.bool true], []) := by kernel_rfl
theorem bd98 {T : Tab} (hC : OrcOk Tryz.prog T c98) (n : Nat) {args : List V} {outs : List (List V)} {r : V} {outs' : List (List V)} (h : evalBody E c98 98 Tryz.f98 n args outs = some (r, outs')) : Answers Tryz.prog T 98 args outs r outs' := body hC (by kernel_rfl) h
noncomputable def L98_4 (n m4 : Nat) (s5 : List Str) (s6 : Int) (r4 : List AVA) : Option (V × List (List V)) := loopOf E c98 98 Tryz.f98 n [1, 1, 1, 0, 1, 1] m4 (hd [((4 : Nat), V.own (4 : Nat) (0 : Nat)), ((5 : Nat), V.sl K.str s5), ((6 : Nat), V.int Go.IntKind.i64 s6)] [] [((4 : Nat), some (Row.mk K.ava r4))] [])
noncomputable def L98_7 (n m4 m7 : Nat) (s5 : List Str) (s6 : Int) (s7 : Int) (r4 : List AVA) : Option (V × List (List V)) := loopOf E c98 98 Tryz.f98 n [1, 1, 1, 0, 1, 1, m4 + 2, 1, 0, 1, 1, 0, 1] m7 (hd [((4 : Nat), V.own (4 : Nat) (0 : Nat)), ((5 : Nat), V.sl K.str s5), ((6 : Nat), V.int Go.IntKind.i64 s6), ((7 : Nat), V.int Go.IntKind.i64 s7)] [] [((4 : Nat), some (Row.mk K.ava r4))] [])
theorem ev98 (n : Nat) (s : Str) : evalBody E c98 98 Tryz.f98 n [.str s] [] =
  bif ok s then L98_4 n n (cut (43 : Int) s) (0 : Int) [] else none := by kernel_rfl
theorem rd98_4 (n  m4 : Nat) (s5 : List Str) (s6 : Int) (r4 : List AVA) : L98_4 n  (m4 + 1) s5 s6 r4 =
  bif decide (s6 < (↑(List.length s5) : Int)) then L98_7 n m4 n s5 s6 (0 : Int) r4
else bif Nat.ble (List.length r4) (1000000000 : Nat) then bif !isRDN r4 then some (V.tup [V.sl K.ava [], V.bool false], []) else some (V.tup [V.sl K.ava r4, V.bool true], []) else none := by kernel_rfl
theorem rd98_7 (n m4 m7 : Nat) (s5 : List Str) (s6 : Int) (s7 : Int) (r4 : List AVA) : L98_7 n m4 (m7 + 1) s5 s6 s7 r4 =
  bif decide ((0 : Int) ≤ s6) then
  bif decide (s6 < (↑(List.length s5) : Int)) then
    bif decide (s7 < (↑(List.length (List.getD s5 (Int.toNat s6) [])) : Int)) then
      bif decide ((0 : Int) ≤ s6) then
        bif decide (s6 < (↑(List.length s5) : Int)) then
          bif decide ((0 : Int) ≤ s7) then
            bif decide (s7 < (↑(List.length (List.getD s5 (Int.toNat s6) [])) : Int)) then
              bif (↑(UInt8.toNat (List.getD (List.getD s5 (Int.toNat s6) []) (Int.toNat s7) (0 : UInt8))) : Int) != (61 : Int) then
                L98_7 n m4 m7 s5 s6 (Go.IntKind.wrap Go.IntKind.i64 (s7 + (1 : Int))) r4
              else
                bif decide ((0 : Int) ≤ s6) then
                  bif decide (s6 < (↑(List.length s5) : Int)) then
                    bif s7 == (↑(List.length (List.getD s5 (Int.toNat s6) [])) : Int) then some (V.tup [V.sl K.ava [], V.bool false], [])
                    else
                      bif decide ((0 : Int) ≤ s6) then
                        bif decide (s6 < (↑(List.length s5) : Int)) then
                          bif ok (List.getD s5 (Int.toNat s6) []) then
                            bif decide ((↑(List.length (cut (44 : Int) (List.getD s5 (Int.toNat s6) []))) : Int) > (1 : Int)) then some (V.tup [V.sl K.ava [], V.bool false], [])
                            else
                              bif decide ((0 : Int) ≤ s6) then
                                bif decide (s6 < (↑(List.length s5) : Int)) then
                                  bif decide ((0 : Int) ≤ Go.IntKind.wrap Go.IntKind.i64 (s7 + (1 : Int))) then
                                    bif decide (Go.IntKind.wrap Go.IntKind.i64 (s7 + (1 : Int)) ≤ (↑(List.length (List.getD s5 (Int.toNat s6) [])) : Int)) then
                                      bif
                                          ok
                                            (List.drop (Int.toNat (Go.IntKind.wrap Go.IntKind.i64 (s7 + (1 : Int))))
                                              (List.take (List.length (List.getD s5 (Int.toNat s6) [])) (List.getD s5 (Int.toNat s6) []))) then
                                        bif
                                            !Option.isSome
                                                (unesc
                                                  (List.drop (Int.toNat (Go.IntKind.wrap Go.IntKind.i64 (s7 + (1 : Int))))
                                                    (List.take (List.length (List.getD s5 (Int.toNat s6) [])) (List.getD s5 (Int.toNat s6) [])))) then
                                          some (V.tup [V.sl K.ava [], V.bool false], [])
                                        else
                                          bif decide ((0 : Int) ≤ s6) then
                                            bif decide (s6 < (↑(List.length s5) : Int)) then
                                              bif decide ((0 : Int) ≤ s7) then
                                                bif decide (s7 ≤ (↑(List.length (List.getD s5 (Int.toNat s6) [])) : Int)) then
                                                  bif ok (List.drop (0 : Nat) (List.take (Int.toNat s7) (List.getD s5 (Int.toNat s6) []))) then
                                                    bif
                                                        Nat.ble
                                                          (List.length r4 +
                                                            List.length
                                                              [AVA.mk (lower (List.drop (0 : Nat) (List.take (Int.toNat s7) (List.getD s5 (Int.toNat s6) []))))
                                                                  (Option.getD
                                                                    (unesc
                                                                      (List.drop (Int.toNat (Go.IntKind.wrap Go.IntKind.i64 (s7 + (1 : Int))))
                                                                        (List.take (List.length (List.getD s5 (Int.toNat s6) [])) (List.getD s5 (Int.toNat s6) []))))
                                                                    [])])
                                                          (1073741824 : Nat) then
                                                      L98_4 n m4 s5 (Go.IntKind.wrap Go.IntKind.i64 (s6 + (1 : Int)))
                                                        (r4 ++
                                                          [AVA.mk (lower (List.drop (0 : Nat) (List.take (Int.toNat s7) (List.getD s5 (Int.toNat s6) []))))
                                                              (Option.getD
                                                                (unesc
                                                                  (List.drop (Int.toNat (Go.IntKind.wrap Go.IntKind.i64 (s7 + (1 : Int))))
                                                                    (List.take (List.length (List.getD s5 (Int.toNat s6) [])) (List.getD s5 (Int.toNat s6) []))))
                                                                [])])
                                                    else none
                                                  else none
                                                else none
                                              else none
                                            else none
                                          else none
                                      else none
                                    else none
                                  else none
                                else none
                              else none
                          else none
                        else none
                      else none
                  else none
                else none
            else none
          else none
        else none
      else none
    else
      bif decide ((0 : Int) ≤ s6) then
        bif decide (s6 < (↑(List.length s5) : Int)) then
          bif s7 == (↑(List.length (List.getD s5 (Int.toNat s6) [])) : Int) then some (V.tup [V.sl K.ava [], V.bool false], [])
          else
            bif decide ((0 : Int) ≤ s6) then
              bif decide (s6 < (↑(List.length s5) : Int)) then
                bif ok (List.getD s5 (Int.toNat s6) []) then
                  bif decide ((↑(List.length (cut (44 : Int) (List.getD s5 (Int.toNat s6) []))) : Int) > (1 : Int)) then some (V.tup [V.sl K.ava [], V.bool false], [])
                  else
                    bif decide ((0 : Int) ≤ s6) then
                      bif decide (s6 < (↑(List.length s5) : Int)) then
                        bif decide ((0 : Int) ≤ Go.IntKind.wrap Go.IntKind.i64 (s7 + (1 : Int))) then
                          bif decide (Go.IntKind.wrap Go.IntKind.i64 (s7 + (1 : Int)) ≤ (↑(List.length (List.getD s5 (Int.toNat s6) [])) : Int)) then
                            bif
                                ok
                                  (List.drop (Int.toNat (Go.IntKind.wrap Go.IntKind.i64 (s7 + (1 : Int))))
                                    (List.take (List.length (List.getD s5 (Int.toNat s6) [])) (List.getD s5 (Int.toNat s6) []))) then
                              bif
                                  !Option.isSome
                                      (unesc
                                        (List.drop (Int.toNat (Go.IntKind.wrap Go.IntKind.i64 (s7 + (1 : Int))))
                                          (List.take (List.length (List.getD s5 (Int.toNat s6) [])) (List.getD s5 (Int.toNat s6) [])))) then
                                some (V.tup [V.sl K.ava [], V.bool false], [])
                              else
                                bif decide ((0 : Int) ≤ s6) then
                                  bif decide (s6 < (↑(List.length s5) : Int)) then
                                    bif decide ((0 : Int) ≤ s7) then
                                      bif decide (s7 ≤ (↑(List.length (List.getD s5 (Int.toNat s6) [])) : Int)) then
                                        bif ok (List.drop (0 : Nat) (List.take (Int.toNat s7) (List.getD s5 (Int.toNat s6) []))) then
                                          bif
                                              Nat.ble
                                                (List.length r4 +
                                                  List.length
                                                    [AVA.mk (lower (List.drop (0 : Nat) (List.take (Int.toNat s7) (List.getD s5 (Int.toNat s6) []))))
                                                        (Option.getD
                                                          (unesc
                                                            (List.drop (Int.toNat (Go.IntKind.wrap Go.IntKind.i64 (s7 + (1 : Int))))
                                                              (List.take (List.length (List.getD s5 (Int.toNat s6) [])) (List.getD s5 (Int.toNat s6) []))))
                                                          [])])
                                                (1073741824 : Nat) then
                                            L98_4 n m4 s5 (Go.IntKind.wrap Go.IntKind.i64 (s6 + (1 : Int)))
                                              (r4 ++
                                                [AVA.mk (lower (List.drop (0 : Nat) (List.take (Int.toNat s7) (List.getD s5 (Int.toNat s6) []))))
                                                    (Option.getD
                                                      (unesc
                                                        (List.drop (Int.toNat (Go.IntKind.wrap Go.IntKind.i64 (s7 + (1 : Int))))
                                                          (List.take (List.length (List.getD s5 (Int.toNat s6) [])) (List.getD s5 (Int.toNat s6) []))))
                                                      [])])
                                          else none
                                        else none
                                      else none
                                    else none
                                  else none
                                else none
                            else none
                          else none
                        else none
                      else none
                    else none
                else none
              else none
            else none
        else none
      else none
  else none
else none := by kernel_rfl
theorem bd99 {T : Tab} (hC : OrcOk Tryz.prog T c99) (n : Nat) {args : List V} {outs : List (List V)} {r : V} {outs' : List (List V)} (h : evalBody E c99 99 Tryz.f99 n args outs = some (r, outs')) : Answers Tryz.prog T 99 args outs r outs' := body hC (by kernel_rfl) h
noncomputable def L99_4 (n m4 : Nat) (s0 : List (List AVA)) (s3 : Int) : Option (V × List (List V)) := loopOf E c99 99 Tryz.f99 n [1, 1, 0, 1, 1] m4 (hd [((0 : Nat), V.sl K.rdn s0), ((3 : Nat), V.int Go.IntKind.i64 s3)] [] [] [])
theorem ev99 (n : Nat) (d : List (List AVA)) : evalBody E c99 99 Tryz.f99 n [.sl .rdn d] [] =
  bif decide ((↑(List.length d) : Int) > (8 : Int)) then some (V.bool false, []) else L99_4 n n d (0 : Int) := by kernel_rfl
theorem rd99_4 (n  m4 : Nat) (s0 : List (List AVA)) (s3 : Int) : L99_4 n  (m4 + 1) s0 s3 =
  bif decide (s3 < (↑(List.length s0) : Int)) then
  bif decide ((0 : Int) ≤ s3) then
    bif decide (s3 < (↑(List.length s0) : Int)) then
      bif Nat.ble (List.length (List.getD s0 (Int.toNat s3) [])) (1000000000 : Nat) then
        bif !isRDN (List.getD s0 (Int.toNat s3) []) then some (V.bool false, []) else L99_4 n m4 s0 (Go.IntKind.wrap Go.IntKind.i64 (s3 + (1 : Int)))
      else none
    else none
  else none
else some (V.bool true, []) := by kernel_rfl
theorem bd83 {T : Tab} (hC : OrcOk Tryz.prog T c83) (n : Nat) {args : List V} {outs : List (List V)} {r : V} {outs' : List (List V)} (h : evalBody E c83 83 Tryz.f83 n args outs = some (r, outs')) : Answers Tryz.prog T 83 args outs r outs' := body hC (by kernel_rfl) h
noncomputable def L83_6 (n m6 : Nat) (s5 : List Str) (s6 : Int) (r4 : List (List AVA)) : Option (V × List (List V)) := loopOf E c83 83 Tryz.f83 n [1, 1, 1, 1, 0, 1, 1] m6 (hd [((4 : Nat), V.own (4 : Nat) (0 : Nat)), ((5 : Nat), V.sl K.str s5), ((6 : Nat), V.int Go.IntKind.i64 s6)] [] [((4 : Nat), some (Row.mk K.rdn r4))] [])
theorem ev83 (n : Nat) (s : Str) : evalBody E c83 83 Tryz.f83 n [.str s] [] =
  bif s == [] then some (V.tup [V.sl K.rdn [], V.bool true], []) else bif ok s then L83_6 n n (cut (44 : Int) s) (0 : Int) [] else none := by kernel_rfl
theorem rd83_6 (n  m6 : Nat) (s5 : List Str) (s6 : Int) (r4 : List (List AVA)) : L83_6 n  (m6 + 1) s5 s6 r4 =
  bif decide (s6 < (↑(List.length s5) : Int)) then
  bif decide ((0 : Int) ≤ s6) then
    bif decide (s6 < (↑(List.length s5) : Int)) then
      bif ok2 (List.getD s5 (Int.toNat s6) []) then
        bif !Option.isSome (parseRDN2 (List.getD s5 (Int.toNat s6) [])) then some (V.tup [V.sl K.rdn [], V.bool false], [])
        else
          bif Nat.ble (List.length r4 + List.length [Option.getD (parseRDN2 (List.getD s5 (Int.toNat s6) [])) []]) (1073741824 : Nat) then
            L83_6 n m6 s5 (Go.IntKind.wrap Go.IntKind.i64 (s6 + (1 : Int))) (r4 ++ [Option.getD (parseRDN2 (List.getD s5 (Int.toNat s6) [])) []])
          else none
      else none
    else none
  else none
else bif okDN r4 then bif !isDN r4 then some (V.tup [V.sl K.rdn [], V.bool false], []) else some (V.tup [V.sl K.rdn r4, V.bool true], []) else none := by kernel_rfl
theorem bd62 {T : Tab} (hC : OrcOk Tryz.prog T c62) (n : Nat) {args : List V} {outs : List (List V)} {r : V} {outs' : List (List V)} (h : evalBody E c62 62 Tryz.f62 n args outs = some (r, outs')) : Answers Tryz.prog T 62 args outs r outs' := body hC (by kernel_rfl) h
noncomputable def L62_9 (n m9 : Nat) (s1 : Str) (s7 : Bool) (s8 : Bool) (s9 : Int) (b5_ : Str) (b5'_ : Int) (b5''_ : Bool) : Option (V × List (List V)) := loopOf E c62 62 Tryz.f62 n [1, 1, 1, 1, 1, 1, 0, 1, 1] m9 (hd [((1 : Nat), V.str s1), ((5 : Nat), V.ptr (5 : Nat) (1 : Nat) (0 : Nat)), ((7 : Nat), V.bool s7), ((8 : Nat), V.bool s8), ((9 : Nat), V.int Go.IntKind.i64 s9)]
  [((5 : Nat), some [V.str b5_, V.int Go.IntKind.i64 b5'_, V.bool b5''_])] [] [])
theorem ev62 (n : Nat) (a v : Str) : evalBody E c62 62 Tryz.f62 n [.str a, .str v] [] =
  bif ok a then
  bif !Option.isSome (findT a) then some (V.int Go.IntKind.i64 (16 : Int), [])
  else
    bif decide ((↑(List.length v) : Int) < (1 : Int)) then some (V.int Go.IntKind.i64 (17 : Int), [])
    else
      bif decide ((↑(List.length v) : Int) > (60 : Int)) then some (V.int Go.IntKind.i64 (17 : Int), [])
      else L62_9 n n v true false (0 : Int) (Typ.name (Option.getD (findT a) noT)) (Typ.syn (Option.getD (findT a) noT)) (Typ.single (Option.getD (findT a) noT))
else none := by kernel_rfl
theorem rd62_9 (n  m9 : Nat) (s1 : Str) (s7 : Bool) (s8 : Bool) (s9 : Int) (b5_ : Str) (b5'_ : Int) (b5''_ : Bool) : L62_9 n  (m9 + 1) s1 s7 s8 s9 b5_ b5'_ b5''_ =
  bif decide (s9 < (↑(List.length s1) : Int)) then
  bif s7 then
    bif decide ((0 : Int) ≤ s9) then
      bif decide (s9 < (↑(List.length s1) : Int)) then
        bif decide ((↑(UInt8.toNat (List.getD s1 (Int.toNat s9) (0 : UInt8))) : Int) ≥ (32 : Int)) then
          bif decide ((0 : Int) ≤ s9) then
            bif decide (s9 < (↑(List.length s1) : Int)) then
              bif s8 then L62_9 n m9 s1 (decide ((↑(UInt8.toNat (List.getD s1 (Int.toNat s9) (0 : UInt8))) : Int) ≤ (126 : Int))) true (Go.IntKind.wrap Go.IntKind.i64 (s9 + (1 : Int))) b5_ b5'_ b5''_
              else
                bif decide ((0 : Int) ≤ s9) then
                  bif decide (s9 < (↑(List.length s1) : Int)) then
                    L62_9 n m9 s1 (decide ((↑(UInt8.toNat (List.getD s1 (Int.toNat s9) (0 : UInt8))) : Int) ≤ (126 : Int)))
                      ((↑(UInt8.toNat (List.getD s1 (Int.toNat s9) (0 : UInt8))) : Int) != (32 : Int)) (Go.IntKind.wrap Go.IntKind.i64 (s9 + (1 : Int))) b5_ b5'_ b5''_
                  else none
                else none
            else none
          else none
        else
          bif s8 then L62_9 n m9 s1 false true (Go.IntKind.wrap Go.IntKind.i64 (s9 + (1 : Int))) b5_ b5'_ b5''_
          else
            bif decide ((0 : Int) ≤ s9) then
              bif decide (s9 < (↑(List.length s1) : Int)) then
                L62_9 n m9 s1 false ((↑(UInt8.toNat (List.getD s1 (Int.toNat s9) (0 : UInt8))) : Int) != (32 : Int)) (Go.IntKind.wrap Go.IntKind.i64 (s9 + (1 : Int))) b5_ b5'_ b5''_
              else none
            else none
      else none
    else none
  else
    bif s8 then L62_9 n m9 s1 false true (Go.IntKind.wrap Go.IntKind.i64 (s9 + (1 : Int))) b5_ b5'_ b5''_
    else
      bif decide ((0 : Int) ≤ s9) then
        bif decide (s9 < (↑(List.length s1) : Int)) then
          L62_9 n m9 s1 false ((↑(UInt8.toNat (List.getD s1 (Int.toNat s9) (0 : UInt8))) : Int) != (32 : Int)) (Go.IntKind.wrap Go.IntKind.i64 (s9 + (1 : Int))) b5_ b5'_ b5''_
        else none
      else none
else
  bif b5'_ == (1 : Int) then bif s7 then bif !s8 then some (V.int Go.IntKind.i64 (17 : Int), []) else some (V.int Go.IntKind.i64 (0 : Int), []) else some (V.int Go.IntKind.i64 (17 : Int), [])
  else
    bif b5'_ == (3 : Int) then bif !isInt s1 then some (V.int Go.IntKind.i64 (17 : Int), []) else some (V.int Go.IntKind.i64 (0 : Int), [])
    else
      bif b5'_ == (4 : Int) then some (V.int Go.IntKind.i64 (0 : Int), [])
      else
        bif b5'_ == (5 : Int) then bif ok2 s1 then bif !Option.isSome (parse s1) then some (V.int Go.IntKind.i64 (17 : Int), []) else some (V.int Go.IntKind.i64 (0 : Int), []) else none
        else bif !s7 then some (V.int Go.IntKind.i64 (17 : Int), []) else some (V.int Go.IntKind.i64 (0 : Int), []) := by kernel_rfl
theorem bd33 {T : Tab} (hC : OrcOk Tryz.prog T c33) (n : Nat) {args : List V} {outs : List (List V)} {r : V} {outs' : List (List V)} (h : evalBody E c33 33 Tryz.f33 n args outs = some (r, outs')) : Answers Tryz.prog T 33 args outs r outs' := body hC (by kernel_rfl) h
noncomputable def L33_4 (n m4 : Nat) (s0 : List AVA) (s3 : Int) : Option (V × List (List V)) := loopOf E c33 33 Tryz.f33 n [1, 1, 0, 1, 1] m4 (hd [((0 : Nat), V.sl K.ava s0), ((3 : Nat), V.int Go.IntKind.i64 s3)] [] [] [])
theorem ev33 (n : Nat) (xs : List AVA) : evalBody E c33 33 Tryz.f33 n [.sl .ava xs] [] =
  bif Nat.ble (List.length xs) (1000000000 : Nat) then
  bif !isRDN xs then some (V.bool false, []) else bif decide ((↑(List.length xs) : Int) ≥ (4 : Int)) then some (V.bool false, []) else L33_4 n n xs (0 : Int)
else none := by kernel_rfl
theorem rd33_4 (n  m4 : Nat) (s0 : List AVA) (s3 : Int) : L33_4 n  (m4 + 1) s0 s3 =
  bif decide (s3 < (↑(List.length s0) : Int)) then
  bif decide ((0 : Int) ≤ s3) then
    bif decide (s3 < (↑(List.length s0) : Int)) then
      bif AVA.attr (List.getD s0 (Int.toNat s3) (AVA.mk [] [])) == [(101 : UInt8), (110 : UInt8), (116 : UInt8), (114 : UInt8), (121 : UInt8), (105 : UInt8), (100 : UInt8)] then
        some (V.bool false, [])
      else
        bif decide ((0 : Int) ≤ s3) then
          bif decide (s3 < (↑(List.length s0) : Int)) then
            bif decide ((0 : Int) ≤ s3) then
              bif decide (s3 < (↑(List.length s0) : Int)) then
                bif ok (AVA.attr (List.getD s0 (Int.toNat s3) (AVA.mk [] []))) && ok (AVA.value (List.getD s0 (Int.toNat s3) (AVA.mk [] []))) then
                  bif check (AVA.attr (List.getD s0 (Int.toNat s3) (AVA.mk [] []))) (AVA.value (List.getD s0 (Int.toNat s3) (AVA.mk [] []))) != (0 : Int) then some (V.bool false, [])
                  else L33_4 n m4 s0 (Go.IntKind.wrap Go.IntKind.i64 (s3 + (1 : Int)))
                else none
              else none
            else none
          else none
        else none
    else none
  else none
else some (V.bool true, []) := by kernel_rfl
theorem bd34 {T : Tab} (hC : OrcOk Tryz.prog T c34) (n : Nat) {args : List V} {outs : List (List V)} {r : V} {outs' : List (List V)} (h : evalBody E c34 34 Tryz.f34 n args outs = some (r, outs')) : Answers Tryz.prog T 34 args outs r outs' := body hC (by kernel_rfl) h
noncomputable def L34_2 (n m2 : Nat) (s0 : List Go.Ev.Mod) (s1 : Bool) (s5 : Int) : Option (V × List (List V)) := loopOf E c34 34 Tryz.f34 n [1, 0, 1, 1] m2 (hd [((0 : Nat), V.sl K.mod s0), ((1 : Nat), V.bool s1), ((5 : Nat), V.int Go.IntKind.i64 s5)] [] [] [])
noncomputable def L34_9 (n m2 m9 : Nat) (s0 : List Go.Ev.Mod) (s1 : Bool) (s5 : Int) (s9 : Int) (b6_ : Int) (b6'_ : Str) (b6''_ : List Str) : Option (V × List (List V)) := loopOf E c34 34 Tryz.f34 n [1, 0, 1, 1, m2 + 2, 1, 0, 1, 1, 1, 1, 1, 1] m9 (hd [((0 : Nat), V.sl K.mod s0), ((1 : Nat), V.bool s1), ((5 : Nat), V.int Go.IntKind.i64 s5), ((6 : Nat), V.ptr (6 : Nat) (1 : Nat) (0 : Nat)), ((9 : Nat), V.int Go.IntKind.i64 s9)]
  [((6 : Nat), some [V.int Go.IntKind.i64 b6_, V.str b6'_, V.sl K.str b6''_])] [((7002 : Nat), none)] [])
theorem ev34 (n : Nat) (l : List Mod) (only : Bool) : evalBody E c34 34 Tryz.f34 n [.sl .mod l, .bool only] [] =
  L34_2 n n l only (0 : Int) := by kernel_rfl
theorem rd34_2 (n  m2 : Nat) (s0 : List Go.Ev.Mod) (s1 : Bool) (s5 : Int) : L34_2 n  (m2 + 1) s0 s1 s5 =
  bif decide (s5 < (↑(List.length s0) : Int)) then
  bif decide ((0 : Int) ≤ s5) then
    bif decide (s5 < (↑(List.length s0) : Int)) then
      bif ok (Mod.attr (List.getD s0 (Int.toNat s5) (Go.Ev.Mod.mk (0 : Int) [] []))) then
        bif !Option.isSome (findT (Mod.attr (List.getD s0 (Int.toNat s5) (Go.Ev.Mod.mk (0 : Int) [] [])))) then some (V.bool false, [])
        else
          bif !Typ.name (Option.getD (findT (Mod.attr (List.getD s0 (Int.toNat s5) (Go.Ev.Mod.mk (0 : Int) [] [])))) noT) == Mod.attr (List.getD s0 (Int.toNat s5) (Go.Ev.Mod.mk (0 : Int) [] [])) then
            some (V.bool false, [])
          else
            bif
                Typ.name (Option.getD (findT (Mod.attr (List.getD s0 (Int.toNat s5) (Go.Ev.Mod.mk (0 : Int) [] [])))) noT) ==
                  [(101 : UInt8), (110 : UInt8), (116 : UInt8), (114 : UInt8), (121 : UInt8), (105 : UInt8), (100 : UInt8)] then
              some (V.bool false, [])
            else
              bif decide (Mod.kind (List.getD s0 (Int.toNat s5) (Go.Ev.Mod.mk (0 : Int) [] [])) < (1 : Int)) then some (V.bool false, [])
              else
                bif decide (Mod.kind (List.getD s0 (Int.toNat s5) (Go.Ev.Mod.mk (0 : Int) [] [])) > (3 : Int)) then some (V.bool false, [])
                else
                  bif s1 then
                    bif Mod.kind (List.getD s0 (Int.toNat s5) (Go.Ev.Mod.mk (0 : Int) [] [])) != (1 : Int) then some (V.bool false, [])
                    else
                      bif Mod.kind (List.getD s0 (Int.toNat s5) (Go.Ev.Mod.mk (0 : Int) [] [])) == (1 : Int) then
                        bif (↑(List.length (Mod.values (List.getD s0 (Int.toNat s5) (Go.Ev.Mod.mk (0 : Int) [] [])))) : Int) == (0 : Int) then some (V.bool false, [])
                        else
                          bif decide ((↑(List.length (Mod.values (List.getD s0 (Int.toNat s5) (Go.Ev.Mod.mk (0 : Int) [] [])))) : Int) > (12 : Int)) then some (V.bool false, [])
                          else
                            L34_9 n m2 n s0 s1 s5 (0 : Int) (Mod.kind (List.getD s0 (Int.toNat s5) (Go.Ev.Mod.mk (0 : Int) [] [])))
                              (Mod.attr (List.getD s0 (Int.toNat s5) (Go.Ev.Mod.mk (0 : Int) [] []))) (Mod.values (List.getD s0 (Int.toNat s5) (Go.Ev.Mod.mk (0 : Int) [] [])))
                      else
                        bif decide ((↑(List.length (Mod.values (List.getD s0 (Int.toNat s5) (Go.Ev.Mod.mk (0 : Int) [] [])))) : Int) > (12 : Int)) then some (V.bool false, [])
                        else
                          L34_9 n m2 n s0 s1 s5 (0 : Int) (Mod.kind (List.getD s0 (Int.toNat s5) (Go.Ev.Mod.mk (0 : Int) [] [])))
                            (Mod.attr (List.getD s0 (Int.toNat s5) (Go.Ev.Mod.mk (0 : Int) [] []))) (Mod.values (List.getD s0 (Int.toNat s5) (Go.Ev.Mod.mk (0 : Int) [] [])))
                  else
                    bif Mod.kind (List.getD s0 (Int.toNat s5) (Go.Ev.Mod.mk (0 : Int) [] [])) == (1 : Int) then
                      bif (↑(List.length (Mod.values (List.getD s0 (Int.toNat s5) (Go.Ev.Mod.mk (0 : Int) [] [])))) : Int) == (0 : Int) then some (V.bool false, [])
                      else
                        bif decide ((↑(List.length (Mod.values (List.getD s0 (Int.toNat s5) (Go.Ev.Mod.mk (0 : Int) [] [])))) : Int) > (12 : Int)) then some (V.bool false, [])
                        else
                          L34_9 n m2 n s0 s1 s5 (0 : Int) (Mod.kind (List.getD s0 (Int.toNat s5) (Go.Ev.Mod.mk (0 : Int) [] [])))
                            (Mod.attr (List.getD s0 (Int.toNat s5) (Go.Ev.Mod.mk (0 : Int) [] []))) (Mod.values (List.getD s0 (Int.toNat s5) (Go.Ev.Mod.mk (0 : Int) [] [])))
                    else
                      bif decide ((↑(List.length (Mod.values (List.getD s0 (Int.toNat s5) (Go.Ev.Mod.mk (0 : Int) [] [])))) : Int) > (12 : Int)) then some (V.bool false, [])
                      else
                        L34_9 n m2 n s0 s1 s5 (0 : Int) (Mod.kind (List.getD s0 (Int.toNat s5) (Go.Ev.Mod.mk (0 : Int) [] []))) (Mod.attr (List.getD s0 (Int.toNat s5) (Go.Ev.Mod.mk (0 : Int) [] [])))
                          (Mod.values (List.getD s0 (Int.toNat s5) (Go.Ev.Mod.mk (0 : Int) [] [])))
      else none
    else none
  else none
else some (V.bool (decide ((↑(List.length s0) : Int) ≤ (8 : Int))), []) := by kernel_rfl
theorem rd34_9 (n m2 m9 : Nat) (s0 : List Go.Ev.Mod) (s1 : Bool) (s5 : Int) (s9 : Int) (b6_ : Int) (b6'_ : Str) (b6''_ : List Str) : L34_9 n m2 (m9 + 1) s0 s1 s5 s9 b6_ b6'_ b6''_ =
  bif decide (s9 < (↑(List.length b6''_) : Int)) then
  bif decide ((0 : Int) ≤ s9) then
    bif decide (s9 < (↑(List.length b6''_) : Int)) then
      bif ok b6'_ && ok (List.getD b6''_ (Int.toNat s9) []) then
        bif check b6'_ (List.getD b6''_ (Int.toNat s9) []) != (0 : Int) then some (V.bool false, []) else L34_9 n m2 m9 s0 s1 s5 (Go.IntKind.wrap Go.IntKind.i64 (s9 + (1 : Int))) b6_ b6'_ b6''_
      else none
    else none
  else none
else L34_2 n m2 s0 s1 (Go.IntKind.wrap Go.IntKind.i64 (s5 + (1 : Int))) := by kernel_rfl
theorem bd30 {T : Tab} (hC : OrcOk Tryz.prog T c0) (n : Nat) {args : List V} {outs : List (List V)} {r : V} {outs' : List (List V)} (h : evalBody E c0 30 Tryz.f30 n args outs = some (r, outs')) : Answers Tryz.prog T 30 args outs r outs' := body hC (by kernel_rfl) h
theorem ev30 (n : Nat) (x : Csn) : evalBody E c0 30 Tryz.f30 n [.agg (Csn.cells x)] [] =
  bif decide (Csn.t x ≥ (0 : Int)) then
  bif decide (Csn.t x ≤ (1099511627776 : Int)) then
    bif decide (Csn.s x ≥ (0 : Int)) then
      bif decide (Csn.s x ≤ (65535 : Int)) then bif decide (Csn.r x ≥ (0 : Int)) then some (V.bool (decide (Csn.r x < (6 : Int))), []) else some (V.bool false, []) else some (V.bool false, [])
    else some (V.bool false, [])
  else some (V.bool false, [])
else some (V.bool false, []) := by kernel_rfl
theorem bd31 {T : Tab} (hC : OrcOk Tryz.prog T c0) (n : Nat) {args : List V} {outs : List (List V)} {r : V} {outs' : List (List V)} (h : evalBody E c0 31 Tryz.f31 n args outs = some (r, outs')) : Answers Tryz.prog T 31 args outs r outs' := body hC (by kernel_rfl) h
theorem ev31 (n : Nat) (x : Csn) : evalBody E c0 31 Tryz.f31 n [.agg (Csn.cells x)] [] =
  some (V.bool (Csn.t x == (0 : Int) && (Csn.s x == (0 : Int) && (Csn.r x == (0 : Int) && true))), []) := by kernel_rfl
theorem bd32 {T : Tab} (hC : OrcOk Tryz.prog T c0) (n : Nat) {args : List V} {outs : List (List V)} {r : V} {outs' : List (List V)} (h : evalBody E c0 32 Tryz.f32 n args outs = some (r, outs')) : Answers Tryz.prog T 32 args outs r outs' := body hC (by kernel_rfl) h
theorem ev32 (n : Nat) (x y : Csn) : evalBody E c0 32 Tryz.f32 n [.agg (Csn.cells x), .agg (Csn.cells y)] [] =
  bif decide (Csn.t x < Csn.t y) then some (V.int Go.IntKind.i64 (-1 : Int), [])
else
  bif Csn.t x == Csn.t y then
    bif decide (Csn.s x < Csn.s y) then some (V.int Go.IntKind.i64 (-1 : Int), [])
    else
      bif Csn.s x == Csn.s y then
        bif decide (Csn.r x < Csn.r y) then some (V.int Go.IntKind.i64 (-1 : Int), [])
        else bif Csn.t x == Csn.t y && (Csn.s x == Csn.s y && (Csn.r x == Csn.r y && true)) then some (V.int Go.IntKind.i64 (0 : Int), []) else some (V.int Go.IntKind.i64 (1 : Int), [])
      else bif Csn.t x == Csn.t y && (Csn.s x == Csn.s y && (Csn.r x == Csn.r y && true)) then some (V.int Go.IntKind.i64 (0 : Int), []) else some (V.int Go.IntKind.i64 (1 : Int), [])
  else bif Csn.t x == Csn.t y && (Csn.s x == Csn.s y && (Csn.r x == Csn.r y && true)) then some (V.int Go.IntKind.i64 (0 : Int), []) else some (V.int Go.IntKind.i64 (1 : Int), []) := by kernel_rfl
theorem bd11 {T : Tab} (hC : OrcOk Tryz.prog T c11) (n : Nat) {args : List V} {outs : List (List V)} {r : V} {outs' : List (List V)} (h : evalBody E c11 11 Tryz.f11 n args outs = some (r, outs')) : Answers Tryz.prog T 11 args outs r outs' := body hC (by kernel_rfl) h
theorem ev11 (n : Nat) (x : Chn) : evalBody E c11 11 Tryz.f11 n [.agg (Chn.cells x)] [] =
  bif !Csn.is (Csn.mk (Csn.t (Chn.c x)) (Csn.s (Chn.c x)) (Csn.r (Chn.c x))) then some (V.bool false, [])
else
  bif Csn.zero (Csn.mk (Csn.t (Chn.c x)) (Csn.s (Chn.c x)) (Csn.r (Chn.c x))) then some (V.bool false, [])
  else
    bif !Csn.is (Csn.mk (Csn.t (Chn.id x)) (Csn.s (Chn.id x)) (Csn.r (Chn.id x))) then some (V.bool false, [])
    else
      bif !Csn.is (Csn.mk (Csn.t (Chn.par x)) (Csn.s (Chn.par x)) (Csn.r (Chn.par x))) then some (V.bool false, [])
      else
        bif decide (Csn.cmp (Csn.mk (Csn.t (Chn.par x)) (Csn.s (Chn.par x)) (Csn.r (Chn.par x))) (Csn.mk (Csn.t (Chn.c x)) (Csn.s (Chn.c x)) (Csn.r (Chn.c x))) < (0 : Int)) then
          bif okAs (Chn.rdn x) then
            bif Csn.zero (Csn.mk (Csn.t (Chn.par x)) (Csn.s (Chn.par x)) (Csn.r (Chn.par x))) then
              bif Chn.kind x == (1 : Int) then
                bif Csn.t (Chn.id x) == Csn.t (Chn.c x) && (Csn.s (Chn.id x) == Csn.s (Chn.c x) && (Csn.r (Chn.id x) == Csn.r (Chn.c x) && true)) then
                  bif isRDNc (Chn.rdn x) then
                    bif !Chn.del x then bif okMs (Chn.mods x) then some (V.bool (isMods (bif true then (1 : Int) else (3 : Int)) (Chn.mods x)), []) else none else some (V.bool false, [])
                  else some (V.bool false, [])
                else some (V.bool false, [])
              else
                bif Chn.kind x == (2 : Int) then
                  bif decide (Csn.cmp (Csn.mk (Csn.t (Chn.id x)) (Csn.s (Chn.id x)) (Csn.r (Chn.id x))) (Csn.mk (Csn.t (Chn.c x)) (Csn.s (Chn.c x)) (Csn.r (Chn.c x))) < (0 : Int)) then
                    bif !Csn.zero (Csn.mk (Csn.t (Chn.id x)) (Csn.s (Chn.id x)) (Csn.r (Chn.id x))) then
                      bif (↑(List.length (Chn.rdn x)) : Int) == (0 : Int) then bif !Chn.del x then some (V.bool ((↑(List.length (Chn.mods x)) : Int) == (0 : Int)), []) else some (V.bool false, [])
                      else some (V.bool false, [])
                    else some (V.bool false, [])
                  else some (V.bool false, [])
                else
                  bif Chn.kind x == (3 : Int) then
                    bif decide (Csn.cmp (Csn.mk (Csn.t (Chn.id x)) (Csn.s (Chn.id x)) (Csn.r (Chn.id x))) (Csn.mk (Csn.t (Chn.c x)) (Csn.s (Chn.c x)) (Csn.r (Chn.c x))) < (0 : Int)) then
                      bif (↑(List.length (Chn.rdn x)) : Int) == (0 : Int) then
                        bif !Chn.del x then
                          bif decide ((↑(List.length (Chn.mods x)) : Int) > (0 : Int)) then
                            bif okMs (Chn.mods x) then some (V.bool (isMods (bif false then (1 : Int) else (3 : Int)) (Chn.mods x)), []) else none
                          else some (V.bool false, [])
                        else some (V.bool false, [])
                      else some (V.bool false, [])
                    else some (V.bool false, [])
                  else
                    bif Chn.kind x == (4 : Int) then
                      bif decide (Csn.cmp (Csn.mk (Csn.t (Chn.id x)) (Csn.s (Chn.id x)) (Csn.r (Chn.id x))) (Csn.mk (Csn.t (Chn.c x)) (Csn.s (Chn.c x)) (Csn.r (Chn.c x))) < (0 : Int)) then
                        bif !Csn.zero (Csn.mk (Csn.t (Chn.id x)) (Csn.s (Chn.id x)) (Csn.r (Chn.id x))) then
                          bif isRDNc (Chn.rdn x) then some (V.bool ((↑(List.length (Chn.mods x)) : Int) == (0 : Int)), []) else some (V.bool false, [])
                        else some (V.bool false, [])
                      else some (V.bool false, [])
                    else some (V.bool false, [])
            else
              bif Chn.kind x == (1 : Int) then
                bif Csn.t (Chn.id x) == Csn.t (Chn.c x) && (Csn.s (Chn.id x) == Csn.s (Chn.c x) && (Csn.r (Chn.id x) == Csn.r (Chn.c x) && true)) then
                  bif isRDNc (Chn.rdn x) then
                    bif !Chn.del x then bif okMs (Chn.mods x) then some (V.bool (isMods (bif true then (1 : Int) else (3 : Int)) (Chn.mods x)), []) else none else some (V.bool false, [])
                  else some (V.bool false, [])
                else some (V.bool false, [])
              else
                bif Chn.kind x == (2 : Int) then
                  bif decide (Csn.cmp (Csn.mk (Csn.t (Chn.id x)) (Csn.s (Chn.id x)) (Csn.r (Chn.id x))) (Csn.mk (Csn.t (Chn.c x)) (Csn.s (Chn.c x)) (Csn.r (Chn.c x))) < (0 : Int)) then
                    bif !Csn.zero (Csn.mk (Csn.t (Chn.id x)) (Csn.s (Chn.id x)) (Csn.r (Chn.id x))) then some (V.bool false, []) else some (V.bool false, [])
                  else some (V.bool false, [])
                else
                  bif Chn.kind x == (3 : Int) then
                    bif decide (Csn.cmp (Csn.mk (Csn.t (Chn.id x)) (Csn.s (Chn.id x)) (Csn.r (Chn.id x))) (Csn.mk (Csn.t (Chn.c x)) (Csn.s (Chn.c x)) (Csn.r (Chn.c x))) < (0 : Int)) then
                      some (V.bool false, [])
                    else some (V.bool false, [])
                  else
                    bif Chn.kind x == (4 : Int) then
                      bif decide (Csn.cmp (Csn.mk (Csn.t (Chn.id x)) (Csn.s (Chn.id x)) (Csn.r (Chn.id x))) (Csn.mk (Csn.t (Chn.c x)) (Csn.s (Chn.c x)) (Csn.r (Chn.c x))) < (0 : Int)) then
                        bif !Csn.zero (Csn.mk (Csn.t (Chn.id x)) (Csn.s (Chn.id x)) (Csn.r (Chn.id x))) then
                          bif isRDNc (Chn.rdn x) then some (V.bool ((↑(List.length (Chn.mods x)) : Int) == (0 : Int)), []) else some (V.bool false, [])
                        else some (V.bool false, [])
                      else some (V.bool false, [])
                    else some (V.bool false, [])
          else none
        else
          bif Csn.zero (Csn.mk (Csn.t (Chn.par x)) (Csn.s (Chn.par x)) (Csn.r (Chn.par x))) then
            bif Chn.kind x == (1 : Int) then
              bif Csn.t (Chn.id x) == Csn.t (Chn.c x) && (Csn.s (Chn.id x) == Csn.s (Chn.c x) && (Csn.r (Chn.id x) == Csn.r (Chn.c x) && true)) then some (V.bool false, [])
              else some (V.bool false, [])
            else
              bif Chn.kind x == (2 : Int) then
                bif decide (Csn.cmp (Csn.mk (Csn.t (Chn.id x)) (Csn.s (Chn.id x)) (Csn.r (Chn.id x))) (Csn.mk (Csn.t (Chn.c x)) (Csn.s (Chn.c x)) (Csn.r (Chn.c x))) < (0 : Int)) then
                  bif !Csn.zero (Csn.mk (Csn.t (Chn.id x)) (Csn.s (Chn.id x)) (Csn.r (Chn.id x))) then
                    bif (↑(List.length (Chn.rdn x)) : Int) == (0 : Int) then bif !Chn.del x then some (V.bool ((↑(List.length (Chn.mods x)) : Int) == (0 : Int)), []) else some (V.bool false, [])
                    else some (V.bool false, [])
                  else some (V.bool false, [])
                else some (V.bool false, [])
              else
                bif Chn.kind x == (3 : Int) then
                  bif decide (Csn.cmp (Csn.mk (Csn.t (Chn.id x)) (Csn.s (Chn.id x)) (Csn.r (Chn.id x))) (Csn.mk (Csn.t (Chn.c x)) (Csn.s (Chn.c x)) (Csn.r (Chn.c x))) < (0 : Int)) then
                    bif (↑(List.length (Chn.rdn x)) : Int) == (0 : Int) then
                      bif !Chn.del x then
                        bif decide ((↑(List.length (Chn.mods x)) : Int) > (0 : Int)) then
                          bif okMs (Chn.mods x) then some (V.bool (isMods (bif false then (1 : Int) else (3 : Int)) (Chn.mods x)), []) else none
                        else some (V.bool false, [])
                      else some (V.bool false, [])
                    else some (V.bool false, [])
                  else some (V.bool false, [])
                else
                  bif Chn.kind x == (4 : Int) then
                    bif decide (Csn.cmp (Csn.mk (Csn.t (Chn.id x)) (Csn.s (Chn.id x)) (Csn.r (Chn.id x))) (Csn.mk (Csn.t (Chn.c x)) (Csn.s (Chn.c x)) (Csn.r (Chn.c x))) < (0 : Int)) then
                      bif !Csn.zero (Csn.mk (Csn.t (Chn.id x)) (Csn.s (Chn.id x)) (Csn.r (Chn.id x))) then some (V.bool false, []) else some (V.bool false, [])
                    else some (V.bool false, [])
                  else some (V.bool false, [])
          else
            bif Chn.kind x == (1 : Int) then
              bif Csn.t (Chn.id x) == Csn.t (Chn.c x) && (Csn.s (Chn.id x) == Csn.s (Chn.c x) && (Csn.r (Chn.id x) == Csn.r (Chn.c x) && true)) then some (V.bool false, [])
              else some (V.bool false, [])
            else
              bif Chn.kind x == (2 : Int) then
                bif decide (Csn.cmp (Csn.mk (Csn.t (Chn.id x)) (Csn.s (Chn.id x)) (Csn.r (Chn.id x))) (Csn.mk (Csn.t (Chn.c x)) (Csn.s (Chn.c x)) (Csn.r (Chn.c x))) < (0 : Int)) then
                  bif !Csn.zero (Csn.mk (Csn.t (Chn.id x)) (Csn.s (Chn.id x)) (Csn.r (Chn.id x))) then some (V.bool false, []) else some (V.bool false, [])
                else some (V.bool false, [])
              else
                bif Chn.kind x == (3 : Int) then
                  bif decide (Csn.cmp (Csn.mk (Csn.t (Chn.id x)) (Csn.s (Chn.id x)) (Csn.r (Chn.id x))) (Csn.mk (Csn.t (Chn.c x)) (Csn.s (Chn.c x)) (Csn.r (Chn.c x))) < (0 : Int)) then
                    some (V.bool false, [])
                  else some (V.bool false, [])
                else
                  bif Chn.kind x == (4 : Int) then
                    bif decide (Csn.cmp (Csn.mk (Csn.t (Chn.id x)) (Csn.s (Chn.id x)) (Csn.r (Chn.id x))) (Csn.mk (Csn.t (Chn.c x)) (Csn.s (Chn.c x)) (Csn.r (Chn.c x))) < (0 : Int)) then
                      bif !Csn.zero (Csn.mk (Csn.t (Chn.id x)) (Csn.s (Chn.id x)) (Csn.r (Chn.id x))) then some (V.bool false, []) else some (V.bool false, [])
                    else some (V.bool false, [])
                  else some (V.bool false, []) := by kernel_rfl
theorem bd19 {T : Tab} (hC : OrcOk Tryz.prog T c0) (n : Nat) {args : List V} {outs : List (List V)} {r : V} {outs' : List (List V)} (h : evalBody E c0 19 Tryz.f19 n args outs = some (r, outs')) : Answers Tryz.prog T 19 args outs r outs' := body hC (by kernel_rfl) h
theorem ev19 (n : Nat) (t : Int) (s : Str) : evalBody E c0 19 Tryz.f19 n [.int .u8 t, .str s] [] =
  some (V.agg [V.int Go.IntKind.u8 t, V.str s, V.sl K.elem []], []) := by kernel_rfl
theorem bd20 {T : Tab} (hC : OrcOk Tryz.prog T c20) (n : Nat) {args : List V} {outs : List (List V)} {r : V} {outs' : List (List V)} (h : evalBody E c20 20 Tryz.f20 n args outs = some (r, outs')) : Answers Tryz.prog T 20 args outs r outs' := body hC (by kernel_rfl) h
theorem ev20 (n : Nat) (t i : Int) : evalBody E c20 20 Tryz.f20 n [.int .u8 t, .int .i64 i] [] =
  bif isI64 i then some (V.agg [V.int Go.IntKind.u8 t, V.str (intB i), V.sl K.elem []], []) else none := by kernel_rfl
theorem bd21 {T : Tab} (hC : OrcOk Tryz.prog T c0) (n : Nat) {args : List V} {outs : List (List V)} {r : V} {outs' : List (List V)} (h : evalBody E c0 21 Tryz.f21 n args outs = some (r, outs')) : Answers Tryz.prog T 21 args outs r outs' := body hC (by kernel_rfl) h
theorem ev21 (n : Nat) (t : Int) (l : List Elem) : evalBody E c0 21 Tryz.f21 n [.int .u8 t, .sl .elem l] [] =
  some (V.agg [V.int Go.IntKind.u8 t, V.str [], V.sl K.elem l], []) := by kernel_rfl
theorem bd46 {T : Tab} (hC : OrcOk Tryz.prog T c0) (n : Nat) {args : List V} {outs : List (List V)} {r : V} {outs' : List (List V)} (h : evalBody E c0 46 Tryz.f46 n args outs = some (r, outs')) : Answers Tryz.prog T 46 args outs r outs' := body hC (by kernel_rfl) h
noncomputable def L46_4 (n m4 : Nat) (s4 : Int) (r8 : List Int) : Option (V × List (List V)) := loopOf E c0 46 Tryz.f46 n [1, 1, 1, 1] m4 (hd [((3 : Nat), V.own (8 : Nat) (0 : Nat)), ((4 : Nat), V.int Go.IntKind.i64 s4)] [] [((8 : Nat), some (Row.mk K.byte r8)), ((25 : Nat), none), ((5025 : Nat), none)] [])
noncomputable def L46_4v1 (n m4 : Nat) (s4 : Int) (r25 : List Int) : Option (V × List (List V)) := loopOf E c0 46 Tryz.f46 n [1, 1, 1, 1] m4 (hd [((3 : Nat), V.own (25 : Nat) (0 : Nat)), ((4 : Nat), V.int Go.IntKind.i64 s4)] [] [((8 : Nat), none), ((25 : Nat), some (Row.mk K.byte r25)), ((5025 : Nat), none)] [])
noncomputable def L46_4v2 (n m4 : Nat) (s4 : Int) (r5025 : List Int) : Option (V × List (List V)) := loopOf E c0 46 Tryz.f46 n [1, 1, 1, 1] m4 (hd [((3 : Nat), V.own (5025 : Nat) (0 : Nat)), ((4 : Nat), V.int Go.IntKind.i64 s4)] [] [((8 : Nat), none), ((25 : Nat), none), ((5025 : Nat), some (Row.mk K.byte r5025))] [])
theorem ev46 (n : Nat) (i : Int) : evalBody E c0 46 Tryz.f46 n [.int .i64 i] [] =
  L46_4 n n (Int.fdiv i ((2 : Int) ^ (8 : Nat))) [Go.IntKind.wrap Go.IntKind.u8 i] := by kernel_rfl
theorem rd46_4 (n  m4 : Nat) (s4 : Int) (r8 : List Int) : L46_4 n  (m4 + 1) s4 r8 =
  bif decide ((0 : Int) < (↑(List.length r8) : Int)) then
  bif Go.IntKind.wrap Go.IntKind.u8 (↑(BitVec.toNat (BitVec.ofInt (8 : Nat) (List.getD r8 (0 : Nat) (0 : Int)) &&& BitVec.ofInt (8 : Nat) (128 : Int))) : Int) != (0 : Int) then
    bif s4 == (-1 : Int) then some (V.str (List.map (fun (n : Int) => UInt8.ofNat (Int.toNat n)) r8), [])
    else
      bif Nat.ble (List.length [Go.IntKind.wrap Go.IntKind.u8 s4] + List.length r8) (1073741824 : Nat) then
        L46_4v1 n m4 (Int.fdiv s4 ((2 : Int) ^ (8 : Nat))) ([Go.IntKind.wrap Go.IntKind.u8 s4] ++ r8)
      else none
  else
    bif s4 == (0 : Int) then some (V.str (List.map (fun (n : Int) => UInt8.ofNat (Int.toNat n)) r8), [])
    else
      bif Nat.ble (List.length [Go.IntKind.wrap Go.IntKind.u8 s4] + List.length r8) (1073741824 : Nat) then
        L46_4v1 n m4 (Int.fdiv s4 ((2 : Int) ^ (8 : Nat))) ([Go.IntKind.wrap Go.IntKind.u8 s4] ++ r8)
      else none
else none := by kernel_rfl
theorem rd46_4v1 (n  m4 : Nat) (s4 : Int) (r25 : List Int) : L46_4v1 n  (m4 + 1) s4 r25 =
  bif decide ((0 : Int) < (↑(List.length r25) : Int)) then
  bif Go.IntKind.wrap Go.IntKind.u8 (↑(BitVec.toNat (BitVec.ofInt (8 : Nat) (List.getD r25 (0 : Nat) (0 : Int)) &&& BitVec.ofInt (8 : Nat) (128 : Int))) : Int) != (0 : Int) then
    bif s4 == (-1 : Int) then some (V.str (List.map (fun (n : Int) => UInt8.ofNat (Int.toNat n)) r25), [])
    else
      bif Nat.ble (List.length [Go.IntKind.wrap Go.IntKind.u8 s4] + List.length r25) (1073741824 : Nat) then
        L46_4v2 n m4 (Int.fdiv s4 ((2 : Int) ^ (8 : Nat))) ([Go.IntKind.wrap Go.IntKind.u8 s4] ++ r25)
      else none
  else
    bif s4 == (0 : Int) then some (V.str (List.map (fun (n : Int) => UInt8.ofNat (Int.toNat n)) r25), [])
    else
      bif Nat.ble (List.length [Go.IntKind.wrap Go.IntKind.u8 s4] + List.length r25) (1073741824 : Nat) then
        L46_4v2 n m4 (Int.fdiv s4 ((2 : Int) ^ (8 : Nat))) ([Go.IntKind.wrap Go.IntKind.u8 s4] ++ r25)
      else none
else none := by kernel_rfl
theorem rd46_4v2 (n  m4 : Nat) (s4 : Int) (r5025 : List Int) : L46_4v2 n  (m4 + 1) s4 r5025 =
  bif decide ((0 : Int) < (↑(List.length r5025) : Int)) then
  bif Go.IntKind.wrap Go.IntKind.u8 (↑(BitVec.toNat (BitVec.ofInt (8 : Nat) (List.getD r5025 (0 : Nat) (0 : Int)) &&& BitVec.ofInt (8 : Nat) (128 : Int))) : Int) != (0 : Int) then
    bif s4 == (-1 : Int) then some (V.str (List.map (fun (n : Int) => UInt8.ofNat (Int.toNat n)) r5025), [])
    else
      bif Nat.ble (List.length [Go.IntKind.wrap Go.IntKind.u8 s4] + List.length r5025) (1073741824 : Nat) then
        L46_4v1 n m4 (Int.fdiv s4 ((2 : Int) ^ (8 : Nat))) ([Go.IntKind.wrap Go.IntKind.u8 s4] ++ r5025)
      else none
  else
    bif s4 == (0 : Int) then some (V.str (List.map (fun (n : Int) => UInt8.ofNat (Int.toNat n)) r5025), [])
    else
      bif Nat.ble (List.length [Go.IntKind.wrap Go.IntKind.u8 s4] + List.length r5025) (1073741824 : Nat) then
        L46_4v1 n m4 (Int.fdiv s4 ((2 : Int) ^ (8 : Nat))) ([Go.IntKind.wrap Go.IntKind.u8 s4] ++ r5025)
      else none
else none := by kernel_rfl
theorem bd69 {T : Tab} (hC : OrcOk Tryz.prog T c0) (n : Nat) {args : List V} {outs : List (List V)} {r : V} {outs' : List (List V)} (h : evalBody E c0 69 Tryz.f69 n args outs = some (r, outs')) : Answers Tryz.prog T 69 args outs r outs' := body hC (by kernel_rfl) h
theorem ev69 (n : Nat) (i : Int) : evalBody E c0 69 Tryz.f69 n [.int .i64 i] [] =
  bif decide (i < (128 : Int)) then some (V.str (List.map (fun (n : Int) => UInt8.ofNat (Int.toNat n)) [Go.IntKind.wrap Go.IntKind.u8 i]), [])
else
  bif decide (i < (256 : Int)) then some (V.str (List.map (fun (n : Int) => UInt8.ofNat (Int.toNat n)) [(129 : Int), Go.IntKind.wrap Go.IntKind.u8 i]), [])
  else some (V.str (List.map (fun (n : Int) => UInt8.ofNat (Int.toNat n)) [(130 : Int), Go.IntKind.wrap Go.IntKind.u8 (Int.fdiv i ((2 : Int) ^ (8 : Nat))), Go.IntKind.wrap Go.IntKind.u8 i]), []) := by kernel_rfl
theorem bd68 (d : Nat) {T : Tab} (hC : OrcOk Tryz.prog T (c68 d)) (n : Nat) {args : List V} {outs : List (List V)} {r : V} {outs' : List (List V)} (h : evalBody E (c68 d) 68 Tryz.f68 n args outs = some (r, outs')) : Answers Tryz.prog T 68 args outs r outs' := body hC (by kernel_rfl) h
theorem ev68 (d : Nat) (n : Nat) (t : Int) (b : Str) (k : List Elem) : evalBody E (c68 d) 68 Tryz.f68 n [.agg [.int .u8 t, .str b, .sl .elem k]] [] =
  bif inF d (Elem.mk t b k) then some (V.bool !formedF d (Elem.mk t b k), []) else none := by kernel_rfl
theorem bd90 (d : Nat) {T : Tab} (hC : OrcOk Tryz.prog T (c90 d)) (n : Nat) {args : List V} {outs : List (List V)} {r : V} {outs' : List (List V)} (h : evalBody E (c90 d) 90 Tryz.f90 n args outs = some (r, outs')) : Answers Tryz.prog T 90 args outs r outs' := body hC (by kernel_rfl) h
noncomputable def L90_2 (d : Nat) (n m2 : Nat) (s0 : List Elem) (s7 : Int) (s8 : Int) : Option (V × List (List V)) := loopOf E (c90 d) 90 Tryz.f90 n [1, 0, 1, 1] m2 (hd [((0 : Nat), V.sl K.elem s0), ((1 : Nat), V.fn (68 : Go.FuncId) []), ((7 : Nat), V.int Go.IntKind.i64 s7), ((8 : Nat), V.int Go.IntKind.i64 s8)] [] [] [])
theorem ev90 (d : Nat) (n : Nat) (l : List Elem) : evalBody E (c90 d) 90 Tryz.f90 n [.sl .elem l, .fn 68 []] [] =
  L90_2 d n n l (↑(List.length l) : Int) (0 : Int) := by kernel_rfl
theorem rd90_2 (d : Nat) (n  m2 : Nat) (s0 : List Elem) (s7 : Int) (s8 : Int) : L90_2 d n  (m2 + 1) s0 s7 s8 =
  bif decide (s8 < s7) then
  bif decide ((0 : Int) ≤ s8) then
    bif decide (s8 < (↑(List.length s0) : Int)) then
      bif
          inF d
            (Elem.mk (Elem.tag (List.getD s0 (Int.toNat s8) (Elem.mk (0 : Int) [] []))) (Elem.body (List.getD s0 (Int.toNat s8) (Elem.mk (0 : Int) [] [])))
              (Elem.kids (List.getD s0 (Int.toNat s8) (Elem.mk (0 : Int) [] [])))) then
        bif
            !formedF d
                (Elem.mk (Elem.tag (List.getD s0 (Int.toNat s8) (Elem.mk (0 : Int) [] []))) (Elem.body (List.getD s0 (Int.toNat s8) (Elem.mk (0 : Int) [] [])))
                  (Elem.kids (List.getD s0 (Int.toNat s8) (Elem.mk (0 : Int) [] [])))) then
          some (V.int Go.IntKind.i64 s8, [])
        else L90_2 d n m2 s0 s7 (Go.IntKind.wrap Go.IntKind.i64 (s8 + (1 : Int)))
      else none
    else none
  else none
else some (V.int Go.IntKind.i64 (-1 : Int), []) := by kernel_rfl
theorem bd67 (d : Nat) {T : Tab} (hC : OrcOk Tryz.prog T (c67 d)) (n : Nat) {args : List V} {outs : List (List V)} {r : V} {outs' : List (List V)} (h : evalBody E (c67 d) 67 Tryz.f67 n args outs = some (r, outs')) : Answers Tryz.prog T 67 args outs r outs' := body hC (by kernel_rfl) h
theorem ev67 (d : Nat) (n : Nat) (l : List Elem) : evalBody E (c67 d) 67 Tryz.f67 n [.sl .elem l, .fn 68 []] [] =
  bif Nat.ble (List.length l) (1000000000 : Nat) && List.all l (inF d) then some (V.bool (decide (ixOf (fun (e : Elem) => !formedF d e) l (0 : Nat) ≥ (0 : Int))), []) else none := by kernel_rfl
theorem bd47 (d : Nat) {T : Tab} (hC : OrcOk Tryz.prog T (c47 d)) (n : Nat) {args : List V} {outs : List (List V)} {r : V} {outs' : List (List V)} (h : evalBody E (c47 d) 47 Tryz.f47 n args outs = some (r, outs')) : Answers Tryz.prog T 47 args outs r outs' := body hC (by kernel_rfl) h
theorem ev47 (d : Nat) (n : Nat) (t : Int) (b : Str) (k : List Elem) : evalBody E (c47 d) 47 Tryz.f47 n [.agg [.int .u8 t, .str b, .sl .elem k]] [] =
  bif Go.IntKind.wrap Go.IntKind.u8 (↑(BitVec.toNat (BitVec.ofInt (8 : Nat) t &&& BitVec.ofInt (8 : Nat) (31 : Int))) : Int) == (31 : Int) then some (V.bool false, [])
else
  bif Go.IntKind.wrap Go.IntKind.u8 (↑(BitVec.toNat (BitVec.ofInt (8 : Nat) t &&& BitVec.ofInt (8 : Nat) (32 : Int))) : Int) == (0 : Int) then some (V.bool ((↑(List.length k) : Int) == (0 : Int)), [])
  else bif b == [] then bif Nat.ble (List.length k) (1000000000 : Nat) && List.all k (inF d) then some (V.bool !List.any k fun (e : Elem) => !formedF d e, []) else none else some (V.bool false, []) := by kernel_rfl
theorem bd48 (d : Nat) {T : Tab} (hC : OrcOk Tryz.prog T (c48 d)) (n : Nat) {args : List V} {outs : List (List V)} {r : V} {outs' : List (List V)} (h : evalBody E (c48 d) 48 Tryz.f48 n args outs = some (r, outs')) : Answers Tryz.prog T 48 args outs r outs' := body hC (by kernel_rfl) h
noncomputable def L48_3 (d : Nat) (n m3 : Nat) (s3 : Int) (s7 : List Elem) (s8 : Int) (s9 : Int) : Option (V × List (List V)) := loopOf E (c48 d) 48 Tryz.f48 n [1, 1, 0, 1, 1] m3 (hd [((3 : Nat), V.int Go.IntKind.i64 s3), ((7 : Nat), V.sl K.elem s7), ((8 : Nat), V.int Go.IntKind.i64 s8), ((9 : Nat), V.int Go.IntKind.i64 s9)] [] [] [])
theorem ev48 (d : Nat) (n : Nat) (t : Int) (b : Str) (k : List Elem) : evalBody E (c48 d) 48 Tryz.f48 n [.agg [.int .u8 t, .str b, .sl .elem k]] [] =
  L48_3 d n n (0 : Int) k (↑(List.length k) : Int) (0 : Int) := by kernel_rfl
theorem rd48_3 (d : Nat) (n  m3 : Nat) (s3 : Int) (s7 : List Elem) (s8 : Int) (s9 : Int) : L48_3 d n  (m3 + 1) s3 s7 s8 s9 =
  bif decide (s9 < s8) then
  bif decide ((0 : Int) ≤ s9) then
    bif decide (s9 < (↑(List.length s7) : Int)) then
      bif
          inF d
              (Elem.mk (Elem.tag (List.getD s7 (Int.toNat s9) (Elem.mk (0 : Int) [] []))) (Elem.body (List.getD s7 (Int.toNat s9) (Elem.mk (0 : Int) [] [])))
                (Elem.kids (List.getD s7 (Int.toNat s9) (Elem.mk (0 : Int) [] [])))) &&
            Nat.ble d (1000 : Nat) then
        L48_3 d n m3
          (bif
              decide
                (deepF d
                    (Elem.mk (Elem.tag (List.getD s7 (Int.toNat s9) (Elem.mk (0 : Int) [] []))) (Elem.body (List.getD s7 (Int.toNat s9) (Elem.mk (0 : Int) [] [])))
                      (Elem.kids (List.getD s7 (Int.toNat s9) (Elem.mk (0 : Int) [] [])))) >
                  s3) then
            deepF d
              (Elem.mk (Elem.tag (List.getD s7 (Int.toNat s9) (Elem.mk (0 : Int) [] []))) (Elem.body (List.getD s7 (Int.toNat s9) (Elem.mk (0 : Int) [] [])))
                (Elem.kids (List.getD s7 (Int.toNat s9) (Elem.mk (0 : Int) [] []))))
          else s3)
          s7 s8 (Go.IntKind.wrap Go.IntKind.i64 (s9 + (1 : Int)))
      else none
    else none
  else none
else some (V.int Go.IntKind.i64 (Go.IntKind.wrap Go.IntKind.i64 (s3 + (1 : Int))), []) := by kernel_rfl
theorem bd49 (d : Nat) {T : Tab} (hC : OrcOk Tryz.prog T (c49 d)) (n : Nat) {args : List V} {outs : List (List V)} {r : V} {outs' : List (List V)} (h : evalBody E (c49 d) 49 Tryz.f49 n args outs = some (r, outs')) : Answers Tryz.prog T 49 args outs r outs' := body hC (by kernel_rfl) h
noncomputable def L49_3 (d : Nat) (n m3 : Nat) (s13 : List Elem) (s14 : Int) (s15 : Int) (b1_ : Int) (b1'_ : Str) (b1''_ : List Elem) (r11 : List Int) : Option (V × List (List V)) := loopOf E (c49 d) 49 Tryz.f49 n [1, 1, 0, 1, 1] m3 (hd
  [((1 : Nat), V.ptr (1 : Nat) (1 : Nat) (0 : Nat)), ((4 : Nat), V.own (11 : Nat) (0 : Nat)), ((13 : Nat), V.sl K.elem s13), ((14 : Nat), V.int Go.IntKind.i64 s14),
    ((15 : Nat), V.int Go.IntKind.i64 s15)]
  [((1 : Nat), some [V.int Go.IntKind.u8 b1_, V.str b1'_, V.sl K.elem b1''_])] [((11 : Nat), some (Row.mk K.byte r11))] [])
theorem ev49 (d : Nat) (n : Nat) (t : Int) (b : Str) (k : List Elem) : evalBody E (c49 d) 49 Tryz.f49 n [.agg [.int .u8 t, .str b, .sl .elem k]] [] =
  L49_3 d n n k (↑(List.length k) : Int) (0 : Int) t b k (List.map (fun (c : UInt8) => (↑(UInt8.toNat c) : Int)) b) := by kernel_rfl
theorem rd49_3 (d : Nat) (n  m3 : Nat) (s13 : List Elem) (s14 : Int) (s15 : Int) (b1_ : Int) (b1'_ : Str) (b1''_ : List Elem) (r11 : List Int) : L49_3 d n  (m3 + 1) s13 s14 s15 b1_ b1'_ b1''_ r11 =
  bif decide (s15 < s14) then
  bif decide ((0 : Int) ≤ s15) then
    bif decide (s15 < (↑(List.length s13) : Int)) then
      bif
          inF d
            (Elem.mk (Elem.tag (List.getD s13 (Int.toNat s15) (Elem.mk (0 : Int) [] []))) (Elem.body (List.getD s13 (Int.toNat s15) (Elem.mk (0 : Int) [] [])))
              (Elem.kids (List.getD s13 (Int.toNat s15) (Elem.mk (0 : Int) [] [])))) then
        bif
            !Option.isSome
                (bytesF d
                  (Elem.mk (Elem.tag (List.getD s13 (Int.toNat s15) (Elem.mk (0 : Int) [] []))) (Elem.body (List.getD s13 (Int.toNat s15) (Elem.mk (0 : Int) [] [])))
                    (Elem.kids (List.getD s13 (Int.toNat s15) (Elem.mk (0 : Int) [] []))))) then
          some (V.tup [V.str [], V.bool false], [])
        else
          bif
              decide
                (Go.IntKind.wrap Go.IntKind.i64
                    ((↑(List.length r11) : Int) +
                      (↑(List.length
                            (Option.getD
                              (bytesF d
                                (Elem.mk (Elem.tag (List.getD s13 (Int.toNat s15) (Elem.mk (0 : Int) [] []))) (Elem.body (List.getD s13 (Int.toNat s15) (Elem.mk (0 : Int) [] [])))
                                  (Elem.kids (List.getD s13 (Int.toNat s15) (Elem.mk (0 : Int) [] [])))))
                              [])) :
                        Int)) >
                  (4000 : Int)) then
            some (V.tup [V.str [], V.bool false], [])
          else
            bif
                Nat.ble
                  (List.length r11 +
                    List.length
                      (List.map (fun (c : UInt8) => (↑(UInt8.toNat c) : Int))
                        (Option.getD
                          (bytesF d
                            (Elem.mk (Elem.tag (List.getD s13 (Int.toNat s15) (Elem.mk (0 : Int) [] []))) (Elem.body (List.getD s13 (Int.toNat s15) (Elem.mk (0 : Int) [] [])))
                              (Elem.kids (List.getD s13 (Int.toNat s15) (Elem.mk (0 : Int) [] [])))))
                          [])))
                  (1073741824 : Nat) then
              L49_3 d n m3 s13 s14 (Go.IntKind.wrap Go.IntKind.i64 (s15 + (1 : Int))) b1_ b1'_ b1''_
                (r11 ++
                  List.map (fun (c : UInt8) => (↑(UInt8.toNat c) : Int))
                    (Option.getD
                      (bytesF d
                        (Elem.mk (Elem.tag (List.getD s13 (Int.toNat s15) (Elem.mk (0 : Int) [] []))) (Elem.body (List.getD s13 (Int.toNat s15) (Elem.mk (0 : Int) [] [])))
                          (Elem.kids (List.getD s13 (Int.toNat s15) (Elem.mk (0 : Int) [] [])))))
                      []))
            else none
      else none
    else none
  else none
else
  bif decide ((↑(List.length r11) : Int) > (4000 : Int)) then some (V.tup [V.str [], V.bool false], [])
  else
    bif decide ((0 : Int) ≤ (↑(List.length r11) : Int)) && decide ((↑(List.length r11) : Int) ≤ (4000 : Int)) then
      bif Nat.ble (List.length (List.map (fun (n : Int) => UInt8.ofNat (Int.toNat n)) [b1_]) + List.length (lenB (Int.toNat (↑(List.length r11) : Int)))) (1099511627776 : Nat) then
        bif
            Nat.ble
              (List.length (List.map (fun (n : Int) => UInt8.ofNat (Int.toNat n)) [b1_] ++ lenB (Int.toNat (↑(List.length r11) : Int))) +
                List.length (List.map (fun (n : Int) => UInt8.ofNat (Int.toNat n)) r11))
              (1099511627776 : Nat) then
          some
            (V.tup
                [V.str (List.map (fun (n : Int) => UInt8.ofNat (Int.toNat n)) [b1_] ++ lenB (Int.toNat (↑(List.length r11) : Int)) ++ List.map (fun (n : Int) => UInt8.ofNat (Int.toNat n)) r11),
                  V.bool true],
              [])
        else none
      else none
    else none := by kernel_rfl
theorem bd22 (d : Nat) {T : Tab} (hC : OrcOk Tryz.prog T (c22 d)) (n : Nat) {args : List V} {outs : List (List V)} {r : V} {outs' : List (List V)} (h : evalBody E (c22 d) 22 Tryz.f22 n args outs = some (r, outs')) : Answers Tryz.prog T 22 args outs r outs' := body hC (by kernel_rfl) h
theorem ev22 (d : Nat) (n : Nat) (t : Int) (b : Str) (k : List Elem) : evalBody E (c22 d) 22 Tryz.f22 n [.agg [.int .u8 t, .str b, .sl .elem k]] [] =
  bif inF d (Elem.mk t b k) then
  bif !formedF d (Elem.mk t b k) then some (V.tup [V.str [], V.int Go.IntKind.i64 (14 : Int)], [])
  else
    bif inF d (Elem.mk t b k) && Nat.ble d (1000 : Nat) then
      bif decide (deepF d (Elem.mk t b k) > (20 : Int)) then some (V.tup [V.str [], V.int Go.IntKind.i64 (12 : Int)], [])
      else
        bif inF d (Elem.mk t b k) then
          bif !Option.isSome (bytesF d (Elem.mk t b k)) then some (V.tup [V.str [], V.int Go.IntKind.i64 (13 : Int)], [])
          else some (V.tup [V.str (Option.getD (bytesF d (Elem.mk t b k)) []), V.int Go.IntKind.i64 (0 : Int)], [])
        else none
    else none
else none := by kernel_rfl
theorem bd50 {T : Tab} (hC : OrcOk Tryz.prog T c50) (n : Nat) {args : List V} {outs : List (List V)} {r : V} {outs' : List (List V)} (h : evalBody E c50 50 Tryz.f50 n args outs = some (r, outs')) : Answers Tryz.prog T 50 args outs r outs' := body hC (by kernel_rfl) h
theorem ev50 (n : Nat) (x : Csn) : evalBody E c50 50 Tryz.f50 n [.agg (Csn.cells x)] [] =
  bif isI64 (Csn.t x) then
  bif Nat.ble (List.length (Go.Lib.itoa (Csn.t x)) + (1 : Nat)) (1099511627776 : Nat) then
    bif isI64 (Csn.s x) then
      bif Nat.ble (List.length (Go.Lib.itoa (Csn.t x) ++ [(46 : UInt8)]) + List.length (Go.Lib.itoa (Csn.s x))) (1099511627776 : Nat) then
        bif Nat.ble (List.length (Go.Lib.itoa (Csn.t x) ++ [(46 : UInt8)] ++ Go.Lib.itoa (Csn.s x)) + (1 : Nat)) (1099511627776 : Nat) then
          bif isI64 (Csn.r x) then
            bif Nat.ble (List.length (Go.Lib.itoa (Csn.t x) ++ [(46 : UInt8)] ++ Go.Lib.itoa (Csn.s x) ++ [(46 : UInt8)]) + List.length (Go.Lib.itoa (Csn.r x))) (1099511627776 : Nat) then
              some (V.str (Go.Lib.itoa (Csn.t x) ++ [(46 : UInt8)] ++ Go.Lib.itoa (Csn.s x) ++ [(46 : UInt8)] ++ Go.Lib.itoa (Csn.r x)), [])
            else none
          else none
        else none
      else none
    else none
  else none
else none := by kernel_rfl
theorem bd23 {T : Tab} (hC : OrcOk Tryz.prog T c23) (n : Nat) {args : List V} {outs : List (List V)} {r : V} {outs' : List (List V)} (h : evalBody E c23 23 Tryz.f23 n args outs = some (r, outs')) : Answers Tryz.prog T 23 args outs r outs' := body hC (by kernel_rfl) h
theorem ev23 (n : Nat) (x : Csn) : evalBody E c23 23 Tryz.f23 n [.agg (Csn.cells x)] [] =
  bif Csn.i64 (Csn.mk (Csn.t x) (Csn.s x) (Csn.r x)) then some (V.agg [V.int Go.IntKind.u8 (4 : Int), V.str (csnText (Csn.mk (Csn.t x) (Csn.s x) (Csn.r x))), V.sl K.elem []], []) else none := by kernel_rfl
theorem bd9 {T : Tab} (hC : OrcOk Tryz.prog T c9) (n : Nat) {args : List V} {outs : List (List V)} {r : V} {outs' : List (List V)} (h : evalBody E c9 9 Tryz.f9 n args outs = some (r, outs')) : Answers Tryz.prog T 9 args outs r outs' := body hC (by kernel_rfl) h
noncomputable def L9_5 (n m5 : Nat) (s20 : List AVA) (s21 : Int) (s22 : Int) (b1_ : Int) (b1'_ : Int) (b1''_ : Int) (b1'''_ : Int) (b1''''_ : Int) (b1'''''_ : Int) (b1''''''_ : Int) (b1'''''''_ : Int) (b1''''''''_ : Int) (b1'''''''''_ : Int) (b1''''''''''_ : List AVA) (b1'''''''''''_ : Bool) (b1''''''''''''_ : List Go.Ev.Mod) (r4 : List Elem) (r5 : List Elem) : Option (V × List (List V)) := loopOf E c9 9 Tryz.f9 n [1, 1, 1, 0, 1, 1] m5 (hd
  [((1 : Nat), V.ptr (1 : Nat) (1 : Nat) (0 : Nat)), ((4 : Nat), V.own (4 : Nat) (0 : Nat)), ((5 : Nat), V.own (5 : Nat) (0 : Nat)), ((20 : Nat), V.sl K.ava s20),
    ((21 : Nat), V.int Go.IntKind.i64 s21), ((22 : Nat), V.int Go.IntKind.i64 s22)]
  [((1 : Nat),
      some
        [V.int Go.IntKind.i64 b1_, V.int Go.IntKind.i64 b1'_, V.int Go.IntKind.i64 b1''_, V.int Go.IntKind.i64 b1'''_, V.int Go.IntKind.i64 b1''''_, V.int Go.IntKind.i64 b1'''''_,
          V.int Go.IntKind.i64 b1''''''_, V.int Go.IntKind.i64 b1'''''''_, V.int Go.IntKind.i64 b1''''''''_, V.int Go.IntKind.i64 b1'''''''''_, V.sl K.ava b1''''''''''_, V.bool b1'''''''''''_,
          V.sl K.mod b1''''''''''''_])]
  [((4 : Nat), some (Row.mk K.elem r4)), ((5 : Nat), some (Row.mk K.elem r5))] [])
noncomputable def L9_10 (n m10 : Nat) (s37 : List Go.Ev.Mod) (s38 : Int) (s39 : Int) (b1_ : Int) (b1'_ : Int) (b1''_ : Int) (b1'''_ : Int) (b1''''_ : Int) (b1'''''_ : Int) (b1''''''_ : Int) (b1'''''''_ : Int) (b1''''''''_ : Int) (b1'''''''''_ : Int) (b1''''''''''_ : List AVA) (b1'''''''''''_ : Bool) (b1''''''''''''_ : List Go.Ev.Mod) (r4 : List Elem) (r5 : List Elem) : Option (V × List (List V)) := loopOf E c9 9 Tryz.f9 n [1, 1, 1, 1, 0, 1, 1] m10 (hd
  [((1 : Nat), V.ptr (1 : Nat) (1 : Nat) (0 : Nat)), ((4 : Nat), V.own (4 : Nat) (0 : Nat)), ((5 : Nat), V.own (5 : Nat) (0 : Nat)), ((37 : Nat), V.sl K.mod s37),
    ((38 : Nat), V.int Go.IntKind.i64 s38), ((39 : Nat), V.int Go.IntKind.i64 s39)]
  [((1 : Nat),
      some
        [V.int Go.IntKind.i64 b1_, V.int Go.IntKind.i64 b1'_, V.int Go.IntKind.i64 b1''_, V.int Go.IntKind.i64 b1'''_, V.int Go.IntKind.i64 b1''''_, V.int Go.IntKind.i64 b1'''''_,
          V.int Go.IntKind.i64 b1''''''_, V.int Go.IntKind.i64 b1'''''''_, V.int Go.IntKind.i64 b1''''''''_, V.int Go.IntKind.i64 b1'''''''''_, V.sl K.ava b1''''''''''_, V.bool b1'''''''''''_,
          V.sl K.mod b1''''''''''''_])]
  [((4 : Nat), some (Row.mk K.elem r4)), ((5 : Nat), some (Row.mk K.elem r5))] [])
noncomputable def L9_14 (n m10 m14 : Nat) (s37 : List Go.Ev.Mod) (s38 : Int) (s39 : Int) (s51 : List Str) (s52 : Int) (s53 : Int) (b1_ : Int) (b1'_ : Int) (b1''_ : Int) (b1'''_ : Int) (b1''''_ : Int) (b1'''''_ : Int) (b1''''''_ : Int) (b1'''''''_ : Int) (b1''''''''_ : Int) (b1'''''''''_ : Int) (b1''''''''''_ : List AVA) (b1'''''''''''_ : Bool) (b1''''''''''''_ : List Go.Ev.Mod) (r4 : List Elem) (r5 : List Elem) (r49 : List Elem) : Option (V × List (List V)) := loopOf E c9 9 Tryz.f9 n [1, 1, 1, 1, 0, 1, 1, m10 + 2, 1, 1, 0, 1, 1, 1, 0, 1, 1] m14 (hd
  [((1 : Nat), V.ptr (1 : Nat) (1 : Nat) (0 : Nat)), ((4 : Nat), V.own (4 : Nat) (0 : Nat)), ((5 : Nat), V.own (5 : Nat) (0 : Nat)), ((10 : Nat), V.own (49 : Nat) (0 : Nat)),
    ((37 : Nat), V.sl K.mod s37), ((38 : Nat), V.int Go.IntKind.i64 s38), ((39 : Nat), V.int Go.IntKind.i64 s39), ((51 : Nat), V.sl K.str s51), ((52 : Nat), V.int Go.IntKind.i64 s52),
    ((53 : Nat), V.int Go.IntKind.i64 s53)]
  [((1 : Nat),
      some
        [V.int Go.IntKind.i64 b1_, V.int Go.IntKind.i64 b1'_, V.int Go.IntKind.i64 b1''_, V.int Go.IntKind.i64 b1'''_, V.int Go.IntKind.i64 b1''''_, V.int Go.IntKind.i64 b1'''''_,
          V.int Go.IntKind.i64 b1''''''_, V.int Go.IntKind.i64 b1'''''''_, V.int Go.IntKind.i64 b1''''''''_, V.int Go.IntKind.i64 b1'''''''''_, V.sl K.ava b1''''''''''_, V.bool b1'''''''''''_,
          V.sl K.mod b1''''''''''''_])]
  [((4 : Nat), some (Row.mk K.elem r4)), ((5 : Nat), some (Row.mk K.elem r5)), ((49 : Nat), some (Row.mk K.elem r49)), ((10002 : Nat), none)] [])
theorem ev9 (n : Nat) (x : Chn) : evalBody E c9 9 Tryz.f9 n [.agg (Chn.cells x)] [] =
  bif
    Chn.ok
      (Chn.mk (Csn.mk (Csn.t (Chn.c x)) (Csn.s (Chn.c x)) (Csn.r (Chn.c x))) (Chn.kind x) (Csn.mk (Csn.t (Chn.id x)) (Csn.s (Chn.id x)) (Csn.r (Chn.id x)))
        (Csn.mk (Csn.t (Chn.par x)) (Csn.s (Chn.par x)) (Csn.r (Chn.par x))) (Chn.rdn x) (Chn.del x) (Chn.mods x)) then
  bif
      !isChange
          (Chn.mk (Csn.mk (Csn.t (Chn.c x)) (Csn.s (Chn.c x)) (Csn.r (Chn.c x))) (Chn.kind x) (Csn.mk (Csn.t (Chn.id x)) (Csn.s (Chn.id x)) (Csn.r (Chn.id x)))
            (Csn.mk (Csn.t (Chn.par x)) (Csn.s (Chn.par x)) (Csn.r (Chn.par x))) (Chn.rdn x) (Chn.del x) (Chn.mods x)) then
    some (V.tup [V.str [], V.int Go.IntKind.i64 (14 : Int)], [])
  else
    L9_5 n n (Chn.rdn x) (↑(List.length (Chn.rdn x)) : Int) (0 : Int) (Csn.t (Chn.c x)) (Csn.s (Chn.c x)) (Csn.r (Chn.c x)) (Chn.kind x) (Csn.t (Chn.id x)) (Csn.s (Chn.id x)) (Csn.r (Chn.id x))
      (Csn.t (Chn.par x)) (Csn.s (Chn.par x)) (Csn.r (Chn.par x)) (Chn.rdn x) (Chn.del x) (Chn.mods x) [] []
else none := by kernel_rfl
theorem rd9_5 (n  m5 : Nat) (s20 : List AVA) (s21 : Int) (s22 : Int) (b1_ : Int) (b1'_ : Int) (b1''_ : Int) (b1'''_ : Int) (b1''''_ : Int) (b1'''''_ : Int) (b1''''''_ : Int) (b1'''''''_ : Int) (b1''''''''_ : Int) (b1'''''''''_ : Int) (b1''''''''''_ : List AVA) (b1'''''''''''_ : Bool) (b1''''''''''''_ : List Go.Ev.Mod) (r4 : List Elem) (r5 : List Elem) : L9_5 n  (m5 + 1) s20 s21 s22 b1_ b1'_ b1''_ b1'''_ b1''''_ b1'''''_ b1''''''_ b1'''''''_ b1''''''''_ b1'''''''''_ b1''''''''''_ b1'''''''''''_ b1''''''''''''_ r4 r5 =
  bif decide (s22 < s21) then
  bif decide ((0 : Int) ≤ s22) then
    bif decide (s22 < (↑(List.length s20) : Int)) then
      bif
          Nat.ble
            (List.length r4 +
              List.length [Elem.mk (4 : Int) (AVA.attr (List.getD s20 (Int.toNat s22) (AVA.mk [] []))) [], Elem.mk (4 : Int) (AVA.value (List.getD s20 (Int.toNat s22) (AVA.mk [] []))) []])
            (1073741824 : Nat) then
        L9_5 n m5 s20 s21 (Go.IntKind.wrap Go.IntKind.i64 (s22 + (1 : Int))) b1_ b1'_ b1''_ b1'''_ b1''''_ b1'''''_ b1''''''_ b1'''''''_ b1''''''''_ b1'''''''''_ b1''''''''''_ b1'''''''''''_
          b1''''''''''''_ (r4 ++ [Elem.mk (4 : Int) (AVA.attr (List.getD s20 (Int.toNat s22) (AVA.mk [] []))) [], Elem.mk (4 : Int) (AVA.value (List.getD s20 (Int.toNat s22) (AVA.mk [] []))) []]) r5
      else none
    else none
  else none
else
  L9_10 n n b1''''''''''''_ (↑(List.length b1''''''''''''_) : Int) (0 : Int) b1_ b1'_ b1''_ b1'''_ b1''''_ b1'''''_ b1''''''_ b1'''''''_ b1''''''''_ b1'''''''''_ b1''''''''''_ b1'''''''''''_
    b1''''''''''''_ r4 r5 := by kernel_rfl
theorem rd9_10 (n  m10 : Nat) (s37 : List Go.Ev.Mod) (s38 : Int) (s39 : Int) (b1_ : Int) (b1'_ : Int) (b1''_ : Int) (b1'''_ : Int) (b1''''_ : Int) (b1'''''_ : Int) (b1''''''_ : Int) (b1'''''''_ : Int) (b1''''''''_ : Int) (b1'''''''''_ : Int) (b1''''''''''_ : List AVA) (b1'''''''''''_ : Bool) (b1''''''''''''_ : List Go.Ev.Mod) (r4 : List Elem) (r5 : List Elem) : L9_10 n  (m10 + 1) s37 s38 s39 b1_ b1'_ b1''_ b1'''_ b1''''_ b1'''''_ b1''''''_ b1'''''''_ b1''''''''_ b1'''''''''_ b1''''''''''_ b1'''''''''''_ b1''''''''''''_ r4 r5 =
  bif decide (s39 < s38) then
  bif decide ((0 : Int) ≤ s39) then
    bif decide (s39 < (↑(List.length s37) : Int)) then
      bif isI64 (Mod.kind (List.getD s37 (Int.toNat s39) (Go.Ev.Mod.mk (0 : Int) [] []))) then
        L9_14 n m10 n s37 s38 s39 (Mod.values (List.getD s37 (Int.toNat s39) (Go.Ev.Mod.mk (0 : Int) [] [])))
          (↑(List.length (Mod.values (List.getD s37 (Int.toNat s39) (Go.Ev.Mod.mk (0 : Int) [] [])))) : Int) (0 : Int) b1_ b1'_ b1''_ b1'''_ b1''''_ b1'''''_ b1''''''_ b1'''''''_ b1''''''''_
          b1'''''''''_ b1''''''''''_ b1'''''''''''_ b1''''''''''''_ r4 r5
          [Elem.mk (2 : Int) (intB (Mod.kind (List.getD s37 (Int.toNat s39) (Go.Ev.Mod.mk (0 : Int) [] [])))) [],
            Elem.mk (4 : Int) (Mod.attr (List.getD s37 (Int.toNat s39) (Go.Ev.Mod.mk (0 : Int) [] []))) []]
      else none
    else none
  else none
else
  bif b1'''''''''''_ then
    bif isI64 (Go.IntKind.wrap Go.IntKind.i64 ((0 : Int) - b1'''_)) then
      bif Csn.i64 (Csn.mk b1_ b1'_ b1''_) then
        bif Csn.i64 (Csn.mk b1''''_ b1'''''_ b1''''''_) then
          bif Csn.i64 (Csn.mk b1'''''''_ b1''''''''_ b1'''''''''_) then
            bif
                inF (4 : Nat)
                    (Elem.mk (48 : Int) []
                      [Elem.mk (2 : Int) (intB (Go.IntKind.wrap Go.IntKind.i64 ((0 : Int) - b1'''_))) [], Elem.mk (4 : Int) (csnText (Csn.mk b1_ b1'_ b1''_)) [],
                        Elem.mk (4 : Int) (csnText (Csn.mk b1''''_ b1'''''_ b1''''''_)) [], Elem.mk (4 : Int) (csnText (Csn.mk b1'''''''_ b1''''''''_ b1'''''''''_)) [], Elem.mk (48 : Int) [] r4,
                        Elem.mk (48 : Int) [] r5]) &&
                  true then
              bif
                  Prod.snd
                      (writeF (4 : Nat)
                        (Elem.mk (48 : Int) []
                          [Elem.mk (2 : Int) (intB (Go.IntKind.wrap Go.IntKind.i64 ((0 : Int) - b1'''_))) [], Elem.mk (4 : Int) (csnText (Csn.mk b1_ b1'_ b1''_)) [],
                            Elem.mk (4 : Int) (csnText (Csn.mk b1''''_ b1'''''_ b1''''''_)) [], Elem.mk (4 : Int) (csnText (Csn.mk b1'''''''_ b1''''''''_ b1'''''''''_)) [], Elem.mk (48 : Int) [] r4,
                            Elem.mk (48 : Int) [] r5])) ==
                    (0 : Int) then
                bif
                    decide
                      ((↑(List.length
                              (Prod.fst
                                (writeF (4 : Nat)
                                  (Elem.mk (48 : Int) []
                                    [Elem.mk (2 : Int) (intB (Go.IntKind.wrap Go.IntKind.i64 ((0 : Int) - b1'''_))) [], Elem.mk (4 : Int) (csnText (Csn.mk b1_ b1'_ b1''_)) [],
                                      Elem.mk (4 : Int) (csnText (Csn.mk b1''''_ b1'''''_ b1''''''_)) [], Elem.mk (4 : Int) (csnText (Csn.mk b1'''''''_ b1''''''''_ b1'''''''''_)) [],
                                      Elem.mk (48 : Int) [] r4, Elem.mk (48 : Int) [] r5])))) :
                          Int) >
                        (4000 : Int)) then
                  some (V.tup [V.str [], V.int Go.IntKind.i64 (13 : Int)], [])
                else
                  some
                    (V.tup
                        [V.str
                            (Prod.fst
                              (writeF (4 : Nat)
                                (Elem.mk (48 : Int) []
                                  [Elem.mk (2 : Int) (intB (Go.IntKind.wrap Go.IntKind.i64 ((0 : Int) - b1'''_))) [], Elem.mk (4 : Int) (csnText (Csn.mk b1_ b1'_ b1''_)) [],
                                    Elem.mk (4 : Int) (csnText (Csn.mk b1''''_ b1'''''_ b1''''''_)) [], Elem.mk (4 : Int) (csnText (Csn.mk b1'''''''_ b1''''''''_ b1'''''''''_)) [],
                                    Elem.mk (48 : Int) [] r4, Elem.mk (48 : Int) [] r5]))),
                          V.int Go.IntKind.i64
                            (Prod.snd
                              (writeF (4 : Nat)
                                (Elem.mk (48 : Int) []
                                  [Elem.mk (2 : Int) (intB (Go.IntKind.wrap Go.IntKind.i64 ((0 : Int) - b1'''_))) [], Elem.mk (4 : Int) (csnText (Csn.mk b1_ b1'_ b1''_)) [],
                                    Elem.mk (4 : Int) (csnText (Csn.mk b1''''_ b1'''''_ b1''''''_)) [], Elem.mk (4 : Int) (csnText (Csn.mk b1'''''''_ b1''''''''_ b1'''''''''_)) [],
                                    Elem.mk (48 : Int) [] r4, Elem.mk (48 : Int) [] r5])))],
                      [])
              else
                some
                  (V.tup
                      [V.str
                          (Prod.fst
                            (writeF (4 : Nat)
                              (Elem.mk (48 : Int) []
                                [Elem.mk (2 : Int) (intB (Go.IntKind.wrap Go.IntKind.i64 ((0 : Int) - b1'''_))) [], Elem.mk (4 : Int) (csnText (Csn.mk b1_ b1'_ b1''_)) [],
                                  Elem.mk (4 : Int) (csnText (Csn.mk b1''''_ b1'''''_ b1''''''_)) [], Elem.mk (4 : Int) (csnText (Csn.mk b1'''''''_ b1''''''''_ b1'''''''''_)) [],
                                  Elem.mk (48 : Int) [] r4, Elem.mk (48 : Int) [] r5]))),
                        V.int Go.IntKind.i64
                          (Prod.snd
                            (writeF (4 : Nat)
                              (Elem.mk (48 : Int) []
                                [Elem.mk (2 : Int) (intB (Go.IntKind.wrap Go.IntKind.i64 ((0 : Int) - b1'''_))) [], Elem.mk (4 : Int) (csnText (Csn.mk b1_ b1'_ b1''_)) [],
                                  Elem.mk (4 : Int) (csnText (Csn.mk b1''''_ b1'''''_ b1''''''_)) [], Elem.mk (4 : Int) (csnText (Csn.mk b1'''''''_ b1''''''''_ b1'''''''''_)) [],
                                  Elem.mk (48 : Int) [] r4, Elem.mk (48 : Int) [] r5])))],
                    [])
            else none
          else none
        else none
      else none
    else none
  else
    bif isI64 b1'''_ then
      bif Csn.i64 (Csn.mk b1_ b1'_ b1''_) then
        bif Csn.i64 (Csn.mk b1''''_ b1'''''_ b1''''''_) then
          bif Csn.i64 (Csn.mk b1'''''''_ b1''''''''_ b1'''''''''_) then
            bif
                inF (4 : Nat)
                    (Elem.mk (48 : Int) []
                      [Elem.mk (2 : Int) (intB b1'''_) [], Elem.mk (4 : Int) (csnText (Csn.mk b1_ b1'_ b1''_)) [], Elem.mk (4 : Int) (csnText (Csn.mk b1''''_ b1'''''_ b1''''''_)) [],
                        Elem.mk (4 : Int) (csnText (Csn.mk b1'''''''_ b1''''''''_ b1'''''''''_)) [], Elem.mk (48 : Int) [] r4, Elem.mk (48 : Int) [] r5]) &&
                  true then
              bif
                  Prod.snd
                      (writeF (4 : Nat)
                        (Elem.mk (48 : Int) []
                          [Elem.mk (2 : Int) (intB b1'''_) [], Elem.mk (4 : Int) (csnText (Csn.mk b1_ b1'_ b1''_)) [], Elem.mk (4 : Int) (csnText (Csn.mk b1''''_ b1'''''_ b1''''''_)) [],
                            Elem.mk (4 : Int) (csnText (Csn.mk b1'''''''_ b1''''''''_ b1'''''''''_)) [], Elem.mk (48 : Int) [] r4, Elem.mk (48 : Int) [] r5])) ==
                    (0 : Int) then
                bif
                    decide
                      ((↑(List.length
                              (Prod.fst
                                (writeF (4 : Nat)
                                  (Elem.mk (48 : Int) []
                                    [Elem.mk (2 : Int) (intB b1'''_) [], Elem.mk (4 : Int) (csnText (Csn.mk b1_ b1'_ b1''_)) [], Elem.mk (4 : Int) (csnText (Csn.mk b1''''_ b1'''''_ b1''''''_)) [],
                                      Elem.mk (4 : Int) (csnText (Csn.mk b1'''''''_ b1''''''''_ b1'''''''''_)) [], Elem.mk (48 : Int) [] r4, Elem.mk (48 : Int) [] r5])))) :
                          Int) >
                        (4000 : Int)) then
                  some (V.tup [V.str [], V.int Go.IntKind.i64 (13 : Int)], [])
                else
                  some
                    (V.tup
                        [V.str
                            (Prod.fst
                              (writeF (4 : Nat)
                                (Elem.mk (48 : Int) []
                                  [Elem.mk (2 : Int) (intB b1'''_) [], Elem.mk (4 : Int) (csnText (Csn.mk b1_ b1'_ b1''_)) [], Elem.mk (4 : Int) (csnText (Csn.mk b1''''_ b1'''''_ b1''''''_)) [],
                                    Elem.mk (4 : Int) (csnText (Csn.mk b1'''''''_ b1''''''''_ b1'''''''''_)) [], Elem.mk (48 : Int) [] r4, Elem.mk (48 : Int) [] r5]))),
                          V.int Go.IntKind.i64
                            (Prod.snd
                              (writeF (4 : Nat)
                                (Elem.mk (48 : Int) []
                                  [Elem.mk (2 : Int) (intB b1'''_) [], Elem.mk (4 : Int) (csnText (Csn.mk b1_ b1'_ b1''_)) [], Elem.mk (4 : Int) (csnText (Csn.mk b1''''_ b1'''''_ b1''''''_)) [],
                                    Elem.mk (4 : Int) (csnText (Csn.mk b1'''''''_ b1''''''''_ b1'''''''''_)) [], Elem.mk (48 : Int) [] r4, Elem.mk (48 : Int) [] r5])))],
                      [])
              else
                some
                  (V.tup
                      [V.str
                          (Prod.fst
                            (writeF (4 : Nat)
                              (Elem.mk (48 : Int) []
                                [Elem.mk (2 : Int) (intB b1'''_) [], Elem.mk (4 : Int) (csnText (Csn.mk b1_ b1'_ b1''_)) [], Elem.mk (4 : Int) (csnText (Csn.mk b1''''_ b1'''''_ b1''''''_)) [],
                                  Elem.mk (4 : Int) (csnText (Csn.mk b1'''''''_ b1''''''''_ b1'''''''''_)) [], Elem.mk (48 : Int) [] r4, Elem.mk (48 : Int) [] r5]))),
                        V.int Go.IntKind.i64
                          (Prod.snd
                            (writeF (4 : Nat)
                              (Elem.mk (48 : Int) []
                                [Elem.mk (2 : Int) (intB b1'''_) [], Elem.mk (4 : Int) (csnText (Csn.mk b1_ b1'_ b1''_)) [], Elem.mk (4 : Int) (csnText (Csn.mk b1''''_ b1'''''_ b1''''''_)) [],
                                  Elem.mk (4 : Int) (csnText (Csn.mk b1'''''''_ b1''''''''_ b1'''''''''_)) [], Elem.mk (48 : Int) [] r4, Elem.mk (48 : Int) [] r5])))],
                    [])
            else none
          else none
        else none
      else none
    else none := by kernel_rfl
theorem rd9_14 (n m10 m14 : Nat) (s37 : List Go.Ev.Mod) (s38 : Int) (s39 : Int) (s51 : List Str) (s52 : Int) (s53 : Int) (b1_ : Int) (b1'_ : Int) (b1''_ : Int) (b1'''_ : Int) (b1''''_ : Int) (b1'''''_ : Int) (b1''''''_ : Int) (b1'''''''_ : Int) (b1''''''''_ : Int) (b1'''''''''_ : Int) (b1''''''''''_ : List AVA) (b1'''''''''''_ : Bool) (b1''''''''''''_ : List Go.Ev.Mod) (r4 : List Elem) (r5 : List Elem) (r49 : List Elem) : L9_14 n m10 (m14 + 1) s37 s38 s39 s51 s52 s53 b1_ b1'_ b1''_ b1'''_ b1''''_ b1'''''_ b1''''''_ b1'''''''_ b1''''''''_ b1'''''''''_ b1''''''''''_ b1'''''''''''_ b1''''''''''''_ r4 r5 r49 =
  bif decide (s53 < s52) then
  bif decide ((0 : Int) ≤ s53) then
    bif decide (s53 < (↑(List.length s51) : Int)) then
      bif Nat.ble (List.length r49 + List.length [Elem.mk (4 : Int) (List.getD s51 (Int.toNat s53) []) []]) (1073741824 : Nat) then
        L9_14 n m10 m14 s37 s38 s39 s51 s52 (Go.IntKind.wrap Go.IntKind.i64 (s53 + (1 : Int))) b1_ b1'_ b1''_ b1'''_ b1''''_ b1'''''_ b1''''''_ b1'''''''_ b1''''''''_ b1'''''''''_ b1''''''''''_
          b1'''''''''''_ b1''''''''''''_ r4 r5 (r49 ++ [Elem.mk (4 : Int) (List.getD s51 (Int.toNat s53) []) []])
      else none
    else none
  else none
else
  bif Nat.ble (List.length r5 + List.length [Elem.mk (48 : Int) [] r49]) (1073741824 : Nat) then
    L9_10 n m10 s37 s38 (Go.IntKind.wrap Go.IntKind.i64 (s39 + (1 : Int))) b1_ b1'_ b1''_ b1'''_ b1''''_ b1'''''_ b1''''''_ b1'''''''_ b1''''''''_ b1'''''''''_ b1''''''''''_ b1'''''''''''_
      b1''''''''''''_ r4 (r5 ++ [Elem.mk (48 : Int) [] r49])
  else none := by kernel_rfl
end Go.Ev
