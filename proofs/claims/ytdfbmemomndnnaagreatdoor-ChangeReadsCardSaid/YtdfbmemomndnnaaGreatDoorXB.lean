/-
  What single functions of the program compute, region by region, as the evaluator tells it: printed by a program (tools/YtreeTool) and checked here.
-/
import Derived.Test.YtdfbmemomndnnaaGreatDoorXA
namespace Go.Ev
open Go.Proofs Go.Ev.Sp
theorem bd86 {T : Tab} (hC : OrcOk Tryz.prog T c0) (n : Nat) {args : List V} {outs : List (List V)} {r : V} {outs' : List (List V)} (h : evalBody E c0 86 Tryz.f86 n args outs = some (r, outs')) : Answers Tryz.prog T 86 args outs r outs' := body hC (by kernel_rfl) h
noncomputable def L86_17 (n m17 : Nat) (s5 : Int) (s6 : Int) (s43 : Int) (s44 : Int) (r42 : List Int) : Option (V × List (List V)) := loopOf E c0 86 Tryz.f86 n [1, 1, 1, 1, 1, 1, 0, 1, 0, 1, 1, 1, 1, 1, 1, 1] m17 (hd
  [((5 : Nat), V.int Go.IntKind.i64 s5), ((6 : Nat), V.int Go.IntKind.i64 s6), ((42 : Nat), V.own (42 : Nat) (0 : Nat)), ((43 : Nat), V.int Go.IntKind.i64 s43), ((44 : Nat), V.int Go.IntKind.i64 s44)]
  [] [((42 : Nat), some (Row.mk K.byte r42))] [])
theorem ev86 (n : Nat) (s : Str) : evalBody E c0 86 Tryz.f86 n [.str s] [] =
  bif s == [] then some (V.tup [V.int Go.IntKind.i64 (0 : Int), V.int Go.IntKind.i64 (0 : Int), V.int Go.IntKind.i64 (10 : Int)], [])
else
  bif decide ((0 : Int) < (↑(List.length s) : Int)) then
    bif
        Go.IntKind.wrap Go.IntKind.u8 (↑(BitVec.toNat (BitVec.ofInt (8 : Nat) (↑(UInt8.toNat (List.getD s (0 : Nat) (0 : UInt8))) : Int) &&& BitVec.ofInt (8 : Nat) (31 : Int))) : Int) ==
          (31 : Int) then
      some (V.tup [V.int Go.IntKind.i64 (0 : Int), V.int Go.IntKind.i64 (0 : Int), V.int Go.IntKind.i64 (14 : Int)], [])
    else
      bif (↑(List.length s) : Int) == (1 : Int) then some (V.tup [V.int Go.IntKind.i64 (0 : Int), V.int Go.IntKind.i64 (0 : Int), V.int Go.IntKind.i64 (10 : Int)], [])
      else
        bif decide ((1 : Int) < (↑(List.length s) : Int)) then
          bif Go.IntKind.wrap Go.IntKind.i64 (↑(UInt8.toNat (List.getD s (1 : Nat) (0 : UInt8))) : Int) == (128 : Int) then
            some (V.tup [V.int Go.IntKind.i64 (0 : Int), V.int Go.IntKind.i64 (0 : Int), V.int Go.IntKind.i64 (11 : Int)], [])
          else
            bif decide (Go.IntKind.wrap Go.IntKind.i64 (↑(UInt8.toNat (List.getD s (1 : Nat) (0 : UInt8))) : Int) > (132 : Int)) then
              some (V.tup [V.int Go.IntKind.i64 (0 : Int), V.int Go.IntKind.i64 (0 : Int), V.int Go.IntKind.i64 (11 : Int)], [])
            else
              bif decide (Go.IntKind.wrap Go.IntKind.i64 (↑(UInt8.toNat (List.getD s (1 : Nat) (0 : UInt8))) : Int) > (128 : Int)) then
                bif
                    decide
                      ((↑(List.length s) : Int) <
                        Go.IntKind.wrap Go.IntKind.i64
                          ((2 : Int) + Go.IntKind.wrap Go.IntKind.i64 (Go.IntKind.wrap Go.IntKind.i64 (↑(UInt8.toNat (List.getD s (1 : Nat) (0 : UInt8))) : Int) - (128 : Int)))) then
                  some (V.tup [V.int Go.IntKind.i64 (0 : Int), V.int Go.IntKind.i64 (0 : Int), V.int Go.IntKind.i64 (10 : Int)], [])
                else
                  bif
                      decide
                        ((0 : Int) ≤
                          Go.IntKind.wrap Go.IntKind.i64
                            ((2 : Int) + Go.IntKind.wrap Go.IntKind.i64 (Go.IntKind.wrap Go.IntKind.i64 (↑(UInt8.toNat (List.getD s (1 : Nat) (0 : UInt8))) : Int) - (128 : Int)))) then
                    bif
                        decide
                          (Go.IntKind.wrap Go.IntKind.i64
                              ((2 : Int) + Go.IntKind.wrap Go.IntKind.i64 (Go.IntKind.wrap Go.IntKind.i64 (↑(UInt8.toNat (List.getD s (1 : Nat) (0 : UInt8))) : Int) - (128 : Int))) ≤
                            (↑(List.length s) : Int)) then
                      bif
                          decide
                            ((2 : Int) ≤
                              (↑(Int.toNat
                                    (Go.IntKind.wrap Go.IntKind.i64
                                      ((2 : Int) + Go.IntKind.wrap Go.IntKind.i64 (Go.IntKind.wrap Go.IntKind.i64 (↑(UInt8.toNat (List.getD s (1 : Nat) (0 : UInt8))) : Int) - (128 : Int))))) :
                                Int)) then
                        L86_17 n n (0 : Int) (Go.IntKind.wrap Go.IntKind.i64 (Go.IntKind.wrap Go.IntKind.i64 (↑(UInt8.toNat (List.getD s (1 : Nat) (0 : UInt8))) : Int) - (128 : Int)))
                          (↑(List.length
                                (List.map (fun (c : UInt8) => (↑(UInt8.toNat c) : Int))
                                  (List.drop (2 : Nat)
                                    (List.take
                                      (Int.toNat
                                        (Go.IntKind.wrap Go.IntKind.i64
                                          ((2 : Int) + Go.IntKind.wrap Go.IntKind.i64 (Go.IntKind.wrap Go.IntKind.i64 (↑(UInt8.toNat (List.getD s (1 : Nat) (0 : UInt8))) : Int) - (128 : Int)))))
                                      s)))) :
                            Int)
                          (0 : Int)
                          (List.map (fun (c : UInt8) => (↑(UInt8.toNat c) : Int))
                            (List.drop (2 : Nat)
                              (List.take
                                (Int.toNat
                                  (Go.IntKind.wrap Go.IntKind.i64
                                    ((2 : Int) + Go.IntKind.wrap Go.IntKind.i64 (Go.IntKind.wrap Go.IntKind.i64 (↑(UInt8.toNat (List.getD s (1 : Nat) (0 : UInt8))) : Int) - (128 : Int)))))
                                s)))
                      else none
                    else none
                  else none
              else
                bif decide (Go.IntKind.wrap Go.IntKind.i64 (↑(UInt8.toNat (List.getD s (1 : Nat) (0 : UInt8))) : Int) > (4000 : Int)) then
                  some (V.tup [V.int Go.IntKind.i64 (0 : Int), V.int Go.IntKind.i64 (0 : Int), V.int Go.IntKind.i64 (13 : Int)], [])
                else
                  some
                    (V.tup
                        [V.int Go.IntKind.i64 (Go.IntKind.wrap Go.IntKind.i64 ((2 : Int) + (0 : Int))),
                          V.int Go.IntKind.i64 (Go.IntKind.wrap Go.IntKind.i64 (↑(UInt8.toNat (List.getD s (1 : Nat) (0 : UInt8))) : Int)), V.int Go.IntKind.i64 (0 : Int)],
                      [])
        else none
  else none := by kernel_rfl
theorem rd86_17 (n  m17 : Nat) (s5 : Int) (s6 : Int) (s43 : Int) (s44 : Int) (r42 : List Int) : L86_17 n  (m17 + 1) s5 s6 s43 s44 r42 =
  bif decide (s44 < s43) then
  bif decide ((0 : Int) ≤ s44) then
    bif decide (s44 < (↑(List.length r42) : Int)) then
      L86_17 n m17
        (Go.IntKind.wrap Go.IntKind.i64
          (↑(BitVec.toNat
                (BitVec.ofInt (64 : Nat) (Go.IntKind.wrap Go.IntKind.i64 (s5 * (2 : Int) ^ (8 : Nat))) |||
                  BitVec.ofInt (64 : Nat) (Go.IntKind.wrap Go.IntKind.i64 (List.getD r42 (Int.toNat s44) (0 : Int))))) :
            Int))
        s6 s43 (Go.IntKind.wrap Go.IntKind.i64 (s44 + (1 : Int))) r42
    else none
  else none
else
  bif decide (s5 > (4000 : Int)) then some (V.tup [V.int Go.IntKind.i64 (0 : Int), V.int Go.IntKind.i64 (0 : Int), V.int Go.IntKind.i64 (13 : Int)], [])
  else some (V.tup [V.int Go.IntKind.i64 (Go.IntKind.wrap Go.IntKind.i64 ((2 : Int) + s6)), V.int Go.IntKind.i64 s5, V.int Go.IntKind.i64 (0 : Int)], []) := by kernel_rfl
theorem bd64 (d : Nat) {T : Tab} (hC : OrcOk Tryz.prog T (c64 d)) (n : Nat) {args : List V} {outs : List (List V)} {r : V} {outs' : List (List V)} (h : evalBody E (c64 d) 64 Tryz.f64 n args outs = some (r, outs')) : Answers Tryz.prog T 64 args outs r outs' := body hC (by kernel_rfl) h
noncomputable def L64_17 (d : Nat) (n m17 : Nat) (s3 : Int) (s12 : Int) (s14 : Int) (s16 : Int) (b8_ : Int) (b8'_ : Str) (b15_ : Int) (b15'_ : Str) (r9002 : List Elem) (r70002 : List Elem) (o__ : Str) (o_'_ : Int) : Option (V × List (List V)) := loopOf E (c64 d) 64 Tryz.f64 n [1, 1, 1, 1, 1, 1, 1, 1, 1, 1, 0, 1, 1] m17 (hd
  [((0 : Nat), V.optr (0 : Nat) (0 : Nat)), ((3 : Nat), V.int Go.IntKind.i64 s3), ((8 : Nat), V.ptr (8 : Nat) (1 : Nat) (0 : Nat)), ((12 : Nat), V.int Go.IntKind.i64 s12),
    ((14 : Nat), V.int Go.IntKind.i64 s14), ((15 : Nat), V.ptr (15 : Nat) (1 : Nat) (0 : Nat)), ((16 : Nat), V.int Go.IntKind.i64 s16)]
  [((8 : Nat), some [V.int Go.IntKind.u8 b8_, V.str b8'_, V.own (9002 : Nat) (0 : Nat)]), ((15 : Nat), some [V.int Go.IntKind.u8 b15_, V.str b15'_, V.own (70002 : Nat) (0 : Nat)])]
  [((9002 : Nat), some (Row.mk K.elem r9002)), ((16002 : Nat), none), ((70002 : Nat), some (Row.mk K.elem r70002))] [[V.str o__, V.int Go.IntKind.i64 o_'_]])
theorem ev64 (d : Nat) (n : Nat) (raw : Str) (a p e dep : Int) : evalBody E (c64 d) 64 Tryz.f64 n [.optr 0 0, .int .i64 p, .int .i64 e, .int .i64 dep] [[.str raw, .int .i64 a]] =
  bif decide (dep > (20 : Int)) then
  some (V.tup [V.agg [V.int Go.IntKind.u8 (0 : Int), V.str [], V.sl K.elem []], V.int Go.IntKind.i64 (0 : Int), V.int Go.IntKind.i64 (12 : Int)], [[V.str raw, V.int Go.IntKind.i64 p]])
else
  bif decide ((0 : Int) ≤ e) then
    bif decide (e ≤ (↑(List.length raw) : Int)) then
      bif decide ((0 : Int) ≤ p) then
        bif decide (p ≤ (↑(Int.toNat e) : Int)) then
          bif ok (List.drop (Int.toNat p) (List.take (Int.toNat e) raw)) then
            bif Prod.snd (Prod.snd (headF (List.drop (Int.toNat p) (List.take (Int.toNat e) raw)))) == (0 : Int) then
              bif
                  decide
                    (Prod.fst (Prod.snd (headF (List.drop (Int.toNat p) (List.take (Int.toNat e) raw)))) >
                      Go.IntKind.wrap Go.IntKind.i64 (Go.IntKind.wrap Go.IntKind.i64 (e - p) - Prod.fst (headF (List.drop (Int.toNat p) (List.take (Int.toNat e) raw))))) then
                bif decide (dep > (1 : Int)) then
                  some (V.tup [V.agg [V.int Go.IntKind.u8 (0 : Int), V.str [], V.sl K.elem []], V.int Go.IntKind.i64 (0 : Int), V.int Go.IntKind.i64 (11 : Int)], [[V.str raw, V.int Go.IntKind.i64 p]])
                else
                  some (V.tup [V.agg [V.int Go.IntKind.u8 (0 : Int), V.str [], V.sl K.elem []], V.int Go.IntKind.i64 (0 : Int), V.int Go.IntKind.i64 (10 : Int)], [[V.str raw, V.int Go.IntKind.i64 p]])
              else
                bif Prod.snd (Prod.snd (headF (List.drop (Int.toNat p) (List.take (Int.toNat e) raw)))) == (10 : Int) then
                  bif decide (dep > (1 : Int)) then
                    some
                      (V.tup [V.agg [V.int Go.IntKind.u8 (0 : Int), V.str [], V.sl K.elem []], V.int Go.IntKind.i64 (0 : Int), V.int Go.IntKind.i64 (11 : Int)], [[V.str raw, V.int Go.IntKind.i64 p]])
                  else
                    bif Prod.snd (Prod.snd (headF (List.drop (Int.toNat p) (List.take (Int.toNat e) raw)))) != (0 : Int) then
                      some
                        (V.tup
                            [V.agg [V.int Go.IntKind.u8 (0 : Int), V.str [], V.sl K.elem []], V.int Go.IntKind.i64 (0 : Int),
                              V.int Go.IntKind.i64 (Prod.snd (Prod.snd (headF (List.drop (Int.toNat p) (List.take (Int.toNat e) raw)))))],
                          [[V.str raw, V.int Go.IntKind.i64 p]])
                    else
                      bif decide ((0 : Int) ≤ p) then
                        bif decide (p < (↑(List.length raw) : Int)) then
                          bif
                              Go.IntKind.wrap Go.IntKind.u8
                                  (↑(BitVec.toNat (BitVec.ofInt (8 : Nat) (↑(UInt8.toNat (List.getD raw (Int.toNat p) (0 : UInt8))) : Int) &&& BitVec.ofInt (8 : Nat) (32 : Int))) : Int) ==
                                (0 : Int) then
                            bif
                                decide
                                  ((0 : Int) ≤
                                    Go.IntKind.wrap Go.IntKind.i64
                                      (Go.IntKind.wrap Go.IntKind.i64 (p + Prod.fst (headF (List.drop (Int.toNat p) (List.take (Int.toNat e) raw)))) +
                                        Prod.fst (Prod.snd (headF (List.drop (Int.toNat p) (List.take (Int.toNat e) raw)))))) then
                              bif
                                  decide
                                    (Go.IntKind.wrap Go.IntKind.i64
                                        (Go.IntKind.wrap Go.IntKind.i64 (p + Prod.fst (headF (List.drop (Int.toNat p) (List.take (Int.toNat e) raw)))) +
                                          Prod.fst (Prod.snd (headF (List.drop (Int.toNat p) (List.take (Int.toNat e) raw))))) ≤
                                      (↑(List.length raw) : Int)) then
                                bif decide ((0 : Int) ≤ Go.IntKind.wrap Go.IntKind.i64 (p + Prod.fst (headF (List.drop (Int.toNat p) (List.take (Int.toNat e) raw))))) then
                                  bif
                                      decide
                                        (Go.IntKind.wrap Go.IntKind.i64 (p + Prod.fst (headF (List.drop (Int.toNat p) (List.take (Int.toNat e) raw)))) ≤
                                          (↑(Int.toNat
                                                (Go.IntKind.wrap Go.IntKind.i64
                                                  (Go.IntKind.wrap Go.IntKind.i64 (p + Prod.fst (headF (List.drop (Int.toNat p) (List.take (Int.toNat e) raw)))) +
                                                    Prod.fst (Prod.snd (headF (List.drop (Int.toNat p) (List.take (Int.toNat e) raw))))))) :
                                            Int)) then
                                    some
                                      (V.tup
                                          [V.agg
                                              [V.int Go.IntKind.u8 (↑(UInt8.toNat (List.getD raw (Int.toNat p) (0 : UInt8))) : Int),
                                                V.str
                                                  (List.drop (Int.toNat (Go.IntKind.wrap Go.IntKind.i64 (p + Prod.fst (headF (List.drop (Int.toNat p) (List.take (Int.toNat e) raw))))))
                                                    (List.take
                                                      (Int.toNat
                                                        (Go.IntKind.wrap Go.IntKind.i64
                                                          (Go.IntKind.wrap Go.IntKind.i64 (p + Prod.fst (headF (List.drop (Int.toNat p) (List.take (Int.toNat e) raw)))) +
                                                            Prod.fst (Prod.snd (headF (List.drop (Int.toNat p) (List.take (Int.toNat e) raw)))))))
                                                      raw)),
                                                V.sl K.elem []],
                                            V.int Go.IntKind.i64
                                              (Go.IntKind.wrap Go.IntKind.i64
                                                (Go.IntKind.wrap Go.IntKind.i64 (p + Prod.fst (headF (List.drop (Int.toNat p) (List.take (Int.toNat e) raw)))) +
                                                  Prod.fst (Prod.snd (headF (List.drop (Int.toNat p) (List.take (Int.toNat e) raw)))))),
                                            V.int Go.IntKind.i64 (0 : Int)],
                                        [[V.str raw, V.int Go.IntKind.i64 p]])
                                  else none
                                else none
                              else none
                            else none
                          else
                            L64_17 d n n dep (Prod.fst (Prod.snd (headF (List.drop (Int.toNat p) (List.take (Int.toNat e) raw)))))
                              (Go.IntKind.wrap Go.IntKind.i64 (p + Prod.fst (headF (List.drop (Int.toNat p) (List.take (Int.toNat e) raw)))))
                              (Go.IntKind.wrap Go.IntKind.i64 (p + Prod.fst (headF (List.drop (Int.toNat p) (List.take (Int.toNat e) raw))))) (0 : Int) []
                              (↑(UInt8.toNat (List.getD raw (Int.toNat p) (0 : UInt8))) : Int) [] [] [] raw p
                        else none
                      else none
                else
                  bif Prod.snd (Prod.snd (headF (List.drop (Int.toNat p) (List.take (Int.toNat e) raw)))) != (0 : Int) then
                    some
                      (V.tup
                          [V.agg [V.int Go.IntKind.u8 (0 : Int), V.str [], V.sl K.elem []], V.int Go.IntKind.i64 (0 : Int),
                            V.int Go.IntKind.i64 (Prod.snd (Prod.snd (headF (List.drop (Int.toNat p) (List.take (Int.toNat e) raw)))))],
                        [[V.str raw, V.int Go.IntKind.i64 p]])
                  else
                    bif decide ((0 : Int) ≤ p) then
                      bif decide (p < (↑(List.length raw) : Int)) then
                        bif
                            Go.IntKind.wrap Go.IntKind.u8
                                (↑(BitVec.toNat (BitVec.ofInt (8 : Nat) (↑(UInt8.toNat (List.getD raw (Int.toNat p) (0 : UInt8))) : Int) &&& BitVec.ofInt (8 : Nat) (32 : Int))) : Int) ==
                              (0 : Int) then
                          bif
                              decide
                                ((0 : Int) ≤
                                  Go.IntKind.wrap Go.IntKind.i64
                                    (Go.IntKind.wrap Go.IntKind.i64 (p + Prod.fst (headF (List.drop (Int.toNat p) (List.take (Int.toNat e) raw)))) +
                                      Prod.fst (Prod.snd (headF (List.drop (Int.toNat p) (List.take (Int.toNat e) raw)))))) then
                            bif
                                decide
                                  (Go.IntKind.wrap Go.IntKind.i64
                                      (Go.IntKind.wrap Go.IntKind.i64 (p + Prod.fst (headF (List.drop (Int.toNat p) (List.take (Int.toNat e) raw)))) +
                                        Prod.fst (Prod.snd (headF (List.drop (Int.toNat p) (List.take (Int.toNat e) raw))))) ≤
                                    (↑(List.length raw) : Int)) then
                              bif decide ((0 : Int) ≤ Go.IntKind.wrap Go.IntKind.i64 (p + Prod.fst (headF (List.drop (Int.toNat p) (List.take (Int.toNat e) raw))))) then
                                bif
                                    decide
                                      (Go.IntKind.wrap Go.IntKind.i64 (p + Prod.fst (headF (List.drop (Int.toNat p) (List.take (Int.toNat e) raw)))) ≤
                                        (↑(Int.toNat
                                              (Go.IntKind.wrap Go.IntKind.i64
                                                (Go.IntKind.wrap Go.IntKind.i64 (p + Prod.fst (headF (List.drop (Int.toNat p) (List.take (Int.toNat e) raw)))) +
                                                  Prod.fst (Prod.snd (headF (List.drop (Int.toNat p) (List.take (Int.toNat e) raw))))))) :
                                          Int)) then
                                  some
                                    (V.tup
                                        [V.agg
                                            [V.int Go.IntKind.u8 (↑(UInt8.toNat (List.getD raw (Int.toNat p) (0 : UInt8))) : Int),
                                              V.str
                                                (List.drop (Int.toNat (Go.IntKind.wrap Go.IntKind.i64 (p + Prod.fst (headF (List.drop (Int.toNat p) (List.take (Int.toNat e) raw))))))
                                                  (List.take
                                                    (Int.toNat
                                                      (Go.IntKind.wrap Go.IntKind.i64
                                                        (Go.IntKind.wrap Go.IntKind.i64 (p + Prod.fst (headF (List.drop (Int.toNat p) (List.take (Int.toNat e) raw)))) +
                                                          Prod.fst (Prod.snd (headF (List.drop (Int.toNat p) (List.take (Int.toNat e) raw)))))))
                                                    raw)),
                                              V.sl K.elem []],
                                          V.int Go.IntKind.i64
                                            (Go.IntKind.wrap Go.IntKind.i64
                                              (Go.IntKind.wrap Go.IntKind.i64 (p + Prod.fst (headF (List.drop (Int.toNat p) (List.take (Int.toNat e) raw)))) +
                                                Prod.fst (Prod.snd (headF (List.drop (Int.toNat p) (List.take (Int.toNat e) raw)))))),
                                          V.int Go.IntKind.i64 (0 : Int)],
                                      [[V.str raw, V.int Go.IntKind.i64 p]])
                                else none
                              else none
                            else none
                          else none
                        else
                          L64_17 d n n dep (Prod.fst (Prod.snd (headF (List.drop (Int.toNat p) (List.take (Int.toNat e) raw)))))
                            (Go.IntKind.wrap Go.IntKind.i64 (p + Prod.fst (headF (List.drop (Int.toNat p) (List.take (Int.toNat e) raw)))))
                            (Go.IntKind.wrap Go.IntKind.i64 (p + Prod.fst (headF (List.drop (Int.toNat p) (List.take (Int.toNat e) raw))))) (0 : Int) []
                            (↑(UInt8.toNat (List.getD raw (Int.toNat p) (0 : UInt8))) : Int) [] [] [] raw p
                      else none
                    else none
            else
              bif Prod.snd (Prod.snd (headF (List.drop (Int.toNat p) (List.take (Int.toNat e) raw)))) == (10 : Int) then
                bif decide (dep > (1 : Int)) then
                  some (V.tup [V.agg [V.int Go.IntKind.u8 (0 : Int), V.str [], V.sl K.elem []], V.int Go.IntKind.i64 (0 : Int), V.int Go.IntKind.i64 (11 : Int)], [[V.str raw, V.int Go.IntKind.i64 p]])
                else
                  bif Prod.snd (Prod.snd (headF (List.drop (Int.toNat p) (List.take (Int.toNat e) raw)))) != (0 : Int) then
                    some
                      (V.tup
                          [V.agg [V.int Go.IntKind.u8 (0 : Int), V.str [], V.sl K.elem []], V.int Go.IntKind.i64 (0 : Int),
                            V.int Go.IntKind.i64 (Prod.snd (Prod.snd (headF (List.drop (Int.toNat p) (List.take (Int.toNat e) raw)))))],
                        [[V.str raw, V.int Go.IntKind.i64 p]])
                  else
                    bif decide ((0 : Int) ≤ p) then
                      bif decide (p < (↑(List.length raw) : Int)) then
                        bif
                            Go.IntKind.wrap Go.IntKind.u8
                                (↑(BitVec.toNat (BitVec.ofInt (8 : Nat) (↑(UInt8.toNat (List.getD raw (Int.toNat p) (0 : UInt8))) : Int) &&& BitVec.ofInt (8 : Nat) (32 : Int))) : Int) ==
                              (0 : Int) then
                          bif
                              decide
                                ((0 : Int) ≤
                                  Go.IntKind.wrap Go.IntKind.i64
                                    (Go.IntKind.wrap Go.IntKind.i64 (p + Prod.fst (headF (List.drop (Int.toNat p) (List.take (Int.toNat e) raw)))) +
                                      Prod.fst (Prod.snd (headF (List.drop (Int.toNat p) (List.take (Int.toNat e) raw)))))) then
                            bif
                                decide
                                  (Go.IntKind.wrap Go.IntKind.i64
                                      (Go.IntKind.wrap Go.IntKind.i64 (p + Prod.fst (headF (List.drop (Int.toNat p) (List.take (Int.toNat e) raw)))) +
                                        Prod.fst (Prod.snd (headF (List.drop (Int.toNat p) (List.take (Int.toNat e) raw))))) ≤
                                    (↑(List.length raw) : Int)) then
                              bif decide ((0 : Int) ≤ Go.IntKind.wrap Go.IntKind.i64 (p + Prod.fst (headF (List.drop (Int.toNat p) (List.take (Int.toNat e) raw))))) then
                                bif
                                    decide
                                      (Go.IntKind.wrap Go.IntKind.i64 (p + Prod.fst (headF (List.drop (Int.toNat p) (List.take (Int.toNat e) raw)))) ≤
                                        (↑(Int.toNat
                                              (Go.IntKind.wrap Go.IntKind.i64
                                                (Go.IntKind.wrap Go.IntKind.i64 (p + Prod.fst (headF (List.drop (Int.toNat p) (List.take (Int.toNat e) raw)))) +
                                                  Prod.fst (Prod.snd (headF (List.drop (Int.toNat p) (List.take (Int.toNat e) raw))))))) :
                                          Int)) then
                                  some
                                    (V.tup
                                        [V.agg
                                            [V.int Go.IntKind.u8 (↑(UInt8.toNat (List.getD raw (Int.toNat p) (0 : UInt8))) : Int),
                                              V.str
                                                (List.drop (Int.toNat (Go.IntKind.wrap Go.IntKind.i64 (p + Prod.fst (headF (List.drop (Int.toNat p) (List.take (Int.toNat e) raw))))))
                                                  (List.take
                                                    (Int.toNat
                                                      (Go.IntKind.wrap Go.IntKind.i64
                                                        (Go.IntKind.wrap Go.IntKind.i64 (p + Prod.fst (headF (List.drop (Int.toNat p) (List.take (Int.toNat e) raw)))) +
                                                          Prod.fst (Prod.snd (headF (List.drop (Int.toNat p) (List.take (Int.toNat e) raw)))))))
                                                    raw)),
                                              V.sl K.elem []],
                                          V.int Go.IntKind.i64
                                            (Go.IntKind.wrap Go.IntKind.i64
                                              (Go.IntKind.wrap Go.IntKind.i64 (p + Prod.fst (headF (List.drop (Int.toNat p) (List.take (Int.toNat e) raw)))) +
                                                Prod.fst (Prod.snd (headF (List.drop (Int.toNat p) (List.take (Int.toNat e) raw)))))),
                                          V.int Go.IntKind.i64 (0 : Int)],
                                      [[V.str raw, V.int Go.IntKind.i64 p]])
                                else none
                              else none
                            else none
                          else none
                        else
                          L64_17 d n n dep (Prod.fst (Prod.snd (headF (List.drop (Int.toNat p) (List.take (Int.toNat e) raw)))))
                            (Go.IntKind.wrap Go.IntKind.i64 (p + Prod.fst (headF (List.drop (Int.toNat p) (List.take (Int.toNat e) raw)))))
                            (Go.IntKind.wrap Go.IntKind.i64 (p + Prod.fst (headF (List.drop (Int.toNat p) (List.take (Int.toNat e) raw))))) (0 : Int) []
                            (↑(UInt8.toNat (List.getD raw (Int.toNat p) (0 : UInt8))) : Int) [] [] [] raw p
                      else none
                    else none
              else
                bif Prod.snd (Prod.snd (headF (List.drop (Int.toNat p) (List.take (Int.toNat e) raw)))) != (0 : Int) then
                  some
                    (V.tup
                        [V.agg [V.int Go.IntKind.u8 (0 : Int), V.str [], V.sl K.elem []], V.int Go.IntKind.i64 (0 : Int),
                          V.int Go.IntKind.i64 (Prod.snd (Prod.snd (headF (List.drop (Int.toNat p) (List.take (Int.toNat e) raw)))))],
                      [[V.str raw, V.int Go.IntKind.i64 p]])
                else
                  bif decide ((0 : Int) ≤ p) then
                    bif decide (p < (↑(List.length raw) : Int)) then
                      bif
                          Go.IntKind.wrap Go.IntKind.u8
                              (↑(BitVec.toNat (BitVec.ofInt (8 : Nat) (↑(UInt8.toNat (List.getD raw (Int.toNat p) (0 : UInt8))) : Int) &&& BitVec.ofInt (8 : Nat) (32 : Int))) : Int) ==
                            (0 : Int) then
                        bif
                            decide
                              ((0 : Int) ≤
                                Go.IntKind.wrap Go.IntKind.i64
                                  (Go.IntKind.wrap Go.IntKind.i64 (p + Prod.fst (headF (List.drop (Int.toNat p) (List.take (Int.toNat e) raw)))) +
                                    Prod.fst (Prod.snd (headF (List.drop (Int.toNat p) (List.take (Int.toNat e) raw)))))) then
                          bif
                              decide
                                (Go.IntKind.wrap Go.IntKind.i64
                                    (Go.IntKind.wrap Go.IntKind.i64 (p + Prod.fst (headF (List.drop (Int.toNat p) (List.take (Int.toNat e) raw)))) +
                                      Prod.fst (Prod.snd (headF (List.drop (Int.toNat p) (List.take (Int.toNat e) raw))))) ≤
                                  (↑(List.length raw) : Int)) then
                            bif decide ((0 : Int) ≤ Go.IntKind.wrap Go.IntKind.i64 (p + Prod.fst (headF (List.drop (Int.toNat p) (List.take (Int.toNat e) raw))))) then
                              bif
                                  decide
                                    (Go.IntKind.wrap Go.IntKind.i64 (p + Prod.fst (headF (List.drop (Int.toNat p) (List.take (Int.toNat e) raw)))) ≤
                                      (↑(Int.toNat
                                            (Go.IntKind.wrap Go.IntKind.i64
                                              (Go.IntKind.wrap Go.IntKind.i64 (p + Prod.fst (headF (List.drop (Int.toNat p) (List.take (Int.toNat e) raw)))) +
                                                Prod.fst (Prod.snd (headF (List.drop (Int.toNat p) (List.take (Int.toNat e) raw))))))) :
                                        Int)) then
                                some
                                  (V.tup
                                      [V.agg
                                          [V.int Go.IntKind.u8 (↑(UInt8.toNat (List.getD raw (Int.toNat p) (0 : UInt8))) : Int),
                                            V.str
                                              (List.drop (Int.toNat (Go.IntKind.wrap Go.IntKind.i64 (p + Prod.fst (headF (List.drop (Int.toNat p) (List.take (Int.toNat e) raw))))))
                                                (List.take
                                                  (Int.toNat
                                                    (Go.IntKind.wrap Go.IntKind.i64
                                                      (Go.IntKind.wrap Go.IntKind.i64 (p + Prod.fst (headF (List.drop (Int.toNat p) (List.take (Int.toNat e) raw)))) +
                                                        Prod.fst (Prod.snd (headF (List.drop (Int.toNat p) (List.take (Int.toNat e) raw)))))))
                                                  raw)),
                                            V.sl K.elem []],
                                        V.int Go.IntKind.i64
                                          (Go.IntKind.wrap Go.IntKind.i64
                                            (Go.IntKind.wrap Go.IntKind.i64 (p + Prod.fst (headF (List.drop (Int.toNat p) (List.take (Int.toNat e) raw)))) +
                                              Prod.fst (Prod.snd (headF (List.drop (Int.toNat p) (List.take (Int.toNat e) raw)))))),
                                        V.int Go.IntKind.i64 (0 : Int)],
                                    [[V.str raw, V.int Go.IntKind.i64 p]])
                              else none
                            else none
                          else none
                        else none
                      else
                        L64_17 d n n dep (Prod.fst (Prod.snd (headF (List.drop (Int.toNat p) (List.take (Int.toNat e) raw)))))
                          (Go.IntKind.wrap Go.IntKind.i64 (p + Prod.fst (headF (List.drop (Int.toNat p) (List.take (Int.toNat e) raw)))))
                          (Go.IntKind.wrap Go.IntKind.i64 (p + Prod.fst (headF (List.drop (Int.toNat p) (List.take (Int.toNat e) raw))))) (0 : Int) []
                          (↑(UInt8.toNat (List.getD raw (Int.toNat p) (0 : UInt8))) : Int) [] [] [] raw p
                    else none
                  else none
          else none
        else none
      else none
    else none
  else none := by kernel_rfl
theorem rd64_17 (d : Nat) (n  m17 : Nat) (s3 : Int) (s12 : Int) (s14 : Int) (s16 : Int) (b8_ : Int) (b8'_ : Str) (b15_ : Int) (b15'_ : Str) (r9002 : List Elem) (r70002 : List Elem) (o__ : Str) (o_'_ : Int) : L64_17 d n  (m17 + 1) s3 s12 s14 s16 b8_ b8'_ b15_ b15'_ r9002 r70002 o__ o_'_ =
  bif decide (s16 < Go.IntKind.wrap Go.IntKind.i64 (s14 + s12)) then
  bif rdG d o__ s16 (Go.IntKind.wrap Go.IntKind.i64 (s14 + s12)) (Go.IntKind.wrap Go.IntKind.i64 (s3 + (1 : Int))) then
    bif Rdg.err (readF d o__ s16 (Go.IntKind.wrap Go.IntKind.i64 (s14 + s12)) (Go.IntKind.wrap Go.IntKind.i64 (s3 + (1 : Int)))) != (0 : Int) then
      some
        (V.tup
            [V.agg [V.int Go.IntKind.u8 (0 : Int), V.str [], V.sl K.elem []], V.int Go.IntKind.i64 (0 : Int),
              V.int Go.IntKind.i64 (Rdg.err (readF d o__ s16 (Go.IntKind.wrap Go.IntKind.i64 (s14 + s12)) (Go.IntKind.wrap Go.IntKind.i64 (s3 + (1 : Int)))))],
          [[V.str o__, V.int Go.IntKind.i64 (Rdg.at' (readF d o__ s16 (Go.IntKind.wrap Go.IntKind.i64 (s14 + s12)) (Go.IntKind.wrap Go.IntKind.i64 (s3 + (1 : Int)))))]])
    else
      bif
          Nat.ble
            (List.length r70002 +
              List.length
                [Elem.mk (Elem.tag (Rdg.e (readF d o__ s16 (Go.IntKind.wrap Go.IntKind.i64 (s14 + s12)) (Go.IntKind.wrap Go.IntKind.i64 (s3 + (1 : Int))))))
                    (Elem.body (Rdg.e (readF d o__ s16 (Go.IntKind.wrap Go.IntKind.i64 (s14 + s12)) (Go.IntKind.wrap Go.IntKind.i64 (s3 + (1 : Int))))))
                    (Elem.kids (Rdg.e (readF d o__ s16 (Go.IntKind.wrap Go.IntKind.i64 (s14 + s12)) (Go.IntKind.wrap Go.IntKind.i64 (s3 + (1 : Int))))))])
            (1073741824 : Nat) then
        L64_17 d n m17 s3 s12 s14 (Rdg.next (readF d o__ s16 (Go.IntKind.wrap Go.IntKind.i64 (s14 + s12)) (Go.IntKind.wrap Go.IntKind.i64 (s3 + (1 : Int))))) b8_ b8'_ b15_ b15'_ r9002
          (r70002 ++
            [Elem.mk (Elem.tag (Rdg.e (readF d o__ s16 (Go.IntKind.wrap Go.IntKind.i64 (s14 + s12)) (Go.IntKind.wrap Go.IntKind.i64 (s3 + (1 : Int))))))
                (Elem.body (Rdg.e (readF d o__ s16 (Go.IntKind.wrap Go.IntKind.i64 (s14 + s12)) (Go.IntKind.wrap Go.IntKind.i64 (s3 + (1 : Int))))))
                (Elem.kids (Rdg.e (readF d o__ s16 (Go.IntKind.wrap Go.IntKind.i64 (s14 + s12)) (Go.IntKind.wrap Go.IntKind.i64 (s3 + (1 : Int))))))])
          o__ (Rdg.at' (readF d o__ s16 (Go.IntKind.wrap Go.IntKind.i64 (s14 + s12)) (Go.IntKind.wrap Go.IntKind.i64 (s3 + (1 : Int)))))
      else none
  else none
else
  some
    (V.tup [V.agg [V.int Go.IntKind.u8 b15_, V.str b15'_, V.sl K.elem r70002], V.int Go.IntKind.i64 (Go.IntKind.wrap Go.IntKind.i64 (s14 + s12)), V.int Go.IntKind.i64 (0 : Int)],
      [[V.str o__, V.int Go.IntKind.i64 o_'_]]) := by kernel_rfl
theorem bd43 {T : Tab} (hC : OrcOk Tryz.prog T c43) (n : Nat) {args : List V} {outs : List (List V)} {r : V} {outs' : List (List V)} (h : evalBody E c43 43 Tryz.f43 n args outs = some (r, outs')) : Answers Tryz.prog T 43 args outs r outs' := body hC (by kernel_rfl) h
theorem ev43 (n : Nat) (s : Str) : evalBody E c43 43 Tryz.f43 n [.str s] [] =
  bif rdG (22 : Nat) s (0 : Int) (↑(List.length s) : Int) (1 : Int) then
  bif Rdg.err (readF (22 : Nat) s (0 : Int) (↑(List.length s) : Int) (1 : Int)) != (0 : Int) then
    some
      (V.tup
          [V.agg [V.int Go.IntKind.u8 (0 : Int), V.str [], V.sl K.elem []], V.int Go.IntKind.i64 (0 : Int),
            V.int Go.IntKind.i64 (Rdg.at' (readF (22 : Nat) s (0 : Int) (↑(List.length s) : Int) (1 : Int))),
            V.int Go.IntKind.i64 (Rdg.err (readF (22 : Nat) s (0 : Int) (↑(List.length s) : Int) (1 : Int)))],
        [])
  else
    some
      (V.tup
          [V.agg
              [V.int Go.IntKind.u8 (Elem.tag (Rdg.e (readF (22 : Nat) s (0 : Int) (↑(List.length s) : Int) (1 : Int)))),
                V.str (Elem.body (Rdg.e (readF (22 : Nat) s (0 : Int) (↑(List.length s) : Int) (1 : Int)))),
                V.sl K.elem (Elem.kids (Rdg.e (readF (22 : Nat) s (0 : Int) (↑(List.length s) : Int) (1 : Int))))],
            V.int Go.IntKind.i64 (Rdg.next (readF (22 : Nat) s (0 : Int) (↑(List.length s) : Int) (1 : Int))), V.int Go.IntKind.i64 (0 : Int), V.int Go.IntKind.i64 (0 : Int)],
        [])
else none := by kernel_rfl
theorem bd44 {T : Tab} (hC : OrcOk Tryz.prog T c44) (n : Nat) {args : List V} {outs : List (List V)} {r : V} {outs' : List (List V)} (h : evalBody E c44 44 Tryz.f44 n args outs = some (r, outs')) : Answers Tryz.prog T 44 args outs r outs' := body hC (by kernel_rfl) h
noncomputable def L44_7 (n m7 : Nat) (s0 : Str) (s4 : Int) (s22 : Int) (s23 : Int) (r21 : List Int) : Option (V × List (List V)) := loopOf E c44 44 Tryz.f44 n [1, 1, 0, 1, 1, 0, 1, 1] m7 (hd [((0 : Nat), V.str s0), ((4 : Nat), V.int Go.IntKind.i64 s4), ((21 : Nat), V.own (21 : Nat) (0 : Nat)), ((22 : Nat), V.int Go.IntKind.i64 s22), ((23 : Nat), V.int Go.IntKind.i64 s23)] []
  [((21 : Nat), some (Row.mk K.byte r21))] [])
theorem ev44 (n : Nat) (s : Str) : evalBody E c44 44 Tryz.f44 n [.str s] [] =
  bif s == [] then some (V.tup [V.int Go.IntKind.i64 (0 : Int), V.bool false], [])
else
  bif decide ((↑(List.length s) : Int) > (8 : Int)) then some (V.tup [V.int Go.IntKind.i64 (0 : Int), V.bool false], [])
  else
    bif decide ((0 : Int) < (↑(List.length s) : Int)) then
      bif
          Go.IntKind.wrap Go.IntKind.u8 (↑(BitVec.toNat (BitVec.ofInt (8 : Nat) (↑(UInt8.toNat (List.getD s (0 : Nat) (0 : UInt8))) : Int) &&& BitVec.ofInt (8 : Nat) (128 : Int))) : Int) !=
            (0 : Int) then
        L44_7 n n s (-1 : Int) (↑(List.length (List.map (fun (c : UInt8) => (↑(UInt8.toNat c) : Int)) s)) : Int) (0 : Int) (List.map (fun (c : UInt8) => (↑(UInt8.toNat c) : Int)) s)
      else L44_7 n n s (0 : Int) (↑(List.length (List.map (fun (c : UInt8) => (↑(UInt8.toNat c) : Int)) s)) : Int) (0 : Int) (List.map (fun (c : UInt8) => (↑(UInt8.toNat c) : Int)) s)
    else none := by kernel_rfl
theorem rd44_7 (n  m7 : Nat) (s0 : Str) (s4 : Int) (s22 : Int) (s23 : Int) (r21 : List Int) : L44_7 n  (m7 + 1) s0 s4 s22 s23 r21 =
  bif decide (s23 < s22) then
  bif decide ((0 : Int) ≤ s23) then
    bif decide (s23 < (↑(List.length r21) : Int)) then
      L44_7 n m7 s0
        (Go.IntKind.wrap Go.IntKind.i64
          (↑(BitVec.toNat
                (BitVec.ofInt (64 : Nat) (Go.IntKind.wrap Go.IntKind.i64 (s4 * (2 : Int) ^ (8 : Nat))) |||
                  BitVec.ofInt (64 : Nat) (Go.IntKind.wrap Go.IntKind.i64 (List.getD r21 (Int.toNat s23) (0 : Int))))) :
            Int))
        s22 (Go.IntKind.wrap Go.IntKind.i64 (s23 + (1 : Int))) r21
    else none
  else none
else bif isI64 s4 then bif !intB s4 == s0 then some (V.tup [V.int Go.IntKind.i64 (0 : Int), V.bool false], []) else some (V.tup [V.int Go.IntKind.i64 s4, V.bool true], []) else none := by kernel_rfl
theorem ev45k0 (n : Nat) (s : Str) : evalBody E ((c45 s [])) 45 Tryz.f45 (n + 8) [.str s] [] =
  bif s == s then some (V.tup [V.agg [V.int Go.IntKind.i64 (0 : Int), V.int Go.IntKind.i64 (0 : Int), V.int Go.IntKind.i64 (0 : Int)], V.int Go.IntKind.i64 (14 : Int)], []) else none := by kernel_rfl
theorem ev45k1 (n : Nat) (s a : Str) : evalBody E ((c45 s [a])) 45 Tryz.f45 (n + 8) [.str s] [] =
  bif s == s then some (V.tup [V.agg [V.int Go.IntKind.i64 (0 : Int), V.int Go.IntKind.i64 (0 : Int), V.int Go.IntKind.i64 (0 : Int)], V.int Go.IntKind.i64 (14 : Int)], []) else none := by kernel_rfl
theorem ev45k2 (n : Nat) (s a b : Str) : evalBody E ((c45 s [a, b])) 45 Tryz.f45 (n + 8) [.str s] [] =
  bif s == s then some (V.tup [V.agg [V.int Go.IntKind.i64 (0 : Int), V.int Go.IntKind.i64 (0 : Int), V.int Go.IntKind.i64 (0 : Int)], V.int Go.IntKind.i64 (14 : Int)], []) else none := by kernel_rfl
theorem ev45k3 (n : Nat) (s a b c : Str) : evalBody E ((c45 s [a, b, c])) 45 Tryz.f45 (n + 8) [.str s] [] =
  bif s == s then
  bif Nat.ble (List.length (List.getD [a, b, c] (0 : Nat) [])) (281474976710656 : Nat) then
    bif !numK (List.getD [a, b, c] (0 : Nat) []) then
      some (V.tup [V.agg [V.int Go.IntKind.i64 (0 : Int), V.int Go.IntKind.i64 (0 : Int), V.int Go.IntKind.i64 (0 : Int)], V.int Go.IntKind.i64 (14 : Int)], [])
    else
      bif decide (numN (List.getD [a, b, c] (0 : Nat) []) < (0 : Int)) then
        some (V.tup [V.agg [V.int Go.IntKind.i64 (0 : Int), V.int Go.IntKind.i64 (0 : Int), V.int Go.IntKind.i64 (0 : Int)], V.int Go.IntKind.i64 (14 : Int)], [])
      else
        bif decide (numN (List.getD [a, b, c] (0 : Nat) []) > (1099511627776 : Int)) then
          some (V.tup [V.agg [V.int Go.IntKind.i64 (0 : Int), V.int Go.IntKind.i64 (0 : Int), V.int Go.IntKind.i64 (0 : Int)], V.int Go.IntKind.i64 (14 : Int)], [])
        else
          bif Nat.ble (List.length (List.getD [a, b, c] (1 : Nat) [])) (281474976710656 : Nat) then
            bif !numK (List.getD [a, b, c] (1 : Nat) []) then
              some (V.tup [V.agg [V.int Go.IntKind.i64 (0 : Int), V.int Go.IntKind.i64 (0 : Int), V.int Go.IntKind.i64 (0 : Int)], V.int Go.IntKind.i64 (14 : Int)], [])
            else
              bif decide (numN (List.getD [a, b, c] (1 : Nat) []) < (0 : Int)) then
                some (V.tup [V.agg [V.int Go.IntKind.i64 (0 : Int), V.int Go.IntKind.i64 (0 : Int), V.int Go.IntKind.i64 (0 : Int)], V.int Go.IntKind.i64 (14 : Int)], [])
              else
                bif decide (numN (List.getD [a, b, c] (1 : Nat) []) > (1099511627776 : Int)) then
                  some (V.tup [V.agg [V.int Go.IntKind.i64 (0 : Int), V.int Go.IntKind.i64 (0 : Int), V.int Go.IntKind.i64 (0 : Int)], V.int Go.IntKind.i64 (14 : Int)], [])
                else
                  bif Nat.ble (List.length (List.getD [a, b, c] (2 : Nat) [])) (281474976710656 : Nat) then
                    bif !numK (List.getD [a, b, c] (2 : Nat) []) then
                      some (V.tup [V.agg [V.int Go.IntKind.i64 (0 : Int), V.int Go.IntKind.i64 (0 : Int), V.int Go.IntKind.i64 (0 : Int)], V.int Go.IntKind.i64 (14 : Int)], [])
                    else
                      bif decide (numN (List.getD [a, b, c] (2 : Nat) []) < (0 : Int)) then
                        some (V.tup [V.agg [V.int Go.IntKind.i64 (0 : Int), V.int Go.IntKind.i64 (0 : Int), V.int Go.IntKind.i64 (0 : Int)], V.int Go.IntKind.i64 (14 : Int)], [])
                      else
                        bif decide (numN (List.getD [a, b, c] (2 : Nat) []) > (1099511627776 : Int)) then
                          some (V.tup [V.agg [V.int Go.IntKind.i64 (0 : Int), V.int Go.IntKind.i64 (0 : Int), V.int Go.IntKind.i64 (0 : Int)], V.int Go.IntKind.i64 (14 : Int)], [])
                        else
                          bif !Csn.is (Csn.mk (numN (List.getD [a, b, c] (0 : Nat) [])) (numN (List.getD [a, b, c] (1 : Nat) [])) (numN (List.getD [a, b, c] (2 : Nat) []))) then
                            some (V.tup [V.agg [V.int Go.IntKind.i64 (0 : Int), V.int Go.IntKind.i64 (0 : Int), V.int Go.IntKind.i64 (0 : Int)], V.int Go.IntKind.i64 (14 : Int)], [])
                          else
                            bif Csn.i64 (Csn.mk (numN (List.getD [a, b, c] (0 : Nat) [])) (numN (List.getD [a, b, c] (1 : Nat) [])) (numN (List.getD [a, b, c] (2 : Nat) []))) then
                              bif !csnText (Csn.mk (numN (List.getD [a, b, c] (0 : Nat) [])) (numN (List.getD [a, b, c] (1 : Nat) [])) (numN (List.getD [a, b, c] (2 : Nat) []))) == s then
                                some (V.tup [V.agg [V.int Go.IntKind.i64 (0 : Int), V.int Go.IntKind.i64 (0 : Int), V.int Go.IntKind.i64 (0 : Int)], V.int Go.IntKind.i64 (14 : Int)], [])
                              else
                                some
                                  (V.tup
                                      [V.agg
                                          [V.int Go.IntKind.i64 (numN (List.getD [a, b, c] (0 : Nat) [])), V.int Go.IntKind.i64 (numN (List.getD [a, b, c] (1 : Nat) [])),
                                            V.int Go.IntKind.i64 (numN (List.getD [a, b, c] (2 : Nat) []))],
                                        V.int Go.IntKind.i64 (0 : Int)],
                                    [])
                            else none
                  else none
          else none
  else none
else none := by kernel_rfl
theorem ev45k4 (n : Nat) (s a b c e : Str) (l : List Str) : evalBody E ((c45 s (a :: b :: c :: e :: l))) 45 Tryz.f45 (n + 8) [.str s] [] =
  bif s == s then some (V.tup [V.agg [V.int Go.IntKind.i64 (0 : Int), V.int Go.IntKind.i64 (0 : Int), V.int Go.IntKind.i64 (0 : Int)], V.int Go.IntKind.i64 (14 : Int)], []) else none := by kernel_rfl
theorem bd16 {T : Tab} (hC : OrcOk Tryz.prog T c16) (n : Nat) {args : List V} {outs : List (List V)} {r : V} {outs' : List (List V)} (h : evalBody E c16 16 Tryz.f16 n args outs = some (r, outs')) : Answers Tryz.prog T 16 args outs r outs' := body hC (by kernel_rfl) h
noncomputable def L16_15 (n m15 : Nat) (s0 : Str) (s13 : List Elem) (s14 : Int) (b2_ : Int) (b2'_ : Int) (b2''_ : Int) (b2'''_ : Int) (b2''''_ : Int) (b2'''''_ : Int) (b2''''''_ : Int) (b2'''''''_ : Int) (b2''''''''_ : Int) (b2'''''''''_ : Int) (b2'''''''''''_ : Bool) (b4_ : Int) (b4'_ : Str) (b4''_ : List Elem) (b10_ : Int) (b10'_ : Int) (b10''_ : Int) (b10'''_ : Int) (b10''''_ : Int) (b10'''''_ : Int) (b10''''''_ : Int) (b10'''''''_ : Int) (b10''''''''_ : Int) (b10'''''''''_ : Int) (b10'''''''''''_ : Bool) (r3010 : List AVA) (r3012 : List Go.Ev.Mod) (r62010 : List AVA) (r62012 : List Go.Ev.Mod) : Option (V × List (List V)) := loopOf E c16 16 Tryz.f16 n [1, 1, 1, 1, 1, 1, 1, 0, 1, 1] m15 (hd
  [((0 : Nat), V.str s0), ((2 : Nat), V.ptr (2 : Nat) (1 : Nat) (0 : Nat)), ((4 : Nat), V.ptr (4 : Nat) (1 : Nat) (0 : Nat)), ((10 : Nat), V.ptr (10 : Nat) (1 : Nat) (0 : Nat)),
    ((13 : Nat), V.sl K.elem s13), ((14 : Nat), V.int Go.IntKind.i64 s14)]
  [((2 : Nat),
      some
        [V.int Go.IntKind.i64 b2_, V.int Go.IntKind.i64 b2'_, V.int Go.IntKind.i64 b2''_, V.int Go.IntKind.i64 b2'''_, V.int Go.IntKind.i64 b2''''_, V.int Go.IntKind.i64 b2'''''_,
          V.int Go.IntKind.i64 b2''''''_, V.int Go.IntKind.i64 b2'''''''_, V.int Go.IntKind.i64 b2''''''''_, V.int Go.IntKind.i64 b2'''''''''_, V.own (3010 : Nat) (0 : Nat), V.bool b2'''''''''''_,
          V.own (3012 : Nat) (0 : Nat)]),
    ((4 : Nat), some [V.int Go.IntKind.u8 b4_, V.str b4'_, V.sl K.elem b4''_]),
    ((10 : Nat),
      some
        [V.int Go.IntKind.i64 b10_, V.int Go.IntKind.i64 b10'_, V.int Go.IntKind.i64 b10''_, V.int Go.IntKind.i64 b10'''_, V.int Go.IntKind.i64 b10''''_, V.int Go.IntKind.i64 b10'''''_,
          V.int Go.IntKind.i64 b10''''''_, V.int Go.IntKind.i64 b10'''''''_, V.int Go.IntKind.i64 b10''''''''_, V.int Go.IntKind.i64 b10'''''''''_, V.own (62010 : Nat) (0 : Nat),
          V.bool b10'''''''''''_, V.own (62012 : Nat) (0 : Nat)])]
  [((3010 : Nat), some (Row.mk K.ava r3010)), ((3012 : Nat), some (Row.mk K.mod r3012)), ((5002 : Nat), none), ((11010 : Nat), none), ((11012 : Nat), none),
    ((62010 : Nat), some (Row.mk K.ava r62010)), ((62012 : Nat), some (Row.mk K.mod r62012))]
  [])
noncomputable def L16_19 (n m19 : Nat) (s0 : Str) (s122 : List Elem) (s123 : Int) (s124 : Int) (b2_ : Int) (b2'_ : Int) (b2''_ : Int) (b2'''_ : Int) (b2''''_ : Int) (b2'''''_ : Int) (b2''''''_ : Int) (b2'''''''_ : Int) (b2''''''''_ : Int) (b2'''''''''_ : Int) (b2'''''''''''_ : Bool) (b10_ : Int) (b10'_ : Int) (b10''_ : Int) (b10'''_ : Int) (b10''''_ : Int) (b10'''''_ : Int) (b10''''''_ : Int) (b10'''''''_ : Int) (b10''''''''_ : Int) (b10'''''''''_ : Int) (b10'''''''''''_ : Bool) (r3010 : List AVA) (r3012 : List Go.Ev.Mod) (r62010 : List AVA) (r62012 : List Go.Ev.Mod) : Option (V × List (List V)) := loopOf E c16 16 Tryz.f16 n [1, 1, 1, 1, 1, 1, 1, 1, 0, 1, 1] m19 (hd
  [((0 : Nat), V.str s0), ((2 : Nat), V.ptr (2 : Nat) (1 : Nat) (0 : Nat)), ((10 : Nat), V.ptr (10 : Nat) (1 : Nat) (0 : Nat)), ((122 : Nat), V.sl K.elem s122),
    ((123 : Nat), V.int Go.IntKind.i64 s123), ((124 : Nat), V.int Go.IntKind.i64 s124)]
  [((2 : Nat),
      some
        [V.int Go.IntKind.i64 b2_, V.int Go.IntKind.i64 b2'_, V.int Go.IntKind.i64 b2''_, V.int Go.IntKind.i64 b2'''_, V.int Go.IntKind.i64 b2''''_, V.int Go.IntKind.i64 b2'''''_,
          V.int Go.IntKind.i64 b2''''''_, V.int Go.IntKind.i64 b2'''''''_, V.int Go.IntKind.i64 b2''''''''_, V.int Go.IntKind.i64 b2'''''''''_, V.own (3010 : Nat) (0 : Nat), V.bool b2'''''''''''_,
          V.own (3012 : Nat) (0 : Nat)]),
    ((10 : Nat),
      some
        [V.int Go.IntKind.i64 b10_, V.int Go.IntKind.i64 b10'_, V.int Go.IntKind.i64 b10''_, V.int Go.IntKind.i64 b10'''_, V.int Go.IntKind.i64 b10''''_, V.int Go.IntKind.i64 b10'''''_,
          V.int Go.IntKind.i64 b10''''''_, V.int Go.IntKind.i64 b10'''''''_, V.int Go.IntKind.i64 b10''''''''_, V.int Go.IntKind.i64 b10'''''''''_, V.own (62010 : Nat) (0 : Nat),
          V.bool b10'''''''''''_, V.own (62012 : Nat) (0 : Nat)])]
  [((3010 : Nat), some (Row.mk K.ava r3010)), ((3012 : Nat), some (Row.mk K.mod r3012)), ((11010 : Nat), none), ((11012 : Nat), none), ((62010 : Nat), some (Row.mk K.ava r62010)),
    ((62012 : Nat), some (Row.mk K.mod r62012))]
  [])
noncomputable def L16_26 (n m19 m26 : Nat) (s0 : Str) (s122 : List Elem) (s123 : Int) (s124 : Int) (s151 : List Elem) (s152 : Int) (s153 : Int) (b2_ : Int) (b2'_ : Int) (b2''_ : Int) (b2'''_ : Int) (b2''''_ : Int) (b2'''''_ : Int) (b2''''''_ : Int) (b2'''''''_ : Int) (b2''''''''_ : Int) (b2'''''''''_ : Int) (b2'''''''''''_ : Bool) (b10_ : Int) (b10'_ : Int) (b10''_ : Int) (b10'''_ : Int) (b10''''_ : Int) (b10'''''_ : Int) (b10''''''_ : Int) (b10'''''''_ : Int) (b10''''''''_ : Int) (b10'''''''''_ : Int) (b10'''''''''''_ : Bool) (b19_ : Int) (b19'_ : Str) (r3010 : List AVA) (r3012 : List Go.Ev.Mod) (r62010 : List AVA) (r62012 : List Go.Ev.Mod) (r149002 : List Str) : Option (V × List (List V)) := loopOf E c16 16 Tryz.f16 n [1, 1, 1, 1, 1, 1, 1, 1, 0, 1, 1, m19 + 2, 1, 1, 0, 1, 1, 1, 1, 1, 0, 1, 1] m26 (hd
  [((0 : Nat), V.str s0), ((2 : Nat), V.ptr (2 : Nat) (1 : Nat) (0 : Nat)), ((10 : Nat), V.ptr (10 : Nat) (1 : Nat) (0 : Nat)), ((19 : Nat), V.ptr (19 : Nat) (1 : Nat) (0 : Nat)),
    ((122 : Nat), V.sl K.elem s122), ((123 : Nat), V.int Go.IntKind.i64 s123), ((124 : Nat), V.int Go.IntKind.i64 s124), ((151 : Nat), V.sl K.elem s151), ((152 : Nat), V.int Go.IntKind.i64 s152),
    ((153 : Nat), V.int Go.IntKind.i64 s153)]
  [((2 : Nat),
      some
        [V.int Go.IntKind.i64 b2_, V.int Go.IntKind.i64 b2'_, V.int Go.IntKind.i64 b2''_, V.int Go.IntKind.i64 b2'''_, V.int Go.IntKind.i64 b2''''_, V.int Go.IntKind.i64 b2'''''_,
          V.int Go.IntKind.i64 b2''''''_, V.int Go.IntKind.i64 b2'''''''_, V.int Go.IntKind.i64 b2''''''''_, V.int Go.IntKind.i64 b2'''''''''_, V.own (3010 : Nat) (0 : Nat), V.bool b2'''''''''''_,
          V.own (3012 : Nat) (0 : Nat)]),
    ((10 : Nat),
      some
        [V.int Go.IntKind.i64 b10_, V.int Go.IntKind.i64 b10'_, V.int Go.IntKind.i64 b10''_, V.int Go.IntKind.i64 b10'''_, V.int Go.IntKind.i64 b10''''_, V.int Go.IntKind.i64 b10'''''_,
          V.int Go.IntKind.i64 b10''''''_, V.int Go.IntKind.i64 b10'''''''_, V.int Go.IntKind.i64 b10''''''''_, V.int Go.IntKind.i64 b10'''''''''_, V.own (62010 : Nat) (0 : Nat),
          V.bool b10'''''''''''_, V.own (62012 : Nat) (0 : Nat)]),
    ((19 : Nat), some [V.int Go.IntKind.i64 b19_, V.str b19'_, V.own (149002 : Nat) (0 : Nat)])]
  [((3010 : Nat), some (Row.mk K.ava r3010)), ((3012 : Nat), some (Row.mk K.mod r3012)), ((11010 : Nat), none), ((11012 : Nat), none), ((20002 : Nat), none),
    ((62010 : Nat), some (Row.mk K.ava r62010)), ((62012 : Nat), some (Row.mk K.mod r62012)), ((149002 : Nat), some (Row.mk K.str r149002))]
  [])
theorem ev16 (n : Nat) (s : Str) : evalBody E c16 16 Tryz.f16 (n + 8) [.str s] [] =
  bif ok s then
  bif Rdg.err (topF s) != (0 : Int) then
    some
      (V.tup
          [V.agg
              [V.int Go.IntKind.i64 (0 : Int), V.int Go.IntKind.i64 (0 : Int), V.int Go.IntKind.i64 (0 : Int), V.int Go.IntKind.i64 (0 : Int), V.int Go.IntKind.i64 (0 : Int),
                V.int Go.IntKind.i64 (0 : Int), V.int Go.IntKind.i64 (0 : Int), V.int Go.IntKind.i64 (0 : Int), V.int Go.IntKind.i64 (0 : Int), V.int Go.IntKind.i64 (0 : Int), V.sl K.ava [],
                V.bool false, V.sl K.mod []],
            V.int Go.IntKind.i64 (14 : Int)],
        [])
  else
    bif topN s != (↑(List.length s) : Int) then
      some
        (V.tup
            [V.agg
                [V.int Go.IntKind.i64 (0 : Int), V.int Go.IntKind.i64 (0 : Int), V.int Go.IntKind.i64 (0 : Int), V.int Go.IntKind.i64 (0 : Int), V.int Go.IntKind.i64 (0 : Int),
                  V.int Go.IntKind.i64 (0 : Int), V.int Go.IntKind.i64 (0 : Int), V.int Go.IntKind.i64 (0 : Int), V.int Go.IntKind.i64 (0 : Int), V.int Go.IntKind.i64 (0 : Int), V.sl K.ava [],
                  V.bool false, V.sl K.mod []],
              V.int Go.IntKind.i64 (14 : Int)],
          [])
    else
      bif (↑(List.length (Elem.kids (topE s))) : Int) != (6 : Int) then
        some
          (V.tup
              [V.agg
                  [V.int Go.IntKind.i64 (0 : Int), V.int Go.IntKind.i64 (0 : Int), V.int Go.IntKind.i64 (0 : Int), V.int Go.IntKind.i64 (0 : Int), V.int Go.IntKind.i64 (0 : Int),
                    V.int Go.IntKind.i64 (0 : Int), V.int Go.IntKind.i64 (0 : Int), V.int Go.IntKind.i64 (0 : Int), V.int Go.IntKind.i64 (0 : Int), V.int Go.IntKind.i64 (0 : Int), V.sl K.ava [],
                    V.bool false, V.sl K.mod []],
                V.int Go.IntKind.i64 (14 : Int)],
            [])
      else
        bif decide ((0 : Int) < (↑(List.length (Elem.kids (topE s))) : Int)) then
          bif ok (Elem.body (List.getD (Elem.kids (topE s)) (0 : Nat) (Elem.mk (0 : Int) [] []))) then
            bif decide (Go.IntKind.wrap Go.IntKind.i64 ((0 : Int) + (1 : Int)) < (↑(List.length (Elem.kids (topE s))) : Int)) then
              bif ok (Elem.body (List.getD (Elem.kids (topE s)) (1 : Nat) (Elem.mk (0 : Int) [] []))) then
                bif (bif Option.isSome (parseC (Elem.body (List.getD (Elem.kids (topE s)) (1 : Nat) (Elem.mk (0 : Int) [] [])))) then (0 : Int) else (14 : Int)) != (0 : Int) then
                  some
                    (V.tup
                        [V.agg
                            [V.int Go.IntKind.i64 (0 : Int), V.int Go.IntKind.i64 (0 : Int), V.int Go.IntKind.i64 (0 : Int), V.int Go.IntKind.i64 (0 : Int), V.int Go.IntKind.i64 (0 : Int),
                              V.int Go.IntKind.i64 (0 : Int), V.int Go.IntKind.i64 (0 : Int), V.int Go.IntKind.i64 (0 : Int), V.int Go.IntKind.i64 (0 : Int), V.int Go.IntKind.i64 (0 : Int),
                              V.sl K.ava [], V.bool false, V.sl K.mod []],
                          V.int Go.IntKind.i64 (14 : Int)],
                      [])
                else
                  bif decide (Go.IntKind.wrap Go.IntKind.i64 (Go.IntKind.wrap Go.IntKind.i64 ((0 : Int) + (1 : Int)) + (1 : Int)) < (↑(List.length (Elem.kids (topE s))) : Int)) then
                    bif ok (Elem.body (List.getD (Elem.kids (topE s)) (2 : Nat) (Elem.mk (0 : Int) [] []))) then
                      bif (bif Option.isSome (parseC (Elem.body (List.getD (Elem.kids (topE s)) (2 : Nat) (Elem.mk (0 : Int) [] [])))) then (0 : Int) else (14 : Int)) != (0 : Int) then
                        some
                          (V.tup
                              [V.agg
                                  [V.int Go.IntKind.i64 (0 : Int), V.int Go.IntKind.i64 (0 : Int), V.int Go.IntKind.i64 (0 : Int), V.int Go.IntKind.i64 (0 : Int), V.int Go.IntKind.i64 (0 : Int),
                                    V.int Go.IntKind.i64 (0 : Int), V.int Go.IntKind.i64 (0 : Int), V.int Go.IntKind.i64 (0 : Int), V.int Go.IntKind.i64 (0 : Int), V.int Go.IntKind.i64 (0 : Int),
                                    V.sl K.ava [], V.bool false, V.sl K.mod []],
                                V.int Go.IntKind.i64 (14 : Int)],
                            [])
                      else
                        bif
                            decide
                              (Go.IntKind.wrap Go.IntKind.i64 (Go.IntKind.wrap Go.IntKind.i64 (Go.IntKind.wrap Go.IntKind.i64 ((0 : Int) + (1 : Int)) + (1 : Int)) + (1 : Int)) <
                                (↑(List.length (Elem.kids (topE s))) : Int)) then
                          bif ok (Elem.body (List.getD (Elem.kids (topE s)) (3 : Nat) (Elem.mk (0 : Int) [] []))) then
                            bif (bif Option.isSome (parseC (Elem.body (List.getD (Elem.kids (topE s)) (3 : Nat) (Elem.mk (0 : Int) [] [])))) then (0 : Int) else (14 : Int)) != (0 : Int) then
                              some
                                (V.tup
                                    [V.agg
                                        [V.int Go.IntKind.i64 (0 : Int), V.int Go.IntKind.i64 (0 : Int), V.int Go.IntKind.i64 (0 : Int), V.int Go.IntKind.i64 (0 : Int), V.int Go.IntKind.i64 (0 : Int),
                                          V.int Go.IntKind.i64 (0 : Int), V.int Go.IntKind.i64 (0 : Int), V.int Go.IntKind.i64 (0 : Int), V.int Go.IntKind.i64 (0 : Int),
                                          V.int Go.IntKind.i64 (0 : Int), V.sl K.ava [], V.bool false, V.sl K.mod []],
                                      V.int Go.IntKind.i64 (14 : Int)],
                                  [])
                            else
                              bif decide ((4 : Int) < (↑(List.length (Elem.kids (topE s))) : Int)) then
                                L16_15 (n + (8 : Nat)) (n + (8 : Nat)) s (Elem.kids (List.getD (Elem.kids (topE s)) (4 : Nat) (Elem.mk (0 : Int) [] []))) (0 : Int) (0 : Int) (0 : Int) (0 : Int)
                                  (0 : Int) (0 : Int) (0 : Int) (0 : Int) (0 : Int) (0 : Int) (0 : Int) false (Elem.tag (topE s)) (Elem.body (topE s)) (Elem.kids (topE s))
                                  (Csn.t (Option.getD (parseC (Elem.body (List.getD (Elem.kids (topE s)) (1 : Nat) (Elem.mk (0 : Int) [] [])))) csn0))
                                  (Csn.s (Option.getD (parseC (Elem.body (List.getD (Elem.kids (topE s)) (1 : Nat) (Elem.mk (0 : Int) [] [])))) csn0))
                                  (Csn.r (Option.getD (parseC (Elem.body (List.getD (Elem.kids (topE s)) (1 : Nat) (Elem.mk (0 : Int) [] [])))) csn0))
                                  (bif
                                      decide
                                        (Go.IntKind.wrap Go.IntKind.i64 ((0 : Int) - rdI (Elem.body (List.getD (Elem.kids (topE s)) (0 : Nat) (Elem.mk (0 : Int) [] [])))) >
                                          rdI (Elem.body (List.getD (Elem.kids (topE s)) (0 : Nat) (Elem.mk (0 : Int) [] [])))) then
                                    Go.IntKind.wrap Go.IntKind.i64 ((0 : Int) - rdI (Elem.body (List.getD (Elem.kids (topE s)) (0 : Nat) (Elem.mk (0 : Int) [] []))))
                                  else rdI (Elem.body (List.getD (Elem.kids (topE s)) (0 : Nat) (Elem.mk (0 : Int) [] []))))
                                  (Csn.t (Option.getD (parseC (Elem.body (List.getD (Elem.kids (topE s)) (2 : Nat) (Elem.mk (0 : Int) [] [])))) csn0))
                                  (Csn.s (Option.getD (parseC (Elem.body (List.getD (Elem.kids (topE s)) (2 : Nat) (Elem.mk (0 : Int) [] [])))) csn0))
                                  (Csn.r (Option.getD (parseC (Elem.body (List.getD (Elem.kids (topE s)) (2 : Nat) (Elem.mk (0 : Int) [] [])))) csn0))
                                  (Csn.t (Option.getD (parseC (Elem.body (List.getD (Elem.kids (topE s)) (3 : Nat) (Elem.mk (0 : Int) [] [])))) csn0))
                                  (Csn.s (Option.getD (parseC (Elem.body (List.getD (Elem.kids (topE s)) (3 : Nat) (Elem.mk (0 : Int) [] [])))) csn0))
                                  (Csn.r (Option.getD (parseC (Elem.body (List.getD (Elem.kids (topE s)) (3 : Nat) (Elem.mk (0 : Int) [] [])))) csn0))
                                  (decide (rdI (Elem.body (List.getD (Elem.kids (topE s)) (0 : Nat) (Elem.mk (0 : Int) [] []))) < (0 : Int))) [] [] [] []
                              else none
                          else none
                        else none
                    else none
                  else none
              else none
            else none
          else none
        else none
else none := by kernel_rfl
theorem rd16_15 (n  m15 : Nat) (s0 : Str) (s13 : List Elem) (s14 : Int) (b2_ : Int) (b2'_ : Int) (b2''_ : Int) (b2'''_ : Int) (b2''''_ : Int) (b2'''''_ : Int) (b2''''''_ : Int) (b2'''''''_ : Int) (b2''''''''_ : Int) (b2'''''''''_ : Int) (b2'''''''''''_ : Bool) (b4_ : Int) (b4'_ : Str) (b4''_ : List Elem) (b10_ : Int) (b10'_ : Int) (b10''_ : Int) (b10'''_ : Int) (b10''''_ : Int) (b10'''''_ : Int) (b10''''''_ : Int) (b10'''''''_ : Int) (b10''''''''_ : Int) (b10'''''''''_ : Int) (b10'''''''''''_ : Bool) (r3010 : List AVA) (r3012 : List Go.Ev.Mod) (r62010 : List AVA) (r62012 : List Go.Ev.Mod) : L16_15 n  (m15 + 1) s0 s13 s14 b2_ b2'_ b2''_ b2'''_ b2''''_ b2'''''_ b2''''''_ b2'''''''_ b2''''''''_ b2'''''''''_ b2'''''''''''_ b4_ b4'_ b4''_ b10_ b10'_ b10''_ b10'''_ b10''''_ b10'''''_ b10''''''_ b10'''''''_ b10''''''''_ b10'''''''''_ b10'''''''''''_ r3010 r3012 r62010 r62012 =
  bif decide (Go.IntKind.wrap Go.IntKind.i64 (s14 + (1 : Int)) < (↑(List.length s13) : Int)) then
  bif decide ((0 : Int) ≤ s14) then
    bif decide (s14 < (↑(List.length s13) : Int)) then
      bif decide ((0 : Int) ≤ Go.IntKind.wrap Go.IntKind.i64 (s14 + (1 : Int))) then
        bif decide (Go.IntKind.wrap Go.IntKind.i64 (s14 + (1 : Int)) < (↑(List.length s13) : Int)) then
          bif
              Nat.ble
                (List.length r62010 +
                  List.length
                    [AVA.mk (Elem.body (List.getD s13 (Int.toNat s14) (Elem.mk (0 : Int) [] [])))
                        (Elem.body (List.getD s13 (Int.toNat (Go.IntKind.wrap Go.IntKind.i64 (s14 + (1 : Int)))) (Elem.mk (0 : Int) [] [])))])
                (1073741824 : Nat) then
            L16_15 n m15 s0 s13 (Go.IntKind.wrap Go.IntKind.i64 (s14 + (2 : Int))) b2_ b2'_ b2''_ b2'''_ b2''''_ b2'''''_ b2''''''_ b2'''''''_ b2''''''''_ b2'''''''''_ b2'''''''''''_ b4_ b4'_ b4''_
              b10_ b10'_ b10''_ b10'''_ b10''''_ b10'''''_ b10''''''_ b10'''''''_ b10''''''''_ b10'''''''''_ b10'''''''''''_ r3010 r3012
              (r62010 ++
                [AVA.mk (Elem.body (List.getD s13 (Int.toNat s14) (Elem.mk (0 : Int) [] [])))
                    (Elem.body (List.getD s13 (Int.toNat (Go.IntKind.wrap Go.IntKind.i64 (s14 + (1 : Int)))) (Elem.mk (0 : Int) [] [])))])
              r62012
          else none
        else none
      else none
    else none
  else none
else
  bif decide ((5 : Int) < (↑(List.length b4''_) : Int)) then
    L16_19 n n s0 (Elem.kids (List.getD b4''_ (5 : Nat) (Elem.mk (0 : Int) [] []))) (↑(List.length (Elem.kids (List.getD b4''_ (5 : Nat) (Elem.mk (0 : Int) [] [])))) : Int) (0 : Int) b2_ b2'_ b2''_
      b2'''_ b2''''_ b2'''''_ b2''''''_ b2'''''''_ b2''''''''_ b2'''''''''_ b2'''''''''''_ b10_ b10'_ b10''_ b10'''_ b10''''_ b10'''''_ b10''''''_ b10'''''''_ b10''''''''_ b10'''''''''_
      b10'''''''''''_ r3010 r3012 r62010 r62012
  else none := by kernel_rfl
theorem rd16_19 (n  m19 : Nat) (s0 : Str) (s122 : List Elem) (s123 : Int) (s124 : Int) (b2_ : Int) (b2'_ : Int) (b2''_ : Int) (b2'''_ : Int) (b2''''_ : Int) (b2'''''_ : Int) (b2''''''_ : Int) (b2'''''''_ : Int) (b2''''''''_ : Int) (b2'''''''''_ : Int) (b2'''''''''''_ : Bool) (b10_ : Int) (b10'_ : Int) (b10''_ : Int) (b10'''_ : Int) (b10''''_ : Int) (b10'''''_ : Int) (b10''''''_ : Int) (b10'''''''_ : Int) (b10''''''''_ : Int) (b10'''''''''_ : Int) (b10'''''''''''_ : Bool) (r3010 : List AVA) (r3012 : List Go.Ev.Mod) (r62010 : List AVA) (r62012 : List Go.Ev.Mod) : L16_19 n  (m19 + 1) s0 s122 s123 s124 b2_ b2'_ b2''_ b2'''_ b2''''_ b2'''''_ b2''''''_ b2'''''''_ b2''''''''_ b2'''''''''_ b2'''''''''''_ b10_ b10'_ b10''_ b10'''_ b10''''_ b10'''''_ b10''''''_ b10'''''''_ b10''''''''_ b10'''''''''_ b10'''''''''''_ r3010 r3012 r62010 r62012 =
  bif decide (s124 < s123) then
  bif decide ((0 : Int) ≤ s124) then
    bif decide (s124 < (↑(List.length s122) : Int)) then
      bif decide ((↑(List.length (Elem.kids (List.getD s122 (Int.toNat s124) (Elem.mk (0 : Int) [] [])))) : Int) < (2 : Int)) then
        some
          (V.tup
              [V.agg
                  [V.int Go.IntKind.i64 (0 : Int), V.int Go.IntKind.i64 (0 : Int), V.int Go.IntKind.i64 (0 : Int), V.int Go.IntKind.i64 (0 : Int), V.int Go.IntKind.i64 (0 : Int),
                    V.int Go.IntKind.i64 (0 : Int), V.int Go.IntKind.i64 (0 : Int), V.int Go.IntKind.i64 (0 : Int), V.int Go.IntKind.i64 (0 : Int), V.int Go.IntKind.i64 (0 : Int), V.sl K.ava [],
                    V.bool false, V.sl K.mod []],
                V.int Go.IntKind.i64 (14 : Int)],
            [])
      else
        bif decide ((0 : Int) < (↑(List.length (Elem.kids (List.getD s122 (Int.toNat s124) (Elem.mk (0 : Int) [] [])))) : Int)) then
          bif ok (Elem.body (List.getD (Elem.kids (List.getD s122 (Int.toNat s124) (Elem.mk (0 : Int) [] []))) (0 : Nat) (Elem.mk (0 : Int) [] []))) then
            bif decide ((1 : Int) < (↑(List.length (Elem.kids (List.getD s122 (Int.toNat s124) (Elem.mk (0 : Int) [] [])))) : Int)) then
              bif decide ((2 : Int) ≤ (↑(List.length (Elem.kids (List.getD s122 (Int.toNat s124) (Elem.mk (0 : Int) [] [])))) : Int)) then
                L16_26 n m19 n s0 s122 s123 s124
                  (List.drop (2 : Nat)
                    (List.take (List.length (Elem.kids (List.getD s122 (Int.toNat s124) (Elem.mk (0 : Int) [] [])))) (Elem.kids (List.getD s122 (Int.toNat s124) (Elem.mk (0 : Int) [] [])))))
                  (↑(List.length
                        (List.drop (2 : Nat)
                          (List.take (List.length (Elem.kids (List.getD s122 (Int.toNat s124) (Elem.mk (0 : Int) [] [])))) (Elem.kids (List.getD s122 (Int.toNat s124) (Elem.mk (0 : Int) [] [])))))) :
                    Int)
                  (0 : Int) b2_ b2'_ b2''_ b2'''_ b2''''_ b2'''''_ b2''''''_ b2'''''''_ b2''''''''_ b2'''''''''_ b2'''''''''''_ b10_ b10'_ b10''_ b10'''_ b10''''_ b10'''''_ b10''''''_ b10'''''''_
                  b10''''''''_ b10'''''''''_ b10'''''''''''_ (rdI (Elem.body (List.getD (Elem.kids (List.getD s122 (Int.toNat s124) (Elem.mk (0 : Int) [] []))) (0 : Nat) (Elem.mk (0 : Int) [] []))))
                  (Elem.body (List.getD (Elem.kids (List.getD s122 (Int.toNat s124) (Elem.mk (0 : Int) [] []))) (1 : Nat) (Elem.mk (0 : Int) [] []))) r3010 r3012 r62010 r62012 []
              else none
            else none
          else none
        else none
    else none
  else none
else
  bif
      Chn.ok (Chn.mk (Csn.mk b10_ b10'_ b10''_) b10'''_ (Csn.mk b10''''_ b10'''''_ b10''''''_) (Csn.mk b10'''''''_ b10''''''''_ b10'''''''''_) r62010 b10'''''''''''_ r62012) &&
        Chn.i64 (Chn.mk (Csn.mk b10_ b10'_ b10''_) b10'''_ (Csn.mk b10''''_ b10'''''_ b10''''''_) (Csn.mk b10'''''''_ b10''''''''_ b10'''''''''_) r62010 b10'''''''''''_ r62012) then
    bif
        Prod.snd (bytesC (Chn.mk (Csn.mk b10_ b10'_ b10''_) b10'''_ (Csn.mk b10''''_ b10'''''_ b10''''''_) (Csn.mk b10'''''''_ b10''''''''_ b10'''''''''_) r62010 b10'''''''''''_ r62012)) !=
          (0 : Int) then
      some
        (V.tup
            [V.agg
                [V.int Go.IntKind.i64 (0 : Int), V.int Go.IntKind.i64 (0 : Int), V.int Go.IntKind.i64 (0 : Int), V.int Go.IntKind.i64 (0 : Int), V.int Go.IntKind.i64 (0 : Int),
                  V.int Go.IntKind.i64 (0 : Int), V.int Go.IntKind.i64 (0 : Int), V.int Go.IntKind.i64 (0 : Int), V.int Go.IntKind.i64 (0 : Int), V.int Go.IntKind.i64 (0 : Int), V.sl K.ava [],
                  V.bool false, V.sl K.mod []],
              V.int Go.IntKind.i64 (14 : Int)],
          [])
    else
      bif !Prod.fst (bytesC (Chn.mk (Csn.mk b10_ b10'_ b10''_) b10'''_ (Csn.mk b10''''_ b10'''''_ b10''''''_) (Csn.mk b10'''''''_ b10''''''''_ b10'''''''''_) r62010 b10'''''''''''_ r62012)) == s0 then
        some
          (V.tup
              [V.agg
                  [V.int Go.IntKind.i64 (0 : Int), V.int Go.IntKind.i64 (0 : Int), V.int Go.IntKind.i64 (0 : Int), V.int Go.IntKind.i64 (0 : Int), V.int Go.IntKind.i64 (0 : Int),
                    V.int Go.IntKind.i64 (0 : Int), V.int Go.IntKind.i64 (0 : Int), V.int Go.IntKind.i64 (0 : Int), V.int Go.IntKind.i64 (0 : Int), V.int Go.IntKind.i64 (0 : Int), V.sl K.ava [],
                    V.bool false, V.sl K.mod []],
                V.int Go.IntKind.i64 (14 : Int)],
            [])
      else
        some
          (V.tup
              [V.agg
                  [V.int Go.IntKind.i64 b10_, V.int Go.IntKind.i64 b10'_, V.int Go.IntKind.i64 b10''_, V.int Go.IntKind.i64 b10'''_, V.int Go.IntKind.i64 b10''''_, V.int Go.IntKind.i64 b10'''''_,
                    V.int Go.IntKind.i64 b10''''''_, V.int Go.IntKind.i64 b10'''''''_, V.int Go.IntKind.i64 b10''''''''_, V.int Go.IntKind.i64 b10'''''''''_, V.sl K.ava r62010, V.bool b10'''''''''''_,
                    V.sl K.mod r62012],
                V.int Go.IntKind.i64 (0 : Int)],
            [])
  else none := by kernel_rfl
theorem rd16_26 (n m19 m26 : Nat) (s0 : Str) (s122 : List Elem) (s123 : Int) (s124 : Int) (s151 : List Elem) (s152 : Int) (s153 : Int) (b2_ : Int) (b2'_ : Int) (b2''_ : Int) (b2'''_ : Int) (b2''''_ : Int) (b2'''''_ : Int) (b2''''''_ : Int) (b2'''''''_ : Int) (b2''''''''_ : Int) (b2'''''''''_ : Int) (b2'''''''''''_ : Bool) (b10_ : Int) (b10'_ : Int) (b10''_ : Int) (b10'''_ : Int) (b10''''_ : Int) (b10'''''_ : Int) (b10''''''_ : Int) (b10'''''''_ : Int) (b10''''''''_ : Int) (b10'''''''''_ : Int) (b10'''''''''''_ : Bool) (b19_ : Int) (b19'_ : Str) (r3010 : List AVA) (r3012 : List Go.Ev.Mod) (r62010 : List AVA) (r62012 : List Go.Ev.Mod) (r149002 : List Str) : L16_26 n m19 (m26 + 1) s0 s122 s123 s124 s151 s152 s153 b2_ b2'_ b2''_ b2'''_ b2''''_ b2'''''_ b2''''''_ b2'''''''_ b2''''''''_ b2'''''''''_ b2'''''''''''_ b10_ b10'_ b10''_ b10'''_ b10''''_ b10'''''_ b10''''''_ b10'''''''_ b10''''''''_ b10'''''''''_ b10'''''''''''_ b19_ b19'_ r3010 r3012 r62010 r62012 r149002 =
  bif decide (s153 < s152) then
  bif decide ((0 : Int) ≤ s153) then
    bif decide (s153 < (↑(List.length s151) : Int)) then
      bif Nat.ble (List.length r149002 + List.length [Elem.body (List.getD s151 (Int.toNat s153) (Elem.mk (0 : Int) [] []))]) (1073741824 : Nat) then
        L16_26 n m19 m26 s0 s122 s123 s124 s151 s152 (Go.IntKind.wrap Go.IntKind.i64 (s153 + (1 : Int))) b2_ b2'_ b2''_ b2'''_ b2''''_ b2'''''_ b2''''''_ b2'''''''_ b2''''''''_ b2'''''''''_
          b2'''''''''''_ b10_ b10'_ b10''_ b10'''_ b10''''_ b10'''''_ b10''''''_ b10'''''''_ b10''''''''_ b10'''''''''_ b10'''''''''''_ b19_ b19'_ r3010 r3012 r62010 r62012
          (r149002 ++ [Elem.body (List.getD s151 (Int.toNat s153) (Elem.mk (0 : Int) [] []))])
      else none
    else none
  else none
else
  bif Nat.ble (List.length r62012 + List.length [Go.Ev.Mod.mk b19_ b19'_ r149002]) (1073741824 : Nat) then
    L16_19 n m19 s0 s122 s123 (Go.IntKind.wrap Go.IntKind.i64 (s124 + (1 : Int))) b2_ b2'_ b2''_ b2'''_ b2''''_ b2'''''_ b2''''''_ b2'''''''_ b2''''''''_ b2'''''''''_ b2'''''''''''_ b10_ b10'_ b10''_
      b10'''_ b10''''_ b10'''''_ b10''''''_ b10'''''''_ b10''''''''_ b10'''''''''_ b10'''''''''''_ r3010 r3012 r62010 (r62012 ++ [Go.Ev.Mod.mk b19_ b19'_ r149002])
  else none := by kernel_rfl
end Go.Ev
/-
  What single functions of the program compute, region by region, as the evaluator tells it: printed by a program (tools/YtreeTool) and checked here.
-/
namespace Go.Ev
open Go.Proofs Go.Ev.Sp
theorem ev14 (n : Nat) (s : Str) (c : Chn) (e : Int) : evalBody E ((c14 s c e)) 14 Tryz.f14 n [.str s] [] =
  bif s == s then
  bif e != (0 : Int) then
    bif e == (14 : Int) then
      bif
          bigC
            (Chn.mk (Csn.mk (Csn.t (Chn.c c)) (Csn.s (Chn.c c)) (Csn.r (Chn.c c))) (Chn.kind c) (Csn.mk (Csn.t (Chn.id c)) (Csn.s (Chn.id c)) (Csn.r (Chn.id c)))
              (Csn.mk (Csn.t (Chn.par c)) (Csn.s (Chn.par c)) (Csn.r (Chn.par c))) (Chn.rdn c) (Chn.del c) (Chn.mods c)) then
        some
          (V.bool
              (sameC
                (Chn.mk (Csn.mk (Csn.t (Chn.c c)) (Csn.s (Chn.c c)) (Csn.r (Chn.c c))) (Chn.kind c) (Csn.mk (Csn.t (Chn.id c)) (Csn.s (Chn.id c)) (Csn.r (Chn.id c)))
                  (Csn.mk (Csn.t (Chn.par c)) (Csn.s (Chn.par c)) (Csn.r (Chn.par c))) (Chn.rdn c) (Chn.del c) (Chn.mods c))
                (Chn.mk (Csn.mk (0 : Int) (0 : Int) (0 : Int)) (0 : Int) (Csn.mk (0 : Int) (0 : Int) (0 : Int)) (Csn.mk (0 : Int) (0 : Int) (0 : Int)) [] false [])),
            [])
      else none
    else some (V.bool false, [])
  else
    bif
        Chn.ok
            (Chn.mk (Csn.mk (Csn.t (Chn.c c)) (Csn.s (Chn.c c)) (Csn.r (Chn.c c))) (Chn.kind c) (Csn.mk (Csn.t (Chn.id c)) (Csn.s (Chn.id c)) (Csn.r (Chn.id c)))
              (Csn.mk (Csn.t (Chn.par c)) (Csn.s (Chn.par c)) (Csn.r (Chn.par c))) (Chn.rdn c) (Chn.del c) (Chn.mods c)) &&
          Chn.i64
            (Chn.mk (Csn.mk (Csn.t (Chn.c c)) (Csn.s (Chn.c c)) (Csn.r (Chn.c c))) (Chn.kind c) (Csn.mk (Csn.t (Chn.id c)) (Csn.s (Chn.id c)) (Csn.r (Chn.id c)))
              (Csn.mk (Csn.t (Chn.par c)) (Csn.s (Chn.par c)) (Csn.r (Chn.par c))) (Chn.rdn c) (Chn.del c) (Chn.mods c)) then
      bif
          Prod.snd
              (bytesC
                (Chn.mk (Csn.mk (Csn.t (Chn.c c)) (Csn.s (Chn.c c)) (Csn.r (Chn.c c))) (Chn.kind c) (Csn.mk (Csn.t (Chn.id c)) (Csn.s (Chn.id c)) (Csn.r (Chn.id c)))
                  (Csn.mk (Csn.t (Chn.par c)) (Csn.s (Chn.par c)) (Csn.r (Chn.par c))) (Chn.rdn c) (Chn.del c) (Chn.mods c))) ==
            (0 : Int) then
        bif
            Prod.fst
                (bytesC
                  (Chn.mk (Csn.mk (Csn.t (Chn.c c)) (Csn.s (Chn.c c)) (Csn.r (Chn.c c))) (Chn.kind c) (Csn.mk (Csn.t (Chn.id c)) (Csn.s (Chn.id c)) (Csn.r (Chn.id c)))
                    (Csn.mk (Csn.t (Chn.par c)) (Csn.s (Chn.par c)) (Csn.r (Chn.par c))) (Chn.rdn c) (Chn.del c) (Chn.mods c))) ==
              s then
          bif
              Chn.ok
                (Chn.mk (Csn.mk (Csn.t (Chn.c c)) (Csn.s (Chn.c c)) (Csn.r (Chn.c c))) (Chn.kind c) (Csn.mk (Csn.t (Chn.id c)) (Csn.s (Chn.id c)) (Csn.r (Chn.id c)))
                  (Csn.mk (Csn.t (Chn.par c)) (Csn.s (Chn.par c)) (Csn.r (Chn.par c))) (Chn.rdn c) (Chn.del c) (Chn.mods c)) then
            some
              (V.bool
                  (isChange
                    (Chn.mk (Csn.mk (Csn.t (Chn.c c)) (Csn.s (Chn.c c)) (Csn.r (Chn.c c))) (Chn.kind c) (Csn.mk (Csn.t (Chn.id c)) (Csn.s (Chn.id c)) (Csn.r (Chn.id c)))
                      (Csn.mk (Csn.t (Chn.par c)) (Csn.s (Chn.par c)) (Csn.r (Chn.par c))) (Chn.rdn c) (Chn.del c) (Chn.mods c))),
                [])
          else none
        else some (V.bool false, [])
      else some (V.bool false, [])
    else none
else none := by kernel_rfl
theorem bd4 {T : Tab} (hC : OrcOk Tryz.prog T c4) (n : Nat) {args : List V} {outs : List (List V)} {r : V} {outs' : List (List V)} (h : evalBody E c4 4 Tryz.f4 n args outs = some (r, outs')) : Answers Tryz.prog T 4 args outs r outs' := body hC (by kernel_rfl) h
theorem ev4 (n : Nat) (x : Chn) (i b : Int) (s : Str) : evalBody E c4 4 Tryz.f4 n [.agg (Chn.cells x), .int .u16 i, .int .u8 b, .str s] [] =
  bif
    bigC
      (Chn.mk (Csn.mk (Csn.t (Chn.c x)) (Csn.s (Chn.c x)) (Csn.r (Chn.c x))) (Chn.kind x) (Csn.mk (Csn.t (Chn.id x)) (Csn.s (Chn.id x)) (Csn.r (Chn.id x)))
        (Csn.mk (Csn.t (Chn.par x)) (Csn.s (Chn.par x)) (Csn.r (Chn.par x))) (Chn.rdn x) (Chn.del x) (Chn.mods x)) then
  bif
      !few
          (Chn.mk (Csn.mk (Csn.t (Chn.c x)) (Csn.s (Chn.c x)) (Csn.r (Chn.c x))) (Chn.kind x) (Csn.mk (Csn.t (Chn.id x)) (Csn.s (Chn.id x)) (Csn.r (Chn.id x)))
            (Csn.mk (Csn.t (Chn.par x)) (Csn.s (Chn.par x)) (Csn.r (Chn.par x))) (Chn.rdn x) (Chn.del x) (Chn.mods x)) then
    some (V.bool true, [])
  else
    bif decide ((↑(List.length s) : Int) > (600 : Int)) then some (V.bool true, [])
    else
      bif
          Chn.ok
              (Chn.mk (Csn.mk (Csn.t (Chn.c x)) (Csn.s (Chn.c x)) (Csn.r (Chn.c x))) (Chn.kind x) (Csn.mk (Csn.t (Chn.id x)) (Csn.s (Chn.id x)) (Csn.r (Chn.id x)))
                (Csn.mk (Csn.t (Chn.par x)) (Csn.s (Chn.par x)) (Csn.r (Chn.par x))) (Chn.rdn x) (Chn.del x) (Chn.mods x)) &&
            Chn.i64
              (Chn.mk (Csn.mk (Csn.t (Chn.c x)) (Csn.s (Chn.c x)) (Csn.r (Chn.c x))) (Chn.kind x) (Csn.mk (Csn.t (Chn.id x)) (Csn.s (Chn.id x)) (Csn.r (Chn.id x)))
                (Csn.mk (Csn.t (Chn.par x)) (Csn.s (Chn.par x)) (Csn.r (Chn.par x))) (Chn.rdn x) (Chn.del x) (Chn.mods x)) then
        bif
            Prod.snd
                (bytesC
                  (Chn.mk (Csn.mk (Csn.t (Chn.c x)) (Csn.s (Chn.c x)) (Csn.r (Chn.c x))) (Chn.kind x) (Csn.mk (Csn.t (Chn.id x)) (Csn.s (Chn.id x)) (Csn.r (Chn.id x)))
                    (Csn.mk (Csn.t (Chn.par x)) (Csn.s (Chn.par x)) (Csn.r (Chn.par x))) (Chn.rdn x) (Chn.del x) (Chn.mods x))) ==
              (0 : Int) then
          bif
              decide
                ((↑(List.length
                        (Prod.fst
                          (bytesC
                            (Chn.mk (Csn.mk (Csn.t (Chn.c x)) (Csn.s (Chn.c x)) (Csn.r (Chn.c x))) (Chn.kind x) (Csn.mk (Csn.t (Chn.id x)) (Csn.s (Chn.id x)) (Csn.r (Chn.id x)))
                              (Csn.mk (Csn.t (Chn.par x)) (Csn.s (Chn.par x)) (Csn.r (Chn.par x))) (Chn.rdn x) (Chn.del x) (Chn.mods x))))) :
                    Int) >
                  (0 : Int)) then
            bif
                decide
                  ((↑(List.length
                          (List.map (fun (c : UInt8) => (↑(UInt8.toNat c) : Int))
                            (Prod.fst
                              (bytesC
                                (Chn.mk (Csn.mk (Csn.t (Chn.c x)) (Csn.s (Chn.c x)) (Csn.r (Chn.c x))) (Chn.kind x) (Csn.mk (Csn.t (Chn.id x)) (Csn.s (Chn.id x)) (Csn.r (Chn.id x)))
                                  (Csn.mk (Csn.t (Chn.par x)) (Csn.s (Chn.par x)) (Csn.r (Chn.par x))) (Chn.rdn x) (Chn.del x) (Chn.mods x)))))) :
                      Int) =
                    (0 : Int)) then
              none
            else
              bif
                  decide
                    ((↑(List.length
                            (List.map (fun (c : UInt8) => (↑(UInt8.toNat c) : Int))
                              (Prod.fst
                                (bytesC
                                  (Chn.mk (Csn.mk (Csn.t (Chn.c x)) (Csn.s (Chn.c x)) (Csn.r (Chn.c x))) (Chn.kind x) (Csn.mk (Csn.t (Chn.id x)) (Csn.s (Chn.id x)) (Csn.r (Chn.id x)))
                                    (Csn.mk (Csn.t (Chn.par x)) (Csn.s (Chn.par x)) (Csn.r (Chn.par x))) (Chn.rdn x) (Chn.del x) (Chn.mods x)))))) :
                        Int) =
                      (0 : Int)) then
                none
              else
                bif
                    decide
                      ((0 : Int) ≤
                        Int.tmod (Go.IntKind.wrap Go.IntKind.i64 i)
                          (↑(List.length
                                (List.map (fun (c : UInt8) => (↑(UInt8.toNat c) : Int))
                                  (Prod.fst
                                    (bytesC
                                      (Chn.mk (Csn.mk (Csn.t (Chn.c x)) (Csn.s (Chn.c x)) (Csn.r (Chn.c x))) (Chn.kind x) (Csn.mk (Csn.t (Chn.id x)) (Csn.s (Chn.id x)) (Csn.r (Chn.id x)))
                                        (Csn.mk (Csn.t (Chn.par x)) (Csn.s (Chn.par x)) (Csn.r (Chn.par x))) (Chn.rdn x) (Chn.del x) (Chn.mods x)))))) :
                            Int)) then
                  bif
                      decide
                        (Int.tmod (Go.IntKind.wrap Go.IntKind.i64 i)
                            (↑(List.length
                                  (List.map (fun (c : UInt8) => (↑(UInt8.toNat c) : Int))
                                    (Prod.fst
                                      (bytesC
                                        (Chn.mk (Csn.mk (Csn.t (Chn.c x)) (Csn.s (Chn.c x)) (Csn.r (Chn.c x))) (Chn.kind x) (Csn.mk (Csn.t (Chn.id x)) (Csn.s (Chn.id x)) (Csn.r (Chn.id x)))
                                          (Csn.mk (Csn.t (Chn.par x)) (Csn.s (Chn.par x)) (Csn.r (Chn.par x))) (Chn.rdn x) (Chn.del x) (Chn.mods x)))))) :
                              Int) <
                          (↑(List.length
                                (List.map (fun (c : UInt8) => (↑(UInt8.toNat c) : Int))
                                  (Prod.fst
                                    (bytesC
                                      (Chn.mk (Csn.mk (Csn.t (Chn.c x)) (Csn.s (Chn.c x)) (Csn.r (Chn.c x))) (Chn.kind x) (Csn.mk (Csn.t (Chn.id x)) (Csn.s (Chn.id x)) (Csn.r (Chn.id x)))
                                        (Csn.mk (Csn.t (Chn.par x)) (Csn.s (Chn.par x)) (Csn.r (Chn.par x))) (Chn.rdn x) (Chn.del x) (Chn.mods x)))))) :
                            Int)) then
                    bif
                        decide
                          ((0 : Int) ≤
                            Int.tmod (Go.IntKind.wrap Go.IntKind.i64 i)
                              (↑(List.length
                                    (List.map (fun (c : UInt8) => (↑(UInt8.toNat c) : Int))
                                      (Prod.fst
                                        (bytesC
                                          (Chn.mk (Csn.mk (Csn.t (Chn.c x)) (Csn.s (Chn.c x)) (Csn.r (Chn.c x))) (Chn.kind x) (Csn.mk (Csn.t (Chn.id x)) (Csn.s (Chn.id x)) (Csn.r (Chn.id x)))
                                            (Csn.mk (Csn.t (Chn.par x)) (Csn.s (Chn.par x)) (Csn.r (Chn.par x))) (Chn.rdn x) (Chn.del x) (Chn.mods x)))))) :
                                Int)) then
                      bif
                          decide
                            (Int.tmod (Go.IntKind.wrap Go.IntKind.i64 i)
                                (↑(List.length
                                      (List.map (fun (c : UInt8) => (↑(UInt8.toNat c) : Int))
                                        (Prod.fst
                                          (bytesC
                                            (Chn.mk (Csn.mk (Csn.t (Chn.c x)) (Csn.s (Chn.c x)) (Csn.r (Chn.c x))) (Chn.kind x) (Csn.mk (Csn.t (Chn.id x)) (Csn.s (Chn.id x)) (Csn.r (Chn.id x)))
                                              (Csn.mk (Csn.t (Chn.par x)) (Csn.s (Chn.par x)) (Csn.r (Chn.par x))) (Chn.rdn x) (Chn.del x) (Chn.mods x)))))) :
                                  Int) <
                              (↑(List.length
                                    (List.map (fun (c : UInt8) => (↑(UInt8.toNat c) : Int))
                                      (Prod.fst
                                        (bytesC
                                          (Chn.mk (Csn.mk (Csn.t (Chn.c x)) (Csn.s (Chn.c x)) (Csn.r (Chn.c x))) (Chn.kind x) (Csn.mk (Csn.t (Chn.id x)) (Csn.s (Chn.id x)) (Csn.r (Chn.id x)))
                                            (Csn.mk (Csn.t (Chn.par x)) (Csn.s (Chn.par x)) (Csn.r (Chn.par x))) (Chn.rdn x) (Chn.del x) (Chn.mods x)))))) :
                                Int)) then
                        bif
                            ok
                              (List.map (fun (n : Int) => UInt8.ofNat (Int.toNat n))
                                (List.set
                                  (List.map (fun (c : UInt8) => (↑(UInt8.toNat c) : Int))
                                    (Prod.fst
                                      (bytesC
                                        (Chn.mk (Csn.mk (Csn.t (Chn.c x)) (Csn.s (Chn.c x)) (Csn.r (Chn.c x))) (Chn.kind x) (Csn.mk (Csn.t (Chn.id x)) (Csn.s (Chn.id x)) (Csn.r (Chn.id x)))
                                          (Csn.mk (Csn.t (Chn.par x)) (Csn.s (Chn.par x)) (Csn.r (Chn.par x))) (Chn.rdn x) (Chn.del x) (Chn.mods x)))))
                                  (Int.toNat
                                    (Int.tmod (Go.IntKind.wrap Go.IntKind.i64 i)
                                      (↑(List.length
                                            (List.map (fun (c : UInt8) => (↑(UInt8.toNat c) : Int))
                                              (Prod.fst
                                                (bytesC
                                                  (Chn.mk (Csn.mk (Csn.t (Chn.c x)) (Csn.s (Chn.c x)) (Csn.r (Chn.c x))) (Chn.kind x) (Csn.mk (Csn.t (Chn.id x)) (Csn.s (Chn.id x)) (Csn.r (Chn.id x)))
                                                    (Csn.mk (Csn.t (Chn.par x)) (Csn.s (Chn.par x)) (Csn.r (Chn.par x))) (Chn.rdn x) (Chn.del x) (Chn.mods x)))))) :
                                        Int)))
                                  (Go.IntKind.wrap Go.IntKind.u8
                                    (↑(BitVec.toNat
                                          (BitVec.ofInt (8 : Nat)
                                              (List.getD
                                                (List.map (fun (c : UInt8) => (↑(UInt8.toNat c) : Int))
                                                  (Prod.fst
                                                    (bytesC
                                                      (Chn.mk (Csn.mk (Csn.t (Chn.c x)) (Csn.s (Chn.c x)) (Csn.r (Chn.c x))) (Chn.kind x)
                                                        (Csn.mk (Csn.t (Chn.id x)) (Csn.s (Chn.id x)) (Csn.r (Chn.id x))) (Csn.mk (Csn.t (Chn.par x)) (Csn.s (Chn.par x)) (Csn.r (Chn.par x)))
                                                        (Chn.rdn x) (Chn.del x) (Chn.mods x)))))
                                                (Int.toNat
                                                  (Int.tmod (Go.IntKind.wrap Go.IntKind.i64 i)
                                                    (↑(List.length
                                                          (List.map (fun (c : UInt8) => (↑(UInt8.toNat c) : Int))
                                                            (Prod.fst
                                                              (bytesC
                                                                (Chn.mk (Csn.mk (Csn.t (Chn.c x)) (Csn.s (Chn.c x)) (Csn.r (Chn.c x))) (Chn.kind x)
                                                                  (Csn.mk (Csn.t (Chn.id x)) (Csn.s (Chn.id x)) (Csn.r (Chn.id x))) (Csn.mk (Csn.t (Chn.par x)) (Csn.s (Chn.par x)) (Csn.r (Chn.par x)))
                                                                  (Chn.rdn x) (Chn.del x) (Chn.mods x)))))) :
                                                      Int)))
                                                (0 : Int)) ^^^
                                            BitVec.ofInt (8 : Nat) b)) :
                                      Int)))) then
                          bif ok s then some (V.bool true, []) else none
                        else none
                      else none
                    else none
                  else none
                else none
          else bif ok s then some (V.bool true, []) else none
        else bif ok s then some (V.bool true, []) else none
      else none
else none := by kernel_rfl
end Go.Ev
