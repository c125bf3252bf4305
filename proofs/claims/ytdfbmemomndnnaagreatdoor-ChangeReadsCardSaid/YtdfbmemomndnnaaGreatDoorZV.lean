/-
  What single functions of the program compute, region by region, as the evaluator tells it: printed by a program (tools/YtreeTool) and checked here.
-/
import Derived.Test.YtdfbmemomndnnaaGreatDoorZU
namespace Go.Ev
open Go.Proofs Go.Ev.Sp
theorem bd3 {T : Tab} (hC : OrcOk Tryz.prog T c3) (n : Nat) {args : List V} {outs : List (List V)} {r : V} {outs' : List (List V)} (h : evalBody E c3 3 Tryz.f3 n args outs = some (r, outs')) : Answers Tryz.prog T 3 args outs r outs' := body hC (by kernel_rfl) h
theorem ev3 (n : Nat) (x y : Chn) : evalBody E c3 3 Tryz.f3 n [.agg (Chn.cells x), .agg (Chn.cells y)] [] =
  bif
    bigC
      (Chn.mk (Csn.mk (Csn.t (Chn.c x)) (Csn.s (Chn.c x)) (Csn.r (Chn.c x))) (Chn.kind x) (Csn.mk (Csn.t (Chn.id x)) (Csn.s (Chn.id x)) (Csn.r (Chn.id x)))
        (Csn.mk (Csn.t (Chn.par x)) (Csn.s (Chn.par x)) (Csn.r (Chn.par x))) (Chn.rdn x) (Chn.del x) (Chn.mods x)) then
  bif
      !few
          (Chn.mk (Csn.mk (Csn.t (Chn.c x)) (Csn.s (Chn.c x)) (Csn.r (Chn.c x))) (Chn.kind x) (Csn.mk (Csn.t (Chn.id x)) (Csn.s (Chn.id x)) (Csn.r (Chn.id x)))
            (Csn.mk (Csn.t (Chn.par x)) (Csn.s (Chn.par x)) (Csn.r (Chn.par x))) (Chn.rdn x) (Chn.del x) (Chn.mods x)) then
    some (V.bool true, [])
  else
    bif
        bigC
          (Chn.mk (Csn.mk (Csn.t (Chn.c y)) (Csn.s (Chn.c y)) (Csn.r (Chn.c y))) (Chn.kind y) (Csn.mk (Csn.t (Chn.id y)) (Csn.s (Chn.id y)) (Csn.r (Chn.id y)))
            (Csn.mk (Csn.t (Chn.par y)) (Csn.s (Chn.par y)) (Csn.r (Chn.par y))) (Chn.rdn y) (Chn.del y) (Chn.mods y)) then
      bif
          !few
              (Chn.mk (Csn.mk (Csn.t (Chn.c y)) (Csn.s (Chn.c y)) (Csn.r (Chn.c y))) (Chn.kind y) (Csn.mk (Csn.t (Chn.id y)) (Csn.s (Chn.id y)) (Csn.r (Chn.id y)))
                (Csn.mk (Csn.t (Chn.par y)) (Csn.s (Chn.par y)) (Csn.r (Chn.par y))) (Chn.rdn y) (Chn.del y) (Chn.mods y)) then
        some (V.bool true, [])
      else
        bif
            Chn.ok
                (Chn.mk (Csn.mk (Csn.t (Chn.c x)) (Csn.s (Chn.c x)) (Csn.r (Chn.c x))) (Chn.kind x) (Csn.mk (Csn.t (Chn.id x)) (Csn.s (Chn.id x)) (Csn.r (Chn.id x)))
                  (Csn.mk (Csn.t (Chn.par x)) (Csn.s (Chn.par x)) (Csn.r (Chn.par x))) (Chn.rdn x) (Chn.del x) (Chn.mods x)) &&
              Chn.i64
                (Chn.mk (Csn.mk (Csn.t (Chn.c x)) (Csn.s (Chn.c x)) (Csn.r (Chn.c x))) (Chn.kind x) (Csn.mk (Csn.t (Chn.id x)) (Csn.s (Chn.id x)) (Csn.r (Chn.id x)))
                  (Csn.mk (Csn.t (Chn.par x)) (Csn.s (Chn.par x)) (Csn.r (Chn.par x))) (Chn.rdn x) (Chn.del x) (Chn.mods x)) then
          bif
              Chn.ok
                (Chn.mk (Csn.mk (Csn.t (Chn.c x)) (Csn.s (Chn.c x)) (Csn.r (Chn.c x))) (Chn.kind x) (Csn.mk (Csn.t (Chn.id x)) (Csn.s (Chn.id x)) (Csn.r (Chn.id x)))
                  (Csn.mk (Csn.t (Chn.par x)) (Csn.s (Chn.par x)) (Csn.r (Chn.par x))) (Chn.rdn x) (Chn.del x) (Chn.mods x)) then
            bif
                Chn.ok
                  (Chn.mk (Csn.mk (Csn.t (Chn.c x)) (Csn.s (Chn.c x)) (Csn.r (Chn.c x))) (Chn.kind x) (Csn.mk (Csn.t (Chn.id x)) (Csn.s (Chn.id x)) (Csn.r (Chn.id x)))
                    (Csn.mk (Csn.t (Chn.par x)) (Csn.s (Chn.par x)) (Csn.r (Chn.par x))) (Chn.rdn x) (Chn.del x) (Chn.mods x)) then
              bif
                  isChange
                      (Chn.mk (Csn.mk (Csn.t (Chn.c x)) (Csn.s (Chn.c x)) (Csn.r (Chn.c x))) (Chn.kind x) (Csn.mk (Csn.t (Chn.id x)) (Csn.s (Chn.id x)) (Csn.r (Chn.id x)))
                        (Csn.mk (Csn.t (Chn.par x)) (Csn.s (Chn.par x)) (Csn.r (Chn.par x))) (Chn.rdn x) (Chn.del x) (Chn.mods x)) ==
                    isChange
                      (Chn.mk (Csn.mk (Csn.t (Chn.c x)) (Csn.s (Chn.c x)) (Csn.r (Chn.c x))) (Chn.kind x) (Csn.mk (Csn.t (Chn.id x)) (Csn.s (Chn.id x)) (Csn.r (Chn.id x)))
                        (Csn.mk (Csn.t (Chn.par x)) (Csn.s (Chn.par x)) (Csn.r (Chn.par x))) (Chn.rdn x) (Chn.del x) (Chn.mods x)) then
                bif
                    bigC
                      (Chn.mk (Csn.mk (Csn.t (Chn.c x)) (Csn.s (Chn.c x)) (Csn.r (Chn.c x))) (Chn.kind x) (Csn.mk (Csn.t (Chn.id x)) (Csn.s (Chn.id x)) (Csn.r (Chn.id x)))
                        (Csn.mk (Csn.t (Chn.par x)) (Csn.s (Chn.par x)) (Csn.r (Chn.par x))) (Chn.rdn x) (Chn.del x) (Chn.mods x)) then
                  bif
                      bigC
                        (Chn.mk (Csn.mk (Csn.t (Chn.c x)) (Csn.s (Chn.c x)) (Csn.r (Chn.c x))) (Chn.kind x) (Csn.mk (Csn.t (Chn.id x)) (Csn.s (Chn.id x)) (Csn.r (Chn.id x)))
                          (Csn.mk (Csn.t (Chn.par x)) (Csn.s (Chn.par x)) (Csn.r (Chn.par x))) (Chn.rdn x) (Chn.del x) (Chn.mods x)) then
                    bif
                        sameC
                            (Chn.mk (Csn.mk (Csn.t (Chn.c x)) (Csn.s (Chn.c x)) (Csn.r (Chn.c x))) (Chn.kind x) (Csn.mk (Csn.t (Chn.id x)) (Csn.s (Chn.id x)) (Csn.r (Chn.id x)))
                              (Csn.mk (Csn.t (Chn.par x)) (Csn.s (Chn.par x)) (Csn.r (Chn.par x))) (Chn.rdn x) (Chn.del x) (Chn.mods x))
                            (Chn.mk (Csn.mk (Csn.t (Chn.c y)) (Csn.s (Chn.c y)) (Csn.r (Chn.c y))) (Chn.kind y) (Csn.mk (Csn.t (Chn.id y)) (Csn.s (Chn.id y)) (Csn.r (Chn.id y)))
                              (Csn.mk (Csn.t (Chn.par y)) (Csn.s (Chn.par y)) (Csn.r (Chn.par y))) (Chn.rdn y) (Chn.del y) (Chn.mods y)) ==
                          sameC
                            (Chn.mk (Csn.mk (Csn.t (Chn.c x)) (Csn.s (Chn.c x)) (Csn.r (Chn.c x))) (Chn.kind x) (Csn.mk (Csn.t (Chn.id x)) (Csn.s (Chn.id x)) (Csn.r (Chn.id x)))
                              (Csn.mk (Csn.t (Chn.par x)) (Csn.s (Chn.par x)) (Csn.r (Chn.par x))) (Chn.rdn x) (Chn.del x) (Chn.mods x))
                            (Chn.mk (Csn.mk (Csn.t (Chn.c y)) (Csn.s (Chn.c y)) (Csn.r (Chn.c y))) (Chn.kind y) (Csn.mk (Csn.t (Chn.id y)) (Csn.s (Chn.id y)) (Csn.r (Chn.id y)))
                              (Csn.mk (Csn.t (Chn.par y)) (Csn.s (Chn.par y)) (Csn.r (Chn.par y))) (Chn.rdn y) (Chn.del y) (Chn.mods y)) then
                      bif
                          Chn.ok
                            (Chn.mk (Csn.mk (Csn.t (Chn.c x)) (Csn.s (Chn.c x)) (Csn.r (Chn.c x))) (Chn.kind x) (Csn.mk (Csn.t (Chn.id x)) (Csn.s (Chn.id x)) (Csn.r (Chn.id x)))
                              (Csn.mk (Csn.t (Chn.par x)) (Csn.s (Chn.par x)) (Csn.r (Chn.par x))) (Chn.rdn x) (Chn.del x) (Chn.mods x)) then
                        some
                          (V.bool
                              ((Prod.snd
                                    (bytesC
                                      (Chn.mk (Csn.mk (Csn.t (Chn.c x)) (Csn.s (Chn.c x)) (Csn.r (Chn.c x))) (Chn.kind x) (Csn.mk (Csn.t (Chn.id x)) (Csn.s (Chn.id x)) (Csn.r (Chn.id x)))
                                        (Csn.mk (Csn.t (Chn.par x)) (Csn.s (Chn.par x)) (Csn.r (Chn.par x))) (Chn.rdn x) (Chn.del x) (Chn.mods x))) ==
                                  (14 : Int)) ==
                                !isChange
                                    (Chn.mk (Csn.mk (Csn.t (Chn.c x)) (Csn.s (Chn.c x)) (Csn.r (Chn.c x))) (Chn.kind x) (Csn.mk (Csn.t (Chn.id x)) (Csn.s (Chn.id x)) (Csn.r (Chn.id x)))
                                      (Csn.mk (Csn.t (Chn.par x)) (Csn.s (Chn.par x)) (Csn.r (Chn.par x))) (Chn.rdn x) (Chn.del x) (Chn.mods x))),
                            [])
                      else none
                    else some (V.bool false, [])
                  else none
                else none
              else some (V.bool false, [])
            else none
          else none
        else none
    else none
else none := by kernel_rfl
end Go.Ev
