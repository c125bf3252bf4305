/-
  What the statements' first test answers: true.
-/
import Derived.Test.YtdfbmemomndnnaaGreatDoorZJ
import Derived.Test.YtdfbmemomndnnaaGreatDoorZU
import Derived.Test.YtdfbmemomndnnaaGreatDoorZT
namespace Go.Ev
open Go.Proofs Sp
def sp40 : Spec | [.sl .ava l], [] => some (Nat.ble (List.length (α := AVA) l) rowLim, .sl .ava l, []) | _, _ => none
def sp41 : Spec | [.sl .mod l], [] => some (Nat.ble (List.length (α := Mod) l) rowLim, .sl .mod l, []) | _, _ => none
def sp42 : Spec | [.sl .str l], [] => some (Nat.ble (List.length (α := Str) l) rowLim, .sl .str l, []) | _, _ => none
theorem ok40 {T : Tab} : SpecOk T 40 sp40 := by
  intro args outs r outs' h
  unfold sp40 at h
  split at h
  · simp only [Option.some.injEq, Prod.mk.injEq] at h
    obtain ⟨hn, rfl, rfl⟩ := h
    exact clone_ans f40_at clone40_emp clone40_cons rfl _ (Nat.le_of_ble_eq_true hn)
  · cases h
theorem ok41 {T : Tab} : SpecOk T 41 sp41 := by
  intro args outs r outs' h
  unfold sp41 at h
  split at h
  · simp only [Option.some.injEq, Prod.mk.injEq] at h
    obtain ⟨hn, rfl, rfl⟩ := h
    exact clone_ans f41_at clone41_emp clone41_cons rfl _ (Nat.le_of_ble_eq_true hn)
  · cases h
theorem ok42 {T : Tab} : SpecOk T 42 sp42 := by
  intro args outs r outs' h
  unfold sp42 at h
  split at h
  · simp only [Option.some.injEq, Prod.mk.injEq] at h
    obtain ⟨hn, rfl, rfl⟩ := h
    exact clone_ans f42_at clone42_emp clone42_cons rfl _ (Nat.le_of_ble_eq_true hn)
  · cases h
def k0 : Orc := orc [(9, sp9), (24, sp24), (50, sp50), (46, sp46), (65, sp65), (66, sp66), (40, sp40), (41, sp41), (42, sp42)]
theorem k0_ok {T : Tab} (ht : TabOk T) : OrcOk Tryz.prog T k0 :=
  orc_cons (ok9 (ok70 ht) (ok71 ht)) (orc_cons ok24 (orc_cons (ok50 (ok70 ht) (ok71 ht)) (orc_cons ok46 (orc_cons (ok65 ht) (orc_cons (ok66 ht) (orc_cons ok40 (orc_cons ok41 (orc1 ok42))))))))
/-- The change that the test writes and reads. -/
def kc : Chn := ⟨⟨2, 0, 0⟩, 2, ⟨1, 0, 0⟩, ⟨0, 0, 0⟩, [], false, []⟩
def k00 : Chn := ⟨⟨0, 0, 0⟩, 0, ⟨0, 0, 0⟩, ⟨0, 0, 0⟩, [], false, []⟩
def kB : Str := [0x30, 28, 2, 1, 2, 4, 5, 50, 46, 48, 46, 48, 4, 5, 49, 46, 48, 46, 48, 4, 5, 48, 46, 48, 46, 48, 0x30, 0, 0x30, 0]
theorem kb1 : bytesC kc = (kB, 0) := by kernel_rfl
theorem kr0 : over k0 6 16 [.str []] [] = some (true, .tup [.agg k00.cells, .int .i64 14], []) := by kernel_rfl
theorem kr1 : over k0 9 16 [.str kB] [] = some (true, .tup [.agg kc.cells, .int .i64 0], []) := by kernel_rfl
theorem kr2 : over k0 9 15 [.agg kc.cells] [] = some (true, .agg kc.cells, []) := by kernel_rfl
/-- Read and Copy, at what the test asks. -/
def k16 : Spec | [.str s], [] => bif s == kB then some (true, .tup [.agg kc.cells, .int .i64 0], []) else bif s == [] then some (true, .tup [.agg k00.cells, .int .i64 14], []) else none | _, _ => none
def k15 : Spec | [.agg cs], [] => bif veqCs cs kc.cells then some (true, .agg kc.cells, []) else none | _, _ => none
theorem k16_ok {T : Tab} (ht : TabOk T) : SpecOk T 16 k16 := by
  intro args outs r outs' h
  unfold k16 at h
  split at h
  · rename_i s
    cases h1 : s == kB with
    | true =>
      rw [h1] at h
      simp only [cond_true, Option.some.injEq, Prod.mk.injEq, true_and] at h
      obtain ⟨rfl, rfl⟩ := h
      obtain rfl := eq_of_beq h1
      exact over_ok (k0_ok ht) 9 _ _ _ _ _ kr1
    | false =>
      rw [h1] at h
      simp only [cond_false] at h
      cases h2 : s == [] with
      | true =>
        rw [h2] at h
        simp only [cond_true, Option.some.injEq, Prod.mk.injEq, true_and] at h
        obtain ⟨rfl, rfl⟩ := h
        obtain rfl := eq_of_beq h2
        exact over_ok (k0_ok ht) 6 _ _ _ _ _ kr0
      | false => rw [h2] at h; cases h
  · cases h
theorem k15_ok {T : Tab} (ht : TabOk T) : SpecOk T 15 k15 := by
  intro args outs r outs' h
  unfold k15 at h
  split at h
  · rename_i cs
    cases h1 : veqCs cs kc.cells with
    | true =>
      rw [h1] at h
      simp only [cond_true, Option.some.injEq, Prod.mk.injEq, true_and] at h
      obtain ⟨rfl, rfl⟩ := h
      obtain rfl := veqCs_ok h1
      exact over_ok (k0_ok ht) 9 _ _ _ _ _ kr2
    | false => rw [h1] at h; cases h
  · cases h
def kcV : V := .agg [.int .i64 2, .int .i64 0, .int .i64 0, .int .i64 2, .int .i64 1, .int .i64 0, .int .i64 0, .int .i64 0, .int .i64 0, .int .i64 0, .sl .ava [], .bool false, .sl .mod []]
def k0V : V := .agg [.int .i64 0, .int .i64 0, .int .i64 0, .int .i64 0, .int .i64 0, .int .i64 0, .int .i64 0, .int .i64 0, .int .i64 0, .int .i64 0, .sl .ava [], .bool false, .sl .mod []]
def l7 : List (FuncId × List V × V) := [(9, [kcV], .tup [.str kB, .int .i64 0]), (9, [k0V], .tup [.str [], .int .i64 14]), (16, [.str kB], .tup [kcV, .int .i64 0]), (16, [.str []], .tup [k0V, .int .i64 14]),
  (15, [kcV], kcV), (13, [kcV, kcV], .bool true), (12, [kcV, kcV], .bool true), (10, [kcV], .bool true), (10, [k0V], .bool false)]
theorem l7_ok {T : Tab} (ht : TabOk T) : OrcOk Tryz.prog T (tbl l7) := tbl_ok fun x hx => by
  have h9 : SpecOk T 9 sp9 := ok9 (ok70 ht) (ok71 ht)
  have h16 := k16_ok ht
  have h15 := k15_ok ht
  simp only [l7, List.mem_cons, List.not_mem_nil, or_false] at hx
  rcases hx with rfl | rfl | rfl | rfl | rfl | rfl | rfl | rfl | rfl
  · exact h9 _ _ _ _ (by kernel_rfl)
  · exact h9 _ _ _ _ (by kernel_rfl)
  · exact h16 _ _ _ _ (by kernel_rfl)
  · exact h16 _ _ _ _ (by kernel_rfl)
  · exact h15 _ _ _ _ (by kernel_rfl)
  · exact ok13 _ _ _ _ (by kernel_rfl)
  · exact ok12 _ _ _ _ (by kernel_rfl)
  · exact ok10 _ _ _ _ (by kernel_rfl)
  · exact ok10 _ _ _ _ (by kernel_rfl)
theorem f7_at : Tryz.prog.funcs[7]? = some Tryz.f7 := by kernel_rfl
theorem kn7 : evalBody E (tbl l7) 7 Tryz.f7 5 [] [] = some (.bool true, []) := by kernel_rfl
theorem ok7 {T : Tab} (ht : TabOk T) : SpecOk T 7 sp7 := by
  intro args outs r outs' h
  unfold sp7 at h
  split at h
  · simp only [Option.some.injEq, Prod.mk.injEq, true_and] at h
    obtain ⟨rfl, rfl⟩ := h
    exact body (l7_ok ht) f7_at kn7
  · cases h
end Go.Ev
