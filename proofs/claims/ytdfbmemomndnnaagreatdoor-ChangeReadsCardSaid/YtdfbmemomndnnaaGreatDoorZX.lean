/-
  ChangeTells answers true.
-/
import Derived.Test.YtdfbmemomndnnaaGreatDoorZV
import Derived.Test.YtdfbmemomndnnaaGreatDoorZW
namespace Go.Ev
open Go.Proofs Sp
theorem formed_text (s : Str) (d : Nat) : formedF (d + 1) (tText s) = true := rfl
theorem formed_int (i : Int) (d : Nat) : formedF (d + 1) (tInt i) = true := rfl
theorem formed_list {d : Nat} {l : List Elem} (h : l.all (formedF d) = true) : formedF (d + 1) (tList l) = true := h
theorem formed_chg (x : Chn) : formedF 4 (chgE x) = true := by
  refine formed_list ?_
  have h1 : (x.rdn.flatMap avaE).all (formedF 2) = true := by
    rw [List.all_eq_true]
    intro e he
    obtain ⟨a, _, ha⟩ := List.mem_flatMap.1 he
    simp only [avaE, List.mem_cons, List.not_mem_nil, or_false] at ha
    rcases ha with rfl | rfl <;> rfl
  have h2 : (x.mods.map modE).all (formedF 2) = true := by
    rw [List.all_eq_true]
    intro e he
    obtain ⟨m, _, rfl⟩ := List.mem_map.1 he
    refine formed_list ?_
    rw [List.all_eq_true]
    intro e he
    simp only [List.mem_cons, List.mem_map] at he
    rcases he with rfl | rfl | ⟨v, _, rfl⟩ <;> rfl
  rw [List.all_cons, List.all_cons, List.all_cons, List.all_cons, List.all_cons, List.all_cons, formed_list h1, formed_list h2]
  rfl
theorem bytesC_14 (x : Chn) : ((bytesC x).2 == 14) = !isChange x := by
  unfold bytesC
  cases isChange x with
  | false => rfl
  | true =>
    simp only [Bool.not_true, cond_false]
    generalize hb : ((writeF 4 (chgE x)).2 == 0 && decide (((writeF 4 (chgE x)).1.length : Int) > 4000)) = b
    cases b with
    | true => rfl
    | false =>
      simp only [cond_false]
      unfold writeF
      rw [formed_chg]
      simp only [Bool.not_true, cond_false]
      generalize decide (deepF 4 (chgE x) > 20) = c
      cases c with
      | true => rfl
      | false =>
        simp only [cond_false]
        cases bytesF 4 (chgE x) <;> rfl
theorem few_ok {x : Chn} (h : few x = true) : x.ok = true := by
  have l1 : ∀ n m : Nat, Nat.ble n m = true → m ≤ lim → Nat.ble n lim = true := fun n m h k => Nat.ble_eq_true_of_le (Nat.le_trans (Nat.le_of_ble_eq_true h) k)
  simp only [few, fewMods, fewRDN, Bool.and_eq_true] at h
  obtain ⟨⟨h1, h2⟩, h3, h4⟩ := h
  have e : lim = 1000000000 := rfl
  unfold Chn.ok okAs okMs
  rw [l1 _ _ h4 (by omega), l1 _ _ h2 (by omega)]
  simp only [Bool.true_and, Bool.and_eq_true, List.all_eq_true] at h1 h3 ⊢
  refine ⟨fun a ha => ?_, fun m hm => ?_⟩
  · have := h3 a ha
    simp only [fewA, Bool.and_eq_true] at this
    unfold okA Sp.ok
    rw [l1 _ _ this.1 (by omega), l1 _ _ this.2 (by omega)]; rfl
  · have := h1 m hm
    simp only [fewM, Bool.and_eq_true, List.all_eq_true] at this
    unfold okM okSs Sp.ok
    rw [l1 _ _ this.1.1 (by omega), l1 _ _ this.1.2 (by omega)]
    simp only [Bool.true_and, List.all_eq_true]
    exact fun v hv => l1 _ _ (this.2 v hv) (by omega)
theorem an3 (x y : Chn) (hx : bigC x = true) (hy : bigC y = true) (hi : x.i64 = true) : evalBody E c3 3 Tryz.f3 5 [.agg x.cells, .agg y.cells] [] = some (.bool true, []) := by
  have e1 : ∀ z : Chn, Chn.mk (Csn.mk (Csn.t (Chn.c z)) (Csn.s (Chn.c z)) (Csn.r (Chn.c z))) (Chn.kind z) (Csn.mk (Csn.t (Chn.id z)) (Csn.s (Chn.id z)) (Csn.r (Chn.id z)))
      (Csn.mk (Csn.t (Chn.par z)) (Csn.s (Chn.par z)) (Csn.r (Chn.par z))) (Chn.rdn z) (Chn.del z) (Chn.mods z) = z := fun _ => rfl
  rw [ev3]
  simp only [e1]
  rw [hx, hy]
  cases hf : few x with
  | false => rfl
  | true =>
    cases few y with
    | false => rfl
    | true =>
      have hb := bytesC_14 x
      simp only [few_ok hf, hi, Bool.not_true, cond_false, cond_true, Bool.and_self, beq_self_eq_true]
      rw [hb]
      simp
theorem f3_at : Tryz.prog.funcs[3]? = some Tryz.f3 := by kernel_rfl
theorem tells {T : Tab} (ht : TabOk T) {x y : Chn} (hx : bigC x = true) (hy : bigC y = true) (hi : x.i64 = true) : Answers Tryz.prog T 3 [.agg x.cells, .agg y.cells] [] (.bool true) [] :=
  body (orc_cons (ok7 ht) (orc_cons ok8 (orc_cons (ok9 (ok70 ht) (ok71 ht)) (orc_cons ok10 (orc_cons ok11 (orc_cons ok12 (orc1 ok13))))))) f3_at (an3 x y hx hy hi)
end Go.Ev
