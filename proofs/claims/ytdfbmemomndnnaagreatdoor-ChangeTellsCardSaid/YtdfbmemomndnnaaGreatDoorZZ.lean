/-
  The law ChangeTells: for every pair of changes the call returns true, and both read as they did.
-/
import Derived.Test.YtdfbmemomndnnaaGreatDoorZY
import Derived.Test.YtdfbmemomndnnaaGreatDoorZX
import Derived.Test.YtdfbmemomndnnaaGreatDoorTie
import Derived.Test.YtdfbmemomndnnaaGreatDoorCards
namespace Go.Proofs.YtdfbmemomndnnaaGreatDoor
open Go Go.Ev Go.ChangeShapes Go.RowKit
set_option maxRecDepth 100000 in
theorem tells_main {H : Type} {en : TypeId × Value → H} (W : World) (base : Nat) (args : Array Value) (ds : List (DataW H)) (p : List MemPlace) (hval : ∀ (j : Nat) t v, Tryz.f3.params[j]? = some t → args[j]? = some v → Value.okWide Tryz.prog W .any base t v)
    (hA : DataW.TrodAll en Tryz.prog W 0 (fun _ => true) true Tryz.f3.params.toList args.toList ds p) :
    Rows.changeTellsSpec.fn H ds = { results := [.lit (.bool true)], args := ds } ∧ ∃ avs : List V, All2 (RD (argCx fun _ => 0) (AllS W) W) args.toList avs ∧ ∀ T : Tab, TabOk T → Answers Tryz.prog T 3 avs [] (.bool true) [] := by
  rw [Tryz.params3] at hA hval
  obtain ⟨v1, vs1, d1, ds1, p1, q1, e1, rfl, rfl, h1, hA⟩ := trodAll_cons hA
  obtain ⟨v2, vs2, d2, ds2, p2, q2, e2, rfl, rfl, h2, hA⟩ := trodAll_cons hA
  obtain ⟨e3, rfl, rfl⟩ := trodAll_nil hA
  subst e3; subst e2
  have g1 : args[0]? = some v1 := by rw [← Array.getElem?_toList, e1]; rfl
  have g2 : args[1]? = some v2 := by rw [← Array.getElem?_toList, e1]; rfl
  obtain ⟨x, b1, i1, r1⟩ := rd_change (om := fun _ => 0) (hval 0 28 v1 rfl g1) h1
  obtain ⟨y, b2, _, r2⟩ := rd_change (om := fun _ => 0) (hval 1 28 v2 rfl g2) h2
  rw [e1]
  exact ⟨rfl, [.agg x.cells, .agg y.cells], ⟨r1, r2, trivial⟩, fun T ht => tells ht b1 b2 i1⟩
theorem changeTells_holds : Rows.ChangeTellsSaid :=
  OpenClaim.holds_of_wide 3 Tryz.f3 rfl rfl rfl rfl rfl rfl rfl ⟨rfl, rfl, rfl, rfl, rfl⟩ rfl rfl rfl rfl rfl (by kernel_rfl) Tryz.func3 (by kernel_rfl)
    (of_decide_eq_true (by kernel_rfl)) (by unfold Func.isWrapper; first | (rw [if_pos (by decide +kernel)]; kernel_rfl) | (rw [if_neg (by decide +kernel)]; exact ⟨rfl, rfl⟩))
    (fun os started H en _ => law_lifted started rfl (by kernel_rfl) Tryz.func3 (by kernel_rfl) (by kernel_rfl) (by kernel_rfl)
      (ChangeSpec.witness_shaped (enc := en) (C := Tryz.checked) (os := os) (X := fun w _ => laidMetH Tryz.prog laidL w) false (World.laidAll Tryz.prog os laidL) #[zeroC, zeroC] 8 (World.laidAll_os _ _ _)
        (laid_shaped os _) (by kernel_rfl) (by kernel_rfl) (by kernel_rfl) (laid_all os _))
      tells_main)
theorem changeTells_card : Rows.ChangeTellsCardSaid :=
  Claim7.holds_tied_plain_at .later [] [.data, .data, .data, .data, .sentinel, .sentinel, .pinned] true (true, "43bcb5433d783b3630f1c9357336c8b905311fc2328e74813e0f83ecfb1b6b70") true
    changeTells_holds (fun _ h => by cases h) (by kernel_rfl) (fun _ h => by cases h) changeTells_row_tie rfl ⟨rfl, rfl⟩ (by kernel_rfl) rfl
    (fun f fn hf hfn => by
      obtain rfl : f = 3 := Option.some.inj ((show Tryz.prog.funcNamed "prefect/prefectlaw13.ChangeTells" = some 3 by kernel_rfl).symm.trans hf) |>.symm
      obtain rfl : fn = Tryz.f3 := (Option.some.inj (Tryz.func3.symm.trans hfn)).symm
      exact ⟨by kernel_rfl, fun j t ht => by
        rw [Tryz.params3] at ht
        have hm : t ∈ [28, 28] := by simpa using Array.mem_of_getElem? ht
        have hall : ([28, 28].all fun u => !Tryz.prog.wantsStandIn u) = true := by kernel_rfl
        exact (show Tryz.prog.wantsStandIn t = false by simpa using List.all_eq_true.1 hall t hm)⟩)
    (by kernel_rfl)
#print axioms changeTells_card
end Go.Proofs.YtdfbmemomndnnaaGreatDoor
