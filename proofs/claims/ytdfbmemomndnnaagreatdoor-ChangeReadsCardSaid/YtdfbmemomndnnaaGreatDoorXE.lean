/-
  The law ChangeReads: for every change, two numbers and a text the call returns true, and all of them read as they did.
-/
import Derived.Test.YtdfbmemomndnnaaGreatDoorZY
import Derived.Test.YtdfbmemomndnnaaGreatDoorXD
import Derived.Test.YtdfbmemomndnnaaGreatDoorTie
import Derived.Test.YtdfbmemomndnnaaGreatDoorCards
namespace Go.Proofs.YtdfbmemomndnnaaGreatDoor
open Go Go.Ev Go.ChangeShapes Go.RowKit
set_option maxRecDepth 100000 in
theorem reads_main {H : Type} {en : TypeId × Value → H} (W : World) (base : Nat) (args : Array Value) (ds : List (DataW H)) (p : List MemPlace) (hval : ∀ (j : Nat) t v, Tryz.f4.params[j]? = some t → args[j]? = some v → Value.okWide Tryz.prog W .any base t v)
    (hA : DataW.TrodAll en Tryz.prog W 0 (fun _ => true) true Tryz.f4.params.toList args.toList ds p) :
    Rows.changeReadsSpec.fn H ds = { results := [.lit (.bool true)], args := ds } ∧ ∃ avs : List V, All2 (RD (argCx fun _ => 0) (AllS W) W) args.toList avs ∧ ∀ T : Tab, TabOk T → Answers Tryz.prog T 4 avs [] (.bool true) [] := by
  rw [Tryz.params4] at hA hval
  obtain ⟨v1, vs1, d1, ds1, p1, q1, e1, rfl, rfl, h1, hA⟩ := trodAll_cons hA
  obtain ⟨v2, vs2, d2, ds2, p2, q2, e2, rfl, rfl, h2, hA⟩ := trodAll_cons hA
  obtain ⟨v3, vs3, d3, ds3, p3, q3, e3, rfl, rfl, h3, hA⟩ := trodAll_cons hA
  obtain ⟨v4, vs4, d4, ds4, p4, q4, e4, rfl, rfl, h4, hA⟩ := trodAll_cons hA
  obtain ⟨e5, rfl, rfl⟩ := trodAll_nil hA
  subst e5; subst e4; subst e3; subst e2
  have g1 : args[0]? = some v1 := by rw [← Array.getElem?_toList, e1]; rfl
  have g2 : args[1]? = some v2 := by rw [← Array.getElem?_toList, e1]; rfl
  have g3 : args[2]? = some v3 := by rw [← Array.getElem?_toList, e1]; rfl
  have g4 : args[3]? = some v4 := by rw [← Array.getElem?_toList, e1]; rfl
  obtain ⟨x, b1, i1, r1⟩ := rd_change (om := fun _ => 0) (hval 0 28 v1 rfl g1) h1
  obtain ⟨i, rfl, rfl, rfl, w2⟩ := open_int Tryz.underlying35 (hval 1 35 v2 rfl g2) h2
  obtain ⟨b, rfl, rfl, rfl, w3⟩ := open_int Tryz.underlying5 (hval 2 5 v3 rfl g3) h3
  obtain ⟨s, rfl, _⟩ := Go.ChangeMaps.open_string Tryz.underlying9 (hval 3 9 v4 rfl g4) h4
  rw [e1]
  have hi : 0 ≤ i ∧ i < 65536 := by
    have : (decide (0 ≤ i) && decide (i ≤ 65535)) = true := w2
    simp only [Bool.and_eq_true, decide_eq_true_eq] at this
    omega
  exact ⟨rfl, [.agg x.cells, .int .u16 i, .int .u8 b, .str s.data.toList], ⟨r1, RD_iff.2 rfl, RD_iff.2 rfl, RD_iff.2 (by simp [RdF]), trivial⟩, fun T ht => reads ht b1 i1 hi⟩
theorem changeReads_holds : Rows.ChangeReadsSaid :=
  OpenClaim.holds_of_wide 4 Tryz.f4 rfl rfl rfl rfl rfl rfl rfl ⟨rfl, rfl, rfl, rfl, rfl⟩ rfl rfl rfl rfl rfl (by kernel_rfl) Tryz.func4 (by kernel_rfl)
    (of_decide_eq_true (by kernel_rfl)) (by unfold Func.isWrapper; first | (rw [if_pos (by decide +kernel)]; kernel_rfl) | (rw [if_neg (by decide +kernel)]; exact ⟨rfl, rfl⟩))
    (fun os started H en _ => law_lifted started rfl (by kernel_rfl) Tryz.func4 (by kernel_rfl) (by kernel_rfl) (by kernel_rfl)
      (ChangeSpec.witness_shaped (enc := en) (C := Tryz.checked) (os := os) (X := fun w _ => laidMetH Tryz.prog laidL w) false (World.laidAll Tryz.prog os laidL) #[zeroC, .int .u16 0, .int .u8 0, .string ⟨#[]⟩] 8 (World.laidAll_os _ _ _)
        (laid_shaped os _) (by kernel_rfl) (by kernel_rfl) (by kernel_rfl) (laid_all os _))
      reads_main)
theorem changeReads_card : Rows.ChangeReadsCardSaid :=
  Claim7.holds_tied_plain_at .later [] [.data, .data, .data, .data, .sentinel, .sentinel, .pinned] true (true, "43bcb5433d783b3630f1c9357336c8b905311fc2328e74813e0f83ecfb1b6b70") true
    changeReads_holds (fun _ h => by cases h) (by kernel_rfl) (fun _ h => by cases h) changeReads_row_tie rfl ⟨rfl, rfl⟩ (by kernel_rfl) rfl
    (fun f fn hf hfn => by
      obtain rfl : f = 4 := Option.some.inj ((show Tryz.prog.funcNamed "prefect/prefectlaw13.ChangeReads" = some 4 by kernel_rfl).symm.trans hf) |>.symm
      obtain rfl : fn = Tryz.f4 := (Option.some.inj (Tryz.func4.symm.trans hfn)).symm
      exact ⟨by kernel_rfl, fun j t ht => by
        rw [Tryz.params4] at ht
        have hm : t ∈ [28, 35, 5, 9] := by simpa using Array.mem_of_getElem? ht
        have hall : ([28, 35, 5, 9].all fun u => !Tryz.prog.wantsStandIn u) = true := by kernel_rfl
        exact (show Tryz.prog.wantsStandIn t = false by simpa using List.all_eq_true.1 hall t hm)⟩)
    (by kernel_rfl)
#print axioms changeReads_card
end Go.Proofs.YtdfbmemomndnnaaGreatDoor
