/-
  ChangeReads answers true.
-/
import Derived.Test.YtdfbmemomndnnaaGreatDoorXB
import Derived.Test.YtdfbmemomndnnaaGreatDoorXC
import Derived.Test.YtdfbmemomndnnaaGreatDoorZX
namespace Go.Ev
open Go.Proofs Go.Ev.Sp
theorem eta_c (z : Chn) : Chn.mk (Csn.mk (Csn.t (Chn.c z)) (Csn.s (Chn.c z)) (Csn.r (Chn.c z))) (Chn.kind z) (Csn.mk (Csn.t (Chn.id z)) (Csn.s (Chn.id z)) (Csn.r (Chn.id z)))
      (Csn.mk (Csn.t (Chn.par z)) (Csn.s (Chn.par z)) (Csn.r (Chn.par z))) (Chn.rdn z) (Chn.del z) (Chn.mods z) = z := rfl
theorem an14 (n : Nat) (s : Str) (c : Chn) (e : Int) (h : (e = 14 ∧ c = k00) ∨ (e = 0 ∧ c.ok = true ∧ c.i64 = true ∧ bytesC c = (s, 0))) : evalBody E (c14 s c e) 14 Tryz.f14 n [.str s] [] = some (.bool true, []) := by
  refine (ev14 n s c e).trans ?_
  rw [beq_self_eq_true]
  simp only [eta_c, cond_true]
  rcases h with ⟨rfl, rfl⟩ | ⟨rfl, h1, h2, h3⟩
  · rfl
  · have h4 : isChange c = true := by
      have := bytesC_14 c
      rw [h3] at this
      cases hc : isChange c with
      | true => rfl
      | false => rw [hc] at this; cases this
    rw [h1, h2, h3, h4]
    simp
theorem f14_at : Tryz.prog.funcs[14]? = some Tryz.f14 := by kernel_rfl
theorem ok14 {T : Tab} (ht : TabOk T) : SpecOk T 14 sp14 := by
  intro args outs r outs' h
  unfold sp14 at h
  split at h
  · rename_i s
    obtain ⟨hg, rfl, rfl⟩ := row3 h
    obtain ⟨c, e, h1, h2⟩ := ans16 ht s hg
    have hx : SpecOk T 16 (sp16x s c e) := by
      intro args outs r outs' h
      unfold sp16x at h
      split at h
      · rename_i s'
        obtain ⟨hg, rfl, rfl⟩ := row3 h
        have hg : s' = s := eq_of_beq hg
        subst hg
        exact h1
      · cases h
    exact body (orc_cons hx (orc_cons ok13 (orc_cons (ok9 (ok70 ht) (ok71 ht)) (orc1 ok11)))) f14_at (an14 5 s c e h2)
  · cases h
theorem bytesC_len {x : Chn} (h : (bytesC x).2 = 0) : (bytesC x).1.length ≤ 4000 := by
  unfold bytesC at h ⊢
  cases hc : isChange x with
  | false => rw [hc] at h; cases h
  | true =>
    rw [hc] at h
    simp only [Bool.not_true, cond_false] at h ⊢
    generalize writeF 4 (chgE x) = q at h ⊢
    cases hb : (q.2 == 0 && decide ((q.1.length : Int) > 4000)) with
    | true => rw [hb] at h; cases h
    | false =>
      rw [hb] at h
      simp only [cond_false] at h ⊢
      rw [h] at hb
      simp only [beq_self_eq_true, Bool.true_and, decide_eq_false_iff_not] at hb
      omega
theorem an4 (n : Nat) (x : Chn) (i b : Int) (s : Str) (hx : bigC x = true) (h64 : x.i64 = true) (hi : 0 ≤ i ∧ i < 65536) : evalBody E c4 4 Tryz.f4 n [.agg x.cells, .int .u16 i, .int .u8 b, .str s] [] = some (.bool true, []) := by
  rw [ev4]
  simp only [eta_c]
  rw [hx]
  simp only [cond_true]
  cases hf : few x with
  | false => rfl
  | true =>
    simp only [Bool.not_true, cond_false]
    by_cases hs : ((s.length : Int) > 600)
    · rw [dT hs]; rfl
    · rw [dF hs]
      simp only [cond_false]
      rw [few_ok hf, h64, le_ok (s := s) (by omega)]
      simp only [Bool.and_self, cond_true]
      cases h0 : ((bytesC x).2 == 0) with
      | false => rfl
      | true =>
        have hl := bytesC_len (eq_of_beq h0)
        generalize (bytesC x).1 = B at hl ⊢
        simp only [cond_true]
        by_cases hB : ((B.length : Int) > 0)
        · have e6 : ((List.map (fun (c : UInt8) => (↑(UInt8.toNat c) : Int)) B).length : Int) = (B.length : Int) := by simp
          rw [dT hB, w64 (i := i) (by omega) (by omega), e6]
          have p1 : ¬ ((B.length : Int) = 0) := by omega
          have p2 : 0 ≤ Int.tmod i (B.length : Int) := Int.tmod_nonneg _ hi.1
          have p3 : Int.tmod i (B.length : Int) < (B.length : Int) := Int.tmod_lt_of_pos _ hB
          rw [dF p1, dT p2, dT p3]
          simp only [cond_true, cond_false]
          have hk : ∀ l : Str, l.length = B.length → ok l = true := fun l hll => le_ok (by omega)
          rw [hk _ (by simp)]
          rfl
        · rw [dF hB]; rfl
theorem f4_at : Tryz.prog.funcs[4]? = some Tryz.f4 := by kernel_rfl
theorem reads {T : Tab} (ht : TabOk T) {x : Chn} {i b : Int} {s : Str} (hx : bigC x = true) (h64 : x.i64 = true) (hi : 0 ≤ i ∧ i < 65536) : Answers Tryz.prog T 4 [.agg x.cells, .int .u16 i, .int .u8 b, .str s] [] (.bool true) [] :=
  body (orc_cons (ok7 ht) (orc_cons ok8 (orc_cons (ok9 (ok70 ht) (ok71 ht)) (orc1 (ok14 ht))))) f4_at (an4 5 x i b s hx h64 hi)
end Go.Ev
