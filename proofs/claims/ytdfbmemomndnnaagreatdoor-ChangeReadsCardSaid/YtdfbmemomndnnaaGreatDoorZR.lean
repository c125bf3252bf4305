/-
  What the program's functions answer: whether something is small; whether two are alike.
-/
import Derived.Test.YtdfbmemomndnnaaGreatDoorZQ
import Derived.Test.YtdfbmemomndnnaaGreatDoorZO
namespace Go.Ev
open Go.Proofs Go.Ev.Sp
theorem lp18 (n : Nat) : ∀ (post pre : List AVA) (m : Nat), post.length < m → pre.length + post.length ≤ 9223372036854775807 →
    L18_2 n m (pre ++ post) (pre.length : Nat) = some (.bool (post.all fewA && Nat.ble (pre.length + post.length) 6), [])
  | [], pre, m, hm, hl => by
    obtain ⟨m, rfl, -⟩ := pos_m hm
    rw [rd18_2, dF (by simp)]
    simp only [cond_false, List.append_nil, List.all_nil, Bool.true_and, List.length_nil, Nat.add_zero, ble_dec]
    congr 3
    rw [Bool.eq_iff_iff]; simp; omega
  | c :: post, pre, m, hm, hl => by
    obtain ⟨m, rfl, hm⟩ := pos_m hm
    simp only [List.length_cons] at hl hm
    have ih1 := lp18 n post (pre ++ [c]) m (by omega) (by rw [len_snoc]; omega)
    have e2 : (pre ++ [c]).length + post.length = pre.length + (c :: post).length := by simp; omega
    rw [e2, len_snoc, ← app_mid] at ih1
    rw [rd18_2, i64_succ (by omega), toN, mid, dT (by simp; omega), dT (by omega), ih1]
    simp only [cond_true, List.all_cons, fewA]
    by_cases h1 : c.attr.length ≤ 30
    · rw [dF (by omega), Nat.ble_eq_true_of_le h1]
      by_cases h2 : c.value.length ≤ 80
      · rw [dF (by omega), Nat.ble_eq_true_of_le h2]; rfl
      · rw [dT (by omega), nble h2]; rfl
    · rw [dT (by omega), nble h1]; rfl
theorem an18 (l : List AVA) (h : l.length ≤ 9223372036854775807) : evalBody E c0 18 Tryz.f18 (l.length + 1) [.sl .ava l] [] = some (.bool (fewRDN l), []) := by
  have lp := lp18 (l.length + 1) l [] (l.length + 1) (Nat.lt_succ_self _) (by simpa using h)
  rw [List.length_nil, Nat.zero_add] at lp
  exact (ev18 _ l).trans lp
theorem ok18 {T : Tab} : SpecOk T 18 sp18 := by
  intro args outs r outs' h
  unfold sp18 at h
  split at h
  · rename_i l
    obtain ⟨hl, rfl, rfl⟩ := row3 h
    exact bd18 orc_nil _ (an18 l (Nat.le_of_ble_eq_true hl))
  · cases h
theorem bigMs_all {l : List Mod} (h : bigMs l = true) : l.length ≤ 9223372036854775807 ∧ ∀ a ∈ l, a.values.length ≤ 9223372036854775807 := by
  simp only [bigMs, Bool.and_eq_true, List.all_eq_true] at h
  exact ⟨Nat.le_of_ble_eq_true h.1, fun a ha => Nat.le_of_ble_eq_true (h.2 a ha)⟩
/-- The inner loop: behind it the outer one goes on. -/
theorem lp17i (n m2 : Nat) (pre post : List Mod) (c : Mod) (hl : pre.length + (post.length + 1) ≤ 9223372036854775807) (hv : c.values.length ≤ 9223372036854775807) : ∀ (vs vpre : List Str) (m : Nat), vs.length < m → c.values = vpre ++ vs →
    L17_7 n m2 m (pre ++ c :: post) (pre.length : Nat) (vpre.length : Nat) = bif vs.all (fun v => Nat.ble v.length 80) then L17_2 n m2 (pre ++ c :: post) ((pre.length + 1 : Nat) : Int) else some (.bool false, [])
  | [], vpre, m, hm, hc => by
    obtain ⟨m, rfl, -⟩ := pos_m hm
    rw [rd17_7, i64_succ (i := pre.length) (by omega), toN, mid, dT (by omega), dT (by simp; omega), dF (by rw [hc]; simp)]
    simp only [cond_true, cond_false, List.all_nil]
  | v :: vs, vpre, m, hm, hc => by
    obtain ⟨m, rfl, hm⟩ := pos_m hm
    simp only [List.length_cons] at hm
    have hvl : vpre.length + (vs.length + 1) ≤ 9223372036854775807 := by rw [hc] at hv; simpa using hv
    have ih := lp17i n m2 pre post c hl hv vs (vpre ++ [v]) m (by omega) (by rw [hc]; simp)
    rw [len_snoc] at ih
    rw [rd17_7, i64_succ (by omega), i64_succ (by omega), toN, mid, toN, dT (by omega), dT (by simp; omega), hc, mid, dT (by simp; omega), dT (by omega), ih]
    simp only [cond_true, List.all_cons]
    by_cases h2 : v.length ≤ 80
    · rw [dF (by omega), Nat.ble_eq_true_of_le h2]; rfl
    · rw [dT (by omega), nble h2]; rfl
theorem lp17 (n : Nat) : ∀ (post pre : List Mod) (m : Nat), post.length < m → pre.length + post.length ≤ 9223372036854775807 → (∀ a ∈ post, a.values.length ≤ 9223372036854775807) → (∀ a ∈ post, a.values.length < n) →
    L17_2 n m (pre ++ post) (pre.length : Nat) = some (.bool (post.all fewM && Nat.ble (pre.length + post.length) 14), [])
  | [], pre, m, hm, hl, hp, hn => by
    obtain ⟨m, rfl, -⟩ := pos_m hm
    rw [rd17_2, dF (by simp)]
    simp only [cond_false, List.append_nil, List.all_nil, Bool.true_and, List.length_nil, Nat.add_zero, ble_dec]
    congr 3
    rw [Bool.eq_iff_iff]; simp; omega
  | c :: post, pre, m, hm, hl, hp, hn => by
    obtain ⟨m, rfl, hm⟩ := pos_m hm
    simp only [List.length_cons] at hl hm
    have ih1 := lp17 n post (pre ++ [c]) m (by omega) (by rw [len_snoc]; omega) (fun a ha => hp a (by simp [ha])) fun a ha => hn a (by simp [ha])
    have e2 : (pre ++ [c]).length + post.length = pre.length + (c :: post).length := by simp; omega
    rw [e2, len_snoc, ← app_mid] at ih1
    have inn := lp17i n m pre post c hl (hp c (by simp)) c.values [] n (hn c (by simp)) rfl
    have inn' : L17_7 n m n (pre ++ c :: post) (pre.length : Nat) 0 = _ := inn
    rw [rd17_2, toN, mid, dT (by simp; omega), dT (by omega), inn', ih1]
    simp only [cond_true, List.all_cons, fewM]
    by_cases h1 : c.attr.length ≤ 30
    · rw [dF (by omega), Nat.ble_eq_true_of_le h1]
      by_cases h2 : c.values.length ≤ 20
      · rw [dF (by omega), Nat.ble_eq_true_of_le h2]
        cases (c.values.all fun v => Nat.ble v.length 80) <;> rfl
      · rw [dT (by omega), nble h2]; rfl
    · rw [dT (by omega), nble h1]; rfl
theorem bound_of {α : Type} (f : α → Nat) : ∀ (l : List α), ∃ n, l.length < n ∧ ∀ a ∈ l, f a < n
  | [] => ⟨1, by simp, fun a ha => by cases ha⟩
  | a :: l => by
    obtain ⟨n, h1, h2⟩ := bound_of f l
    exact ⟨max (n + 1) (f a + 1), by simp only [List.length_cons]; omega, fun b hb => by
      rcases List.mem_cons.1 hb with rfl | hb
      · omega
      · have := h2 b hb; omega⟩
theorem an17 (l : List Mod) (h : bigMs l = true) : ∃ n, evalBody E c0 17 Tryz.f17 n [.sl .mod l] [] = some (.bool (fewMods l), []) := by
  obtain ⟨h1, h2⟩ := bigMs_all h
  obtain ⟨n, hn1, hn2⟩ := bound_of (fun m : Mod => m.values.length) l
  refine ⟨n, (ev17 _ l).trans ?_⟩
  have lp := lp17 n l [] n hn1 (by simpa using h1) h2 hn2
  rw [List.length_nil, Nat.zero_add] at lp
  exact lp
theorem ok17 {T : Tab} : SpecOk T 17 sp17 := by
  intro args outs r outs' h
  unfold sp17 at h
  split at h
  · rename_i l
    obtain ⟨hl, rfl, rfl⟩ := row3 h
    obtain ⟨n, hn⟩ := an17 l hl
    exact bd17 orc_nil _ hn
  · cases h
theorem an8 (x : Chn) (h : bigC x = true) : evalBody E c8 8 Tryz.f8 0 [.agg (Chn.cells x)] [] = some (.bool (few x), []) := by
  simp only [bigC, Bool.and_eq_true] at h
  have h2 : Nat.ble x.rdn.length 9223372036854775807 = true := h.2
  rw [ev8, h.1, h2]
  simp only [cond_true, few]
  cases fewMods x.mods <;> rfl
theorem ok8 {T : Tab} : SpecOk T 8 sp8 := by
  intro args outs r outs' h
  unfold sp8 at h
  split at h
  · obtain ⟨x, hx, h⟩ := of_bind h
    obtain ⟨hl, rfl, rfl⟩ := row3 h
    rw [chgOf_cells hx]
    exact bd8 (orc_cons ok17 (orc1 ok18)) _ (an8 x hl)
  · cases h
/-! Alike -/
theorem sameSs_len : ∀ {a b : List Str}, a.length ≠ b.length → sameSs a b = false
  | [], [], h => absurd rfl h
  | [], _ :: _, _ => rfl
  | _ :: _, [], _ => rfl
  | x :: a, y :: b, h => by
    simp only [sameSs]
    rw [sameSs_len (a := a) (b := b) (by simpa using h), Bool.and_false]
theorem sameAs_len : ∀ {a b : List AVA}, a.length ≠ b.length → sameAs a b = false
  | [], [], h => absurd rfl h
  | [], _ :: _, _ => rfl
  | _ :: _, [], _ => rfl
  | x :: a, y :: b, h => by
    simp only [sameAs]
    rw [sameAs_len (a := a) (b := b) (by simpa using h), Bool.and_false]
theorem sameMs_len : ∀ {a b : List Mod}, a.length ≠ b.length → sameMs a b = false
  | [], [], h => absurd rfl h
  | [], _ :: _, _ => rfl
  | _ :: _, [], _ => rfl
  | x :: a, y :: b, h => by
    simp only [sameMs]
    rw [sameMs_len (a := a) (b := b) (by simpa using h), Bool.and_false]
theorem ne_len {a b : Nat} : ((a : Int) != (b : Int)) = !(a == b) := by
  rw [Bool.eq_iff_iff]
  simp [bne]
  omega
theorem lp37 (n : Nat) : ∀ (a b p q : List Str) (m : Nat), a.length < m → p.length = q.length → a.length = b.length → p.length + a.length ≤ 9223372036854775807 →
    L37_4 n m (p ++ a) (q ++ b) ((p.length + a.length : Nat) : Int) (p.length : Nat) = some (.bool (sameSs a b), [])
  | [], b, p, q, m, hm, hpq, hab, hl => by
    obtain ⟨m, rfl, -⟩ := pos_m hm
    have : b = [] := List.length_eq_zero_iff.1 hab.symm
    subst this
    rw [rd37_4, dF (by simp)]
    rfl
  | x :: a, [], p, q, m, hm, hpq, hab, hl => by simp at hab
  | x :: a, y :: b, p, q, m, hm, hpq, hab, hl => by
    obtain ⟨m, rfl, hm⟩ := pos_m hm
    simp only [List.length_cons] at hl hm hab
    have ih := lp37 n a b (p ++ [x]) (q ++ [y]) m (by omega) (by simp [hpq]) (by omega) (by rw [len_snoc]; omega)
    have e2 : (p ++ [x]).length + a.length = p.length + (x :: a).length := by simp; omega
    rw [e2, len_snoc, ← app_mid, ← app_mid] at ih
    have g2 : List.getD (q ++ y :: b) p.length [] = y := by rw [hpq]; exact mid q b y []
    rw [rd37_4, i64_succ (by omega), toN, mid, g2, dT (by simp; omega), dT (by omega), dT (by simp; omega), dT (by simp; omega), ih]
    simp only [cond_true, sameSs]
    cases x == y <;> rfl
theorem an37 (a b : List Str) (h : a.length ≤ 9223372036854775807) : evalBody E c0 37 Tryz.f37 (a.length + 1) [.sl .str a, .sl .str b] [] = some (.bool (sameSs a b), []) := by
  rw [ev37, ne_len]
  by_cases hl : a.length = b.length
  · rw [show (a.length == b.length) = true by simpa using hl]
    have lp := lp37 (a.length + 1) a b [] [] (a.length + 1) (Nat.lt_succ_self _) rfl hl (by simpa using h)
    rw [List.length_nil, Nat.zero_add] at lp
    exact lp
  · rw [show (a.length == b.length) = false by simpa using hl, sameSs_len hl]; rfl
theorem ok37 {T : Tab} : SpecOk T 37 sp37 := by
  intro args outs r outs' h
  unfold sp37 at h
  split at h
  · rename_i a b
    obtain ⟨hl, rfl, rfl⟩ := row3 h
    exact bd37 orc_nil _ (an37 a b (Nat.le_of_ble_eq_true hl))
  · cases h
theorem lp38 (n : Nat) : ∀ (a b p q : List AVA) (m : Nat), a.length < m → p.length = q.length → a.length = b.length → p.length + a.length ≤ 9223372036854775807 →
    L38_4 n m (p ++ a) (q ++ b) ((p.length + a.length : Nat) : Int) (p.length : Nat) = some (.bool (sameAs a b), [])
  | [], b, p, q, m, hm, hpq, hab, hl => by
    obtain ⟨m, rfl, -⟩ := pos_m hm
    have : b = [] := List.length_eq_zero_iff.1 hab.symm
    subst this
    rw [rd38_4, dF (by simp)]
    rfl
  | x :: a, [], p, q, m, hm, hpq, hab, hl => by simp at hab
  | x :: a, y :: b, p, q, m, hm, hpq, hab, hl => by
    obtain ⟨m, rfl, hm⟩ := pos_m hm
    simp only [List.length_cons] at hl hm hab
    have ih := lp38 n a b (p ++ [x]) (q ++ [y]) m (by omega) (by simp [hpq]) (by omega) (by rw [len_snoc]; omega)
    have e2 : (p ++ [x]).length + a.length = p.length + (x :: a).length := by simp; omega
    rw [e2, len_snoc, ← app_mid, ← app_mid] at ih
    have g2 : List.getD (q ++ y :: b) p.length (AVA.mk [] []) = y := by rw [hpq]; exact mid q b y _
    rw [rd38_4, i64_succ (by omega), toN, mid, g2, dT (by simp; omega), dT (by omega), dT (by simp; omega), dT (by simp; omega), ih]
    simp only [cond_true, sameAs, sameA, Bool.and_true]
    cases x.attr == y.attr <;> cases x.value == y.value <;> rfl
theorem an38 (a b : List AVA) (h : a.length ≤ 9223372036854775807) : evalBody E c0 38 Tryz.f38 (a.length + 1) [.sl .ava a, .sl .ava b] [] = some (.bool (sameAs a b), []) := by
  rw [ev38, ne_len]
  by_cases hl : a.length = b.length
  · rw [show (a.length == b.length) = true by simpa using hl]
    have lp := lp38 (a.length + 1) a b [] [] (a.length + 1) (Nat.lt_succ_self _) rfl hl (by simpa using h)
    rw [List.length_nil, Nat.zero_add] at lp
    exact lp
  · rw [show (a.length == b.length) = false by simpa using hl, sameAs_len hl]; rfl
theorem ok38 {T : Tab} : SpecOk T 38 sp38 := by
  intro args outs r outs' h
  unfold sp38 at h
  split at h
  · rename_i a b
    obtain ⟨hl, rfl, rfl⟩ := row3 h
    exact bd38 orc_nil _ (an38 a b (Nat.le_of_ble_eq_true hl))
  · cases h
theorem an36 (a b : Mod) (h : a.values.length ≤ 9223372036854775807) : evalBody E c36 36 Tryz.f36 0 [.agg [.int .i64 a.kind, .str a.attr, .sl .str a.values], .agg [.int .i64 b.kind, .str b.attr, .sl .str b.values]] [] = some (.bool (sameM a b), []) := by
  rw [ev36, Nat.ble_eq_true_of_le h]
  simp only [cond_true, sameM]
  cases a.kind == b.kind <;> cases a.attr == b.attr <;> rfl
theorem ok36 {T : Tab} : SpecOk T 36 sp36 := by
  intro args outs r outs' h
  unfold sp36 at h
  split at h
  · obtain ⟨x, hx, h⟩ := of_bind h
    obtain ⟨y, hy, h⟩ := of_bind h
    obtain ⟨hl, rfl, rfl⟩ := row3 h
    rw [modOf_cells hx, modOf_cells hy]
    exact bd36 (orc1 ok37) _ (an36 x y (Nat.le_of_ble_eq_true hl))
  · cases h
theorem lp35 (n : Nat) : ∀ (a b p q : List Mod) (m : Nat), a.length < m → p.length = q.length → a.length = b.length → p.length + a.length ≤ 9223372036854775807 → (∀ x ∈ a, x.values.length ≤ 9223372036854775807) →
    L35_4 n m (q ++ b) (p ++ a) ((p.length + a.length : Nat) : Int) (p.length : Nat) = some (.bool (sameMs a b), [])
  | [], b, p, q, m, hm, hpq, hab, hl, hv => by
    obtain ⟨m, rfl, -⟩ := pos_m hm
    have : b = [] := List.length_eq_zero_iff.1 hab.symm
    subst this
    rw [rd35_4, dF (by simp)]
    rfl
  | x :: a, [], p, q, m, hm, hpq, hab, hl, hv => by simp at hab
  | x :: a, y :: b, p, q, m, hm, hpq, hab, hl, hv => by
    obtain ⟨m, rfl, hm⟩ := pos_m hm
    simp only [List.length_cons] at hl hm hab
    have ih := lp35 n a b (p ++ [x]) (q ++ [y]) m (by omega) (by simp [hpq]) (by omega) (by rw [len_snoc]; omega) fun z hz => hv z (by simp [hz])
    have e2 : (p ++ [x]).length + a.length = p.length + (x :: a).length := by simp; omega
    rw [e2, len_snoc, ← app_mid, ← app_mid] at ih
    have g2 : List.getD (q ++ y :: b) p.length (Go.Ev.Mod.mk 0 [] []) = y := by rw [hpq]; exact mid q b y _
    have hx := hv x (by simp)
    rw [rd35_4, i64_succ (by omega), toN, mid, g2, dT (by simp; omega), dT (by omega), dT (by simp; omega), dT (by simp; omega), ih, Nat.ble_eq_true_of_le hx]
    simp only [cond_true, sameMs]
    show (bif !sameM x y then _ else _) = _
    cases sameM x y <;> rfl
theorem an35 (a b : List Mod) (h : bigMs a = true) : evalBody E c35 35 Tryz.f35 (a.length + 1) [.sl .mod a, .sl .mod b, .fn 36 []] [] = some (.bool (sameMs a b), []) := by
  obtain ⟨h1, h2⟩ := bigMs_all h
  rw [ev35, ne_len]
  by_cases hl : a.length = b.length
  · rw [show (a.length == b.length) = true by simpa using hl]
    have lp := lp35 (a.length + 1) a b [] [] (a.length + 1) (Nat.lt_succ_self _) rfl hl (by simpa using h1) h2
    rw [List.length_nil, Nat.zero_add] at lp
    exact lp
  · rw [show (a.length == b.length) = false by simpa using hl, sameMs_len hl]; rfl
theorem ok35 {T : Tab} : SpecOk T 35 sp35 := by
  intro args outs r outs' h
  unfold sp35 at h
  split at h
  · rename_i a b
    obtain ⟨hl, rfl, rfl⟩ := row3 h
    exact bd35 (orc1 ok36) _ (an35 a b hl)
  · cases h
theorem an12 (x y : Chn) (h : bigC x = true) : evalBody E c12 12 Tryz.f12 0 [.agg (Chn.cells x), .agg (Chn.cells y)] [] = some (.bool (sameC x y), []) := by
  simp only [bigC, Bool.and_eq_true] at h
  have h2 : Nat.ble x.rdn.length 9223372036854775807 = true := h.2
  rw [ev12, h.1, h2]
  simp only [cond_true, sameC, Csn.same, Bool.and_true, Bool.and_assoc]
  cases x.c.t == y.c.t <;> cases x.c.s == y.c.s <;> cases x.c.r == y.c.r <;> (try rfl)
  cases x.kind == y.kind <;> (try rfl)
  cases x.id.t == y.id.t <;> cases x.id.s == y.id.s <;> cases x.id.r == y.id.r <;> (try rfl)
  cases x.par.t == y.par.t <;> cases x.par.s == y.par.s <;> cases x.par.r == y.par.r <;> (try rfl)
  cases sameAs x.rdn y.rdn <;> cases x.del == y.del <;> rfl
theorem ok12 {T : Tab} : SpecOk T 12 sp12 := by
  intro args outs r outs' h
  unfold sp12 at h
  split at h
  · obtain ⟨x, hx, h⟩ := of_bind h
    obtain ⟨y, hy, h⟩ := of_bind h
    obtain ⟨hl, rfl, rfl⟩ := row3 h
    rw [chgOf_cells hx, chgOf_cells hy]
    exact bd12 (orc_cons ok35 (orc1 ok38)) _ (an12 x y hl)
  · cases h
end Go.Ev
/-
  What the reference's functions answer: alike; types; whole numbers; parts of names.
-/
namespace Go.Ev
open Go.Proofs Go.Ev.Sp
theorem lp39 (n : Nat) : ∀ (a b p q : List AVA) (m : Nat), a.length < m → p.length = q.length → a.length = b.length → p.length + a.length ≤ 9223372036854775807 →
    L39_4 n m (p ++ a) (q ++ b) (p.length : Nat) = some (.bool (sameAs a b), [])
  | [], b, p, q, m, hm, hpq, hab, hl => by
    obtain ⟨m, rfl, -⟩ := pos_m hm
    have : b = [] := List.length_eq_zero_iff.1 hab.symm
    subst this
    rw [rd39_4, dF (by simp)]
    rfl
  | x :: a, [], p, q, m, hm, hpq, hab, hl => by simp at hab
  | x :: a, y :: b, p, q, m, hm, hpq, hab, hl => by
    obtain ⟨m, rfl, hm⟩ := pos_m hm
    simp only [List.length_cons] at hl hm hab
    have ih := lp39 n a b (p ++ [x]) (q ++ [y]) m (by omega) (by simp [hpq]) (by omega) (by rw [len_snoc]; omega)
    rw [len_snoc, ← app_mid, ← app_mid] at ih
    have g2 : List.getD (q ++ y :: b) p.length (AVA.mk [] []) = y := by rw [hpq]; exact mid q b y _
    rw [rd39_4, i64_succ (by omega), toN, mid, g2, dT (by simp; omega), dT (by omega), dT (by simp; omega), ih]
    simp only [cond_true, sameAs, sameA, Bool.and_true]
    cases x.attr == y.attr <;> cases x.value == y.value <;> rfl
theorem an39 (a b : List AVA) (h : a.length ≤ 9223372036854775807) : evalBody E c0 39 Tryz.f39 (a.length + 1) [.sl .ava a, .sl .ava b] [] = some (.bool (sameAs a b), []) := by
  rw [ev39, ne_len]
  by_cases hl : a.length = b.length
  · rw [show (a.length == b.length) = true by simpa using hl]
    exact lp39 (a.length + 1) a b [] [] (a.length + 1) (Nat.lt_succ_self _) rfl hl (by simpa using h)
  · rw [show (a.length == b.length) = false by simpa using hl, sameAs_len hl]; rfl
theorem ok39 {T : Tab} : SpecOk T 39 sp38 := by
  intro args outs r outs' h
  unfold sp38 at h
  split at h
  · rename_i a b
    obtain ⟨hl, rfl, rfl⟩ := row3 h
    exact bd39 orc_nil _ (an39 a b (Nat.le_of_ble_eq_true hl))
  · cases h
/-! SameChange -/
noncomputable def M13 (n m : Nat) (i : Int) (x y : Chn) : Option (V × List (List V)) := L13_4 n m i x.c.t x.c.s x.c.r x.kind x.id.t x.id.s x.id.r x.par.t x.par.s x.par.r x.rdn x.del x.mods y.c.t y.c.s y.c.r y.kind y.id.t y.id.s y.id.r y.par.t y.par.s y.par.r y.rdn y.del y.mods
noncomputable def M13i (n m4 m : Nat) (i j : Int) (x y : Chn) (a b : Mod) : Option (V × List (List V)) := L13_10 n m4 m i j x.c.t x.c.s x.c.r x.kind x.id.t x.id.s x.id.r x.par.t x.par.s x.par.r x.rdn x.del x.mods y.c.t y.c.s y.c.r y.kind y.id.t y.id.s y.id.r y.par.t y.par.s y.par.r y.rdn y.del y.mods a.kind a.attr a.values b.kind b.attr b.values
theorem lp13i (n m4 : Nat) (i : Nat) (hi : i < 9223372036854775807) (x y : Chn) (ma mb : Mod) (hv : ma.values.length ≤ 9223372036854775807) : ∀ (a b p q : List Str) (m : Nat), a.length < m → p.length = q.length → a.length = b.length → ma.values = p ++ a → mb.values = q ++ b →
    M13i n m4 m i (p.length : Nat) x y ma mb = bif sameSs a b then M13 n m4 ((i + 1 : Nat) : Int) x y else some (.bool false, [])
  | [], b, p, q, m, hm, hpq, hab, ha, hb => by
    obtain ⟨m, rfl, -⟩ := pos_m hm
    have : b = [] := List.length_eq_zero_iff.1 hab.symm
    subst this
    unfold M13i
    rw [rd13_10, i64_succ (i := i) (by omega), dF (by rw [ha]; simp)]
    rfl
  | u :: a, [], p, q, m, hm, hpq, hab, ha, hb => by simp at hab
  | u :: a, v :: b, p, q, m, hm, hpq, hab, ha, hb => by
    obtain ⟨m, rfl, hm⟩ := pos_m hm
    simp only [List.length_cons] at hm hab
    have hvl : p.length + (a.length + 1) ≤ 9223372036854775807 := by rw [ha] at hv; simpa using hv
    have ih := lp13i n m4 i hi x y ma mb hv a b (p ++ [u]) (q ++ [v]) m (by omega) (by simp [hpq]) (by omega) (by rw [ha]; simp) (by rw [hb]; simp)
    rw [len_snoc] at ih
    have g2 : List.getD (q ++ v :: b) p.length [] = v := by rw [hpq]; exact mid q b v _
    unfold M13i at ih ⊢
    rw [rd13_10, i64_succ (i := p.length) (by omega), ih, toN, ha, hb, mid, g2, dT (by simp; omega), dT (by omega), dT (by simp; omega)]
    simp only [cond_true, sameSs]
    cases u == v <;> rfl
theorem lp13 (n : Nat) (x y : Chn) (hl : x.mods.length ≤ 9223372036854775807) (hv : ∀ a ∈ x.mods, a.values.length ≤ 9223372036854775807 ∧ a.values.length < n) : ∀ (a b p q : List Mod) (m : Nat), a.length < m → p.length = q.length → a.length = b.length → x.mods = p ++ a → y.mods = q ++ b →
    M13 n m (p.length : Nat) x y = some (.bool (sameMs a b), [])
  | [], b, p, q, m, hm, hpq, hab, ha, hb => by
    obtain ⟨m, rfl, -⟩ := pos_m hm
    have : b = [] := List.length_eq_zero_iff.1 hab.symm
    subst this
    unfold M13
    rw [rd13_4, dF (by rw [ha]; simp)]
    rfl
  | u :: a, [], p, q, m, hm, hpq, hab, ha, hb => by simp at hab
  | u :: a, v :: b, p, q, m, hm, hpq, hab, ha, hb => by
    obtain ⟨m, rfl, hm⟩ := pos_m hm
    simp only [List.length_cons] at hm hab
    have hvl : p.length + (a.length + 1) ≤ 9223372036854775807 := by rw [ha] at hl; simpa using hl
    have ih := lp13 n x y hl hv a b (p ++ [u]) (q ++ [v]) m (by omega) (by simp [hpq]) (by omega) (by rw [ha]; simp) (by rw [hb]; simp)
    rw [len_snoc] at ih
    have hu := hv u (by rw [ha]; simp)
    have g2 : List.getD (q ++ v :: b) p.length (Go.Ev.Mod.mk 0 [] []) = v := by rw [hpq]; exact mid q b v _
    unfold M13
    rw [rd13_4, toN, ne_len, dT (by rw [ha]; simp; omega), dT (by omega), dT (by rw [hb]; simp; omega), show List.getD x.mods p.length (Go.Ev.Mod.mk 0 [] []) = u by rw [ha]; exact mid p a u _, show List.getD y.mods p.length (Go.Ev.Mod.mk 0 [] []) = v by rw [hb]; exact g2]
    simp only [cond_true, sameMs, sameM]
    rw [show (u.kind != v.kind) = !(u.kind == v.kind) from rfl]
    cases u.kind == v.kind with
    | false => rfl
    | true =>
      cases u.attr == v.attr with
      | false => rfl
      | true =>
        by_cases hlen : u.values.length = v.values.length
        · rw [show (u.values.length == v.values.length) = true by simpa using hlen]
          have inn := lp13i n m p.length (by omega) x y u v hu.1 u.values v.values [] [] n hu.2 rfl hlen rfl rfl
          rw [ih] at inn
          have inn' : L13_10 n m n (p.length : Nat) 0 _ _ _ _ _ _ _ _ _ _ _ _ _ _ _ _ _ _ _ _ _ _ _ _ _ _ _ _ _ _ _ _ = _ := inn
          rw [inn']
          cases sameSs u.values v.values <;> rfl
        · rw [show (u.values.length == v.values.length) = false by simpa using hlen, sameSs_len hlen]; rfl
theorem an13 (x y : Chn) (h : bigC x = true) : ∃ n, evalBody E c13 13 Tryz.f13 n [.agg (Chn.cells x), .agg (Chn.cells y)] [] = some (.bool (sameC x y), []) := by
  simp only [bigC, Bool.and_eq_true] at h
  have h2 : Nat.ble x.rdn.length 9223372036854775807 = true := h.2
  obtain ⟨b1, b2⟩ := bigMs_all h.1
  obtain ⟨n, hn1, hn2⟩ := bound_of (fun m : Mod => m.values.length) x.mods
  refine ⟨n, ?_⟩
  rw [ev13, h2, ne_len]
  have lp : x.mods.length = y.mods.length → M13 n n 0 x y = some (.bool (sameMs x.mods y.mods), []) := fun hl => lp13 n x y b1 (fun a ha => ⟨b2 a ha, hn2 a ha⟩) x.mods y.mods [] [] n hn1 rfl hl rfl rfl
  simp only [cond_true, sameC, Csn.same, Bool.and_true, Bool.and_assoc]
  cases x.c.t == y.c.t <;> cases x.c.s == y.c.s <;> cases x.c.r == y.c.r <;> (try rfl)
  rw [show (x.kind != y.kind) = !(x.kind == y.kind) from rfl]
  cases x.kind == y.kind <;> (try rfl)
  cases x.id.t == y.id.t <;> cases x.id.s == y.id.s <;> cases x.id.r == y.id.r <;> (try rfl)
  cases x.par.t == y.par.t <;> cases x.par.s == y.par.s <;> cases x.par.r == y.par.r <;> (try rfl)
  by_cases hl : x.mods.length = y.mods.length
  · rw [show (x.mods.length == y.mods.length) = true by simpa using hl]
    have lp := lp hl
    unfold M13 at lp
    rw [lp]
    cases sameAs x.rdn y.rdn <;> cases x.del == y.del <;> rfl
  · rw [show (x.mods.length == y.mods.length) = false by simpa using hl, sameMs_len hl]
    cases sameAs x.rdn y.rdn <;> cases x.del == y.del <;> rfl
theorem ok13 {T : Tab} : SpecOk T 13 sp12 := by
  intro args outs r outs' h
  unfold sp12 at h
  split at h
  · obtain ⟨x, hx, h⟩ := of_bind h
    obtain ⟨y, hy, h⟩ := of_bind h
    obtain ⟨hl, rfl, rfl⟩ := row3 h
    rw [chgOf_cells hx, chgOf_cells hy]
    obtain ⟨n, hn⟩ := an13 x y hl
    exact bd13 (orc1 ok39) _ hn
  · cases h
/-! Texts -/
theorem lp85 (n : Nat) : ∀ (post pre : Str) (m : Nat), post.length < m → pre.length + post.length ≤ 1000000000 →
    L85_3 n m (pre.length : Nat) (bs (pre ++ post)) = some (.str (pre ++ lower post), [])
  | [], pre, m, hm, hl => by
    obtain ⟨m, rfl, -⟩ := pos_m hm
    rw [rd85_3, dF (by rw [bs_len]; simp)]
    simp only [cond_false, List.append_nil, of_bs]
    simp [lower]
  | c :: post, pre, m, hm, hl => by
    obtain ⟨m, rfl, hm⟩ := pos_m hm
    simp only [List.length_cons] at hl hm
    have ih1 := lp85 n post (pre ++ [low c]) m (by omega) (by rw [len_snoc]; omega)
    rw [len_snoc] at ih1
    have hlen : List.length (bs (pre ++ c :: post)) = pre.length + (c :: post).length := by rw [bs_len]; simp
    rw [rd85_3, i64_succ (by omega), toN, bs_mid, hlen, dT (by simp; omega), dT (by omega)]
    simp only [cond_true]
    have hlow : low c = bif decide (ch c ≥ 65) then bif decide (ch c ≤ 90) then c + 32 else c else c := by
      unfold low
      by_cases h1 : 65 ≤ ch c <;> by_cases h2 : ch c ≤ 90 <;> simp [h1, h2]
    have fin : some (V.str ((pre ++ [low c]) ++ lower post), ([] : List (List V))) = some (V.str (pre ++ lower (c :: post)), []) := by simp [lower]
    by_cases h1 : ch c ≥ 65
    · by_cases h2 : ch c ≤ 90
      · rw [dT h1, dT h2] at hlow ⊢
        simp only [cond_true] at hlow ⊢
        rw [low_u8 h2, bs_set, ← hlow, ih1, fin]
      · rw [dF h2] at hlow ⊢
        rw [dT h1] at hlow ⊢
        simp only [cond_true, cond_false] at hlow ⊢
        rw [app_mid, ← fin]
        rw [hlow] at ih1 ⊢
        exact ih1
    · rw [dF h1] at hlow ⊢
      simp only [cond_false] at hlow ⊢
      rw [app_mid, ← fin]
      rw [hlow] at ih1 ⊢
      exact ih1
theorem ok85 {T : Tab} : SpecOk T 85 sp78 := by
  intro args outs r outs' h
  unfold sp78 at h
  split at h
  · rename_i s
    obtain ⟨hs, rfl, rfl⟩ := row3 h
    exact bd85 orc_nil (s.length + 1) ((ev85 _ s).trans (lp85 (s.length + 1) s [] (s.length + 1) (by omega) (by simpa using ok_le hs)))
  · cases h
theorem ok84 {T : Tab} : SpecOk T 84 sp79 := by
  intro args outs r outs' h
  unfold sp79 at h
  split at h
  · obtain ⟨-, rfl, rfl⟩ := row3 h
    exact bd84 orc_nil 0 (ev84 0)
  · cases h
end Go.Ev
/-
  What the reference's functions answer: types, whole numbers, parts of names, written values.
-/
namespace Go.Ev
open Go.Proofs Go.Ev.Sp
theorem lp63 (n : Nat) (s : Str) (hs : ok s = true) : ∀ (post pre : List Typ) (m : Nat), post.length < m → pre.length + post.length ≤ 1000000000 →
    L63_3 n m s (pre ++ post) (pre.length : Nat) [] 0 false = some (.tup [typV ((findIn post (lower s)).getD noT), .bool (findIn post (lower s)).isSome], [])
  | [], pre, m, hm, hl => by
    obtain ⟨m, rfl, -⟩ := pos_m hm
    rw [rd63_3, dF (by simp)]
    rfl
  | c :: post, pre, m, hm, hl => by
    obtain ⟨m, rfl, hm⟩ := pos_m hm
    simp only [List.length_cons] at hl hm
    have ih1 := lp63 n s hs post (pre ++ [c]) m (by omega) (by rw [len_snoc]; omega)
    rw [len_snoc, ← app_mid] at ih1
    rw [rd63_3, i64_succ (by omega), toN, mid, dT (by simp; omega), dT (by omega), ih1, hs]
    simp only [cond_true, findIn, List.find?_cons]
    cases c.name == lower s <;> rfl
theorem ok63 {T : Tab} : SpecOk T 63 sp58 := by
  intro args outs r outs' h
  unfold sp58 at h
  split at h
  · rename_i s
    obtain ⟨hs, rfl, rfl⟩ := row3 h
    exact bd63 (orc_cons ok85 (orc1 ok84)) 20 ((ev63 _ s).trans (lp63 20 s hs allT [] 20 (by decide) (by decide)))
  · cases h
theorem lp81 (n : Nat) : ∀ (post pre : Str) (m : Nat), post.length < m → pre.length + post.length ≤ 1000000000 →
    L81_4 n m (pre ++ post) (pre.length : Nat) = some (.bool (post.all isTyc), [])
  | [], pre, m, hm, hl => by
    obtain ⟨m, rfl, -⟩ := pos_m hm
    rw [rd81_4, dF (by simp)]
    rfl
  | c :: post, pre, m, hm, hl => by
    obtain ⟨m, rfl, hm⟩ := pos_m hm
    simp only [List.length_cons] at hl hm
    have ih1 := lp81 n post (pre ++ [c]) m (by omega) (by rw [len_snoc]; omega)
    rw [len_snoc, ← app_mid] at ih1
    rw [rd81_4, i64_succ (by omega), toN, mid, dT (by simp; omega), dT (by omega), ih1]
    simp only [cond_true, List.all_cons, isTyc, isSmall, isDig]
    rw [show ((c.toNat : Int) != 45) = !(ch c == 45) from rfl]
    have d1 : decide (ch c < 97) = !decide (97 ≤ ch c) := by rw [Bool.eq_iff_iff]; simp
    have d2 : decide (ch c > 122) = !decide (ch c ≤ 122) := by rw [Bool.eq_iff_iff]; simp
    have d3 : decide (ch c < 48) = !decide (48 ≤ ch c) := by rw [Bool.eq_iff_iff]; simp
    have d4 : decide (ch c > 57) = !decide (ch c ≤ 57) := by rw [Bool.eq_iff_iff]; simp
    rw [d1, d2, d3, d4]
    cases decide (97 ≤ ch c) <;> cases decide (ch c ≤ 122) <;> cases decide (48 ≤ ch c) <;> cases decide (ch c ≤ 57) <;> cases ch c == 45 <;> rfl
theorem ok81 {T : Tab} : SpecOk T 81 sp74 := by
  intro args outs r outs' h
  unfold sp74 at h
  split at h
  · rename_i s
    obtain ⟨-, rfl, rfl⟩ := row3 h
    refine bd81 orc_nil 20 ((ev81 _ s).trans ?_)
    unfold isType
    cases s with
    | nil => rfl
    | cons c s =>
      rw [dF (by simp; omega)]
      simp only [cond_false]
      by_cases h1 : (c :: s).length ≤ 16
      · rw [dF (by omega), dT (by simp), Nat.ble_eq_true_of_le h1]
        have lp := lp81 20 (c :: s) [] 20 (by omega) (by simp only [List.length_nil]; omega)
        have lp' : L81_4 20 20 (c :: s) 0 = some (.bool ((c :: s).all isTyc), []) := lp
        rw [lp']
        simp only [cond_false, cond_true, List.getD_cons_zero, isSmall]
        by_cases h2 : ch c < 97
        · rw [dT h2, dF (show ¬ 97 ≤ ch c by omega)]; rfl
        · rw [dF h2, dT (show 97 ≤ ch c by omega)]
          by_cases h3 : ch c > 122
          · rw [dT h3, dF (show ¬ ch c ≤ 122 by omega)]; rfl
          · rw [dF h3, dT (show ch c ≤ 122 by omega)]; rfl
      · rw [dT (by omega), nble h1]; rfl
  · cases h
theorem lp82 (n : Nat) : ∀ (post pre : Str) (m : Nat), post.length < m → pre.length + post.length ≤ 1000000000 →
    L82_9 n m (pre ++ post) (pre.length : Nat) = some (.bool (post.all isDig), [])
  | [], pre, m, hm, hl => by
    obtain ⟨m, rfl, -⟩ := pos_m hm
    rw [rd82_9, dF (by simp)]
    rfl
  | c :: post, pre, m, hm, hl => by
    obtain ⟨m, rfl, hm⟩ := pos_m hm
    simp only [List.length_cons] at hl hm
    have ih1 := lp82 n post (pre ++ [c]) m (by omega) (by rw [len_snoc]; omega)
    rw [len_snoc, ← app_mid] at ih1
    rw [rd82_9, i64_succ (by omega), toN, mid, dT (by simp; omega), dT (by omega), ih1]
    simp only [cond_true, List.all_cons, isDig]
    by_cases h1 : ch c < 48
    · rw [dT h1, dF (show ¬ 48 ≤ ch c by omega)]; rfl
    · rw [dF h1, dT (show 48 ≤ ch c by omega)]
      by_cases h2 : ch c > 57
      · rw [dT h2, dF (show ¬ ch c ≤ 57 by omega)]; rfl
      · rw [dF h2, dT (show ch c ≤ 57 by omega)]; rfl
/-- Behind the sign: the reference's tests of digits. -/
theorem digs82 (n : Nat) (d : Str) (hn : 16 < n) :
    (bif decide ((d.length : Int) < 1) then some (V.bool false, []) else bif decide ((d.length : Int) > 15) then some (V.bool false, []) else
      bif decide ((d.length : Int) > 1) then (bif decide ((0 : Int) < (d.length : Int)) then (bif ((List.getD d 0 0).toNat : Int) == 48 then some (V.bool false, []) else L82_9 n n d 0) else none) else L82_9 n n d 0) =
    some (V.bool (!(d == []) && Nat.ble d.length 15 && !(d.head? == some 48 && !(d == [48])) && d.all isDig), []) := by
  cases d with
  | nil => rfl
  | cons c d =>
    rw [dF (by simp; omega)]
    simp only [cond_false]
    by_cases h1 : (c :: d).length ≤ 15
    · have lp := lp82 n (c :: d) [] n (by omega) (by simp only [List.length_nil]; omega)
      have lp' : L82_9 n n (c :: d) 0 = some (.bool ((c :: d).all isDig), []) := lp
      rw [dF (by omega), Nat.ble_eq_true_of_le h1, lp']
      simp only [cond_false, List.getD_cons_zero, List.head?_cons]
      have e0 : (ch c == (48 : Int)) = (c == 48) := ch_eq (n := 48) (by decide)
      rw [show ((c.toNat : Int) == 48) = (c == 48) from e0, show (some c == some (48 : UInt8)) = (c == 48) from rfl]
      cases d with
      | nil =>
        rw [dF (by simp)]
        rw [show (([c] : Str) == [48]) = (c == 48) by simp]
        cases c == 48 <;> rfl
      | cons e d =>
        rw [dT (by simp; omega), dT (by simp; omega)]
        rw [show ((c :: e :: d : Str) == [48]) = false by simp]
        cases c == 48 <;> rfl
    · rw [dT (by omega), nble h1]; rfl
theorem ok82 {T : Tab} : SpecOk T 82 sp95 := by
  intro args outs r outs' h
  unfold sp95 at h
  split at h
  · rename_i s
    obtain ⟨-, rfl, rfl⟩ := row3 h
    refine bd82 orc_nil 20 ((ev82 _ s).trans ?_)
    rw [digs82 20 s (by decide)]
    unfold isInt trimPre
    rw [hasPre1]
    cases s with
    | nil => rfl
    | cons c s =>
      have e0 : (ch c == (45 : Int)) = (c == 45) := ch_eq (n := 45) (by decide)
      rw [dT (by simp), dT (by simp; omega)]
      simp only [cond_true, List.getD_cons_zero, List.take_length, List.drop_one, List.tail_cons]
      rw [show ((c.toNat : Int) == 45) = (c == 45) from e0, digs82 20 s (by decide)]
      cases hc : c == 45 with
      | false => rfl
      | true =>
        obtain rfl := eq_of_beq hc
        simp only [cond_true]
        show (bif s == [48] then some (V.bool false, []) else some (V.bool (!(s == []) && Nat.ble s.length 15 && !(s.head? == some 48 && !(s == [48])) && s.all isDig), [])) = some (V.bool (!(s == []) && Nat.ble s.length 15 && !(s.head? == some 48 && !((45 :: s) == [48])) && s.all isDig), [])
        rw [show ((45 :: s : Str) == [48]) = false by simp]
        cases h4 : s == [48] with
        | false => simp
        | true =>
          have h4 := eq_of_beq h4
          subst h4
          rfl
  · cases h
theorem lp61i (n m4 : Nat) (pre post : List AVA) (c : AVA) (hl : pre.length ≤ 4) : ∀ (b a : List AVA) (m : Nat), b.length < m → pre = a ++ b →
    L61_9 n m4 m (pre ++ c :: post) (pre.length : Nat) (a.length : Nat) = bif b.any (fun o => o.attr == c.attr) then some (.bool false, []) else L61_4 n m4 (pre ++ c :: post) ((pre.length + 1 : Nat) : Int)
  | [], a, m, hm, hp => by
    obtain ⟨m, rfl, -⟩ := pos_m hm
    rw [rd61_9, i64_succ (i := pre.length) (by omega), dF (by rw [hp]; simp)]
    rfl
  | x :: b, a, m, hm, hp => by
    obtain ⟨m, rfl, hm⟩ := pos_m hm
    simp only [List.length_cons] at hm
    have hlen : pre.length = a.length + (b.length + 1) := by rw [hp]; simp
    have ih := lp61i n m4 pre post c hl b (a ++ [x]) m (by omega) (by rw [hp]; simp)
    rw [len_snoc] at ih
    have g1 : List.getD (pre ++ c :: post) a.length (AVA.mk [] []) = x := by
      rw [hp, List.append_assoc, List.cons_append]; exact mid a (b ++ c :: post) x _
    rw [rd61_9, i64_succ (i := a.length) (by omega), ih, toN, toN, mid, g1, dT (by omega), dT (by omega), dT (by simp; omega), dT (by omega), dT (by simp; omega)]
    simp only [cond_true, List.any_cons]
    cases x.attr == c.attr <;> rfl
theorem lp61 (n : Nat) (hn : 5 ≤ n) : ∀ (post pre : List AVA) (m : Nat), post.length < m → pre.length + post.length ≤ 4 →
    L61_4 n m (pre ++ post) (pre.length : Nat) = some (.bool (post.all isAva && uniqA pre post), [])
  | [], pre, m, hm, hl => by
    obtain ⟨m, rfl, -⟩ := pos_m hm
    rw [rd61_4, dF (by simp)]
    rfl
  | c :: post, pre, m, hm, hl => by
    obtain ⟨m, rfl, hm⟩ := pos_m hm
    simp only [List.length_cons] at hl hm
    have ih1 := lp61 n hn post (pre ++ [c]) m (by omega) (by rw [len_snoc]; omega)
    rw [len_snoc, ← app_mid] at ih1
    have inn := lp61i n m pre post c (by omega) pre [] n (by omega) rfl
    have inn' : L61_9 n m n (pre ++ c :: post) (pre.length : Nat) 0 = _ := inn
    rw [rd61_4, inn', ih1, toN, mid, dT (by simp; omega), dT (by omega)]
    simp only [cond_true, List.all_cons, uniqA, isAva]
    cases isType c.attr with
    | false => rfl
    | true =>
      cases hv : c.value with
      | nil => rfl
      | cons v vs =>
        rw [dF (by simp; omega)]
        simp only [Bool.not_true, cond_false]
        by_cases h6 : (v :: vs).length ≤ 60
        · rw [dF (by omega), Nat.ble_eq_true_of_le h6, show ((v :: vs) == ([] : Str)) = false from rfl]
          simp only [cond_false]
          cases (pre.any fun o => o.attr == c.attr) <;> simp
        · rw [dT (by omega), nble h6]; simp
theorem an61 (xs : List AVA) : evalBody E c61 61 Tryz.f61 6 [.sl .ava xs] [] = some (.bool (isRDN xs), []) := by
  rw [ev61]
  unfold isRDN
  by_cases h1 : 1 ≤ xs.length
  · rw [dF (by omega), Nat.ble_eq_true_of_le h1]
    by_cases h4 : xs.length ≤ 4
    · rw [dF (by omega), Nat.ble_eq_true_of_le h4]
      have lp := lp61 6 (by decide) xs [] 6 (by omega) (by simpa using h4)
      have lp' : L61_4 6 6 xs 0 = _ := lp
      simp only [cond_false, lp', Bool.true_and]
    · rw [dT (by omega), nble h4]; rfl
  · rw [dT (by omega), nble h1]; rfl
theorem ok61 {T : Tab} : SpecOk T 61 sp54 := by
  intro args outs r outs' h
  unfold sp54 at h
  split at h
  · rename_i xs
    obtain ⟨-, rfl, rfl⟩ := row3 h
    exact bd61 (orc1 ok81) _ (an61 xs)
  · cases h
theorem lp97_end (n : Nat) (x : Int) (d a : Str) (i m : Nat) (out : List Str) (hi : (d ++ a).length ≤ i) (ho : out.length ≤ 1000000001) :
    L97_4 n (m + 1) (d ++ a) x (d.length : Nat) (i : Nat) out = some (.sl .str (out ++ [a]), []) := by
  rw [rd97_4, dF (by omega)]
  simp only [cond_false]
  rw [dT (by omega), dT (by simp; omega), List.take_length, toN, List.drop_left' rfl, Nat.ble_eq_true_of_le (show out.length + _ ≤ 1073741824 by simp; omega)]
  rfl
theorem lp97 (n : Nat) (x : Int) : ∀ (k : Nat) (post acc done : Str) (m : Nat) (out : List Str), post.length ≤ k → post.length < m → done.length + acc.length + post.length ≤ 1000000000 → out.length ≤ done.length →
    L97_4 n m (done ++ (acc ++ post)) x (done.length : Nat) ((done.length + acc.length : Nat) : Int) out = some (.sl .str (out ++ cutA x k post acc), [])
  | k, [], acc, done, m, out, hk, hm, hl, ho => by
    obtain ⟨m, rfl, -⟩ := pos_m hm
    have := lp97_end n x done acc (done.length + acc.length) m out (by simp) (by omega)
    rw [List.append_nil, this]
    cases k <;> simp [cutA]
  | 0, _ :: _, _, _, _, _, hk, _, _, _ => by simp at hk
  | k + 1, c :: post, acc, done, m, out, hk, hm, hl, ho => by
    obtain ⟨m, rfl, hm⟩ := pos_m hm
    simp only [List.length_cons] at hl hm hk
    have hlen : (done ++ (acc ++ c :: post)).length = done.length + acc.length + (post.length + 1) := by simp; omega
    have hget : List.getD (done ++ (acc ++ c :: post)) (done.length + acc.length) 0 = c := by
      have := mid (done ++ acc) post c 0
      rw [List.length_append, List.append_assoc] at this
      exact this
    rw [rd97_4, i64_succ (by omega), i64_succ (by omega), toN, hget, toN, slice_mid, dT (by omega), dT (by omega), dT (by omega), dT (by omega), dT (by omega), Nat.ble_eq_true_of_le (show out.length + _ ≤ 1073741824 by simp; omega)]
    simp only [cond_true, cutA]
    cases h1 : ch c == 92 with
    | true =>
      simp only [cond_true]
      cases post with
      | nil =>
        have := lp97_end n x done (acc ++ [c]) (done.length + acc.length + 1 + 1) (m - 1) out (by simp; omega) (by omega)
        rw [show m - 1 + 1 = m by omega] at this
        exact this
      | cons e post =>
        simp only [List.length_cons] at hl hm hk
        have := lp97 n x k post (acc ++ [c, e]) done m out (by omega) (by omega) (by simp; omega) ho
        rw [show (acc ++ [c, e]) ++ post = acc ++ c :: e :: post by simp, show done.length + (acc ++ [c, e]).length = done.length + acc.length + 1 + 1 by simp; omega] at this
        exact this
    | false =>
      simp only [cond_false]
      cases h2 : ch c == x with
      | true =>
        simp only [cond_true]
        have := lp97 n x k post [] (done ++ (acc ++ [c])) m (out ++ [acc]) (by omega) (by omega) (by simp; omega) (by simp; omega)
        rw [show (done ++ (acc ++ [c])) ++ ([] ++ post) = done ++ (acc ++ c :: post) by simp, show (done ++ (acc ++ [c])).length = done.length + acc.length + 1 by simp; omega] at this
        rw [List.append_assoc] at this
        exact this
      | false =>
        simp only [cond_false]
        have := lp97 n x k post (acc ++ [c]) done m out (by omega) (by omega) (by simp; omega) ho
        rw [show (acc ++ [c]) ++ post = acc ++ c :: post by simp, show done.length + (acc ++ [c]).length = done.length + acc.length + 1 by simp; omega] at this
        exact this
theorem ok97 {T : Tab} : SpecOk T 97 sp120 := by
  intro args outs r outs' h
  unfold sp120 at h
  split at h
  · rename_i s x
    obtain ⟨hs, rfl, rfl⟩ := row3 h
    have hs := ok_le hs
    exact bd97 orc_nil (s.length + 1) ((ev97 _ s x).trans (lp97 _ x s.length s [] [] (s.length + 1) [] (Nat.le_refl _) (by omega) (by simp; omega) (by simp)))
  · cases h
theorem ok142 {T : Tab} : SpecOk T 142 sp142 := by
  intro args outs r outs' h
  unfold sp142 at h
  split at h
  · rename_i c
    obtain ⟨-, rfl, rfl⟩ := row3 h
    refine bd142 orc_nil 0 ((ev142 _ c).trans ?_)
    unfold speI
    cases c == 44 <;> cases c == 43 <;> cases c == 34 <;> cases c == 92 <;> cases c == 60 <;> cases c == 62 <;> rfl
  · cases h
theorem ok143 {T : Tab} : SpecOk T 143 sp143 := by
  intro args outs r outs' h
  unfold sp143 at h
  split at h
  · rename_i c
    obtain ⟨hb, rfl, rfl⟩ := row3 h
    simp only [isB, Bool.and_eq_true, decide_eq_true_eq] at hb
    refine bd143 orc_nil 0 ((ev143 _ c).trans ?_)
    unfold digI
    have w1 : 48 ≤ c → IntKind.wrap .i64 (IntKind.wrap .u8 (c - 48)) = c - 48 := fun h => by rw [IntWalk.u8_in _ (by omega), IntWalk.i64_in _ (by omega)]
    have w2 : 97 ≤ c → IntKind.wrap .i64 (IntKind.wrap .i64 (IntKind.wrap .u8 (c - 97)) + 10) = c - 87 := fun h => by rw [IntWalk.u8_in _ (by omega), IntWalk.i64_in (c - 97) (by omega), IntWalk.i64_in _ (by omega)]; omega
    have w3 : 65 ≤ c → IntKind.wrap .i64 (IntKind.wrap .i64 (IntKind.wrap .u8 (c - 65)) + 10) = c - 55 := fun h => by rw [IntWalk.u8_in _ (by omega), IntWalk.i64_in (c - 65) (by omega), IntWalk.i64_in _ (by omega)]; omega
    by_cases a1 : 48 ≤ c
    · rw [w1 a1]
      by_cases a2 : c ≤ 57
      · simp [a1, a2]
      · by_cases a3 : 97 ≤ c
        · rw [w2 a3, w3 (by omega)]
          by_cases a4 : c ≤ 102
          · simp [a1, a2, a3, a4]
          · simp [a1, a2, a3, a4, show 65 ≤ c by omega, show ¬ c ≤ 70 by omega]
        · by_cases a5 : 65 ≤ c
          · rw [w3 a5]
            by_cases a6 : c ≤ 70 <;> simp [a1, a2, a3, a5, a6]
          · simp [a1, a2, a3, a5]
    · have a3 : ¬ 97 ≤ c := by omega
      have a5 : ¬ 65 ≤ c := by omega
      simp [a1, a3, a5]
  · cases h
end Go.Ev
