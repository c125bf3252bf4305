/-
  What the program's functions answer: names; values that may be; what a change may have.
-/
import Derived.Test.YtdfbmemomndnnaaGreatDoorZN
namespace Go.Ev
open Go.Proofs Go.Ev.Sp
theorem nble {a b : Nat} (h : ¬ a ≤ b) : Nat.ble a b = false := by rw [← Bool.not_eq_true]; exact fun k => h (Nat.le_of_ble_eq_true k)
theorem ble_dec (a b : Nat) : Nat.ble a b = decide (a ≤ b) := by
  by_cases h : a ≤ b
  · rw [Nat.ble_eq_true_of_le h, dT h]
  · rw [nble h, dF h]
theorem ixOf_any {α : Type} (p : α → Bool) : ∀ (l : List α) (i : Nat), decide (ixOf p l i ≥ 0) = l.any p
  | [], i => rfl
  | x :: l, i => by
    show decide ((bif p x then (i : Int) else ixOf p l (i + 1)) ≥ 0) = _
    rw [List.any_cons]
    cases h : p x with
    | true => simp
    | false => simpa using ixOf_any p l (i + 1)
/-! IsType -/
theorem lp74 (n : Nat) : ∀ (post pre : Str) (m : Nat), post.length < m → pre.length + post.length ≤ 1000000000 →
    L74_4 n m ((pre.length + post.length : Nat) : Int) (pre.length : Nat) (bs (pre ++ post)) = some (.bool (post.all isTyc), [])
  | [], pre, m, hm, hl => by
    obtain ⟨m, rfl, -⟩ := pos_m hm
    rw [rd74_4, dF (by simp)]
    rfl
  | c :: post, pre, m, hm, hl => by
    obtain ⟨m, rfl, hm⟩ := pos_m hm
    simp only [List.length_cons] at hl hm
    have ih1 := lp74 n post (pre ++ [c]) m (by omega) (by rw [len_snoc]; omega)
    have e2 : (pre ++ [c]).length + post.length = pre.length + (c :: post).length := by simp; omega
    rw [e2, len_snoc, ← app_mid] at ih1
    rw [rd74_4, i64_succ (by omega), toN, bs_mid, bs_len, dT (by simp; omega), dT (by omega), dT (by simp; omega), ih1]
    simp only [cond_true, List.all_cons, isTyc, isSmall, isDig, ge_iff_le]
    cases decide (97 ≤ ch c) <;> cases decide (ch c ≤ 122) <;> cases decide (48 ≤ ch c) <;> cases decide (ch c ≤ 57) <;> cases ch c == 45 <;> rfl
theorem ok74 {T : Tab} : SpecOk T 74 sp74 := by
  intro args outs r outs' h
  unfold sp74 at h
  split at h
  · rename_i s
    obtain ⟨-, rfl, rfl⟩ := row3 h
    refine bd74 orc_nil 20 ((ev74 _ s).trans ?_)
    unfold isType
    cases s with
    | nil => rfl
    | cons c s =>
      rw [show ((c :: s) == ([] : Str)) = false from rfl]
      simp only [cond_false]
      by_cases h1 : (c :: s).length ≤ 16
      · rw [dF (by omega), dT (by simp), Nat.ble_eq_true_of_le h1]
        have lp := lp74 20 (c :: s) [] 20 (by omega) (by simp only [List.length_nil]; omega)
        have lp' : L74_4 20 20 (↑(List.length (List.map (fun (c : UInt8) => (↑(UInt8.toNat c) : Int)) (c :: s))) : Int) (0 : Int) (List.map (fun (c : UInt8) => (↑(UInt8.toNat c) : Int)) (c :: s)) = some (.bool ((c :: s).all isTyc), []) := by
          simpa [bs] using lp
        rw [lp']
        simp only [cond_false, cond_true, List.getD_cons_zero, isSmall]
        by_cases h2 : ch c < 97
        · rw [dT h2, dF (show ¬ 97 ≤ ch c by omega)]; rfl
        · rw [dF h2, dT (show 97 ≤ ch c by omega)]
          by_cases h3 : ch c > 122
          · rw [dT h3, dF (show ¬ ch c ≤ 122 by omega)]; rfl
          · rw [dF h3, dT (show ch c ≤ 122 by omega)]; rfl
      · rw [dT (by omega), nble h1]; rfl
  · cases h
theorem ok75 {T : Tab} : SpecOk T 75 sp75 := by
  intro args outs r outs' h
  unfold sp75 at h
  split at h
  · rename_i a v b w
    obtain ⟨-, rfl, rfl⟩ := row3 h
    exact bd75 orc_nil 0 (ev75 0 a v b w)
  · cases h
theorem lp76a (n : Nat) (b w : Str) : ∀ (post pre : List AVA) (m : Nat), post.length < m → pre.length + post.length ≤ 1000000000 →
    L76a_2 n m (pre ++ post) ((pre.length + post.length : Nat) : Int) (pre.length : Nat) b w = some (.int .i64 (ixOf (fun (o : AVA) => o.attr == b) post pre.length), [[.str b, .str w]])
  | [], pre, m, hm, hl => by
    obtain ⟨m, rfl, -⟩ := pos_m hm
    rw [rd76a_2, dF (by simp)]
    rfl
  | c :: post, pre, m, hm, hl => by
    obtain ⟨m, rfl, hm⟩ := pos_m hm
    simp only [List.length_cons] at hl hm
    have ih1 := lp76a n b w post (pre ++ [c]) m (by omega) (by rw [len_snoc]; omega)
    have e2 : (pre ++ [c]).length + post.length = pre.length + (c :: post).length := by simp; omega
    rw [e2, len_snoc, ← app_mid] at ih1
    rw [rd76a_2, i64_succ (by omega), toN, mid, dT (by simp; omega), dT (by omega), dT (by simp; omega), ih1]
    simp only [cond_true, ixOf]
    cases c.attr == b <;> rfl
theorem ok76a {T : Tab} : SpecOk T 76 sp76a := by
  intro args outs r outs' h
  unfold sp76a at h
  split at h
  · rename_i xs b w
    obtain ⟨hl, rfl, rfl⟩ := row3 h
    have hl : List.length (α := AVA) xs ≤ 1000000000 := Nat.le_of_ble_eq_true hl
    have lp := lp76a (List.length (α := AVA) xs + 1) b w xs [] (List.length (α := AVA) xs + 1) (Nat.lt_succ_self _) (by rw [List.length_nil, Nat.zero_add]; exact hl)
    rw [List.length_nil, Nat.zero_add] at lp
    exact bd76a (orc1 ok75) _ ((ev76a _ xs b w).trans lp)
  · cases h
theorem an55a (xs : List AVA) (b w : Str) (hl : xs.length ≤ 1000000000) : evalBody E c55a 55 Tryz.f55 0 [.sl .ava xs, .fn 75 [.optr 0 0]] [[.str b, .str w]] = some (.bool (xs.any fun (o : AVA) => o.attr == b), [[.str b, .str w]]) := by
  rw [ev55a, ixOf_any, Nat.ble_eq_true_of_le hl]; rfl
theorem ok55a {T : Tab} : SpecOk T 55 sp55a := by
  intro args outs r outs' h
  unfold sp55a at h
  split at h
  · rename_i xs b w
    obtain ⟨hl, rfl, rfl⟩ := row3 h
    exact bd55a (orc1 ok76a) 0 (an55a xs b w (Nat.le_of_ble_eq_true hl))
  · cases h
theorem lp54 (n : Nat) : ∀ (post pre : List AVA) (m : Nat), post.length < m → pre.length + post.length ≤ 1000000000 → pre.length ≤ 4 →
    L54_2 n m (pre ++ post) (pre ++ post) ((pre.length + post.length : Nat) : Int) (pre.length : Nat) = some (.bool (Nat.ble 1 (pre.length + post.length) && Nat.ble (pre.length + post.length) 4 && post.all isAva && uniqA pre post), [])
  | [], pre, m, hm, hl, h4 => by
    obtain ⟨m, rfl, -⟩ := pos_m hm
    rw [rd54_2, dF (by simp)]
    simp only [cond_false, List.append_nil, List.length_nil, Nat.add_zero, List.all_nil, uniqA, Bool.and_true, Nat.ble_eq_true_of_le h4, ble_dec]
    congr 3
    rw [Bool.eq_iff_iff]; simp; omega
  | c :: post, pre, m, hm, hl, h4 => by
    obtain ⟨m, rfl, hm⟩ := pos_m hm
    simp only [List.length_cons] at hl hm
    rw [rd54_2, i64_succ (by omega), toN, mid, dT (by simp; omega), dT (by omega), dT (by simp; omega)]
    simp only [cond_true]
    by_cases h5 : pre.length = 4
    · rw [dT (by omega), nble (show ¬ pre.length + (c :: post).length ≤ 4 by simp; omega)]
      simp
    · rw [dF (by omega)]
      have ih1 := lp54 n post (pre ++ [c]) m (by omega) (by rw [len_snoc]; omega) (by rw [len_snoc]; omega)
      have e2 : (pre ++ [c]).length + post.length = pre.length + (c :: post).length := by simp; omega
      rw [e2, len_snoc, ← app_mid] at ih1
      rw [ih1]
      simp only [cond_false, List.all_cons, uniqA, isAva]
      cases isType c.attr with
      | false => simp
      | true =>
        cases hv : (c.value == []) with
        | true => simp
        | false =>
          by_cases h6 : c.value.length ≤ 60
          · rw [dF (by omega), dT (by simp; omega), Nat.ble_eq_true_of_le h6, List.take_left, Nat.ble_eq_true_of_le (show (List.drop 0 pre).length ≤ _ by simp; omega), List.drop_zero]
            simp only [cond_true, cond_false, Bool.not_true, Bool.true_and, Bool.not_false]
            cases (pre.any fun o => o.attr == c.attr) <;> simp
          · rw [dT (by omega), nble h6]; simp
theorem ok54 {T : Tab} : SpecOk T 54 sp54 := by
  intro args outs r outs' h
  unfold sp54 at h
  split at h
  · rename_i xs
    obtain ⟨hl, rfl, rfl⟩ := row3 h
    have hl : List.length (α := AVA) xs ≤ 1000000000 := Nat.le_of_ble_eq_true hl
    have lp := lp54 (List.length (α := AVA) xs + 1) xs [] (List.length (α := AVA) xs + 1) (Nat.lt_succ_self _) (by rw [List.length_nil, Nat.zero_add]; exact hl) (by simp)
    rw [List.length_nil, Nat.zero_add] at lp
    exact bd54 (orc_cons ok74 (orc1 ok55a)) _ ((ev54 _ xs).trans lp)
  · cases h
/-! Pieces -/
theorem cutA_ok (x : Int) (n : Nat) : ∀ (k : Nat) (s acc : Str), acc.length + s.length ≤ n → (∀ p ∈ cutA x k s acc, p.length ≤ n) ∧ (cutA x k s acc).length ≤ s.length + 1
  | 0, s, acc, h => ⟨fun p hp => by simp only [cutA, List.mem_singleton] at hp; subst hp; simpa using h, by simp [cutA]⟩
  | k + 1, [], acc, h => ⟨fun p hp => by simp only [cutA, List.mem_singleton] at hp; subst hp; simpa using h, by simp [cutA]⟩
  | k + 1, c :: s, acc, h => by
    simp only [List.length_cons] at h
    simp only [cutA]
    cases ch c == 92 with
    | true =>
      cases s with
      | nil => exact ⟨fun p hp => by simp only [cond_true, List.mem_singleton] at hp; subst hp; simpa using h, by simp⟩
      | cons d s =>
        simp only [List.length_cons] at h
        obtain ⟨h1, h2⟩ := cutA_ok x n k s (acc ++ [c, d]) (by simp; omega)
        exact ⟨h1, by simp only [cond_true, List.length_cons]; omega⟩
    | false =>
      cases ch c == x with
      | true =>
        obtain ⟨h1, h2⟩ := cutA_ok x n k s [] (by simp; omega)
        refine ⟨fun p hp => ?_, by simp only [cond_false, cond_true, List.length_cons]; omega⟩
        rcases List.mem_cons.1 hp with rfl | hp
        · omega
        · exact h1 p hp
      | false =>
        obtain ⟨h1, h2⟩ := cutA_ok x n k s (acc ++ [c]) (by simp; omega)
        exact ⟨h1, by simp only [cond_false, List.length_cons]; omega⟩
theorem cut_ok {x : Int} {s : Str} (h : s.length ≤ 1000000000) : (∀ p ∈ cut x s, ok p = true) ∧ (cut x s).length ≤ 1000000001 := by
  obtain ⟨h1, h2⟩ := cutA_ok x s.length s.length s [] (by simp)
  exact ⟨fun p hp => le_ok (Nat.le_trans (h1 p hp) h), by unfold cut; omega⟩
theorem eqL_len (s : Str) : (eqL s).length ≤ s.length := by
  cases h : hasEq s with
  | true => have := eq_parts s h; omega
  | false => rw [(no_eq h).1]; exact Nat.le_refl _
theorem eqR_len (s : Str) : (eqR s).length ≤ s.length := by
  cases h : hasEq s with
  | true => rw [← (eq_parts s h).2.1]; simp
  | false => rw [(no_eq h).2]; simp
def rvV (x : Option (List AVA)) : V := .tup [.sl .ava (x.getD []), .int .i64 (bif x.isSome then 0 else 15)]
theorem isRDN_len {r : List AVA} (h : 4 < r.length) : isRDN r = false := by
  unfold isRDN
  rw [nble (show ¬ r.length ≤ 4 by omega)]; simp
theorem lp121 (n : Nat) : ∀ (post pre : List Str) (m : Nat) (r4 : List AVA), post.length < m → pre.length + post.length ≤ 1000000001 → (∀ p ∈ post, ok p = true) → r4.length ≤ 5 →
    L121_3 n m (pre ++ post) ((pre.length + post.length : Nat) : Int) (pre.length : Nat) r4 = some (rvV ((allSome ava post).bind fun l => bif isRDN (r4 ++ l) then some (r4 ++ l) else none), [])
  | [], pre, m, r4, hm, hl, hp, h5 => by
    obtain ⟨m, rfl, -⟩ := pos_m hm
    rw [rd121_3, dF (by simp)]
    simp only [cond_false, allSome, Option.bind_some, List.append_nil]
    rw [Nat.ble_eq_true_of_le (by omega)]
    cases isRDN r4 <;> rfl
  | p :: post, pre, m, r4, hm, hl, hp, h5 => by
    obtain ⟨m, rfl, hm⟩ := pos_m hm
    simp only [List.length_cons] at hl hm
    have hok := hp p (by simp)
    have hpl := ok_le hok
    have hL : ok (eqL p) = true := le_ok (Nat.le_trans (eqL_len p) hpl)
    have hR : ok (eqR p) = true := le_ok (Nat.le_trans (eqR_len p) hpl)
    rw [rd121_3, i64_succ (by omega), toN, mid, dT (by simp; omega), dT (by omega), dT (by simp; omega), hok, hL, hR]
    simp only [cond_true, allSome, ava, unesc]
    cases hasEq p with
    | false => rfl
    | true =>
      cases (unescP (eqR p)).2 with
      | false => rfl
      | true =>
        simp only [Bool.not_true, cond_false, cond_true, Option.map_some, Option.bind_some]
        by_cases h4 : r4.length ≤ 4
        · rw [dF (by omega), Nat.ble_eq_true_of_le (show r4.length + _ ≤ 1073741824 by simp; omega)]
          have ih1 := lp121 n post (pre ++ [p]) m (r4 ++ [AVA.mk (lower (eqL p)) (unescP (eqR p)).1]) (by omega) (by rw [len_snoc]; omega) (fun q hq => hp q (by simp [hq])) (by rw [len_snoc]; omega)
          have e2 : (pre ++ [p]).length + post.length = pre.length + (p :: post).length := by simp; omega
          rw [e2, len_snoc, ← app_mid] at ih1
          simp only [cond_false, cond_true]
          rw [ih1]
          cases allSome ava post with
          | none => rfl
          | some l => simp
        · rw [dT (by omega)]
          simp only [cond_true]
          cases allSome ava post with
          | none => rfl
          | some l =>
            simp only [Option.map_some, Option.bind_some]
            rw [isRDN_len (by simp; omega)]; rfl
theorem ok121 {T : Tab} : SpecOk T 121 sp121 := by
  intro args outs r outs' h
  unfold sp121 at h
  split at h
  · rename_i s
    obtain ⟨hs, rfl, rfl⟩ := row3 h
    have hl := ok_le hs
    obtain ⟨h1, h2⟩ := cut_ok (x := 43) hl
    refine bd121 (orc_cons ok120 (orc_cons ok140 (orc_cons ok141 (orc_cons ok78 (orc1 ok54))))) ((cut 43 s).length + 1) ((ev121 _ s).trans ?_)
    rw [hs]
    have lp := lp121 ((cut 43 s).length + 1) (cut 43 s) [] ((cut 43 s).length + 1) [] (by omega) (by simpa using h2) h1 (by simp)
    rw [List.length_nil, Nat.zero_add] at lp
    exact lp
  · cases h
def dnV (x : Option (List (List AVA))) : V := .tup [.sl .rdn (x.getD []), .int .i64 (bif x.isSome then 0 else 15)]
theorem lp96 (n : Nat) : ∀ (post pre : List Str) (m : Nat) (r4 : List (List AVA)), post.length < m → pre.length + post.length ≤ 1000000001 → (∀ p ∈ post, ok p = true) → r4.length ≤ 8 →
    L96_5 n m (pre ++ post) ((pre.length + post.length : Nat) : Int) (pre.length : Nat) r4 = some (dnV ((allSome parseRDN post).bind fun l => bif Nat.ble (r4 ++ l).length 8 then some (r4 ++ l) else none), [])
  | [], pre, m, r4, hm, hl, hp, h5 => by
    obtain ⟨m, rfl, -⟩ := pos_m hm
    rw [rd96_5, dF (by simp)]
    simp only [cond_false, allSome, Option.bind_some, List.append_nil]
    rw [Nat.ble_eq_true_of_le h5]
    rfl
  | p :: post, pre, m, r4, hm, hl, hp, h5 => by
    obtain ⟨m, rfl, hm⟩ := pos_m hm
    simp only [List.length_cons] at hl hm
    have hok := hp p (by simp)
    rw [rd96_5, i64_succ (by omega), toN, mid, dT (by simp; omega), dT (by omega), dT (by simp; omega), hok]
    simp only [cond_true, allSome]
    cases hq : parseRDN p with
    | none => rfl
    | some q =>
      simp only [Option.isSome_some, cond_true, Option.getD_some, Option.bind_some]
      rw [show ((0 : Int) != 0) = false from rfl]
      simp only [cond_false]
      by_cases h4 : r4.length = 8
      · rw [show ((r4.length : Int) == 8) = true by rw [h4]; rfl]
        simp only [cond_true]
        cases allSome parseRDN post with
        | none => rfl
        | some l =>
          simp only [Option.map_some, Option.bind_some]
          rw [nble (by simp; omega)]; rfl
      · rw [show ((r4.length : Int) == 8) = false by rw [beq_eq_false_iff_ne]; omega, Nat.ble_eq_true_of_le (show r4.length + _ ≤ 1073741824 by simp; omega)]
        have ih1 := lp96 n post (pre ++ [p]) m (r4 ++ [q]) (by omega) (by rw [len_snoc]; omega) (fun q hq => hp q (by simp [hq])) (by rw [len_snoc]; omega)
        have e2 : (pre ++ [p]).length + post.length = pre.length + (p :: post).length := by simp; omega
        rw [e2, len_snoc, ← app_mid] at ih1
        simp only [cond_false, cond_true]
        rw [ih1]
        cases allSome parseRDN post with
        | none => rfl
        | some l => simp
theorem ok96 {T : Tab} : SpecOk T 96 sp96 := by
  intro args outs r outs' h
  unfold sp96 at h
  split at h
  · rename_i s
    obtain ⟨hs, rfl, rfl⟩ := row3 h
    have hl := ok_le hs
    obtain ⟨h1, h2⟩ := cut_ok (x := 44) hl
    refine bd96 (orc_cons ok120 (orc1 ok121)) ((cut 44 s).length + 1) ((ev96 _ s).trans ?_)
    rw [hs]
    have lp := lp96 ((cut 44 s).length + 1) (cut 44 s) [] ((cut 44 s).length + 1) [] (by omega) (by simpa using h2) h1 (by simp)
    rw [List.length_nil, Nat.zero_add] at lp
    cases s with
    | nil => rfl
    | cons c s => exact lp
  · cases h
theorem trim_nil (s : Str) : (trim 32 s == []) = s.all (fun c => ch c == 32) := by
  have h1 : ∀ (l : Str), (ltrim 32 l == []) = l.all (fun c => ch c == 32) := by
    intro l
    unfold ltrim
    induction l with
    | nil => rfl
    | cons c l ih =>
      rw [List.dropWhile_cons, List.all_cons]
      cases hc : ch c == 32 with
      | true => simpa using ih
      | false => rfl
  have h2 : ∀ (l : Str), l.all (fun c => ch c == 32) = true → l.dropWhile (fun c => ch c == 32) = [] := by
    intro l h
    induction l with
    | nil => rfl
    | cons c l ih =>
      simp only [List.all_cons, Bool.and_eq_true] at h
      rw [List.dropWhile_cons, if_pos h.1]
      exact ih h.2
  unfold trim
  rw [h1, Bool.eq_iff_iff]
  constructor
  · intro h
    -- what was cut off at the end is blank, too
    have key : ∀ (l : Str), (l.dropWhile (fun c => ch c == 32)).all (fun c => ch c == 32) = true → l.all (fun c => ch c == 32) = true := by
      intro l
      induction l with
      | nil => exact fun h => h
      | cons c l ih =>
        intro h
        rw [List.dropWhile_cons] at h
        cases hc : ch c == 32 with
        | true => rw [hc, if_pos rfl] at h; rw [List.all_cons, hc, ih h]; rfl
        | false => rw [hc] at h; simp only [Bool.false_eq_true, if_false, List.all_cons, hc, Bool.false_and] at h
    have := key s.reverse (by
      have : (rtrim 32 s).reverse.all (fun c => ch c == 32) = true := by rw [List.all_reverse]; exact h
      rwa [rtrim, List.reverse_reverse] at this)
    rwa [List.all_reverse] at this
  · intro h
    have : rtrim 32 s = [] := by
      unfold rtrim
      rw [h2 _ (by rw [List.all_reverse]; exact h)]; rfl
    rw [this]; rfl
theorem ok77 {T : Tab} : SpecOk T 77 sp77 := by
  intro args outs r outs' h
  unfold sp77 at h
  split at h
  · rename_i y s
    obtain ⟨hs, rfl, rfl⟩ := row3 h
    refine bd77 (orc_cons ok93 (orc_cons ok94 (orc_cons ok95 (orc1 ok96)))) 0 ((ev77 _ y s).trans ?_)
    unfold may
    rw [hs, trim_nil]
    cases y == 1 with
    | true =>
      simp only [cond_true]
      cases (s.all fun c => ch c == 32) <;> rfl
    | false =>
      cases y == 2 with
      | true => rfl
      | false =>
        cases y == 3 with
        | true => rfl
        | false =>
          cases y == 5 with
          | false => rfl
          | true => cases (parse s).isSome <;> rfl
  · cases h
theorem ok57 {T : Tab} : SpecOk T 57 sp57 := by
  intro args outs r outs' h
  unfold sp57 at h
  split at h
  · rename_i a v
    obtain ⟨hs, rfl, rfl⟩ := row3 h
    simp only [Bool.and_eq_true] at hs
    refine bd57 (orc_cons ok58 (orc1 ok77)) 0 ((ev57 _ a v).trans ?_)
    unfold check
    rw [hs.1, hs.2]
    cases findT a with
    | none => rfl
    | some t =>
      simp only [Option.isSome_some, Bool.not_true, cond_false, cond_true, Option.getD_some]
      cases (v == []) with
      | true => rfl
      | false =>
        by_cases h1 : v.length ≤ 60
        · rw [dF (by omega), Nat.ble_eq_true_of_le h1]
          cases may t.syn v <;> rfl
        · rw [dT (by omega), nble h1]; rfl
  · cases h
theorem ok56 {T : Tab} : SpecOk T 56 sp56 := by
  intro args outs r outs' h
  unfold sp56 at h
  split at h
  · rename_i a v
    obtain ⟨hs, rfl, rfl⟩ := row3 h
    refine bd56 (orc1 ok57) 0 ((ev56 _ a v).trans ?_)
    rw [hs]
    unfold badA
    simp only [cond_true]
    rw [show sId = [101, 110, 116, 114, 121, 105, 100] from rfl]
    cases (a == [101, 110, 116, 114, 121, 105, 100]) with
    | true => rfl
    | false => rfl
  · cases h
end Go.Ev
/-
  What the program's functions answer: whether something is a change.
-/
namespace Go.Ev
open Go.Proofs Go.Ev.Sp
theorem okAs_all {l : List AVA} (h : okAs l = true) : l.length ≤ 1000000000 ∧ ∀ a ∈ l, ok a.attr = true ∧ ok a.value = true := by
  simp only [okAs, Bool.and_eq_true, List.all_eq_true, okA] at h
  exact ⟨Nat.le_of_ble_eq_true h.1, h.2⟩
theorem okSs_all {l : List Str} (h : okSs l = true) : l.length ≤ 1000000000 ∧ ∀ a ∈ l, ok a = true := by
  simp only [okSs, Bool.and_eq_true, List.all_eq_true] at h
  exact ⟨Nat.le_of_ble_eq_true h.1, h.2⟩
theorem okMs_all {l : List Mod} (h : okMs l = true) : l.length ≤ 1000000000 ∧ ∀ a ∈ l, ok a.attr = true ∧ okSs a.values = true := by
  simp only [okMs, Bool.and_eq_true, List.all_eq_true, okM] at h
  exact ⟨Nat.le_of_ble_eq_true h.1, h.2⟩
theorem lp76b (n : Nat) : ∀ (post pre : List AVA) (m : Nat), post.length < m → pre.length + post.length ≤ 1000000000 → (∀ a ∈ post, ok a.attr = true ∧ ok a.value = true) →
    L76b_2 n m (pre ++ post) ((pre.length + post.length : Nat) : Int) (pre.length : Nat) = some (.int .i64 (ixOf badA post pre.length), [])
  | [], pre, m, hm, hl, hp => by
    obtain ⟨m, rfl, -⟩ := pos_m hm
    rw [rd76b_2, dF (by simp)]
    rfl
  | c :: post, pre, m, hm, hl, hp => by
    obtain ⟨m, rfl, hm⟩ := pos_m hm
    simp only [List.length_cons] at hl hm
    have ih1 := lp76b n post (pre ++ [c]) m (by omega) (by rw [len_snoc]; omega) fun a ha => hp a (by simp [ha])
    have e2 : (pre ++ [c]).length + post.length = pre.length + (c :: post).length := by simp; omega
    rw [e2, len_snoc, ← app_mid] at ih1
    obtain ⟨h1, h2⟩ := hp c (by simp)
    rw [rd76b_2, i64_succ (by omega), toN, mid, dT (by simp; omega), dT (by omega), dT (by simp; omega), ih1, h1, h2]
    simp only [cond_true, Bool.and_self, ixOf]
    show (bif badA c then _ else _) = _
    cases badA c <;> rfl
theorem an76b (xs : List AVA) (h : okAs xs = true) : evalBody E c76b 76 Tryz.f76 (xs.length + 1) [.sl .ava xs, .fn 56 []] [] = some (.int .i64 (ixOf badA xs 0), []) := by
  obtain ⟨h1, h2⟩ := okAs_all h
  have lp := lp76b (xs.length + 1) xs [] (xs.length + 1) (Nat.lt_succ_self _) (by simpa using h1) h2
  rw [List.length_nil, Nat.zero_add] at lp
  exact (ev76b _ xs).trans lp
theorem ok76b {T : Tab} : SpecOk T 76 sp76b := by
  intro args outs r outs' h
  unfold sp76b at h
  split at h
  · rename_i xs
    obtain ⟨hl, rfl, rfl⟩ := row3 h
    exact bd76b (orc1 ok56) _ (an76b xs hl)
  · cases h
theorem an55b (xs : List AVA) (h : okAs xs = true) : evalBody E c55b 55 Tryz.f55 0 [.sl .ava xs, .fn 56 []] [] = some (.bool (xs.any badA), []) := by
  rw [ev55b, ixOf_any, h]; rfl
theorem ok55b {T : Tab} : SpecOk T 55 sp55b := by
  intro args outs r outs' h
  unfold sp55b at h
  split at h
  · rename_i xs
    obtain ⟨hl, rfl, rfl⟩ := row3 h
    exact bd55b (orc1 ok76b) _ (an55b xs hl)
  · cases h
theorem any_bad (xs : List AVA) : (!xs.any badA) = xs.all fun a => !(a.attr == sId) && check a.attr a.value == 0 := by
  induction xs with
  | nil => rfl
  | cons a l ih =>
    simp only [List.any_cons, List.all_cons, Bool.not_or, ih, badA]
    cases a.attr == sId <;> cases check a.attr a.value == 0 <;> rfl
theorem orc_cons2 {T : Tab} {g : FuncId} {sp : Spec} {l : List (FuncId × Spec)} (h1 : SpecOk T g sp) (h2 : OrcOk Tryz.prog T (orc l)) : OrcOk Tryz.prog T (orc ((g, sp) :: l)) := orc_cons h1 h2
theorem an28 (xs : List AVA) (h : okAs xs = true) : evalBody E c28 28 Tryz.f28 0 [.sl .ava xs] [] = some (.bool (isRDNc xs), []) := by
  obtain ⟨h1, h2⟩ := okAs_all h
  rw [ev28, Nat.ble_eq_true_of_le h1, h]
  have := any_bad xs
  unfold badA at this
  rw [this]
  unfold isRDNc
  simp only [cond_true]
  cases isRDN xs with
  | false => rfl
  | true =>
    by_cases h4 : xs.length < 4
    · rw [dF (by omega), show Nat.blt xs.length 4 = true from Nat.ble_eq_true_of_le h4]; rfl
    · rw [dT (by omega), show Nat.blt xs.length 4 = false from nble (by omega)]; rfl
theorem ok28 {T : Tab} : SpecOk T 28 sp28 := by
  intro args outs r outs' h
  unfold sp28 at h
  split at h
  · rename_i xs
    obtain ⟨hl, rfl, rfl⟩ := row3 h
    exact bd28 (orc_cons ok54 (orc1 ok55b)) _ (an28 xs hl)
  · cases h
theorem an60 (v a : Str) (k : Int) (l : List Str) (h : (ok v && ok a) = true) : evalBody E c60 60 Tryz.f60 0 [.str v, .optr 0 0] [[.int .i64 k, .str a, .sl .str l]] = some (.bool (!(check a v == 0)), [[.int .i64 k, .str a, .sl .str l]]) := by
  simp only [Bool.and_eq_true] at h
  rw [ev60, h.1, h.2]; rfl
theorem ok60 {T : Tab} : SpecOk T 60 sp60 := by
  intro args outs r outs' h
  unfold sp60 at h
  split at h
  · rename_i v k a l
    obtain ⟨hl, rfl, rfl⟩ := row3 h
    exact bd60 (orc1 ok57) _ (an60 v a k l hl)
  · cases h
theorem lp80 (n : Nat) (a : Str) (k : Int) (l : List Str) (ha : ok a = true) : ∀ (post pre : List Str) (m : Nat), post.length < m → pre.length + post.length ≤ 1000000000 → (∀ a ∈ post, ok a = true) →
    L80_2 n m (pre ++ post) ((pre.length + post.length : Nat) : Int) (pre.length : Nat) k a l = some (.int .i64 (ixOf (fun v => !(check a v == 0)) post pre.length), [[.int .i64 k, .str a, .sl .str l]])
  | [], pre, m, hm, hl, hp => by
    obtain ⟨m, rfl, -⟩ := pos_m hm
    rw [rd80_2, dF (by simp)]
    rfl
  | c :: post, pre, m, hm, hl, hp => by
    obtain ⟨m, rfl, hm⟩ := pos_m hm
    simp only [List.length_cons] at hl hm
    have ih1 := lp80 n a k l ha post (pre ++ [c]) m (by omega) (by rw [len_snoc]; omega) fun a ha => hp a (by simp [ha])
    have e2 : (pre ++ [c]).length + post.length = pre.length + (c :: post).length := by simp; omega
    rw [e2, len_snoc, ← app_mid] at ih1
    have h1 := hp c (by simp)
    rw [rd80_2, i64_succ (by omega), toN, mid, dT (by simp; omega), dT (by omega), dT (by simp; omega), ih1, h1, ha]
    simp only [cond_true, Bool.and_self, ixOf]
    cases check a c == 0 <;> rfl
theorem an80 (xs l : List Str) (a : Str) (k : Int) (h : (okSs xs && ok a) = true) : evalBody E c80 80 Tryz.f80 (xs.length + 1) [.sl .str xs, .fn 60 [.optr 0 0]] [[.int .i64 k, .str a, .sl .str l]] = some (.int .i64 (ixOf (fun v => !(check a v == 0)) xs 0), [[.int .i64 k, .str a, .sl .str l]]) := by
  simp only [Bool.and_eq_true] at h
  obtain ⟨h1, h2⟩ := okSs_all h.1
  have lp := lp80 (xs.length + 1) a k l h.2 xs [] (xs.length + 1) (Nat.lt_succ_self _) (by simpa using h1) h2
  rw [List.length_nil, Nat.zero_add] at lp
  exact (ev80 _ xs l a k).trans lp
theorem ok80 {T : Tab} : SpecOk T 80 sp80 := by
  intro args outs r outs' h
  unfold sp80 at h
  split at h
  · rename_i xs k a l
    obtain ⟨hl, rfl, rfl⟩ := row3 h
    exact bd80 (orc1 ok60) _ (an80 xs l a k hl)
  · cases h
theorem an59 (xs l : List Str) (a : Str) (k : Int) (h : (okSs xs && ok a) = true) : evalBody E c59 59 Tryz.f59 0 [.sl .str xs, .fn 60 [.optr 0 0]] [[.int .i64 k, .str a, .sl .str l]] = some (.bool (xs.any fun v => !(check a v == 0)), [[.int .i64 k, .str a, .sl .str l]]) := by
  rw [ev59, ixOf_any, h]; rfl
theorem ok59 {T : Tab} : SpecOk T 59 sp59 := by
  intro args outs r outs' h
  unfold sp59 at h
  split at h
  · rename_i xs k a l
    obtain ⟨hl, rfl, rfl⟩ := row3 h
    exact bd59 (orc1 ok80) _ (an59 xs l a k hl)
  · cases h
theorem any_not (xs : List Str) (p : Str → Bool) : (xs.any fun v => !(p v)) = !(xs.all p) := by
  induction xs with
  | nil => rfl
  | cons a l ih => simp only [List.any_cons, List.all_cons, Bool.not_and, ih]
theorem isEmp_len {α : Type} (l : List α) : ((l.length : Int) == 0) = l.isEmpty := by
  cases l with
  | nil => rfl
  | cons a l => simp; omega
theorem lp29 (n : Nat) (last : Int) : ∀ (post pre : List Mod) (m : Nat), post.length < m → pre.length + post.length ≤ 1000000000 → (∀ a ∈ post, ok a.attr = true ∧ okSs a.values = true) →
    L29_2 n m (pre ++ post) last (pre ++ post) ((pre.length + post.length : Nat) : Int) (pre.length : Nat) = some (.bool (post.all (isMod last) && Nat.ble (pre.length + post.length) 8), [])
  | [], pre, m, hm, hl, hp => by
    obtain ⟨m, rfl, -⟩ := pos_m hm
    rw [rd29_2, dF (by simp)]
    simp only [cond_false, List.append_nil, List.all_nil, Bool.true_and, List.length_nil, Nat.add_zero, ble_dec]
    congr 3
    rw [Bool.eq_iff_iff]; simp; omega
  | c :: post, pre, m, hm, hl, hp => by
    obtain ⟨m, rfl, hm⟩ := pos_m hm
    simp only [List.length_cons] at hl hm
    have ih1 := lp29 n last post (pre ++ [c]) m (by omega) (by rw [len_snoc]; omega) fun a ha => hp a (by simp [ha])
    have e2 : (pre ++ [c]).length + post.length = pre.length + (c :: post).length := by simp; omega
    rw [e2, len_snoc, ← app_mid] at ih1
    obtain ⟨h1, h2⟩ := hp c (by simp)
    rw [rd29_2, i64_succ (by omega), toN, mid, dT (by simp; omega), dT (by omega), dT (by simp; omega), ih1, h1, h2, any_not, isEmp_len]
    simp only [cond_true, Bool.and_self, List.all_cons, isMod]
    rw [show sId = [101, 110, 116, 114, 121, 105, 100] from rfl]
    cases findT c.attr with
    | none => rfl
    | some t =>
      simp only [Option.isSome_some, Bool.not_true, cond_false, Option.getD_some]
      cases t.name == c.attr with
      | false => rfl
      | true =>
        cases c.attr == [101, 110, 116, 114, 121, 105, 100] with
        | true => rfl
        | false =>
          by_cases k1 : c.kind < 1
          · rw [dT k1, dF (show ¬ 1 ≤ c.kind by omega)]; rfl
          · rw [dF k1, dT (show 1 ≤ c.kind by omega)]
            by_cases k2 : c.kind > last
            · rw [dT k2, dF (show ¬ c.kind ≤ last by omega)]; rfl
            · rw [dF k2, dT (show c.kind ≤ last by omega)]
              by_cases k3 : c.values.length ≤ 12
              · rw [dF (by omega), Nat.ble_eq_true_of_le k3]
                cases c.kind == 1 <;> cases c.values.isEmpty <;> cases (c.values.all fun v => check c.attr v == 0) <;> rfl
              · rw [dT (by omega), nble k3]
                simp
theorem an29 (l : List Mod) (last : Int) (h : okMs l = true) : evalBody E c29 29 Tryz.f29 (l.length + 1) [.sl .mod l, .int .i64 last] [] = some (.bool (isMods last l), []) := by
  obtain ⟨h1, h2⟩ := okMs_all h
  have lp := lp29 (l.length + 1) last l [] (l.length + 1) (Nat.lt_succ_self _) (by simpa using h1) h2
  rw [List.length_nil, Nat.zero_add] at lp
  exact (ev29 _ l last).trans lp
theorem ok29 {T : Tab} : SpecOk T 29 sp29 := by
  intro args outs r outs' h
  unfold sp29 at h
  split at h
  · rename_i l last
    obtain ⟨hl, rfl, rfl⟩ := row3 h
    exact bd29 (orc_cons ok58 (orc1 ok59)) _ (an29 l last hl)
  · cases h
theorem an10 (x : Chn) (h : x.ok = true) : evalBody E c10 10 Tryz.f10 0 [.agg (Chn.cells x)] [] = some (.bool (isChange x), []) := by
  simp only [Chn.ok, Bool.and_eq_true] at h
  obtain ⟨⟨ct, cs, cr⟩, kind, ⟨it, is, ir⟩, ⟨pt, ps, pr⟩, rdn, del, mods⟩ := x
  rw [ev10, h.1, h.2]
  simp only [isEmp_len, cond_true, Bool.and_true, isChange, Chn.bare, Csn.same]
  cases Csn.is ⟨ct, cs, cr⟩ with
  | false => rfl
  | true =>
  cases Csn.zero ⟨ct, cs, cr⟩ with
  | true => rfl
  | false =>
  cases Csn.is ⟨it, is, ir⟩ with
  | false => rfl
  | true =>
  cases Csn.is ⟨pt, ps, pr⟩ with
  | false => rfl
  | true =>
  simp only [Bool.not_true, Bool.not_false, Bool.true_and, cond_false, Bool.and_assoc]
  cases kind == 1 with
  | true =>
    simp only [cond_true]
    cases it == ct <;> cases is == cs <;> cases ir == cr <;> cases Csn.below ⟨pt, ps, pr⟩ ⟨ct, cs, cr⟩ <;> cases isRDNc rdn <;> cases isMods 1 mods <;> cases Csn.zero ⟨pt, ps, pr⟩ <;> cases rdn.isEmpty <;> rfl
  | false =>
    cases kind == 2 with
    | true =>
      simp only [cond_true, cond_false]
      cases Csn.zero ⟨it, is, ir⟩ <;> cases Csn.below ⟨it, is, ir⟩ ⟨ct, cs, cr⟩ <;> cases del <;> cases mods.isEmpty <;> cases Csn.zero ⟨pt, ps, pr⟩ <;> cases rdn.isEmpty <;> rfl
    | false =>
      cases kind == 3 with
      | true =>
        simp only [cond_true, cond_false]
        have e : decide ((mods.length : Int) > 0) = !mods.isEmpty := by cases mods <;> simp
        rw [e]
        cases Csn.below ⟨it, is, ir⟩ ⟨ct, cs, cr⟩ <;> cases del <;> cases mods.isEmpty <;> cases isMods 3 mods <;> cases Csn.zero ⟨pt, ps, pr⟩ <;> cases rdn.isEmpty <;> rfl
      | false =>
        cases kind == 4 with
        | true =>
          simp only [cond_true, cond_false]
          cases Csn.zero ⟨it, is, ir⟩ <;> cases Csn.below ⟨it, is, ir⟩ ⟨ct, cs, cr⟩ <;> cases Csn.below ⟨pt, ps, pr⟩ ⟨ct, cs, cr⟩ <;> cases isRDNc rdn <;> cases mods.isEmpty <;> cases Csn.zero ⟨pt, ps, pr⟩ <;> cases rdn.isEmpty <;> rfl
        | false => cases Csn.zero ⟨pt, ps, pr⟩ <;> cases rdn.isEmpty <;> rfl
theorem ok10 {T : Tab} : SpecOk T 10 sp10 := by
  intro args outs r outs' h
  unfold sp10 at h
  split at h
  · obtain ⟨x, hx, h⟩ := of_bind h
    obtain ⟨hl, rfl, rfl⟩ := row3 h
    rw [chgOf_cells hx]
    exact bd10 (orc_cons ok24 (orc_cons ok25 (orc_cons ok26 (orc_cons ok28 (orc1 ok29))))) _ (an10 x hl)
  · cases h
end Go.Ev
