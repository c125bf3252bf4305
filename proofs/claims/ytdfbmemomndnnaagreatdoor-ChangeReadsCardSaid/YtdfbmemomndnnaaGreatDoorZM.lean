/-
  What the program's functions answer, proved of each out of its equations: numbers.
-/
import Derived.Test.YtdfbmemomndnnaaGreatDoorZL
import Derived.IntWalk
import Derived.Laws.Externs
namespace Go.Ev
open Go.Proofs Go.Ev.Sp
/-! Small laws -/
theorem i64_succ {i : Nat} (h : i < 9223372036854775807) : IntKind.wrap .i64 ((i : Int) + 1) = ((i + 1 : Nat) : Int) := by
  rw [IntWalk.i64_in _ (by omega)]; omega
theorem bt {R : Type} {a : Bool} {x : R} : (bif a then x else x) = x := by cases a <;> rfl
theorem b_and {a b : Bool} {o : List (List V)} : (bif a then some (V.bool b, o) else some (V.bool false, o)) = some (V.bool (a && b), o) := by cases a <;> rfl
theorem b_or {a b : Bool} {o : List (List V)} : (bif a then some (V.bool true, o) else some (V.bool b, o)) = some (V.bool (a || b), o) := by cases a <;> rfl
theorem b_nand {a b : Bool} {o : List (List V)} : (bif a then some (V.bool false, o) else some (V.bool b, o)) = some (V.bool (!a && b), o) := by cases a <;> rfl
theorem b_cond {a b c : Bool} {o : List (List V)} : (bif a then some (V.bool b, o) else some (V.bool c, o)) = some (V.bool (bif a then b else c), o) := by cases a <;> rfl
theorem dlt (i n : Nat) : decide ((i : Int) < (n : Int)) = decide (i < n) := by simp
theorem dle0 (i : Nat) : decide ((0 : Int) ≤ (i : Int)) = true := by simp
theorem toN (i : Nat) : Int.toNat (i : Int) = i := by simp
theorem dT {p : Prop} [Decidable p] (h : p) : decide p = true := decide_eq_true h
theorem dF {p : Prop} [Decidable p] (h : ¬ p) : decide p = false := decide_eq_false h
theorem getD_get {α : Type} {l : List α} {i : Nat} {d : α} (h : i < l.length) : List.getD l i d = l[i] := by simp [List.getD_eq_getElem?_getD, h]
theorem drop_cons {α : Type} {l : List α} {i : Nat} (h : i < l.length) : l.drop i = l[i] :: l.drop (i + 1) := by simp
/-- What a table's row says. -/
theorem row3 {b : Bool} {r r' : V} {o o' : List (List V)} (h : some (b, r, o) = some (true, r', o')) : b = true ∧ r = r' ∧ o = o' := by
  simp only [Option.some.injEq, Prod.mk.injEq] at h
  exact h

theorem ok72 {T : Tab} : SpecOk T 72 sp72 := by
  intro args outs r outs' h
  unfold sp72 at h
  split at h
  · obtain ⟨-, rfl, rfl⟩ := row3 h
    exact bd72 orc_nil 0 (by rw [ev72]; simp)
  · cases h
theorem ok73 {T : Tab} : SpecOk T 73 sp73 := by
  intro args outs r outs' h
  unfold sp73 at h
  split at h
  · obtain ⟨-, rfl, rfl⟩ := row3 h
    exact bd73 orc_nil 0 (by rw [ev73]; simp)
  · cases h
theorem ok52 {T : Tab} : SpecOk T 52 sp52 := by
  intro args outs r outs' h
  unfold sp52 at h
  split at h
  · obtain ⟨-, rfl, rfl⟩ := row3 h
    refine bd52 (orc1 ok72) 0 ?_
    rw [ev52]
    unfold cmp3
    rename_i x y
    by_cases h1 : x < y
    · simp [h1]
    · by_cases h2 : y < x <;> simp [h1, h2]
  · cases h
theorem ok53 {T : Tab} : SpecOk T 53 sp53 := by
  intro args outs r outs' h
  unfold sp53 at h
  split at h
  · obtain ⟨-, rfl, rfl⟩ := row3 h
    refine bd53 (orc1 ok73) 0 ?_
    rw [ev53]
    unfold cmp3
    rename_i x y
    by_cases h1 : x < y
    · simp [h1]
    · by_cases h2 : y < x <;> simp [h1, h2]
  · cases h
theorem lp51 (n : Nat) (l : List Int) (hl : l.length ≤ lim) : ∀ (k m i : Nat), i + k = l.length → k < m → L51_3 n m 0 l l.length i = some (.int .i64 (orInt (l.drop i)), []) := by
  intro k
  unfold lim at hl
  induction k with
  | zero =>
    intro m i hi hm
    obtain ⟨m, rfl⟩ : ∃ q, m = q + 1 := ⟨m - 1, by omega⟩
    rw [rd51_3, dF (by omega)]
    simp [List.drop_eq_nil_of_le (show l.length ≤ i by omega), orInt]
  | succ k ih =>
    intro m i hi hm
    obtain ⟨m, rfl⟩ : ∃ q, m = q + 1 := ⟨m - 1, by omega⟩
    rw [rd51_3, dT (by omega), dT (by omega), i64_succ (by omega), ih m (i + 1) (by omega) (by omega), toN, getD_get (by omega), drop_cons (show i < l.length by omega)]
    simp only [cond_true]
    show _ = some (V.int .i64 (bif l[i] == 0 then orInt (l.drop (i + 1)) else l[i]), [])
    generalize l[i] = a
    unfold bne
    cases a == 0 <;> rfl
theorem ok51 {T : Tab} : SpecOk T 51 sp51 := by
  intro args outs r outs' h
  unfold sp51 at h
  split at h
  · rename_i l
    obtain ⟨hl, rfl, rfl⟩ := row3 h
    exact bd51 orc_nil (List.length (α := Int) l + 1) ((ev51 _ l).trans (lp51 _ l (Nat.le_of_ble_eq_true hl) _ _ 0 (Nat.zero_add _) (by omega)))
  · cases h
theorem ok27 {T : Tab} : SpecOk T 27 sp27 := by
  intro args outs r outs' h
  unfold sp27 at h
  split at h
  · obtain ⟨x, hx, h⟩ := of_bind h
    obtain ⟨y, hy, h⟩ := of_bind h
    obtain ⟨-, rfl, rfl⟩ := row3 h
    rw [csnOf_cells hx, csnOf_cells hy]
    exact bd27 (orc_cons ok52 (orc_cons ok53 (orc1 ok51))) 0 (ev27 0 x y)
  · cases h
theorem ok24 {T : Tab} : SpecOk T 24 sp24 := by
  intro args outs r outs' h
  unfold sp24 at h
  split at h
  · obtain ⟨x, hx, h⟩ := of_bind h
    obtain ⟨-, rfl, rfl⟩ := row3 h
    rw [csnOf_cells hx]
    refine bd24 orc_nil 0 ?_
    rw [ev24]
    simp only [b_and, ge_iff_le, Csn.is, csnIs, Bool.and_assoc]
  · cases h
theorem ok25 {T : Tab} : SpecOk T 25 sp25 := by
  intro args outs r outs' h
  unfold sp25 at h
  split at h
  · obtain ⟨x, hx, h⟩ := of_bind h
    obtain ⟨-, rfl, rfl⟩ := row3 h
    rw [csnOf_cells hx]
    refine bd25 orc_nil 0 ?_
    rw [ev25]
    simp only [Csn.zero, csnZero, Bool.and_true, Bool.and_assoc]
  · cases h
theorem ok26 {T : Tab} : SpecOk T 26 sp26 := by
  intro args outs r outs' h
  unfold sp26 at h
  split at h
  · obtain ⟨x, hx, h⟩ := of_bind h
    obtain ⟨y, hy, h⟩ := of_bind h
    obtain ⟨-, rfl, rfl⟩ := row3 h
    rw [csnOf_cells hx, chgOf_cells hy]
    exact bd26 (orc1 ok27) 0 (ev26 0 x y)
  · cases h
end Go.Ev
/-
  What the program's functions answer, proved of each out of its equations: texts.
-/
namespace Go.Ev
open Go.Proofs Go.Ev.Sp
/-! Rows of bytes -/
def bs (s : Str) : List Int := List.map (fun (c : UInt8) => (↑(UInt8.toNat c) : Int)) s
theorem bs_len (s : Str) : List.length (bs s) = s.length := by simp [bs]
theorem mid {α : Type} (pre post : List α) (c d : α) : List.getD (pre ++ c :: post) pre.length d = c := by simp [List.getD_eq_getElem?_getD]
theorem bs_mid (pre post : Str) (c : UInt8) : List.getD (bs (pre ++ c :: post)) pre.length 0 = ch c := by simp [bs, List.getD_eq_getElem?_getD, ch]
theorem app_mid {α : Type} (pre post : List α) (c : α) : pre ++ c :: post = (pre ++ [c]) ++ post := by simp
theorem len_mid {α : Type} (pre post : List α) (c : α) : (pre ++ c :: post).length = pre.length + 1 + post.length := by simp; omega
theorem len_snoc {α : Type} (pre : List α) (c : α) : (pre ++ [c]).length = pre.length + 1 := by simp
theorem of_bs (s : Str) : List.map (fun (n : Int) => UInt8.ofNat (Int.toNat n)) (bs s) = s := by
  induction s with
  | nil => rfl
  | cons c s ih => simp only [bs, List.map_cons] at ih ⊢; rw [ih]; simp
theorem ok_le {s : Str} (h : ok s = true) : s.length ≤ 1000000000 := Nat.le_of_ble_eq_true h
theorem le_ok {s : Str} (h : s.length ≤ 1000000000) : ok s = true := Nat.ble_eq_true_of_le h
theorem ch_lt (c : UInt8) : ch c < 256 := by unfold ch; have := c.toNat_lt; omega
theorem ch_ge (c : UInt8) : 0 ≤ ch c := by unfold ch; omega
theorem pos_m {k m : Nat} (h : k < m) : ∃ q, m = q + 1 ∧ k ≤ q := ⟨m - 1, by omega, by omega⟩

/-! Lower -/
theorem low_u8 {c : UInt8} (h : ch c ≤ 90) : IntKind.wrap .u8 (ch c + 32) = ch (c + 32) := by
  rw [IntWalk.u8_in _ (by have := ch_ge c; omega)]
  unfold ch at h ⊢
  rw [UInt8.toNat_add]
  have : (32 : UInt8).toNat = 32 := rfl
  omega
theorem bs_set (pre post : Str) (c d : UInt8) : List.set (bs (pre ++ c :: post)) pre.length (ch d) = bs ((pre ++ [d]) ++ post) := by
  simp only [bs, List.map_append, List.map_cons, List.append_assoc, List.singleton_append]
  rw [show pre.length = (List.map (fun (c : UInt8) => (↑(UInt8.toNat c) : Int)) pre).length by simp, List.set_append_right _ _ (Nat.le_refl _)]
  simp [ch]
theorem lp78 (n : Nat) : ∀ (post pre : Str) (m : Nat), post.length < m → pre.length + post.length ≤ 1000000000 →
    L78_3 n m ((pre.length + post.length : Nat) : Int) (pre.length : Nat) (bs (pre ++ post)) = some (.str (pre ++ lower post), [])
  | [], pre, m, hm, hl => by
    obtain ⟨m, rfl, -⟩ := pos_m hm
    rw [rd78_3, dF (by simp)]
    simp only [cond_false, List.append_nil, of_bs]
    simp [lower]
  | c :: post, pre, m, hm, hl => by
    obtain ⟨m, rfl, hm⟩ := pos_m hm
    simp only [List.length_cons] at hl hm
    have e1 : pre.length + (c :: post).length = (pre ++ [low c]).length + post.length := by simp; omega
    have e2 : pre.length + (c :: post).length = (pre ++ [c]).length + post.length := by simp; omega
    have ih1 := lp78 n post (pre ++ [low c]) m (by omega) (by rw [len_snoc]; omega)
    rw [← e1, len_snoc] at ih1
    have hlen : List.length (bs (pre ++ c :: post)) = pre.length + (c :: post).length := by rw [bs_len]; simp
    rw [rd78_3, i64_succ (by omega), toN, bs_mid, hlen, dT (by simp; omega), dT (by omega)]
    simp only [cond_true]
    have hlow : low c = bif decide (ch c ≥ 65) then bif decide (ch c ≤ 90) then c + 32 else c else c := by
      unfold low
      by_cases h1 : 65 ≤ ch c <;> by_cases h2 : ch c ≤ 90 <;> simp [h1, h2]
    have fin : some (V.str ((pre ++ [low c]) ++ lower post), ([] : List (List V))) = some (V.str (pre ++ lower (c :: post)), []) := by simp [lower]
    by_cases h1 : ch c ≥ 65
    · by_cases h2 : ch c ≤ 90
      · rw [dT h1, dT h2] at hlow ⊢
        simp only [cond_true] at hlow ⊢
        rw [low_u8 h2, bs_set, ← hlow, ih1, fin]
      · rw [dF h2] at hlow ⊢
        rw [dT h1] at hlow ⊢
        simp only [cond_true, cond_false] at hlow ⊢
        rw [app_mid, ← fin]
        rw [hlow] at ih1 ⊢
        exact ih1
    · rw [dF h1] at hlow ⊢
      simp only [cond_false] at hlow ⊢
      rw [app_mid, ← fin]
      rw [hlow] at ih1 ⊢
      exact ih1
theorem ok78 {T : Tab} : SpecOk T 78 sp78 := by
  intro args outs r outs' h
  unfold sp78 at h
  split at h
  · rename_i s
    obtain ⟨hs, rfl, rfl⟩ := row3 h
    refine bd78 orc_nil (s.length + 1) ((ev78 _ s).trans ?_)
    have := lp78 (s.length + 1) s [] (s.length + 1) (by omega) (by simpa using ok_le hs)
    simpa [bs] using this
  · cases h
theorem ok79 {T : Tab} : SpecOk T 79 sp79 := by
  intro args outs r outs' h
  unfold sp79 at h
  split at h
  · obtain ⟨-, rfl, rfl⟩ := row3 h
    exact bd79 orc_nil 0 (ev79 0)
  · cases h
/-! Find -/
theorem lp58 (n : Nat) (s : Str) : ∀ (post pre : List Typ) (m : Nat), post.length < m → pre.length + post.length ≤ 1000000000 →
    L58_3 n m s (pre ++ post) ((pre.length + post.length : Nat) : Int) (pre.length : Nat) [] 0 false = some (.tup [typV ((findIn post s).getD noT), .bool (findIn post s).isSome], [])
  | [], pre, m, hm, hl => by
    obtain ⟨m, rfl, -⟩ := pos_m hm
    rw [rd58_3, dF (by simp)]
    rfl
  | c :: post, pre, m, hm, hl => by
    obtain ⟨m, rfl, hm⟩ := pos_m hm
    simp only [List.length_cons] at hl hm
    have ih1 := lp58 n s post (pre ++ [c]) m (by omega) (by rw [len_snoc]; omega)
    have e2 : (pre ++ [c]).length + post.length = pre.length + (c :: post).length := by simp; omega
    rw [e2, len_snoc, ← app_mid] at ih1
    rw [rd58_3, i64_succ (by omega), toN, mid, dT (by simp; omega), dT (by omega), dT (by simp; omega), ih1]
    simp only [cond_true, findIn, List.find?_cons]
    cases c.name == s <;> rfl
theorem ok58 {T : Tab} : SpecOk T 58 sp58 := by
  intro args outs r outs' h
  unfold sp58 at h
  split at h
  · rename_i s
    obtain ⟨hs, rfl, rfl⟩ := row3 h
    refine bd58 (orc_cons ok78 (orc1 ok79)) 20 ((ev58 _ s).trans ?_)
    rw [hs]
    exact lp58 20 (lower s) allT [] 20 (by decide) (by decide)
  · cases h
theorem lp94 (n : Nat) : ∀ (post pre : Str) (m : Nat), post.length < m → pre.length + post.length ≤ 1000000000 →
    L94_2 n m ((pre.length + post.length : Nat) : Int) (pre.length : Nat) (bs (pre ++ post)) = some (.bool (post.all isPl), [])
  | [], pre, m, hm, hl => by
    obtain ⟨m, rfl, -⟩ := pos_m hm
    rw [rd94_2, dF (by simp)]
    rfl
  | c :: post, pre, m, hm, hl => by
    obtain ⟨m, rfl, hm⟩ := pos_m hm
    simp only [List.length_cons] at hl hm
    have ih1 := lp94 n post (pre ++ [c]) m (by omega) (by rw [len_snoc]; omega)
    have e2 : (pre ++ [c]).length + post.length = pre.length + (c :: post).length := by simp; omega
    rw [e2, len_snoc, ← app_mid] at ih1
    rw [rd94_2, i64_succ (by omega), toN, bs_mid, bs_len, dT (by simp; omega), dT (by omega), dT (by simp; omega), ih1]
    simp only [cond_true, List.all_cons, isPl]
    by_cases h1 : ch c < 32
    · rw [dT h1, dF (show ¬ 32 ≤ ch c by omega)]; rfl
    · rw [dF h1, dT (show 32 ≤ ch c by omega)]
      by_cases h2 : ch c > 126
      · rw [dT h2, dF (show ¬ ch c ≤ 126 by omega)]; rfl
      · rw [dF h2, dT (show ch c ≤ 126 by omega)]; rfl
theorem ok94 {T : Tab} : SpecOk T 94 sp94 := by
  intro args outs r outs' h
  unfold sp94 at h
  split at h
  · rename_i s
    obtain ⟨hs, rfl, rfl⟩ := row3 h
    refine bd94 orc_nil (s.length + 1) ((ev94 _ s).trans ?_)
    have := lp94 (s.length + 1) s [] (s.length + 1) (by omega) (by simpa using ok_le hs)
    simpa [bs, isPlain] using this
  · cases h
theorem ok153 {T : Tab} : SpecOk T 153 sp153 := by
  intro args outs r outs' h
  unfold sp153 at h
  split at h
  · rename_i s p
    obtain ⟨-, rfl, rfl⟩ := row3 h
    refine bd153 orc_nil 0 ((ev153 _ s p).trans ?_)
    unfold hasPre
    by_cases h1 : p.length ≤ s.length
    · rw [dT (by omega), toN, Nat.ble_eq_true_of_le h1]; rfl
    · rw [dF (by omega)]
      have : Nat.ble p.length s.length = false := by rw [← Bool.not_eq_true]; exact fun h => h1 (Nat.le_of_ble_eq_true h)
      rw [this]; rfl
  · cases h
theorem ok139 {T : Tab} : SpecOk T 139 sp139 := by
  intro args outs r outs' h
  unfold sp139 at h
  split at h
  · rename_i s p
    obtain ⟨-, rfl, rfl⟩ := row3 h
    refine bd139 (orc1 ok153) 0 ((ev139 _ s p).trans ?_)
    unfold trimPre
    cases h1 : hasPre s p with
    | false => rfl
    | true =>
      have : p.length ≤ s.length := by
        unfold hasPre at h1
        simp only [Bool.and_eq_true] at h1
        exact Nat.le_of_ble_eq_true h1.1
      rw [dT (by omega), toN, List.take_length]; rfl
  · cases h
theorem ok119 {T : Tab} : SpecOk T 119 sp139 := by
  intro args outs r outs' h
  unfold sp139 at h
  split at h
  · rename_i s p
    obtain ⟨-, rfl, rfl⟩ := row3 h
    exact bd119 (orc1 ok139) 0 (ev119 _ s p)
  · cases h
theorem lp95 (n : Nat) : ∀ (post pre : Str) (m : Nat), post.length < m → pre.length + post.length ≤ 1000000000 →
    L95_5 n m ((pre.length + post.length : Nat) : Int) (pre.length : Nat) (bs (pre ++ post)) = some (.bool (post.all isDig), [])
  | [], pre, m, hm, hl => by
    obtain ⟨m, rfl, -⟩ := pos_m hm
    rw [rd95_5, dF (by simp)]
    rfl
  | c :: post, pre, m, hm, hl => by
    obtain ⟨m, rfl, hm⟩ := pos_m hm
    simp only [List.length_cons] at hl hm
    have ih1 := lp95 n post (pre ++ [c]) m (by omega) (by rw [len_snoc]; omega)
    have e2 : (pre ++ [c]).length + post.length = pre.length + (c :: post).length := by simp; omega
    rw [e2, len_snoc, ← app_mid] at ih1
    rw [rd95_5, i64_succ (by omega), toN, bs_mid, bs_len, dT (by simp; omega), dT (by omega), dT (by simp; omega), ih1]
    simp only [cond_true, List.all_cons, isDig]
    by_cases h1 : ch c < 48
    · rw [dT h1, dF (show ¬ 48 ≤ ch c by omega)]; rfl
    · rw [dF h1, dT (show 48 ≤ ch c by omega)]
      by_cases h2 : ch c > 57
      · rw [dT h2, dF (show ¬ ch c ≤ 57 by omega)]; rfl
      · rw [dF h2, dT (show ch c ≤ 57 by omega)]; rfl
theorem ch_eq {c : UInt8} {n : Nat} (h : n < 256) : (ch c == (n : Int)) = (c == UInt8.ofNat n) := by
  rw [Bool.eq_iff_iff, beq_iff_eq, beq_iff_eq]
  unfold ch
  constructor
  · intro e
    have e : c.toNat = n := by omega
    rw [← e]; simp
  · rintro rfl
    simp [UInt8.toNat_ofNat']; omega
theorem ok95 {T : Tab} : SpecOk T 95 sp95 := by
  intro args outs r outs' h
  unfold sp95 at h
  split at h
  · rename_i s
    obtain ⟨-, rfl, rfl⟩ := row3 h
    refine bd95 (orc1 ok119) 20 ((ev95 _ s).trans ?_)
    unfold isInt
    generalize trimPre s [45] = d
    cases d with
    | nil => rfl
    | cons c d =>
      rw [show ((c :: d) == ([] : Str)) = false from rfl]
      simp only [cond_false, Bool.not_false, Bool.true_and]
      by_cases h1 : (c :: d).length ≤ 15
      · rw [dF (by omega), dT (by simp), Nat.ble_eq_true_of_le h1]
        have lp := lp95 20 (c :: d) [] 20 (by omega) (by simp only [List.length_nil]; omega)
        have lp' : L95_5 20 20 (↑(List.length (List.map (fun (c : UInt8) => (↑(UInt8.toNat c) : Int)) (c :: d))) : Int) (0 : Int) (List.map (fun (c : UInt8) => (↑(UInt8.toNat c) : Int)) (c :: d)) = some (.bool ((c :: d).all isDig), []) := by
          simpa [bs] using lp
        rw [lp']
        simp only [cond_false, cond_true, Bool.true_and, List.getD_cons_zero, List.head?_cons]
        have e0 : (ch c == (48 : Int)) = (c == 48) := ch_eq (n := 48) (by decide)
        rw [show ((c.toNat : Int) == 48) = (c == 48) from e0, show (some c == some (48 : UInt8)) = (c == 48) from rfl]
        cases c == 48 <;> cases s == [48] <;> rfl
      · rw [dT (by omega)]
        have : Nat.ble (c :: d).length 15 = false := by rw [← Bool.not_eq_true]; exact fun h => h1 (Nat.le_of_ble_eq_true h)
        rw [this]; rfl
  · cases h
theorem lp112 (n : Nat) (x : Int) : ∀ (s : Str) (m : Nat), s.length < m → L112_1 n m s x = some (.str (ltrim x s), [])
  | [], m, hm => by
    obtain ⟨m, rfl, -⟩ := pos_m hm
    rw [rd112_1]; rfl
  | c :: s, m, hm => by
    obtain ⟨m, rfl, hm⟩ := pos_m hm
    simp only [List.length_cons] at hm
    rw [rd112_1, dT (by simp), dT (by simp only [List.length_cons]; omega)]
    simp only [cond_true, List.getD_cons_zero, List.take_length, List.drop_one, List.tail_cons, ltrim, List.dropWhile_cons]
    have ih := lp112 n x s m (by omega)
    rw [ih]
    simp only [ltrim]
    show (bif ch c == x then _ else _) = _
    cases ch c == x <;> rfl
theorem ok112 {T : Tab} : SpecOk T 112 sp112 := by
  intro args outs r outs' h
  unfold sp112 at h
  split at h
  · rename_i s x
    obtain ⟨-, rfl, rfl⟩ := row3 h
    exact bd112 orc_nil (s.length + 1) ((ev112 _ s x).trans (lp112 _ x s _ (by omega)))
  · cases h
theorem lp113 (n : Nat) (x : Int) : ∀ (k : Nat) (s : Str) (m : Nat), s.length = k → k < m → s.length ≤ 1000000000 → L113_1 n m s x = some (.str (rtrim x s), [])
  | 0, s, m, hk, hm, hl => by
    obtain ⟨m, rfl, -⟩ := pos_m hm
    obtain rfl := List.length_eq_zero_iff.1 hk
    rw [rd113_1]; rfl
  | k + 1, s, m, hk, hm, hl => by
    obtain ⟨m, rfl, hm⟩ := pos_m hm
    obtain ⟨p, c, rfl⟩ : ∃ p c, s = p ++ [c] := ⟨s.dropLast, s.getLast (by rintro rfl; simp at hk), (List.dropLast_concat_getLast _).symm⟩
    have hl' : (p ++ [c]).length = p.length + 1 := len_snoc p c
    have e : IntKind.wrap .i64 (((p ++ [c]).length : Int) - 1) = (p.length : Int) := by
      rw [IntWalk.i64_in _ (by omega)]; omega
    rw [rd113_1, e, toN, show List.getD (p ++ [c]) p.length 0 = c from mid p [] c 0, dT (by omega), dT (by omega), dT (by omega), dT (by omega)]
    simp only [cond_true, List.take_left, List.drop_zero]
    rw [lp113 n x k p m (by omega) (by omega) (by omega)]
    simp only [rtrim, List.reverse_append, List.reverse_cons, List.reverse_nil, List.nil_append, List.singleton_append, List.dropWhile_cons]
    show (bif ch c == x then _ else _) = _
    cases ch c == x <;> simp
theorem ok113 {T : Tab} : SpecOk T 113 sp113 := by
  intro args outs r outs' h
  unfold sp113 at h
  split at h
  · rename_i s x
    obtain ⟨hs, rfl, rfl⟩ := row3 h
    exact bd113 orc_nil (s.length + 1) ((ev113 _ s x).trans (lp113 _ x _ s _ rfl (by omega) (ok_le hs)))
  · cases h
theorem ok93 {T : Tab} : SpecOk T 93 sp93 := by
  intro args outs r outs' h
  unfold sp93 at h
  split at h
  · rename_i s
    obtain ⟨hs, rfl, rfl⟩ := row3 h
    refine bd93 (orc_cons ok112 (orc1 ok113)) 0 ((ev93 _ s).trans ?_)
    rw [hs]
    cases s <;> rfl
  · cases h
end Go.Ev
/-
  What the program's functions answer: where a byte is, and what is built upon that; names.
-/
namespace Go.Ev
open Go.Proofs Go.Ev.Sp
/-- A function that only computes. -/
theorem answers_pure {P : Program} {T : Tab} {f : FuncId} {args : List V} {r : V} (hd : dataR r = true)
    (h : ∀ (om : Nat → Nat) (S : Prot) (w : World) (vals : List Value), All2 (RD (argCx om) S w) vals args → ∃ v, (callFunc f vals.toArray).run P w = .ok (.value v) w ∧ RD (argCx om) S w v r) : Answers P T f args [] r [] := by
  intro om S w vals hargs houts hod hS hne hlt htb
  obtain ⟨v, h1, h2⟩ := h om S w vals hargs
  exact .inl ⟨v, w, h1, S, ⟨fun _ _ k => k, fun _ _ k _ => k, hlt, ⟨fun _ _ _ => rfl, Nat.le_refl _, rfl, rfl, rfl⟩, rfl, (fun j cs hj => by simp at hj), (fun cs hc => by cases hc), h2, hd⟩⟩

theorem find_range (c : UInt8) : ∀ (post pre : Str), (match (List.range' pre.length post.length).find? (fun i => (⟨(pre ++ post).toArray⟩ : ByteArray)[i]! == c) with | some i => (i : Int) | none => -1) = find (ch c) post pre.length
  | [], pre => rfl
  | x :: post, pre => by
    have e : (⟨(pre ++ x :: post).toArray⟩ : ByteArray)[pre.length]! = x := by
      rw [getElem!_pos _ _ (by show pre.length < ((pre ++ x :: post).toArray).size; simp)]
      show ((pre ++ x :: post).toArray)[pre.length]'_ = x
      simp
    have ih := find_range c post (pre ++ [x])
    rw [← app_mid, len_snoc] at ih
    rw [List.length_cons, List.range'_succ, List.find?_cons]
    simp only [e, find]
    have hb : (x == c) = (ch x == ch c) := by
      rw [Bool.eq_iff_iff, beq_iff_eq, beq_iff_eq]
      unfold ch
      exact ⟨fun h => by rw [h], fun h => UInt8.toNat_inj.1 (by omega)⟩
    rw [hb]
    cases ch x == ch c with
    | true => rfl
    | false => exact ih
theorem firstIdx_list (s : Str) (c : UInt8) : firstIdx ⟨s.toArray⟩ c = find (ch c) s 0 := by
  have := find_range c s []
  simp only [List.nil_append, List.length_nil] at this
  rw [← this]
  unfold firstIdx
  rw [List.range_eq_range']
  rfl
theorem ch_of {n : Int} (h : isB n = true) : ch n.toNat.toUInt8 = n := by
  simp only [isB, Bool.and_eq_true, decide_eq_true_eq] at h
  unfold ch
  simp [UInt8.toNat_ofNat']
  omega
theorem isB_ch (c : UInt8) : isB (c.toNat : Int) = true := by
  have := ch_lt c
  have := ch_ge c
  unfold ch at *
  simp only [isB, Bool.and_eq_true, decide_eq_true_eq]
  omega
theorem ok158 {T : Tab} : SpecOk T 158 sp158 := by
  intro args outs r outs' h
  unfold sp158 at h
  split at h
  · rename_i s n
    obtain ⟨hn, rfl, rfl⟩ := row3 h
    refine answers_pure rfl fun om S w vals hv => ?_
    match vals, hv with
    | [v1, v2], hv =>
      have e1 : v1 = .string ⟨s.toArray⟩ := RD_iff.1 hv.1
      have e2 : v2 = .int .u8 n := RD_iff.1 hv.2.1
      subst e1 e2
      refine ⟨.int .i64 (find n s 0), ?_, RD_iff.2 rfl⟩
      rw [run_callFunc_extern (P := Tryz.prog) (f := 158) (fn := Tryz.f158) (e := Extern.BytealgIndexByte.indexByte) (by kernel_rfl) (by kernel_rfl) (by kernel_rfl) (by kernel_rfl) (by kernel_rfl)]
      erw [run_indexByte_string]
      rw [firstIdx_list, ch_of hn]
      rfl
  · cases h
end Go.Ev
