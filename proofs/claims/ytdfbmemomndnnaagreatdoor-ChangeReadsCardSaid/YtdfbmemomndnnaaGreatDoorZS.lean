/-
  What the reference's functions answer: values that were written.
-/
import Derived.Test.YtdfbmemomndnnaaGreatDoorZR
namespace Go.Ev
open Go.Proofs Go.Ev.Sp
theorem dig_hex (c : UInt8) : digI (ch c) = (hexd c).getD (-1) := by
  unfold digI hexd
  cases decide (48 ≤ ch c) && decide (ch c ≤ 57) <;> cases decide (97 ≤ ch c) && decide (ch c ≤ 102) <;> cases decide (65 ≤ ch c) && decide (ch c ≤ 70) <;> rfl
theorem dig_pos (c : UInt8) : decide (digI (ch c) ≥ 0) = (hexd c).isSome := by
  rw [dig_hex]
  cases h : hexd c with
  | none => rfl
  | some n => have := hex_rng h; simp; omega
theorem two_dig {c d : UInt8} {a b : Int} (hc : hexd c = some a) (hd : hexd d = some b) : IntKind.wrap .u8 (IntKind.wrap .i64 (IntKind.wrap .i64 (16 * digI (ch c)) + digI (ch d))) = ch (UInt8.ofNat (16 * a + b).toNat) := by
  have h1 := hex_rng hc
  have h2 := hex_rng hd
  rw [dig_hex, dig_hex, hc, hd]
  simp only [Option.getD_some]
  rw [IntWalk.i64_in (16 * a) (by omega), IntWalk.i64_in _ (by omega), IntWalk.u8_in _ (by omega)]
  unfold ch
  rw [UInt8.toNat_ofNat']
  omega
theorem i64_two {i : Nat} (h : i < 4611686018427387904) : IntKind.wrap .i64 ((i : Int) + 2) = ((i + 2 : Nat) : Int) := by
  rw [IntWalk.i64_in _ (by omega)]; omega
def plV (out : Str) : Option (Str × Bool) → V
  | some p => bif p.2 then .tup [.str (out ++ p.1), .bool true] else .tup [.str [], .bool false]
  | none => .tup [.str [], .bool false]
theorem lp122 (n : Nat) : ∀ (k : Nat) (post pre out : Str) (b : Bool) (m : Nat), post.length ≤ k → post.length < m → pre.length + post.length ≤ 1000000000 → out.length ≤ pre.length → (post = [] → b = false) →
    (pre = [] → ∀ c s, post = c :: s → (ch c == 35) = false ∧ (ch c == 32) = false) →
    L122_3 n m (pre ++ post) (pre.length : Nat) (bs out) = some (plV out (unescA k post b), [])
  | k, [], pre, out, b, m, hk, hm, hl, ho, hb, h0 => by
    obtain ⟨m, rfl, -⟩ := pos_m hm
    rw [rd122_3, dF (by simp), of_bs, hb rfl]
    cases k <;> simp [unescA, plV]
  | 0, _ :: _, _, _, _, _, hk, _, _, _, _, _ => by simp at hk
  | k + 1, c :: post, pre, out, b, m, hk, hm, hl, ho, hb, h0 => by
    obtain ⟨m, rfl, hm⟩ := pos_m hm
    simp only [List.length_cons] at hl hm hk
    have hlen : (pre ++ c :: post).length = pre.length + (post.length + 1) := by simp
    have hbl : (bs out).length = out.length := bs_len out
    rw [rd122_3, i64_succ (i := pre.length) (by omega), i64_two (by omega), toN, mid, toN, toN, dT (by omega), dT (by omega)]
    simp only [cond_true, unescA]
    rw [show ((c.toNat : Int) != 92) = !(ch c == 92) from rfl]
    cases h1 : ch c == 92 with
    | false =>
      rw [show speI (c.toNat : Int) = special c from rfl]
      simp only [Bool.not_false, cond_true, cond_false]
      cases hsp : special c with
      | true => rfl
      | false =>
        simp only [cond_false]
        have e3 : bs out ++ [(c.toNat : Int)] = bs (out ++ [c]) := bs_snoc out c
        have e1 : (((pre.length : Nat) : Int) == IntKind.wrap .i64 (((pre ++ c :: post).length : Int) - 1)) = post.isEmpty := by
          rw [IntWalk.i64_in _ (by omega)]
          cases post with
          | nil => simp
          | cons x p => simp; omega
        have ih := lp122 n k post (pre ++ [c]) (out ++ [c]) (ch c == 32) m (by omega) (by omega) (by simp; omega) (by simp; omega)
        rw [← app_mid, len_snoc] at ih
        rw [e1, e3, ble_row (by omega)]
        have tail : (bif post.isEmpty then bif (c.toNat : Int) == 32 then some (V.tup [V.str [], V.bool false], []) else bif true then L122_3 n m (pre ++ c :: post) ((pre.length + 1 : Nat) : Int) (bs (out ++ [c])) else none else bif true then L122_3 n m (pre ++ c :: post) ((pre.length + 1 : Nat) : Int) (bs (out ++ [c])) else none) =
            some (plV out (Option.map (fun p => (c :: p.1, p.2)) (unescA k post (ch c == 32))), []) := by
          rw [show ((c.toNat : Int) == 32) = (ch c == 32) from rfl]
          cases post with
          | nil =>
            cases h32 : ch c == 32 with
            | true => cases k <;> rfl
            | false =>
              rw [ih (fun _ => h32) (fun e => by simp at e), h32]
              cases k <;> simp [unescA, plV]
          | cons x p =>
            rw [ih (fun e => by cases e) (fun e => by simp at e)]
            simp only [List.isEmpty_cons, cond_false, cond_true]
            cases unescA k (x :: p) (ch c == 32) with
            | none => rfl
            | some q => cases hq : q.2 <;> simp [plV, hq]
        by_cases hp : pre = []
        · obtain ⟨g1, g2⟩ := h0 hp c post rfl
          rw [show ((c.toNat : Int) == 35) = false from g1]
          rw [show (((pre.length : Nat) : Int) == 0) = true by rw [hp]; rfl]
          simp only [cond_true, cond_false]
          have g2' : ((c.toNat : Int) == 32) = false := g2
          rw [g2'] at tail ⊢
          simp only [cond_false] at tail ⊢
          exact tail
        · rw [show (((pre.length : Nat) : Int) == 0) = false by
            have := List.length_pos_iff.2 hp
            rw [beq_eq_false_iff_ne]; omega]
          simp only [cond_false]
          exact tail
    | true =>
      simp only [Bool.not_true, cond_false, cond_true]
      cases post with
      | nil =>
        rw [dF (by simp)]
        simp only [cond_false]
        rw [dF (by simp)]; rfl
      | cons e post =>
        simp only [List.length_cons] at hl hm hk hlen
        have g1 : List.getD (pre ++ c :: e :: post) (pre.length + 1) 0 = e := by
          have := mid (pre ++ [c]) post e 0
          rw [← app_mid, len_snoc] at this
          exact this
        have d1 : decide (((pre.length + 1 : Nat) : Int) < ((pre ++ c :: e :: post).length : Int)) = true := dT (by omega)
        have d2 : decide ((0 : Int) ≤ ((pre.length + 1 : Nat) : Int)) = true := dT (by omega)
        have d3 : decide ((0 : Int) ≤ ((pre.length + 2 : Nat) : Int)) = true := dT (by omega)
        rw [d1, d2, d3, g1, isB_ch, dig_pos, show speI (e.toNat : Int) = special e from rfl]
        simp only [cond_true]
        have fin : L122_3 n m (pre ++ c :: e :: post) ((pre.length + 1 + 1 : Nat) : Int) (bs (out ++ [e])) = some (plV out (Option.map (fun p => (e :: p.1, p.2)) (unescA k post false)), []) := by
          have ih := lp122 n k post (pre ++ [c, e]) (out ++ [e]) false m (by omega) (by omega) (by simp; omega) (by simp; omega) (fun _ => rfl) (fun h => by simp at h)
          rw [show (pre ++ [c, e]) ++ post = pre ++ c :: e :: post by simp, show (pre ++ [c, e]).length = pre.length + 1 + 1 by simp] at ih
          rw [ih]
          cases unescA k post false with
          | none => rfl
          | some q => cases hq : q.2 <;> simp [plV, hq]
        have e3 : bs out ++ [(e.toNat : Int)] = bs (out ++ [e]) := bs_snoc out e
        rw [i64_succ (i := pre.length + 1) (by omega), ble_row (by omega), e3, fin]
        simp only [mayEsc]
        rw [show ((e.toNat : Int) == 35) = (ch e == 35) from rfl, show ((e.toNat : Int) == 61) = (ch e == 61) from rfl, show ((e.toNat : Int) == 32) = (ch e == 32) from rfl]
        cases special e with
        | true => rfl
        | false =>
        cases ch e == 35 with
        | true => rfl
        | false =>
        cases ch e == 61 with
        | true => rfl
        | false =>
        cases ch e == 32 with
        | true => rfl
        | false =>
        simp only [cond_false, Bool.or_self]
        cases hx1 : hexd e with
        | none =>
          cases post with
          | nil => rw [dF (by simp)]; rfl
          | cons f post => rw [dT (by simp; omega)]; rfl
        | some a =>
          cases post with
          | nil => rw [dF (by simp)]; rfl
          | cons f post =>
            simp only [List.length_cons] at hl hm hk hlen
            have g2 : List.getD (pre ++ c :: e :: f :: post) (pre.length + 2) 0 = f := by
              have := mid (pre ++ [c, e]) post f 0
              rw [show (pre ++ [c, e]) ++ f :: post = pre ++ c :: e :: f :: post by simp, show (pre ++ [c, e]).length = pre.length + 2 by simp] at this
              exact this
            rw [dT (by omega), g2, isB_ch, dig_pos]
            simp only [Option.isSome_some, cond_true]
            cases hx2 : hexd f with
            | none => rfl
            | some a2 =>
              have e4 := two_dig hx1 hx2
              rw [show IntKind.wrap .u8 (IntKind.wrap .i64 (IntKind.wrap .i64 (16 * digI (e.toNat : Int)) + digI (f.toNat : Int))) = ch (UInt8.ofNat (16 * a + a2).toNat) from e4, bs_snoc, i64_succ (i := pre.length + 2) (by omega), ble_row (by omega)]
              simp only [Option.isSome_some, cond_true]
              have ih := lp122 n k post (pre ++ [c, e, f]) (out ++ [UInt8.ofNat (16 * a + a2).toNat]) false m (by omega) (by omega) (by simp; omega) (by simp; omega) (fun _ => rfl) (fun h => by simp at h)
              rw [show (pre ++ [c, e, f]) ++ post = pre ++ c :: e :: f :: post by simp, show (pre ++ [c, e, f]).length = pre.length + 2 + 1 by simp] at ih
              rw [ih]
              cases unescA k post false with
              | none => rfl
              | some q => cases hq : q.2 <;> simp [plV, hq]
theorem an122 (s : Str) (hs : ok s = true) : evalBody E c122 122 Tryz.f122 (s.length + 1) [.str s] [] = some (.tup [.str ((unesc s).getD []), .bool (unesc s).isSome], []) := by
  have hs := ok_le hs
  rw [ev122]
  cases s with
  | nil => rfl
  | cons c s =>
    simp only [List.length_cons] at hs
    unfold unesc unescP
    simp only
    cases h35 : ch c == 35 || ch c == 32 with
    | true =>
      have h92 : (ch c == 92) = false := by
        rw [Bool.or_eq_true, beq_iff_eq, beq_iff_eq] at h35
        rw [beq_eq_false_iff_ne]; omega
      have hsp : special c = false := by
        rw [Bool.or_eq_true, beq_iff_eq, beq_iff_eq] at h35
        unfold special
        rcases h35 with h | h <;> rw [h] <;> rfl
      have e0 : L122_3 ((c :: s).length + 1) ((c :: s).length + 1) (c :: s) 0 [] = some (.tup [.str [], .bool false], []) := by
        rw [rd122_3, dT (by simp), dT (by decide), show Int.toNat 0 = 0 from rfl, List.getD_cons_zero, show ((c.toNat : Int) != 92) = !(ch c == 92) from rfl, h92, show speI (c.toNat : Int) = special c from rfl, hsp]
        rw [show ((c.toNat : Int) == 35) = (ch c == 35) from rfl, show ((c.toNat : Int) == 32) = (ch c == 32) from rfl]
        cases h1 : ch c == 35 with
        | true => rfl
        | false =>
          rw [h1] at h35
          have h2 : (ch c == 32) = true := h35
          rw [h2]; rfl
      rw [e0]; rfl
    | false =>
      rw [Bool.or_eq_false_iff] at h35
      have lp := lp122 ((c :: s).length + 1) (c :: s).length (c :: s) [] [] false ((c :: s).length + 1) (Nat.le_refl _) (Nat.lt_succ_self _) (by simp; omega) (by simp) (fun e => by cases e) (fun _ c' s' e => by cases e; exact h35)
      have lp' : L122_3 ((c :: s).length + 1) ((c :: s).length + 1) (c :: s) 0 [] = _ := lp
      rw [lp']
      simp only [cond_false]
      cases unescA (c :: s).length (c :: s) false with
      | none => rfl
      | some p => cases hp : p.2 <;> simp [plV, hp]
theorem ok122 {T : Tab} : SpecOk T 122 sp122 := by
  intro args outs r outs' h
  unfold sp122 at h
  split at h
  · rename_i s
    obtain ⟨hs, rfl, rfl⟩ := row3 h
    exact bd122 (orc_cons ok142 (orc1 ok143)) _ (an122 s hs)
  · cases h
end Go.Ev
/-
  What the reference's functions answer: names; values that may be; changes.
-/
namespace Go.Ev
open Go.Proofs Go.Ev.Sp
theorem cutEq_snoc : ∀ (q : Str) (c : UInt8), cutEq q = none → (ch c == 61) = false → cutEq (q ++ [c]) = none
  | [], c, _, h => by simp [cutEq, h]
  | d :: q, c, hq, h => by
    simp only [cutEq] at hq
    simp only [List.cons_append, cutEq]
    cases hd : ch d == 61 with
    | true => rw [hd] at hq; cases hq
    | false =>
      rw [hd] at hq
      simp only [cond_false, Option.map_eq_none_iff] at hq
      rw [cutEq_snoc q c hq h]; rfl
theorem cutEq_mid : ∀ (q : Str) (c : UInt8) (t : Str), cutEq q = none → (ch c == 61) = true → cutEq (q ++ c :: t) = some (q, t)
  | [], c, t, _, h => by simp [cutEq, h]
  | d :: q, c, t, hq, h => by
    simp only [cutEq] at hq
    simp only [List.cons_append, cutEq]
    cases hd : ch d == 61 with
    | true => rw [hd] at hq; cases hq
    | false =>
      rw [hd] at hq
      simp only [cond_false, Option.map_eq_none_iff] at hq
      rw [cutEq_mid q c t hq h]; rfl
def noRV : V := .tup [.sl .ava [], .bool false]
def goOn (f : AVA → Option (V × List (List V))) : Option AVA → Option (V × List (List V))
  | some a => f a
  | none => some (noRV, [])
theorem lp98i (n m4 : Nat) (pre post : List Str) (p : Str) (r4 : List AVA) (hl : pre.length ≤ 1000000000) (hp : p.length ≤ 1000) (hr : r4.length ≤ 1000000000) : ∀ (t q : Str) (m : Nat), t.length < m → p = q ++ t → cutEq q = none →
    L98_7 n m4 m (pre ++ p :: post) (pre.length : Nat) (q.length : Nat) r4 = goOn (fun a => L98_4 n m4 (pre ++ p :: post) ((pre.length + 1 : Nat) : Int) (r4 ++ [a])) (ava2 p)
  | [], q, m, hm, hpq, hq => by
    obtain ⟨m, rfl, -⟩ := pos_m hm
    rw [List.append_nil] at hpq
    subst hpq
    have hh : hasEq p = false := by unfold hasEq; rw [hq]; rfl
    rw [rd98_7, toN, mid, dT (by omega), dT (by simp; omega), dF (by omega), show ((p.length : Int) == (p.length : Int)) = true by simp]
    unfold ava2 ava
    rw [hh]
    simp only [cond_true, cond_false]
    cases Nat.ble 2 (cut 44 p).length <;> rfl
  | c :: t, q, m, hm, hpq, hq => by
    obtain ⟨m, rfl, hm⟩ := pos_m hm
    simp only [List.length_cons] at hm
    have hlen : p.length = q.length + (t.length + 1) := by rw [hpq]; simp
    have g1 : List.getD p q.length 0 = c := by rw [hpq]; exact mid q t c 0
    have hok : ok p = true := le_ok (by omega)
    rw [rd98_7, toN, toN, mid, g1, i64_succ (i := q.length) (by omega), toN, dT (by omega), dT (by simp; omega), dT (by omega), dT (by omega)]
    simp only [cond_true]
    rw [show ((c.toNat : Int) != 61) = !(ch c == 61) from rfl]
    cases hc : ch c == 61 with
    | false =>
      have ih := lp98i n m4 pre post p r4 hl hp hr t (q ++ [c]) m (by omega) (by rw [hpq]; simp) (cutEq_snoc q c hq hc)
      rw [len_snoc] at ih
      exact ih
    | true =>
      have hcut : cutEq p = some (q, t) := by rw [hpq]; exact cutEq_mid q c t hq hc
      have hd : List.drop (q.length + 1) p = t := by rw [hpq, app_mid, List.drop_left' (by simp)]
      have htk : List.take q.length p = q := by rw [hpq]; exact List.take_left' rfl
      have e1 : (((q.length : Nat) : Int) == (p.length : Int)) = false := by rw [beq_eq_false_iff_ne]; omega
      have e2 : decide (((cut 44 p).length : Int) > 1) = Nat.ble 2 (cut 44 p).length := by rw [ble_dec, Bool.eq_iff_iff]; simp; omega
      rw [e1, e2, i64_succ (i := pre.length) (by omega), List.take_length, hd, htk, List.drop_zero, hok, le_ok (show t.length ≤ 1000000000 by omega), le_ok (show q.length ≤ 1000000000 by omega), Nat.ble_eq_true_of_le (show r4.length + _ ≤ 1073741824 by simp; omega)]
      repeat rw [dT (by omega)]
      unfold ava2 ava hasEq eqL eqR
      rw [hcut]
      simp only [Bool.not_true, cond_false, cond_true, Option.isSome_some]
      cases Nat.ble 2 (cut 44 p).length with
      | true => rfl
      | false =>
        cases unesc t with
        | none => rfl
        | some v => rfl
theorem lp98 (n : Nat) (hn : 1000 < n) : ∀ (post pre : List Str) (m : Nat) (r4 : List AVA), post.length < m → pre.length + post.length ≤ 1001 → (∀ p ∈ post, p.length ≤ 1000) → r4.length ≤ pre.length →
    L98_4 n m (pre ++ post) (pre.length : Nat) r4 = some (.tup [.sl .ava (((allSome ava2 post).bind fun l => bif isRDN (r4 ++ l) then some (r4 ++ l) else none).getD []), .bool ((allSome ava2 post).bind fun l => bif isRDN (r4 ++ l) then some (r4 ++ l) else none).isSome], [])
  | [], pre, m, r4, hm, hl, hp, hr => by
    obtain ⟨m, rfl, -⟩ := pos_m hm
    rw [rd98_4, dF (by simp), Nat.ble_eq_true_of_le (by omega)]
    simp only [cond_false, cond_true, allSome, Option.bind_some, List.append_nil]
    cases isRDN r4 <;> rfl
  | p :: post, pre, m, r4, hm, hl, hp, hr => by
    obtain ⟨m, rfl, hm⟩ := pos_m hm
    simp only [List.length_cons] at hl hm
    have hpl := hp p (by simp)
    have inn := lp98i n m pre post p r4 (by omega) hpl (by omega) p [] n (by omega) rfl rfl
    have inn' : L98_7 n m n (pre ++ p :: post) (pre.length : Nat) 0 r4 = _ := inn
    rw [rd98_4, dT (by simp; omega), inn']
    simp only [cond_true, allSome]
    cases ava2 p with
    | none => rfl
    | some a =>
      have ih1 := lp98 n hn post (pre ++ [p]) m (r4 ++ [a]) (by omega) (by rw [len_snoc]; omega) (fun q hq => hp q (by simp [hq])) (by simp; omega)
      rw [len_snoc, ← app_mid] at ih1
      simp only [goOn]
      rw [ih1]
      cases allSome ava2 post with
      | none => rfl
      | some l => simp
theorem cut_small {x : Int} {s : Str} (h : s.length ≤ 1000) : (∀ p ∈ cut x s, p.length ≤ 1000) ∧ (cut x s).length ≤ 1001 := by
  obtain ⟨h1, h2⟩ := cutA_ok x s.length s.length s [] (by simp)
  exact ⟨fun p hp => Nat.le_trans (h1 p hp) h, by unfold cut; omega⟩
theorem an98 (s : Str) (hs : s.length ≤ 1000) : evalBody E c98 98 Tryz.f98 1002 [.str s] [] = some (.tup [.sl .ava ((parseRDN2 s).getD []), .bool (parseRDN2 s).isSome], []) := by
  obtain ⟨h1, h2⟩ := cut_small (x := 43) hs
  rw [ev98, le_ok (show s.length ≤ 1000000000 by omega)]
  exact lp98 1002 (by decide) (cut 43 s) [] 1002 [] (by omega) (by simpa using h2) h1 (by simp)
theorem ok98 {T : Tab} : SpecOk T 98 sp98 := by
  intro args outs r outs' h
  unfold sp98 at h
  split at h
  · rename_i s
    obtain ⟨hs, rfl, rfl⟩ := row3 h
    exact bd98 (orc_cons ok97 (orc_cons ok122 (orc_cons ok85 (orc1 ok61)))) _ (an98 s (Nat.le_of_ble_eq_true hs))
  · cases h
theorem lp99 (n : Nat) : ∀ (post pre : List (List AVA)) (m : Nat), post.length < m → pre.length + post.length ≤ 1000000000 → (∀ r ∈ post, r.length ≤ 1000000000) →
    L99_4 n m (pre ++ post) (pre.length : Nat) = some (.bool (post.all isRDN), [])
  | [], pre, m, hm, hl, hp => by
    obtain ⟨m, rfl, -⟩ := pos_m hm
    rw [rd99_4, dF (by simp)]
    rfl
  | c :: post, pre, m, hm, hl, hp => by
    obtain ⟨m, rfl, hm⟩ := pos_m hm
    simp only [List.length_cons] at hl hm
    have ih1 := lp99 n post (pre ++ [c]) m (by omega) (by rw [len_snoc]; omega) fun r hr => hp r (by simp [hr])
    rw [len_snoc, ← app_mid] at ih1
    have hc : Nat.ble c.length 1000000000 = true := Nat.ble_eq_true_of_le (hp c (by simp))
    rw [rd99_4, i64_succ (by omega), toN, mid, dT (by simp; omega), dT (by omega), ih1, hc]
    simp only [cond_true, List.all_cons]
    cases isRDN c <;> rfl
theorem an99 (d : List (List AVA)) (h : okDN d = true) : evalBody E c99 99 Tryz.f99 (d.length + 1) [.sl .rdn d] [] = some (.bool (isDN d), []) := by
  simp only [okDN, Bool.and_eq_true, List.all_eq_true] at h
  have h1 : d.length ≤ 1000000000 := Nat.le_of_ble_eq_true h.1
  rw [ev99]
  unfold isDN
  by_cases h8 : d.length ≤ 8
  · have lp := lp99 (d.length + 1) d [] (d.length + 1) (by omega) (by simpa using h1) fun r hr => Nat.le_of_ble_eq_true (h.2 r hr)
    have lp' : L99_4 (d.length + 1) (d.length + 1) d 0 = _ := lp
    rw [dF (by omega), lp', Nat.ble_eq_true_of_le h8]; rfl
  · rw [dT (by omega), nble h8]; rfl
theorem ok99 {T : Tab} : SpecOk T 99 sp99 := by
  intro args outs r outs' h
  unfold sp99 at h
  split at h
  · rename_i d
    obtain ⟨hd, rfl, rfl⟩ := row3 h
    exact bd99 (orc1 ok61) _ (an99 d hd)
  · cases h
/-! Pieces between commas bear none that is bare -/
/-- No byte x but behind a backslash. -/
def bare (x : Int) : Nat → Str → Bool
  | 0, s => s.isEmpty
  | _, [] => true
  | n + 1, c :: s => bif ch c == 92 then (match s with | [] => true | _ :: r => bare x n r) else !(ch c == x) && bare x n s
theorem cut_bare (x : Int) : ∀ (k : Nat) (s acc : Str), s.length ≤ k → bare x k s = true → cutA x k s acc = [acc ++ s]
  | k, [], acc, _, _ => by cases k <;> simp [cutA]
  | 0, _ :: _, _, h, _ => by simp at h
  | k + 1, c :: s, acc, h, hb => by
    simp only [List.length_cons] at h
    simp only [bare] at hb
    simp only [cutA]
    cases h1 : ch c == 92 with
    | true =>
      rw [h1] at hb
      cases s with
      | nil => rfl
      | cons d r =>
        simp only [List.length_cons] at h
        simp only [cond_true] at hb ⊢
        rw [cut_bare x k r (acc ++ [c, d]) (by omega) hb]; simp
    | false =>
      rw [h1] at hb
      simp only [cond_false, Bool.and_eq_true, Bool.not_eq_true'] at hb ⊢
      rw [hb.1]
      simp only [cond_false]
      rw [cut_bare x k s (acc ++ [c]) (by omega) hb.2]; simp
/-- Pieces, told without what is gathered. -/
def pcs (x : Int) : Nat → Str → List Str
  | 0, s => [s]
  | _, [] => [[]]
  | n + 1, c :: s =>
    bif ch c == 92 then (match s with | [] => [[c]] | d :: r => (match pcs x n r with | p :: l => (c :: d :: p) :: l | [] => []))
    else bif ch c == x then [] :: pcs x n s else (match pcs x n s with | p :: l => (c :: p) :: l | [] => [])
theorem pcs_ne (x : Int) : ∀ (k : Nat) (s : Str), ∃ p l, pcs x k s = p :: l
  | 0, s => ⟨s, [], rfl⟩
  | _ + 1, [] => ⟨[], [], rfl⟩
  | k + 1, c :: s => by
    simp only [pcs]
    cases ch c == 92 with
    | true =>
      cases s with
      | nil => exact ⟨_, _, rfl⟩
      | cons d r => obtain ⟨p, l, h⟩ := pcs_ne x k r; dsimp only [cond_true]; rw [h]; exact ⟨_, _, rfl⟩
    | false =>
      cases ch c == x with
      | true => exact ⟨_, _, rfl⟩
      | false => obtain ⟨p, l, h⟩ := pcs_ne x k s; rw [h]; exact ⟨_, _, rfl⟩
theorem cut_pcs (x : Int) : ∀ (k : Nat) (s acc : Str), cutA x k s acc = match pcs x k s with | p :: l => (acc ++ p) :: l | [] => []
  | 0, s, acc => rfl
  | _ + 1, [], acc => by simp [cutA, pcs]
  | k + 1, c :: s, acc => by
    simp only [cutA, pcs]
    cases ch c == 92 with
    | true =>
      cases s with
      | nil => rfl
      | cons d r =>
        obtain ⟨p, l, h⟩ := pcs_ne x k r
        simp only [cond_true]
        rw [cut_pcs x k r, h]; simp
    | false =>
      cases ch c == x with
      | true =>
        simp only [cond_false, cond_true]
        rw [cut_pcs x k s]
        obtain ⟨p, l, h⟩ := pcs_ne x k s
        rw [h]; simp
      | false =>
        simp only [cond_false]
        obtain ⟨p, l, h⟩ := pcs_ne x k s
        rw [cut_pcs x k s, h]; simp
theorem bare_le (x : Int) : ∀ (k j : Nat) (s : Str), s.length ≤ k → s.length ≤ j → bare x k s = bare x j s
  | k, j, [], _, _ => by cases k <;> cases j <;> rfl
  | 0, _, _ :: _, h, _ => by simp at h
  | _ + 1, 0, _ :: _, _, h => by simp at h
  | k + 1, j + 1, c :: s, h, h' => by
    simp only [List.length_cons] at h h'
    simp only [bare]
    cases s with
    | nil => cases ch c == 92 <;> (cases k <;> cases j <;> rfl)
    | cons d r =>
      simp only [List.length_cons] at h h'
      dsimp only
      rw [bare_le x k j r (by omega) (by omega), bare_le x k j (d :: r) (by simp; omega) (by simp; omega)]
theorem pcs_bare (x : Int) : ∀ (k : Nat) (s : Str), s.length ≤ k → ∀ p ∈ pcs x k s, p.length ≤ k ∧ bare x k p = true
  | 0, s, h, p, hp => by
    have hs : s = [] := List.length_eq_zero_iff.1 (Nat.le_zero.1 h)
    subst hs
    simp only [pcs, List.mem_singleton] at hp
    subst hp; exact ⟨Nat.le_refl _, rfl⟩
  | k + 1, [], h, p, hp => by
    simp only [pcs, List.mem_singleton] at hp
    subst hp; exact ⟨Nat.zero_le _, rfl⟩
  | k + 1, c :: s, h, p, hp => by
    simp only [List.length_cons] at h
    simp only [pcs] at hp
    have up : ∀ q : Str, q.length ≤ k ∧ bare x k q = true → q.length ≤ k + 1 ∧ bare x (k + 1) q = true := fun q hq => ⟨by omega, by rw [← hq.2]; exact bare_le x _ _ q (by omega) hq.1⟩
    cases h1 : ch c == 92 with
    | true =>
      rw [h1] at hp
      cases s with
      | nil =>
        simp only [cond_true, List.mem_singleton] at hp
        subst hp
        exact ⟨by simp, by simp [bare, h1]⟩
      | cons d r =>
        simp only [List.length_cons] at h
        obtain ⟨q, l, hq⟩ := pcs_ne x k r
        have ih := pcs_bare x k r (by omega)
        dsimp only [cond_true] at hp
        rw [hq] at ih hp
        simp only [List.mem_cons] at hp
        rcases hp with rfl | hp
        · have := ih q (by simp)
          have hql : q.length + 2 ≤ k + 1 := by
            -- a piece is no longer than what it is of
            obtain ⟨h1', _⟩ := cutA_ok x r.length k r [] (by simp)
            have hm : q ∈ cutA x k r [] := by rw [cut_pcs, hq]; simp
            have := h1' q hm
            omega
          refine ⟨by simp; omega, ?_⟩
          simp only [bare, h1, cond_true]
          exact this.2
        · exact up p (ih p (by simp [hp]))
    | false =>
      rw [h1] at hp
      have ih := pcs_bare x k s (by omega)
      cases h2 : ch c == x with
      | true =>
        rw [h2] at hp
        simp only [cond_false, cond_true, List.mem_cons] at hp
        rcases hp with rfl | hp
        · exact ⟨Nat.zero_le _, rfl⟩
        · exact up p (ih p hp)
      | false =>
        rw [h2] at hp
        obtain ⟨q, l, hq⟩ := pcs_ne x k s
        rw [hq] at ih hp
        simp only [cond_false, List.mem_cons] at hp
        rcases hp with rfl | hp
        · have := ih q (by simp)
          refine ⟨by simp; omega, ?_⟩
          simp only [bare, h1, h2, cond_false, Bool.not_false, Bool.true_and]
          exact this.2
        · exact up p (ih p (by simp [hp]))
/-- A piece at y of a text with no bare x has none. -/
theorem pcs_bare2 (x y : Int) : ∀ (k : Nat) (s : Str), s.length ≤ k → bare x k s = true → ∀ p ∈ pcs y k s, bare x k p = true
  | 0, s, h, hb, p, hp => by
    simp only [pcs, List.mem_singleton] at hp
    subst hp; exact hb
  | k + 1, [], h, hb, p, hp => by
    simp only [pcs, List.mem_singleton] at hp
    subst hp; rfl
  | k + 1, c :: s, h, hb, p, hp => by
    simp only [List.length_cons] at h
    simp only [pcs] at hp
    simp only [bare] at hb
    have len : ∀ (r : Str), r.length ≤ k → ∀ q ∈ pcs y k r, q.length ≤ k := fun r hr q hq => (pcs_bare y k r hr q hq).1
    have up : ∀ q : Str, q.length ≤ k → bare x k q = true → bare x (k + 1) q = true := fun q hl hq => by rw [← hq]; exact bare_le x _ _ q (by omega) hl
    cases h1 : ch c == 92 with
    | true =>
      rw [h1] at hp hb
      cases s with
      | nil =>
        simp only [cond_true, List.mem_singleton] at hp
        subst hp
        simp [bare, h1]
      | cons d r =>
        simp only [List.length_cons] at h
        simp only [cond_true] at hb
        obtain ⟨q, l, hq⟩ := pcs_ne y k r
        have ih := pcs_bare2 x y k r (by omega) hb
        have hln := len r (by omega)
        dsimp only [cond_true] at hp
        rw [hq] at ih hp hln
        simp only [List.mem_cons] at hp
        rcases hp with rfl | hp
        · simp only [bare, h1, cond_true]
          exact ih q (by simp)
        · exact up p (hln p (by simp [hp])) (ih p (by simp [hp]))
    | false =>
      rw [h1] at hp hb
      simp only [cond_false, Bool.and_eq_true, Bool.not_eq_true'] at hb
      have ih := pcs_bare2 x y k s (by omega) hb.2
      have hln := len s (by omega)
      cases h2 : ch c == y with
      | true =>
        rw [h2] at hp
        simp only [cond_false, cond_true, List.mem_cons] at hp
        rcases hp with rfl | hp
        · rfl
        · exact up p (hln p hp) (ih p hp)
      | false =>
        rw [h2] at hp
        obtain ⟨q, l, hq⟩ := pcs_ne y k s
        rw [hq] at ih hp hln
        simp only [cond_false, List.mem_cons] at hp
        rcases hp with rfl | hp
        · simp only [bare, h1, hb.1, cond_false, Bool.not_false, Bool.true_and]
          exact ih q (by simp)
        · exact up p (hln p (by simp [hp])) (ih p (by simp [hp]))
theorem cut_is_pcs (x : Int) (s : Str) : cut x s = pcs x s.length s := by
  unfold cut
  rw [cut_pcs]
  obtain ⟨p, l, h⟩ := pcs_ne x s.length s
  rw [h]; simp
theorem allSome_congr {α β : Type} {f g : α → Option β} : ∀ {l : List α}, (∀ x ∈ l, f x = g x) → allSome f l = allSome g l
  | [], _ => rfl
  | x :: l, h => by
    simp only [allSome]
    rw [h x (by simp), allSome_congr fun y hy => h y (by simp [hy])]
theorem parseRDN2_of (s p : Str) (hp : p ∈ cut 44 s) : parseRDN2 p = parseRDN p := by
  unfold parseRDN2 parseRDN
  rw [allSome_congr (g := ava)]
  intro q hq
  unfold ava2
  rw [cut_is_pcs] at hp hq
  obtain ⟨h1, h2⟩ := pcs_bare 44 s.length s (Nat.le_refl _) p hp
  have h3 := pcs_bare2 44 43 p.length p (Nat.le_refl _) (by rw [← h2]; exact bare_le 44 _ _ p (Nat.le_refl _) h1) q hq
  have h4 := (pcs_bare 43 p.length p (Nat.le_refl _) q hq).1
  have h5 : bare 44 q.length q = true := by rw [← h3]; exact bare_le 44 _ _ q (Nat.le_refl _) h4
  have : (cut 44 q).length = 1 := by
    unfold cut
    rw [cut_bare 44 q.length q [] (Nat.le_refl _) h5]; rfl
  rw [this]; rfl
end Go.Ev
/-
  What the reference's functions answer: names; values that may be; whether something is a change.
-/
namespace Go.Ev
open Go.Proofs Go.Ev.Sp
theorem parseRDN_is {p : Str} {r : List AVA} (h : parseRDN p = some r) : isRDN r = true := by
  unfold parseRDN at h
  obtain ⟨l, _, h⟩ := of_bind h
  cases hr : isRDN l with
  | false => rw [hr] at h; cases h
  | true => rw [hr] at h; cases h; exact hr
theorem isRDN_le {r : List AVA} (h : isRDN r = true) : r.length ≤ 4 := by
  unfold isRDN at h
  simp only [Bool.and_eq_true] at h
  exact Nat.le_of_ble_eq_true h.1.1.2
theorem lp83 (n : Nat) : ∀ (post pre : List Str) (m : Nat) (r4 : List (List AVA)), post.length < m → pre.length + post.length ≤ 1001 → (∀ p ∈ post, p.length ≤ 1000) → (∀ p ∈ post, parseRDN2 p = parseRDN p) → r4.length ≤ pre.length → r4.all isRDN = true →
    L83_6 n m (pre ++ post) (pre.length : Nat) r4 = some (.tup [.sl .rdn (((allSome parseRDN post).bind fun l => bif Nat.ble (r4 ++ l).length 8 then some (r4 ++ l) else none).getD []), .bool ((allSome parseRDN post).bind fun l => bif Nat.ble (r4 ++ l).length 8 then some (r4 ++ l) else none).isSome], [])
  | [], pre, m, r4, hm, hl, hp, h2, hr, ha => by
    obtain ⟨m, rfl, -⟩ := pos_m hm
    have hok : okDN r4 = true := by
      simp only [okDN, Bool.and_eq_true, List.all_eq_true] at ha ⊢
      exact ⟨Nat.ble_eq_true_of_le (show r4.length ≤ 1000000000 by omega), fun r hr => Nat.ble_eq_true_of_le (show r.length ≤ 1000000000 by have := isRDN_le (ha r hr); omega)⟩
    have hdn : isDN r4 = Nat.ble r4.length 8 := by unfold isDN; rw [ha, Bool.and_true]
    rw [rd83_6, dF (by simp), hok, hdn]
    simp only [cond_false, cond_true, allSome, Option.bind_some, List.append_nil]
    cases Nat.ble r4.length 8 <;> rfl
  | p :: post, pre, m, r4, hm, hl, hp, h2, hr, ha => by
    obtain ⟨m, rfl, hm⟩ := pos_m hm
    simp only [List.length_cons] at hl hm
    have hok : ok p = true := le_ok (by have := hp p (by simp); omega)
    have hok2 : ok2 p = true := Nat.ble_eq_true_of_le (hp p (by simp))
    rw [rd83_6, i64_succ (by omega), toN, mid, dT (by simp; omega), dT (by omega), h2 p (by simp)]
    first | rw [hok2] | rw [hok]
    simp only [cond_true, allSome]
    cases hq : parseRDN p with
    | none => rfl
    | some q =>
      simp only [Option.isSome_some, Bool.not_true, cond_false, Option.getD_some, Option.bind_some]
      rw [Nat.ble_eq_true_of_le (show r4.length + _ ≤ 1073741824 by simp; omega)]
      have ih1 := lp83 n post (pre ++ [p]) m (r4 ++ [q]) (by omega) (by rw [len_snoc]; omega) (fun q hq => hp q (by simp [hq])) (fun q hq => h2 q (by simp [hq])) (by simp; omega) (by simp [ha, parseRDN_is hq])
      rw [len_snoc, ← app_mid] at ih1
      simp only [cond_true]
      rw [ih1]
      cases allSome parseRDN post with
      | none => rfl
      | some l => simp
theorem an83 (n : Nat) (hn : 1001 < n) (s : Str) (hs : s.length ≤ 1000) : evalBody E c83 83 Tryz.f83 n [.str s] [] = some (.tup [.sl .rdn ((parse s).getD []), .bool (parse s).isSome], []) := by
  obtain ⟨h1, h2⟩ := cut_small (x := 44) hs
  rw [ev83, le_ok (show s.length ≤ 1000000000 by omega)]
  have lp := lp83 n (cut 44 s) [] n [] (by omega) (by simpa using h2) h1 (fun p hp => parseRDN2_of s p hp) (by simp) rfl
  simp only [List.nil_append] at lp
  have lp' : L83_6 n n (cut 44 s) 0 [] = _ := lp
  simp only [cond_true]
  cases s with
  | nil => rfl
  | cons c s =>
    rw [lp', show ((c :: s) == ([] : Str)) = false from rfl, show parse (c :: s) = (allSome parseRDN (cut 44 (c :: s))).bind fun d => bif Nat.ble d.length 8 then some d else none from rfl]
    rfl
theorem ok83 {T : Tab} : SpecOk T 83 sp83 := by
  intro args outs r outs' h
  unfold sp83 at h
  split at h
  · rename_i s
    obtain ⟨hs, rfl, rfl⟩ := row3 h
    exact bd83 (orc_cons ok97 (orc_cons ok98 (orc1 ok99))) 1002 (an83 1002 (by decide) s (Nat.le_of_ble_eq_true hs))
  · cases h
theorem syn_of {a : Str} {t : Typ} (h : findT a = some t) : t.syn = 1 ∨ t.syn = 2 ∨ t.syn = 3 ∨ t.syn = 4 ∨ t.syn = 5 := by
  unfold findT findIn at h
  have hm : t ∈ allT := List.mem_of_find?_eq_some h
  have hall : allT.all (fun t => decide (t.syn = 1 ∨ t.syn = 2 ∨ t.syn = 3 ∨ t.syn = 4 ∨ t.syn = 5)) = true := by kernel_rfl
  exact of_decide_eq_true (List.all_eq_true.1 hall t hm)
def endV (syn : Int) (v : Str) (right some' : Bool) : Option (V × List (List V)) :=
  some (.int .i64 (bif (bif syn == 1 then right && some' else bif syn == 3 then isInt v else bif syn == 4 then true else bif syn == 5 then (parse v).isSome else right) then 0 else 17), [])
theorem lp62 (n : Nat) (b5_ : Str) (syn : Int) (b5s : Bool) : ∀ (post pre : Str) (m : Nat) (r s : Bool), post.length < m → pre.length + post.length ≤ 60 →
    L62_9 n m (pre ++ post) r s (pre.length : Nat) b5_ syn b5s = endV syn (pre ++ post) (r && post.all isPl) (s || !(post.all fun c => ch c == 32))
  | [], pre, m, r, s, hm, hl => by
    obtain ⟨m, rfl, -⟩ := pos_m hm
    rw [rd62_9, dF (by simp)]
    have hok : ok (pre ++ []) = true := le_ok (by simp at hl ⊢; omega)
    have hok2 : ok2 (pre ++ []) = true := Nat.ble_eq_true_of_le (by simp at hl ⊢; omega)
    first | rw [hok2] | rw [hok]
    unfold endV
    simp only [cond_false, cond_true, List.all_nil, Bool.not_true, Bool.and_true, Bool.or_false]
    cases syn == 1 with
    | true => cases r <;> cases s <;> rfl
    | false =>
      cases syn == 3 with
      | true => cases isInt (pre ++ []) <;> rfl
      | false =>
        cases syn == 4 with
        | true => rfl
        | false =>
          cases syn == 5 with
          | true => cases (parse (pre ++ [])).isSome <;> rfl
          | false => cases r <;> rfl
  | c :: post, pre, m, r, s, hm, hl => by
    obtain ⟨m, rfl, hm⟩ := pos_m hm
    simp only [List.length_cons] at hl hm
    have ih : ∀ r s, L62_9 n m (pre ++ c :: post) r s ((pre.length + 1 : Nat) : Int) b5_ syn b5s = endV syn (pre ++ c :: post) (r && post.all isPl) (s || !(post.all fun c => ch c == 32)) := fun r s => by
      have ih1 := lp62 n b5_ syn b5s post (pre ++ [c]) m r s (by omega) (by rw [len_snoc]; omega)
      rw [len_snoc, ← app_mid] at ih1
      exact ih1
    rw [rd62_9, i64_succ (by omega), toN, mid, dT (by simp; omega), dT (by omega)]
    simp only [cond_true, ih]
    rw [show ((c.toNat : Int) != 32) = !(ch c == 32) from rfl, show decide ((c.toNat : Int) ≥ 32) = decide (32 ≤ ch c) from rfl]
    simp only [List.all_cons, isPl]
    cases r <;> cases s <;> cases decide (32 ≤ ch c) <;> cases ch c == 32 <;> simp
theorem an62 (n : Nat) (hn : 60 < n) (a v : Str) (h : (ok a && ok v) = true) : evalBody E c62 62 Tryz.f62 n [.str a, .str v] [] = some (.int .i64 (check a v), []) := by
  simp only [Bool.and_eq_true] at h
  rw [ev62, h.1]
  unfold check
  simp only [cond_true]
  cases hf : findT a with
  | none => rfl
  | some t =>
    simp only [Option.isSome_some, Bool.not_true, cond_false, Option.getD_some]
    cases v with
    | nil => rfl
    | cons c v =>
      rw [dF (show ¬ (((c :: v).length : Nat) : Int) < 1 by simp; omega), show ((c :: v) == ([] : Str)) = false from rfl]
      simp only [cond_false, Bool.false_or]
      by_cases h1 : (c :: v).length ≤ 60
      · have lp := lp62 n t.name t.syn t.single (c :: v) [] n true false (by omega) (by simpa using h1)
        have lp' : L62_9 n n (c :: v) true false 0 t.name t.syn t.single = _ := lp
        rw [dF (by omega), lp', Nat.ble_eq_true_of_le h1]
        simp only [endV, cond_false, may, Bool.true_and, Bool.false_or, Bool.not_true, List.nil_append, isPlain]
        rcases syn_of hf with e | e | e | e | e <;> rw [e]
        · show some (V.int .i64 (bif ((c :: v).all isPl && !((c :: v).all fun c => ch c == 32)) then 0 else 17), _) = some (V.int .i64 (bif !(!((c :: v).all fun c => ch c == 32) && (c :: v).all isPl) then 17 else 0), _)
          cases (c :: v).all isPl <;> cases ((c :: v).all fun c => ch c == 32) <;> rfl
        · show some (V.int .i64 (bif (c :: v).all isPl then 0 else 17), _) = some (V.int .i64 (bif !((c :: v).all isPl) then 17 else 0), _)
          cases (c :: v).all isPl <;> rfl
        · show some (V.int .i64 (bif isInt (c :: v) then 0 else 17), _) = some (V.int .i64 (bif !(isInt (c :: v)) then 17 else 0), _)
          cases isInt (c :: v) <;> rfl
        · rfl
        · show some (V.int .i64 (bif (parse (c :: v)).isSome then 0 else 17), _) = some (V.int .i64 (bif !((parse (c :: v)).isSome) then 17 else 0), _)
          cases (parse (c :: v)).isSome <;> rfl
      · rw [dT (by omega), nble h1]; rfl
theorem ok62 {T : Tab} : SpecOk T 62 sp57 := by
  intro args outs r outs' h
  unfold sp57 at h
  split at h
  · rename_i a v
    obtain ⟨hs, rfl, rfl⟩ := row3 h
    exact bd62 (orc_cons ok63 (orc_cons ok82 (orc1 ok83))) 61 (an62 61 (by decide) a v hs)
  · cases h
theorem lp33 (n : Nat) : ∀ (post pre : List AVA) (m : Nat), post.length < m → pre.length + post.length ≤ 1000000000 → (∀ a ∈ post, ok a.attr = true ∧ ok a.value = true) →
    L33_4 n m (pre ++ post) (pre.length : Nat) = some (.bool (post.all fun a => !(a.attr == sId) && check a.attr a.value == 0), [])
  | [], pre, m, hm, hl, hp => by
    obtain ⟨m, rfl, -⟩ := pos_m hm
    rw [rd33_4, dF (by simp)]
    rfl
  | c :: post, pre, m, hm, hl, hp => by
    obtain ⟨m, rfl, hm⟩ := pos_m hm
    simp only [List.length_cons] at hl hm
    have ih1 := lp33 n post (pre ++ [c]) m (by omega) (by rw [len_snoc]; omega) fun a ha => hp a (by simp [ha])
    rw [len_snoc, ← app_mid] at ih1
    obtain ⟨h1, h2⟩ := hp c (by simp)
    rw [rd33_4, i64_succ (by omega), toN, mid, dT (by simp; omega), dT (by omega), ih1, h1, h2, show (check c.attr c.value != 0) = !(check c.attr c.value == 0) from rfl]
    simp only [cond_true, Bool.and_self, List.all_cons]
    rw [show sId = [101, 110, 116, 114, 121, 105, 100] from rfl]
    cases c.attr == [101, 110, 116, 114, 121, 105, 100] <;> cases check c.attr c.value == 0 <;> rfl
theorem an33 (xs : List AVA) (h : okAs xs = true) : evalBody E c33 33 Tryz.f33 (xs.length + 1) [.sl .ava xs] [] = some (.bool (isRDNc xs), []) := by
  obtain ⟨h1, h2⟩ := okAs_all h
  have lp := lp33 (xs.length + 1) xs [] (xs.length + 1) (by omega) (by simpa using h1) h2
  have lp' : L33_4 (xs.length + 1) (xs.length + 1) xs 0 = _ := lp
  rw [ev33, Nat.ble_eq_true_of_le h1, lp']
  unfold isRDNc
  simp only [cond_true]
  cases isRDN xs with
  | false => rfl
  | true =>
    by_cases h4 : xs.length < 4
    · rw [dF (by omega), show Nat.blt xs.length 4 = true from Nat.ble_eq_true_of_le h4]; rfl
    · rw [dT (by omega), show Nat.blt xs.length 4 = false from nble (by omega)]; rfl
theorem ok33 {T : Tab} : SpecOk T 33 sp28 := by
  intro args outs r outs' h
  unfold sp28 at h
  split at h
  · rename_i xs
    obtain ⟨hl, rfl, rfl⟩ := row3 h
    exact bd33 (orc_cons ok61 (orc1 ok62)) _ (an33 xs hl)
  · cases h
theorem lp34i (n m2 : Nat) (l : List Mod) (only : Bool) (i : Nat) (hi : i < 1000000000) (c : Mod) (ha : ok c.attr = true) (hv : c.values.length ≤ 1000000000) : ∀ (vs p : List Str) (m : Nat), vs.length < m → c.values = p ++ vs → (∀ v ∈ vs, ok v = true) →
    L34_9 n m2 m l only i (p.length : Nat) c.kind c.attr c.values = bif vs.all (fun v => check c.attr v == 0) then L34_2 n m2 l only ((i + 1 : Nat) : Int) else some (.bool false, [])
  | [], p, m, hm, hp, ho => by
    obtain ⟨m, rfl, -⟩ := pos_m hm
    rw [rd34_9, i64_succ (i := i) (by omega), dF (by rw [hp]; simp)]
    rfl
  | v :: vs, p, m, hm, hp, ho => by
    obtain ⟨m, rfl, hm⟩ := pos_m hm
    simp only [List.length_cons] at hm
    have hvl : p.length + (vs.length + 1) ≤ 1000000000 := by rw [hp] at hv; simpa using hv
    have ih := lp34i n m2 l only i hi c ha hv vs (p ++ [v]) m (by omega) (by rw [hp]; simp) fun w hw => ho w (by simp [hw])
    rw [len_snoc] at ih
    rw [rd34_9, i64_succ (i := p.length) (by omega), ih, toN, hp, mid, dT (by simp; omega), dT (by omega), ha, ho v (by simp), show (check c.attr v != 0) = !(check c.attr v == 0) from rfl]
    simp only [cond_true, Bool.and_self, List.all_cons]
    cases check c.attr v == 0 <;> rfl
theorem lp34 (n : Nat) (only : Bool) : ∀ (post pre : List Mod) (m : Nat), post.length < m → pre.length + post.length ≤ 1000000000 → (∀ a ∈ post, (ok a.attr = true ∧ okSs a.values = true) ∧ a.values.length < n) →
    L34_2 n m (pre ++ post) only (pre.length : Nat) = some (.bool (post.all (isMod (bif only then 1 else 3)) && Nat.ble (pre.length + post.length) 8), [])
  | [], pre, m, hm, hl, hp => by
    obtain ⟨m, rfl, -⟩ := pos_m hm
    rw [rd34_2, dF (by simp)]
    simp only [cond_false, List.append_nil, List.all_nil, Bool.true_and, List.length_nil, Nat.add_zero, ble_dec]
    congr 3
    rw [Bool.eq_iff_iff]; simp; omega
  | c :: post, pre, m, hm, hl, hp => by
    obtain ⟨m, rfl, hm⟩ := pos_m hm
    simp only [List.length_cons] at hl hm
    have ih1 := lp34 n only post (pre ++ [c]) m (by omega) (by rw [len_snoc]; omega) fun a ha => hp a (by simp [ha])
    have e2 : (pre ++ [c]).length + post.length = pre.length + (c :: post).length := by simp; omega
    rw [e2, len_snoc, ← app_mid] at ih1
    obtain ⟨⟨h1, h2⟩, h3⟩ := hp c (by simp)
    obtain ⟨v1, v2⟩ := okSs_all h2
    have inn := lp34i n m (pre ++ c :: post) only pre.length (by omega) c h1 v1 c.values [] n h3 rfl v2
    have inn' : L34_9 n m n (pre ++ c :: post) only (pre.length : Nat) 0 c.kind c.attr c.values = _ := inn
    rw [rd34_2, toN, mid, dT (by simp; omega), dT (by omega), inn', ih1, h1, isEmp_len]
    simp only [cond_true, List.all_cons, isMod]
    rw [show sId = [101, 110, 116, 114, 121, 105, 100] from rfl, show (c.kind != 1) = !(c.kind == 1) from rfl]
    cases findT c.attr with
    | none => rfl
    | some t =>
      simp only [Option.isSome_some, Bool.not_true, cond_false, Option.getD_some]
      cases ht : t.name == c.attr with
      | false => rfl
      | true =>
        rw [eq_of_beq ht]
        simp only [Bool.not_true, cond_false, Bool.true_and]
        cases c.attr == [101, 110, 116, 114, 121, 105, 100] with
        | true => rfl
        | false =>
          by_cases k1 : c.kind < 1
          · rw [dT k1, dF (show ¬ 1 ≤ c.kind by omega)]; rfl
          · rw [dF k1, dT (show 1 ≤ c.kind by omega)]
            by_cases k2 : c.kind > 3
            · rw [dT k2]
              have : decide (c.kind ≤ (bif only then (1 : Int) else 3)) = false := dF (by cases only <;> simp <;> omega)
              rw [this]; rfl
            · rw [dF k2]
              simp only [cond_false, Bool.not_false, Bool.true_and]
              have e3 : decide (c.kind ≤ (bif only then (1 : Int) else 3)) = (!only || c.kind == 1) := by
                rw [Bool.eq_iff_iff]
                cases only <;> simp <;> omega
              rw [e3]
              by_cases k3 : c.values.length ≤ 12
              · rw [dF (by omega), Nat.ble_eq_true_of_le k3]
                cases only <;> cases c.kind == 1 <;> cases c.values.isEmpty <;> cases (c.values.all fun v => check c.attr v == 0) <;> rfl
              · rw [dT (by omega), nble k3]
                cases only <;> cases c.kind == 1 <;> cases c.values.isEmpty <;> simp
theorem an34 (l : List Mod) (only : Bool) (h : okMs l = true) : ∃ n, evalBody E c34 34 Tryz.f34 n [.sl .mod l, .bool only] [] = some (.bool (isMods (bif only then 1 else 3) l), []) := by
  obtain ⟨h1, h2⟩ := okMs_all h
  obtain ⟨n, hn1, hn2⟩ := bound_of (fun m : Mod => m.values.length) l
  refine ⟨n, (ev34 _ l only).trans ?_⟩
  have lp := lp34 n only l [] n hn1 (by simpa using h1) fun a ha => ⟨h2 a ha, hn2 a ha⟩
  rw [List.length_nil, Nat.zero_add] at lp
  exact lp
theorem ok34 {T : Tab} : SpecOk T 34 sp34 := by
  intro args outs r outs' h
  unfold sp34 at h
  split at h
  · rename_i l only
    obtain ⟨hl, rfl, rfl⟩ := row3 h
    obtain ⟨n, hn⟩ := an34 l only hl
    exact bd34 (orc_cons ok63 (orc1 ok62)) _ hn
  · cases h
theorem ok30 {T : Tab} : SpecOk T 30 sp24 := by
  intro args outs r outs' h
  unfold sp24 at h
  split at h
  · obtain ⟨x, hx, h⟩ := of_bind h
    obtain ⟨-, rfl, rfl⟩ := row3 h
    rw [csnOf_cells hx]
    refine bd30 orc_nil 0 ?_
    rw [ev30]
    simp only [b_and, ge_iff_le, Csn.is, csnIs, Bool.and_assoc]
  · cases h
theorem ok31 {T : Tab} : SpecOk T 31 sp25 := by
  intro args outs r outs' h
  unfold sp25 at h
  split at h
  · obtain ⟨x, hx, h⟩ := of_bind h
    obtain ⟨-, rfl, rfl⟩ := row3 h
    rw [csnOf_cells hx]
    refine bd31 orc_nil 0 ?_
    rw [ev31]
    simp only [Csn.zero, csnZero, Bool.and_true, Bool.and_assoc]
  · cases h
theorem cmp3_lt {x y : Int} (h : x < y) : cmp3 x y = -1 := by simp [cmp3, h]
theorem cmp3_gt {x y : Int} (h : y < x) : cmp3 x y = 1 := by simp [cmp3, h, show ¬ x < y by omega]
theorem cmp3_eq (x : Int) : cmp3 x x = 0 := by simp [cmp3]
theorem an32 (x y : Csn) : evalBody E c0 32 Tryz.f32 0 [.agg (Csn.cells x), .agg (Csn.cells y)] [] = some (.int .i64 (x.cmp y), []) := by
  obtain ⟨a, b, c⟩ := x
  obtain ⟨d, e, f⟩ := y
  rw [ev32]
  simp only [Csn.cmp, csnCmp, orInt]
  rcases Int.lt_trichotomy a d with h | h | h
  · rw [dT h, cmp3_lt h]; rfl
  · subst h
    rw [dF (show ¬ a < a by omega), cmp3_eq, show (a == a) = true by simp]
    rcases Int.lt_trichotomy b e with h | h | h
    · rw [dT h, cmp3_lt h]; rfl
    · subst h
      rw [dF (show ¬ b < b by omega), cmp3_eq, show (b == b) = true by simp]
      rcases Int.lt_trichotomy c f with h | h | h
      · rw [dT h, cmp3_lt h]; rfl
      · subst h
        rw [dF (show ¬ c < c by omega), cmp3_eq, show (c == c) = true by simp]; rfl
      · rw [dF (show ¬ c < f by omega), cmp3_gt h, show (c == f) = false by rw [beq_eq_false_iff_ne]; omega]; rfl
    · rw [dF (show ¬ b < e by omega), cmp3_gt h, show (b == e) = false by rw [beq_eq_false_iff_ne]; omega]; rfl
  · rw [dF (show ¬ a < d by omega), cmp3_gt h, show (a == d) = false by rw [beq_eq_false_iff_ne]; omega]; rfl
theorem ok32 {T : Tab} : SpecOk T 32 sp27 := by
  intro args outs r outs' h
  unfold sp27 at h
  split at h
  · obtain ⟨x, hx, h⟩ := of_bind h
    obtain ⟨y, hy, h⟩ := of_bind h
    obtain ⟨-, rfl, rfl⟩ := row3 h
    rw [csnOf_cells hx, csnOf_cells hy]
    exact bd32 orc_nil 0 (an32 x y)
  · cases h
theorem an11 (x : Chn) (h : x.ok = true) : evalBody E c11 11 Tryz.f11 0 [.agg (Chn.cells x)] [] = some (.bool (isChange x), []) := by
  simp only [Chn.ok, Bool.and_eq_true] at h
  obtain ⟨⟨ct, cs, cr⟩, kind, ⟨it, is, ir⟩, ⟨pt, ps, pr⟩, rdn, del, mods⟩ := x
  rw [ev11, h.1, h.2]
  simp only [isEmp_len, cond_true, cond_false, Bool.and_true, isChange, Chn.bare, Csn.same]
  rw [show decide (Csn.cmp ⟨pt, ps, pr⟩ ⟨ct, cs, cr⟩ < 0) = Csn.below ⟨pt, ps, pr⟩ ⟨ct, cs, cr⟩ from rfl, show decide (Csn.cmp ⟨it, is, ir⟩ ⟨ct, cs, cr⟩ < 0) = Csn.below ⟨it, is, ir⟩ ⟨ct, cs, cr⟩ from rfl]
  cases Csn.is ⟨ct, cs, cr⟩ with
  | false => rfl
  | true =>
  cases Csn.zero ⟨ct, cs, cr⟩ with
  | true => rfl
  | false =>
  cases Csn.is ⟨it, is, ir⟩ with
  | false => rfl
  | true =>
  cases Csn.is ⟨pt, ps, pr⟩ with
  | false => rfl
  | true =>
  simp only [Bool.not_true, Bool.not_false, Bool.true_and, cond_false, Bool.and_assoc]
  cases kind == 1 with
  | true =>
    simp only [cond_true]
    cases it == ct <;> cases is == cs <;> cases ir == cr <;> cases Csn.below ⟨pt, ps, pr⟩ ⟨ct, cs, cr⟩ <;> cases isRDNc rdn <;> cases isMods 1 mods <;> cases Csn.zero ⟨pt, ps, pr⟩ <;> cases del <;> rfl
  | false =>
    cases kind == 2 with
    | true =>
      simp only [cond_true, cond_false]
      cases Csn.zero ⟨it, is, ir⟩ <;> cases Csn.below ⟨it, is, ir⟩ ⟨ct, cs, cr⟩ <;> cases del <;> cases mods.isEmpty <;> cases Csn.zero ⟨pt, ps, pr⟩ <;> cases rdn.isEmpty <;> cases Csn.below ⟨pt, ps, pr⟩ ⟨ct, cs, cr⟩ <;> rfl
    | false =>
      cases kind == 3 with
      | true =>
        simp only [cond_true, cond_false]
        have e : decide ((mods.length : Int) > 0) = !mods.isEmpty := by cases mods <;> simp
        rw [e]
        cases Csn.below ⟨it, is, ir⟩ ⟨ct, cs, cr⟩ <;> cases del <;> cases mods.isEmpty <;> cases isMods 3 mods <;> cases Csn.zero ⟨pt, ps, pr⟩ <;> cases rdn.isEmpty <;> cases Csn.below ⟨pt, ps, pr⟩ ⟨ct, cs, cr⟩ <;> rfl
      | false =>
        cases kind == 4 with
        | true =>
          simp only [cond_true, cond_false]
          cases Csn.zero ⟨it, is, ir⟩ <;> cases Csn.below ⟨it, is, ir⟩ ⟨ct, cs, cr⟩ <;> cases Csn.below ⟨pt, ps, pr⟩ ⟨ct, cs, cr⟩ <;> cases isRDNc rdn <;> cases mods.isEmpty <;> cases Csn.zero ⟨pt, ps, pr⟩ <;> rfl
        | false => cases Csn.zero ⟨pt, ps, pr⟩ <;> cases rdn.isEmpty <;> cases Csn.below ⟨pt, ps, pr⟩ ⟨ct, cs, cr⟩ <;> rfl
theorem ok11 {T : Tab} : SpecOk T 11 sp10 := by
  intro args outs r outs' h
  unfold sp10 at h
  split at h
  · obtain ⟨x, hx, h⟩ := of_bind h
    obtain ⟨hl, rfl, rfl⟩ := row3 h
    rw [chgOf_cells hx]
    exact bd11 (orc_cons ok30 (orc_cons ok31 (orc_cons ok32 (orc_cons ok33 (orc1 ok34))))) _ (an11 x hl)
  · cases h
end Go.Ev
