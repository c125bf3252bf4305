/-
  What the program's functions answer: cutting texts, reading values.
-/
import Derived.Test.YtdfbmemomndnnaaGreatDoorZM
namespace Go.Ev
open Go.Proofs Go.Ev.Sp
theorem ok145 {T : Tab} : SpecOk T 145 sp158 := by
  intro args outs r outs' h
  unfold sp158 at h
  split at h
  · rename_i s n
    obtain ⟨hn, rfl, rfl⟩ := row3 h
    refine bd145 (orc1 ok158) 0 ((ev145 _ s n).trans ?_)
    rw [hn]; rfl
  · cases h
theorem ok156 {T : Tab} : SpecOk T 156 sp158 := by
  intro args outs r outs' h
  unfold sp158 at h
  split at h
  · rename_i s n
    obtain ⟨hn, rfl, rfl⟩ := row3 h
    refine bd156 (orc1 ok145) 0 ((ev156 _ s n).trans ?_)
    rw [hn]; rfl
  · cases h
theorem ok126 {T : Tab} : SpecOk T 126 sp126 := by
  intro args outs r outs' h
  unfold sp126 at h
  split at h
  · rename_i s c
    obtain ⟨-, rfl, rfl⟩ := row3 h
    refine bd126 (orc1 ok145) 0 ((ev126 _ s c).trans ?_)
    rw [List.getD_cons_zero, isB_ch]
    simp only [cond_true]
    cases hb : ([c] == s) with
    | false => rfl
    | true =>
      have := eq_of_beq hb
      subst this
      simp [find]
  · cases h
/-! Cut at '=' -/
theorem find_eq : ∀ (s : Str) (i : Nat), find 61 s i = bif hasEq s then ((i + (eqL s).length : Nat) : Int) else -1
  | [], i => rfl
  | c :: s, i => by
    have ih := find_eq s (i + 1)
    simp only [find, hasEq, eqL, cutEq] at ih ⊢
    cases ch c == 61 with
    | true => simp
    | false =>
      simp only [cond_false] at ih ⊢
      rw [ih]
      cases cutEq s with
      | none => rfl
      | some p => simp; omega
theorem eq_parts : ∀ (s : Str), hasEq s = true → s.take (eqL s).length = eqL s ∧ s.drop ((eqL s).length + 1) = eqR s ∧ (eqL s).length < s.length
  | [], h => by cases h
  | c :: s, h => by
    simp only [hasEq, eqL, eqR, cutEq] at h ⊢
    cases hc : ch c == 61 with
    | true => simp
    | false =>
      rw [hc] at h
      have ih := eq_parts s
      simp only [hasEq, eqL, eqR] at ih
      cases hq : cutEq s with
      | none => rw [hq] at h; cases h
      | some p =>
        rw [hq] at ih
        obtain ⟨h1, h2, h3⟩ := ih rfl
        simp only [cond_false, Option.map_some, List.length_cons, List.take_succ_cons, List.drop_succ_cons, List.cons.injEq, true_and]
        exact ⟨h1, h2, Nat.succ_lt_succ h3⟩
theorem no_eq {s : Str} (h : hasEq s = false) : eqL s = s ∧ eqR s = [] := by
  unfold hasEq eqL eqR at *
  cases hq : cutEq s with
  | none => exact ⟨rfl, rfl⟩
  | some p => rw [hq] at h; cases h
theorem ok154 {T : Tab} : SpecOk T 154 sp154 := by
  intro args outs r outs' h
  unfold sp154 at h
  split at h
  · rename_i s
    obtain ⟨hs, rfl, rfl⟩ := row3 h
    have hs := ok_le hs
    refine bd154 (orc1 ok126) 0 ((ev154 _ s).trans ?_)
    have e : find (ch 61) s 0 = bif hasEq s then (((eqL s).length : Nat) : Int) else -1 := by
      have := find_eq s 0
      rw [Nat.zero_add] at this
      exact this
    cases hq : hasEq s with
    | false => obtain ⟨h1, h2⟩ := no_eq hq; rw [hq] at e; rw [e, h1, h2]; rfl
    | true =>
      obtain ⟨h1, h2, h3⟩ := eq_parts s hq
      rw [hq, cond_true] at e
      rw [e, show ((1 : Nat) : Int) = 1 from rfl, i64_succ (by omega), toN, dT (by omega), dT (by omega), dT (by omega), dT (by omega), toN, List.take_length, List.drop_zero, h1, h2]
      rfl
  · cases h
theorem ok140 {T : Tab} : SpecOk T 140 sp154 := by
  intro args outs r outs' h
  unfold sp154 at h
  split at h
  · rename_i s
    obtain ⟨hs, rfl, rfl⟩ := row3 h
    refine bd140 (orc1 ok154) 0 ((ev140 _ s).trans ?_)
    rw [hs]; rfl
  · cases h
theorem ok155 {T : Tab} : SpecOk T 155 sp153 := by
  intro args outs r outs' h
  unfold sp153 at h
  split at h
  · rename_i s p
    obtain ⟨-, rfl, rfl⟩ := row3 h
    exact bd155 (orc1 ok153) 0 (ev155 _ s p)
  · cases h
/-! Bytes, all of them -/
theorem all_bytes {p : UInt8 → Bool} (h : (List.range 256).all (fun n => p (UInt8.ofNat n)) = true) (c : UInt8) : p c = true := by
  have := List.all_eq_true.1 h c.toNat (List.mem_range.2 c.toNat_lt)
  simpa using this
def hexL : Str := [48, 49, 50, 51, 52, 53, 54, 55, 56, 57, 97, 98, 99, 100, 101, 102]
def hexOk (c : UInt8) : Bool := decide (find (ch (low c)) hexL 0 = (hexd c).getD (-1)) && (match hexd c with | some n => decide (0 ≤ n) && decide (n < 16) | none => true)
theorem hex_all : ∀ c, hexOk c = true := all_bytes (by kernel_rfl)
theorem hex_find (c : UInt8) : find (ch (low c)) hexL 0 = (hexd c).getD (-1) := by
  have := hex_all c
  simp only [hexOk, Bool.and_eq_true, decide_eq_true_eq] at this
  exact this.1
theorem hex_rng {c : UInt8} {n : Int} (h : hexd c = some n) : 0 ≤ n ∧ n < 16 := by
  have := hex_all c
  simp only [hexOk, h, Bool.and_eq_true, decide_eq_true_eq] at this
  exact this.2
def speL : Str := [44, 43, 34, 92, 60, 62, 59]
def mayL : Str := [44, 43, 34, 92, 60, 62, 59, 35, 61, 32]
theorem spe_all : ∀ c, (decide (find (ch c) speL 0 ≥ 0) == special c) = true := all_bytes (by kernel_rfl)
theorem may_all : ∀ c, (decide (find (ch c) mayL 0 ≥ 0) == mayEsc c) = true := all_bytes (by kernel_rfl)
theorem spe_find (c : UInt8) : decide (find (c.toNat : Int) [(44 : UInt8), 43, 34, 92, 60, 62, 59] 0 ≥ 0) = special c := eq_of_beq (spe_all c)
theorem may_find (c : UInt8) : decide (find (c.toNat : Int) [(44 : UInt8), 43, 34, 92, 60, 62, 59, 35, 61, 32] 0 ≥ 0) = mayEsc c := eq_of_beq (may_all c)
theorem two_all : (List.range 16).all (fun a => (List.range 16).all fun b => decide (IntKind.wrap .u8 (↑(BitVec.toNat (BitVec.ofInt 8 (IntKind.wrap .u8 ((a : Int) * 2 ^ 4)) ||| BitVec.ofInt 8 (b : Int))) : Int) = ch (UInt8.ofNat (16 * (a : Int) + (b : Int)).toNat))) = true := by kernel_rfl
theorem two_hex {a b : Int} (ha : 0 ≤ a ∧ a < 16) (hb : 0 ≤ b ∧ b < 16) : IntKind.wrap .u8 (↑(BitVec.toNat (BitVec.ofInt 8 (IntKind.wrap .u8 (a * 2 ^ 4)) ||| BitVec.ofInt 8 b)) : Int) = ch (UInt8.ofNat (16 * a + b).toNat) := by
  have h1 := List.all_eq_true.1 two_all a.toNat (List.mem_range.2 (by omega))
  have h2 := List.all_eq_true.1 h1 b.toNat (List.mem_range.2 (by omega))
  simp only [decide_eq_true_eq] at h2
  rw [Int.toNat_of_nonneg ha.1, Int.toNat_of_nonneg hb.1] at h2
  exact h2
theorem ok157 {T : Tab} : SpecOk T 157 sp157 := by
  intro args outs r outs' h
  unfold sp157 at h
  split at h
  · rename_i s i
    obtain ⟨hs, rfl, rfl⟩ := row3 h
    simp only [Bool.and_eq_true, decide_eq_true_eq] at hs
    obtain ⟨hs, hi⟩ := hs
    have hs := ok_le hs
    obtain ⟨j, rfl⟩ := Int.eq_ofNat_of_zero_le hi
    refine bd157 (orc_cons ok78 (orc1 ok156)) 0 ((ev157 _ s j).trans ?_)
    unfold digN digB digV
    rw [toN]
    by_cases h1 : j < s.length
    · rw [dF (by omega), i64_succ (by omega), toN, dT (by omega), dT (by omega), dT (by omega), dT (by omega)]
      simp only [cond_true, cond_false]
      have e : List.drop j (List.take (j + 1) s) = [s[j]] := by
        rw [List.take_succ_eq_append_getElem h1, List.drop_append_of_le_length (by simp; omega), List.drop_of_length_le (by simp; omega)]; rfl
      have e2 : (List.drop j s).head? = some s[j] := by simp [h1]
      rw [e, e2, le_ok (by simp), dT (by simp [lower])]
      simp only [cond_true, lower, List.map_cons, List.map_nil, List.getD_cons_zero]
      rw [isB_ch]
      simp only [cond_true, Option.bind_some]
      generalize hc : s[j] = c
      have hf : find (↑(UInt8.toNat (low c)) : Int) hexL 0 = (hexd c).getD (-1) := hex_find c
      show some (V.tup [V.int .u8 (IntKind.wrap .u8 (bif decide (0 > find (↑(UInt8.toNat (low c)) : Int) hexL 0) then 0 else find (↑(UInt8.toNat (low c)) : Int) hexL 0)), V.bool (decide (find (↑(UInt8.toNat (low c)) : Int) hexL 0 ≥ 0))], []) = _
      rw [hf]
      cases hx : hexd c with
      | none => rfl
      | some n =>
        have := hex_rng hx
        simp only [Option.getD_some, Option.isSome_some]
        rw [dF (by omega), dT (by omega)]
        simp only [cond_false]
        rw [IntWalk.u8_in _ (by omega)]
    · have e2 : List.drop j s = [] := List.drop_of_length_le (by omega)
      rw [dT (by omega), e2]; rfl
  · cases h
end Go.Ev
/-
  What the program's functions answer: a text's pieces; values that were written.
-/
namespace Go.Ev
open Go.Proofs Go.Ev.Sp
theorem slice_mid (d a p : Str) : List.drop d.length (List.take (d.length + a.length) (d ++ (a ++ p))) = a := by
  rw [← List.append_assoc, List.take_left' (by simp), List.drop_left' rfl]
theorem lp120_end (n : Nat) (x : Int) (d a : Str) (i m : Nat) (out : List Str) (hi : (d ++ a).length ≤ i) (ho : out.length ≤ 1000000001) :
    L120_4 n (m + 1) (d ++ a) x (d.length : Nat) (i : Nat) out = some (.sl .str (out ++ [a]), []) := by
  rw [rd120_4, dF (by omega)]
  simp only [cond_false]
  rw [dT (by omega), dT (by simp; omega), List.take_length, toN, List.drop_left' rfl, Nat.ble_eq_true_of_le (show out.length + _ ≤ 1073741824 by simp; omega)]
  rfl
theorem lp120 (n : Nat) (x : Int) : ∀ (k : Nat) (post acc done : Str) (m : Nat) (out : List Str), post.length ≤ k → post.length < m → done.length + acc.length + post.length ≤ 1000000000 → out.length ≤ done.length →
    L120_4 n m (done ++ (acc ++ post)) x (done.length : Nat) ((done.length + acc.length : Nat) : Int) out = some (.sl .str (out ++ cutA x k post acc), [])
  | k, [], acc, done, m, out, hk, hm, hl, ho => by
    obtain ⟨m, rfl, -⟩ := pos_m hm
    have := lp120_end n x done acc (done.length + acc.length) m out (by simp) (by omega)
    rw [List.append_nil, this]
    cases k <;> simp [cutA]
  | 0, _ :: _, _, _, _, _, hk, _, _, _ => by simp at hk
  | k + 1, c :: post, acc, done, m, out, hk, hm, hl, ho => by
    obtain ⟨m, rfl, hm⟩ := pos_m hm
    simp only [List.length_cons] at hl hm hk
    have hlen : (done ++ (acc ++ c :: post)).length = done.length + acc.length + (post.length + 1) := by simp; omega
    have hget : List.getD (done ++ (acc ++ c :: post)) (done.length + acc.length) 0 = c := by
      have := mid (done ++ acc) post c 0
      rw [List.length_append, List.append_assoc] at this
      exact this
    rw [rd120_4, i64_succ (by omega), i64_succ (by omega), toN, hget, toN, slice_mid, dT (by omega), dT (by omega), dT (by omega), dT (by omega), dT (by omega), Nat.ble_eq_true_of_le (show out.length + _ ≤ 1073741824 by simp; omega)]
    simp only [cond_true, cutA]
    cases h1 : ch c == 92 with
    | true =>
      simp only [cond_true]
      cases post with
      | nil =>
        have := lp120_end n x done (acc ++ [c]) (done.length + acc.length + 1 + 1) (m - 1) out (by simp; omega) (by omega)
        rw [show m - 1 + 1 = m by omega] at this
        exact this
      | cons e post =>
        simp only [List.length_cons] at hl hm hk
        have := lp120 n x k post (acc ++ [c, e]) done m out (by omega) (by omega) (by simp; omega) ho
        rw [show (acc ++ [c, e]) ++ post = acc ++ c :: e :: post by simp, show done.length + (acc ++ [c, e]).length = done.length + acc.length + 1 + 1 by simp; omega] at this
        exact this
    | false =>
      simp only [cond_false]
      cases h2 : ch c == x with
      | true =>
        simp only [cond_true]
        have := lp120 n x k post [] (done ++ (acc ++ [c])) m (out ++ [acc]) (by omega) (by omega) (by simp; omega) (by simp; omega)
        rw [show (done ++ (acc ++ [c])) ++ ([] ++ post) = done ++ (acc ++ c :: post) by simp, show (done ++ (acc ++ [c])).length = done.length + acc.length + 1 by simp; omega] at this
        rw [List.append_assoc] at this
        exact this
      | false =>
        simp only [cond_false]
        have := lp120 n x k post (acc ++ [c]) done m out (by omega) (by omega) (by simp; omega) ho
        rw [show (acc ++ [c]) ++ post = acc ++ c :: post by simp, show done.length + (acc ++ [c]).length = done.length + acc.length + 1 by simp; omega] at this
        exact this
theorem ok120 {T : Tab} : SpecOk T 120 sp120 := by
  intro args outs r outs' h
  unfold sp120 at h
  split at h
  · rename_i s x
    obtain ⟨hs, rfl, rfl⟩ := row3 h
    have hs := ok_le hs
    exact bd120 orc_nil (s.length + 1) ((ev120 _ s x).trans (lp120 _ x s.length s [] [] (s.length + 1) [] (Nat.le_refl _) (by omega) (by simp; omega) (by simp)))
  · cases h

/-! Unescape -/
def unV (out : Str) : Option (Str × Bool) → V
  | some p => .tup [.str (out ++ p.1), .bool p.2]
  | none => .tup [.str [], .bool false]
theorem bs_snoc (s : Str) (c : UInt8) : bs s ++ [ch c] = bs (s ++ [c]) := by simp [bs, ch]
theorem ble_row {α : Type} {l : List α} {x : α} (h : l.length ≤ 1000000000) : Nat.ble (l.length + [x].length) 1073741824 = true := Nat.ble_eq_true_of_le (by simp; omega)
theorem lp141 (n : Nat) : ∀ (k : Nat) (post pre out : Str) (b : Bool) (m : Nat), post.length ≤ k → post.length < m → pre.length + post.length ≤ 1000000000 → out.length ≤ pre.length →
    L141_6 n m (pre ++ post) b (pre.length : Nat) (bs out) = some (unV out (unescA k post b), [])
  | k, [], pre, out, b, m, hk, hm, hl, ho => by
    obtain ⟨m, rfl, -⟩ := pos_m hm
    rw [rd141_6, dF (by simp), of_bs]
    cases k <;> simp [unescA, unV]
  | 0, _ :: _, _, _, _, _, hk, _, _, _ => by simp at hk
  | k + 1, c :: post, pre, out, b, m, hk, hm, hl, ho => by
    obtain ⟨m, rfl, hm⟩ := pos_m hm
    simp only [List.length_cons] at hl hm hk
    have hlen : (pre ++ c :: post).length = pre.length + (post.length + 1) := by simp
    have hbl : (bs out).length = out.length := bs_len out
    rw [rd141_6, i64_succ (by omega), i64_succ (by omega), i64_succ (by omega), toN, mid, toN, dT (by omega), dT (by omega), isB_ch, isB_ch, ble_row (by omega)]
    simp only [cond_true, unescA]
    have hok : ok (pre ++ c :: post) = true := le_ok (by omega)
    cases h1 : ch c == 92 with
    | true =>
      rw [hok]
      simp only [cond_true]
      have h32 : ((c.toNat : Int) == 32) = false := by
        have h1 : (c.toNat : Int) = 92 := eq_of_beq h1
        rw [h1]; rfl
      rw [h32]
      cases post with
      | nil =>
        rw [dF (by simp)]
        simp only [cond_false]
        have e1 : digB (pre ++ [c]) ((pre.length + 1 : Nat) : Int) = false := by
          unfold digB digV
          rw [toN, List.drop_of_length_le (by simp)]; rfl
        rw [e1, dT (by omega), dT (by omega)]
        rfl
      | cons e post =>
        simp only [List.length_cons] at hl hm hk hlen
        have g1 : List.getD (pre ++ c :: e :: post) (pre.length + 1) 0 = e := by
          have := mid (pre ++ [c]) post e 0
          rw [← app_mid, len_snoc] at this
          exact this
        have d1 : List.drop (pre.length + 1) (pre ++ c :: e :: post) = e :: post := by
          rw [app_mid, List.drop_left' (by simp)]
        have d2 : List.drop (pre.length + 1 + 1) (pre ++ c :: e :: post) = post := by
          rw [show pre ++ c :: e :: post = (pre ++ [c, e]) ++ post by simp, List.drop_left' (by simp)]
        rw [dT (by omega), dT (by omega), g1, may_find, dT (by omega)]
        simp only [cond_true, Bool.and_self]
        cases hme : mayEsc e with
        | true =>
          simp only [cond_true]
          have e3 : bs out ++ [(e.toNat : Int)] = bs (out ++ [e]) := bs_snoc out e
          rw [e3]
          have ih := lp141 n k post (pre ++ [c, e]) (out ++ [e]) false m (by omega) (by omega) (by simp; omega) (by simp; omega)
          rw [show (pre ++ [c, e]) ++ post = pre ++ c :: e :: post by simp, show (pre ++ [c, e]).length = pre.length + 1 + 1 by simp] at ih
          rw [ih]
          cases unescA k post false with
          | none => rfl
          | some p => simp [unV]
        | false =>
          simp only [cond_false]
          have e1 : digV (pre ++ c :: e :: post) ((pre.length + 1 : Nat) : Int) = hexd e := by unfold digV; rw [toN, d1]; rfl
          have e2 : digV (pre ++ c :: e :: post) ((pre.length + 1 + 1 : Nat) : Int) = post.head?.bind hexd := by unfold digV; rw [toN, d2]
          unfold digB digN
          rw [e1, e2]
          cases hx1 : hexd e with
          | none => rfl
          | some a =>
            cases post with
            | nil => rfl
            | cons f post =>
              simp only [List.head?_cons, Option.bind_some]
              cases hx2 : hexd f with
              | none => rfl
              | some a2 =>
                simp only [List.length_cons] at hl hm hk
                simp only [Option.isSome_some, Bool.not_true, cond_false, Option.getD_some]
                rw [two_hex (hex_rng hx1) (hex_rng hx2), ble_row (by omega), bs_snoc]
                simp only [cond_true]
                have ih := lp141 n k post (pre ++ [c, e, f]) (out ++ [UInt8.ofNat (16 * a + a2).toNat]) false m (by omega) (by omega) (by simp; omega) (by simp; omega)
                rw [show (pre ++ [c, e, f]) ++ post = pre ++ c :: e :: f :: post by simp, show (pre ++ [c, e, f]).length = pre.length + 1 + 1 + 1 by simp] at ih
                rw [ih]
                cases unescA k post false with
                | none => rfl
                | some p => simp [unV]
    | false =>
      rw [spe_find]
      simp only [cond_false]
      cases hsp : special c with
      | true => rfl
      | false =>
        simp only [cond_false]
        have e3 : bs out ++ [(c.toNat : Int)] = bs (out ++ [c]) := bs_snoc out c
        rw [e3]
        have ih := lp141 n k post (pre ++ [c]) (out ++ [c]) (ch c == 32) m (by omega) (by omega) (by simp; omega) (by simp; omega)
        rw [← app_mid, len_snoc] at ih
        rw [show ((c.toNat : Int) == 32) = (ch c == 32) from rfl, ih, ble_row (by omega)]
        cases unescA k post (ch c == 32) with
        | none => rfl
        | some p => simp [unV]
theorem hasPre1 (s : Str) (c : UInt8) : hasPre s [c] = (match s with | [] => false | d :: _ => d == c) := by
  cases s with
  | nil => rfl
  | cons d s =>
    unfold hasPre
    simp
theorem ok141 {T : Tab} : SpecOk T 141 sp141 := by
  intro args outs r outs' h
  unfold sp141 at h
  split at h
  · rename_i s
    obtain ⟨hs, rfl, rfl⟩ := row3 h
    have hs := ok_le hs
    refine bd141 (orc_cons ok155 (orc_cons ok156 (orc1 ok157))) (s.length + 1) ((ev141 _ s).trans ?_)
    rw [hasPre1, hasPre1]
    have lp := lp141 (s.length + 1) s.length s [] [] false (s.length + 1) (Nat.le_refl _) (by omega) (by simp; omega) (by simp)
    have lp' : L141_6 (s.length + 1) (s.length + 1) s false 0 [] = _ := lp
    rw [lp']
    unfold unescP
    cases s with
    | nil => rfl
    | cons c s =>
      simp only
      rw [show (c == (35 : UInt8)) = (ch c == 35) from (ch_eq (n := 35) (by decide)).symm, show (c == (32 : UInt8)) = (ch c == 32) from (ch_eq (n := 32) (by decide)).symm]
      cases ch c == 35 <;> cases ch c == 32 <;> simp only [cond_true, cond_false, Bool.true_or, Bool.or_true, Bool.or_self]
      cases unescA (c :: s).length (c :: s) false <;> rfl
  · cases h
end Go.Ev
