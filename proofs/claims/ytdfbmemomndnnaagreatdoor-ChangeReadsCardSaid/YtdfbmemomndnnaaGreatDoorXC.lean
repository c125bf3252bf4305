/-
  The readers of heads and of numbers answer as told.
-/
import Derived.Test.YtdfbmemomndnnaaGreatDoorXB
import Derived.Test.YtdfbmemomndnnaaGreatDoorZU
import Derived.Test.YtdfbmemomndnnaaGreatDoorZT
import Derived.Test.YtdfbmemomndnnaaGreatDoorZW
namespace Go.Ev
open Go.Proofs Go.Ev.Sp
theorem ch_w (c : UInt8) : IntKind.wrap .i64 (ch c) = ch c := by
  have := c.toNat_lt
  exact IntWalk.i64_in _ (by unfold ch; omega)
theorem w64 {i : Int} (h : 0 ≤ i) (h2 : i < 9223372036854775808) : IntKind.wrap .i64 i = i := IntWalk.i64_in _ (by omega)
theorem step8_eq {a : Int} (h : 0 ≤ a) (h2 : a < 281474976710656) (c : UInt8) : step8 a c = a * 256 + ch c := by
  obtain ⟨k, rfl⟩ : ∃ k : Nat, a = k := ⟨a.toNat, by omega⟩
  have hc := c.toNat_lt
  unfold step8
  rw [ch_w, w64 (i := (k : Int) * 2 ^ 8) (by omega) (by omega)]
  have e1 : BitVec.ofInt 64 ((k : Int) * 2 ^ 8) = BitVec.ofNat 64 (k * 256) := by
    rw [show (k : Int) * 2 ^ 8 = ((k * 256 : Nat) : Int) by omega, BitVec.ofInt_natCast]
  have e2 : BitVec.ofInt 64 (ch c) = BitVec.ofNat 64 c.toNat := by unfold ch; rw [BitVec.ofInt_natCast]
  rw [e1, e2, BitVec.toNat_or, BitVec.toNat_ofNat, BitVec.toNat_ofNat, Nat.mod_eq_of_lt (by omega), Nat.mod_eq_of_lt (by omega)]
  have e3 : k * 256 ||| c.toNat = k * 256 + c.toNat := by
    have := Nat.shiftLeft_add_eq_or_of_lt (i := 8) (b := c.toNat) (by omega) k
    rw [Nat.shiftLeft_eq] at this
    exact this.symm
  rw [e3, w64 (by omega) (by omega)]
  unfold ch
  omega
theorem cat8_nn : ∀ (s : Str) (a : Int) (j : Nat), 0 ≤ a → a < 2 ^ (8 * j) → j + s.length ≤ 6 → 0 ≤ cat8 a s
  | [], _, _, h, _, _ => h
  | c :: s, a, j, h, h2, hl => by
    have hc := c.toNat_lt
    simp only [List.length_cons] at hl
    have hj : (2 : Int) ^ (8 * (j + 1)) = 2 ^ (8 * j) * 256 := by rw [show 8 * (j + 1) = 8 * j + 8 by omega, Int.pow_add]; rfl
    have hb : (2 : Int) ^ (8 * j) ≤ 2 ^ (8 * 5) := by
      have := Nat.pow_le_pow_right (show 0 < 2 by decide) (show 8 * j ≤ 8 * 5 by omega)
      exact_mod_cast this
    have e := step8_eq h (by omega) c
    show 0 ≤ cat8 (step8 a c) s
    refine cat8_nn s _ (j + 1) ?_ ?_ (by omega)
    · rw [e]; unfold ch; omega
    · rw [e, hj]; unfold ch; omega
theorem lp86 (n : Nat) (k : Int) : ∀ (post pre : Str) (m : Nat) (a : Int), post.length < m → pre.length + post.length ≤ 1000000000 →
    L86_17 n m a k ((pre ++ post).length : Int) (pre.length : Int) (bs (pre ++ post)) = bif decide (cat8 a post > 4000) then some (.tup [.int .i64 0, .int .i64 0, .int .i64 13], []) else some (.tup [.int .i64 (IntKind.wrap .i64 (2 + k)), .int .i64 (cat8 a post), .int .i64 0], [])
  | [], pre, m, a, hm, hl => by
    obtain ⟨m, rfl, hm⟩ := pos_m hm
    rw [rd86_17, dF (by simp)]
    rfl
  | c :: post, pre, m, a, hm, hl => by
    obtain ⟨m, rfl, hm⟩ := pos_m hm
    simp only [List.length_cons] at hl
    have ih := lp86 n k post (pre ++ [c]) m (step8 a c) (by simp at hm; omega) (by simp; omega)
    rw [rd86_17, dT (by simp; omega), i64_succ (i := pre.length) (by omega), toN, bs_mid, dle0, dT (by simp [bs]; omega)]
    rw [len_snoc, ← app_mid] at ih
    exact ih
theorem lp86' (n m : Nat) (k : Int) (s : Str) (h : s.length < m) (hl : s.length ≤ 1000000000) : L86_17 n m 0 k (s.length : Int) 0 (bs s) = bif decide (cat8 0 s > 4000) then some (.tup [.int .i64 0, .int .i64 0, .int .i64 13], []) else some (.tup [.int .i64 (IntKind.wrap .i64 (2 + k)), .int .i64 (cat8 0 s), .int .i64 0], []) :=
  lp86 n k s [] m 0 h (by simpa using hl)
theorem headF_cons (c : UInt8) (r : Str) : headF (c :: r) = bif band (ch c) 31 == 31 then ((0, 0, 14) : Int × Int × Int) else match r with
      | [] => (0, 0, 10)
      | d :: q => bif ch d == 128 || decide (ch d > 132) then (0, 0, 11) else bif decide (ch d > 128) then
          (bif decide ((q.length : Int) < ch d - 128) then (0, 0, 10) else
           bif decide (cat8 0 (q.take (ch d - 128).toNat) > 4000) then (0, 0, 13) else (2 + (ch d - 128), cat8 0 (q.take (ch d - 128).toNat), 0)) else (2, ch d, 0) := rfl
theorem an86 (s : Str) (h : s.length ≤ 1000000000) : evalBody E c0 86 Tryz.f86 (s.length + 1) [.str s] [] = some (.tup [.int .i64 (headF s).1, .int .i64 (headF s).2.1, .int .i64 (headF s).2.2], []) := by
  rw [ev86]
  cases s with
  | nil => rfl
  | cons c r =>
    rw [show ((c :: r) == []) = false from rfl, cond_false, dT (by simp <;> omega)]
    simp only [cond_true]
    rw [headF_cons]
    show (bif band (ch c) 31 == 31 then _ else _) = _
    cases band (ch c) 31 == 31 with
    | true => rfl
    | false =>
      simp only [cond_false]
      cases r with
      | nil => rfl
      | cons d q =>
        have hd := d.toNat_lt
        have e1 : (((c :: d :: q).length : Int) == 1) = false := by simp; omega
        have e2 : ((List.getD (c :: d :: q) 1 0)) = d := rfl
        rw [e1, e2]
        simp only [cond_false]
        rw [dT (by simp; omega)]
        simp only [cond_true]
        rw [show IntKind.wrap .i64 (↑d.toNat : Int) = ch d from ch_w d]
        cases ch d == 128 with
        | true => rfl
        | false =>
          simp only [cond_false, Bool.false_or]
          by_cases h1 : ch d > 132
          · rw [dT h1]; rfl
          · rw [dF h1]
            simp only [cond_false]
            by_cases h2 : ch d > 128
            · rw [dT h2]
              simp only [cond_true]
              obtain ⟨k, hk⟩ : ∃ k : Nat, ch d - 128 = k := ⟨(ch d - 128).toNat, by omega⟩
              have hk4 : k ≤ 4 := by omega
              rw [hk, w64 (i := (k : Int)) (by omega) (by omega), w64 (i := 2 + (k : Int)) (by omega) (by omega)]
              have hlen : ((c :: d :: q).length : Int) = q.length + 2 := by simp; omega
              by_cases h3 : (((c :: d :: q).length : Int) < 2 + k)
              · have h3' : (q.length : Int) < k := by omega
                rw [dT h3, dT h3']; rfl
              · have h3' : ¬ ((q.length : Int) < k) := by omega
                rw [dF h3, dF h3']
                simp only [cond_false]
                have p1 : (0 : Int) ≤ 2 + k := by omega
                have p2 : 2 + (k : Int) ≤ ((c :: d :: q).length : Int) := by omega
                rw [dT p1, dT p2]
                rw [cond_true, cond_true]
                have e4 : ((2 + (k : Int)).toNat) = k + 2 := by omega
                have p3 : (2 : Int) ≤ ((k + 2 : Nat) : Int) := by omega
                rw [e4, dT p3, cond_true]
                have e5 : List.drop 2 (List.take (k + 2) (c :: d :: q)) = q.take k := rfl
                rw [e5]
                have e6 : ((List.map (fun (x : UInt8) => (↑(UInt8.toNat x) : Int)) (q.take k)).length : Int) = ((q.take k).length : Int) := by simp
                have ht : (q.take k).length ≤ 4 := by simp; omega
                have ht2 : (q.take k).length < (c :: d :: q).length + 1 := by simp; omega
                rw [e6, show List.map (fun (x : UInt8) => (↑(UInt8.toNat x) : Int)) (q.take k) = bs (q.take k) from rfl, lp86' _ _ _ _ ht2 (by omega)]
                rw [toN, w64 (i := 2 + (k : Int)) (by omega) (by omega)]
                cases decide (cat8 0 (q.take k) > 4000) <;> rfl
            · rw [dF h2]
              simp only [cond_false]
              rw [dF (by omega)]
              rfl
theorem ok86 {T : Tab} : SpecOk T 86 sp86 := by
  intro args outs r outs' h
  unfold sp86 at h
  split at h
  · obtain ⟨hg, rfl, rfl⟩ := row3 h
    exact bd86 orc_nil _ (an86 _ (ok_le hg))
  · cases h
theorem lp44 (n : Nat) (s : Str) : ∀ (post pre : Str) (m : Nat) (a : Int), post.length < m → pre.length + post.length ≤ 1000000000 → isI64 a = true →
    L44_7 n m s a ((pre ++ post).length : Int) (pre.length : Int) (bs (pre ++ post)) = bif !(intB (cat8 a post) == s) then some (.tup [.int .i64 0, .bool false], []) else some (.tup [.int .i64 (cat8 a post), .bool true], [])
  | [], pre, m, a, hm, hl, ha => by
    obtain ⟨m, rfl, hm⟩ := pos_m hm
    rw [rd44_7, dF (by simp), ha]
    rfl
  | c :: post, pre, m, a, hm, hl, ha => by
    obtain ⟨m, rfl, hm⟩ := pos_m hm
    simp only [List.length_cons] at hl
    have ih := lp44 n s post (pre ++ [c]) m (step8 a c) (by simp at hm; omega) (by simp; omega) (wrap_i64 _)
    rw [rd44_7, dT (by simp; omega), i64_succ (i := pre.length) (by omega), toN, bs_mid, dle0, dT (by simp [bs]; omega)]
    rw [len_snoc, ← app_mid] at ih
    exact ih
theorem lp44' (n m : Nat) (s0 s : Str) (a : Int) (h : s.length < m) (hl : s.length ≤ 1000000000) (ha : isI64 a = true) : L44_7 n m s0 a (s.length : Int) 0 (bs s) = bif !(intB (cat8 a s) == s0) then some (.tup [.int .i64 0, .bool false], []) else some (.tup [.int .i64 (cat8 a s), .bool true], []) :=
  lp44 n s0 s [] m a h (by simpa using hl) ha
theorem cat8_i64 : ∀ (s : Str) (a : Int), isI64 a = true → isI64 (cat8 a s) = true
  | [], _, h => h
  | c :: s, _, _ => cat8_i64 s _ (wrap_i64 _)
theorem rdN_i64 (s : Str) : isI64 (rdN s) = true := by
  unfold rdN
  refine cat8_i64 s _ ?_
  cases band (ch (s.getD 0 0)) 128 == 0 <;> rfl
theorem rdI_i64 (s : Str) : isI64 (rdI s) = true := by
  unfold rdI
  cases rdOk s
  · rfl
  · exact rdN_i64 s
theorem an44 (s : Str) (h : s.length ≤ 1000000000) : evalBody E c44 44 Tryz.f44 (s.length + 1) [.str s] [] = some (.tup [.int .i64 (rdI s), .bool (rdOk s)], []) := by
  rw [ev44]
  cases s with
  | nil => rfl
  | cons c r =>
    rw [show ((c :: r) == []) = false from rfl, cond_false]
    by_cases h8 : (((c :: r).length : Int) > 8)
    · rw [dT h8]
      have : rdOk (c :: r) = false := by
        unfold rdOk
        rw [nble (a := (c :: r).length) (b := 8) (by omega)]
        simp
      unfold rdI
      rw [this]; rfl
    · rw [dF h8, dT (by simp <;> omega)]
      simp only [cond_false, cond_true]
      have e6 : ((List.map (fun (x : UInt8) => (↑(UInt8.toNat x) : Int)) (c :: r)).length : Int) = ((c :: r).length : Int) := by simp
      rw [e6]
      have hA : ∀ a : Int, isI64 a = true → L44_7 ((c :: r).length + 1) ((c :: r).length + 1) (c :: r) a ((c :: r).length : Int) 0 (bs (c :: r)) = bif !(intB (cat8 a (c :: r)) == (c :: r)) then some (.tup [.int .i64 0, .bool false], []) else some (.tup [.int .i64 (cat8 a (c :: r)), .bool true], []) := fun a ha =>
        lp44' _ _ _ _ a (by omega) (by simpa using h) ha
      have h9 : Nat.ble (c :: r).length 8 = true := Nat.ble_eq_true_of_le (by omega)
      have e7 : rdOk (c :: r) = (intB (rdN (c :: r)) == (c :: r)) := by
        unfold rdOk
        rw [h9]; rfl
      have fin : (bif !(intB (rdN (c :: r)) == (c :: r)) then some (V.tup [.int .i64 0, .bool false], ([] : List (List V))) else some (.tup [.int .i64 (rdN (c :: r)), .bool true], [])) = some (.tup [.int .i64 (rdI (c :: r)), .bool (rdOk (c :: r))], []) := by
        unfold rdI
        rw [e7]
        cases intB (rdN (c :: r)) == (c :: r) <;> rfl
      refine Eq.trans ?_ fin
      show (bif band (ch c) 128 != 0 then L44_7 _ _ (c :: r) (-1) _ 0 (bs (c :: r)) else L44_7 _ _ (c :: r) 0 _ 0 (bs (c :: r))) = _
      have e8 : rdN (c :: r) = cat8 (bif band (ch c) 128 == 0 then 0 else -1) (c :: r) := rfl
      rw [e8, hA _ rfl, hA _ rfl]
      cases hb : (band (ch c) 128 == 0) with
      | true => rw [show (band (ch c) 128 != 0) = false by simp [bne, hb]]; rfl
      | false => rw [show (band (ch c) 128 != 0) = true by simp [bne, hb]]; rfl
theorem ok44 {T : Tab} : SpecOk T 44 sp44 := by
  intro args outs r outs' h
  unfold sp44 at h
  split at h
  · obtain ⟨hg, rfl, rfl⟩ := row3 h
    exact bd44 (orc1 ok46) _ (an44 _ (ok_le hg))
  · cases h
end Go.Ev
/-
  The reader of elements answers as told; what it reads lies within bounds.
-/
namespace Go.Ev
open Go.Proofs Go.Ev.Sp
theorem head_ok (s : Str) : (headF s).2.2 = 0 → 2 ≤ (headF s).1 ∧ (headF s).1 ≤ 6 ∧ 0 ≤ (headF s).2.1 ∧ (headF s).2.1 ≤ 4000 := by
  cases s with
  | nil => intro h; cases h
  | cons c r =>
    rw [headF_cons]
    cases band (ch c) 31 == 31 with
    | true => intro h; cases h
    | false =>
      cases r with
      | nil => intro h; cases h
      | cons d q =>
        have hd := d.toNat_lt
        simp only [cond_false]
        cases hb : (ch d == 128 || decide (ch d > 132)) with
        | true => intro h; cases h
        | false =>
          simp only [Bool.or_eq_false_iff, decide_eq_false_iff_not] at hb
          by_cases h2 : ch d > 128
          · rw [dT h2]
            simp only [cond_true, cond_false]
            cases decide ((q.length : Int) < ch d - 128) with
            | true => intro h; cases h
            | false =>
              by_cases h4 : cat8 0 (q.take (ch d - 128).toNat) > 4000
              · rw [dT h4]; intro h; cases h
              · rw [dF h4]
                intro _
                have := cat8_nn (q.take (ch d - 128).toNat) 0 0 (by omega) (by decide) (by simp; omega)
                refine ⟨?_, ?_, this, ?_⟩
                · show 2 ≤ 2 + (ch d - 128); omega
                · show 2 + (ch d - 128) ≤ 6; omega
                · show cat8 0 (q.take (ch d - 128).toNat) ≤ 4000; omega
          · rw [dF h2]
            intro _
            refine ⟨?_, ?_, ?_, ?_⟩
            · show (2 : Int) ≤ 2; decide
            · show (2 : Int) ≤ 6; decide
            · show 0 ≤ ch d; unfold ch; omega
            · show ch d ≤ 4000; omega
theorem rdG_of {d : Nat} {raw : Str} {p e dep : Int} (h : rdG d raw p e dep = true) : raw.length ≤ 1000000000 ∧ 0 < d ∧ 0 ≤ p ∧ p ≤ e ∧ e ≤ raw.length ∧ 1 ≤ dep ∧ dep ≤ 21 ∧ 22 ≤ (d : Int) + dep := by
  unfold rdG at h
  simp only [Bool.and_eq_true, decide_eq_true_eq] at h
  obtain ⟨⟨⟨⟨⟨⟨⟨h1, h2⟩, h3⟩, h4⟩, h5⟩, h6⟩, h7⟩, h8⟩ := h
  exact ⟨ok_le h1, Nat.le_of_ble_eq_true h2, h3, h4, h5, h6, h7, h8⟩
theorem rdG_mk {d : Nat} {raw : Str} {p e dep : Int} (h1 : raw.length ≤ 1000000000) (h2 : 0 < d) (h3 : 0 ≤ p) (h4 : p ≤ e) (h5 : e ≤ raw.length) (h6 : 1 ≤ dep) (h7 : dep ≤ 21) (h8 : 22 ≤ (d : Int) + dep) : rdG d raw p e dep = true := by
  unfold rdG
  rw [le_ok h1, dT h3, dT h4, dT h5, dT h6, dT h7, dT h8]
  have : Nat.blt 0 d = true := Nat.ble_eq_true_of_le h2
  rw [this]; rfl
theorem readF_succ (d : Nat) (raw : Str) (p e dep : Int) : readF (d + 1) raw p e dep = bif decide (dep > 20) then ⟨e0, 0, 12, p⟩ else readB (fun q stop => readF d raw q stop (dep + 1)) raw p e dep (headF (slc raw p e)) := rfl
theorem ne_beq {a b : Int} (h : ¬ a = b) : (a == b) = false := by simpa using h
/-- Reading goes on, and not beyond its end. -/
theorem readF_next {d : Nat} {raw : Str} {p e dep : Int} : (readF d raw p e dep).err = 0 → p + 2 ≤ (readF d raw p e dep).next ∧ (readF d raw p e dep).next ≤ e := by
  cases d with
  | zero => intro h; cases h
  | succ d =>
    rw [readF_succ]
    cases decide (dep > 20) with
    | true => intro h; cases h
    | false =>
      simp only [cond_false]
      have hh := head_ok (slc raw p e)
      generalize headF (slc raw p e) = h at hh
      obtain ⟨hl, hn, he⟩ := h
      unfold readB
      by_cases h0 : he = 0
      · obtain ⟨k1, k2, k3, k4⟩ := hh h0
        subst h0
        simp only at k1 k2 k3 k4
        simp only [beq_self_eq_true, cond_true]
        by_cases h1 : hn > e - p - hl
        · rw [dT h1]
          cases decide (dep > 1) with
          | true => intro h; cases h
          | false => intro h; cases h
        · rw [dF h1]
          simp only [cond_false]
          cases band (ch (raw.getD p.toNat 0)) 32 == 0 with
          | true => intro _; constructor <;> (simp only [cond_true]; omega)
          | false =>
            simp only [cond_false]
            generalize kidsF _ _ _ _ _ _ = r
            unfold kidsR
            cases hr : r.err == 0 with
            | true => intro _; constructor <;> (simp only [cond_true]; omega)
            | false => intro h; simp only [cond_false] at h; rw [h] at hr; cases hr
      · intro h
        rw [show ((hl, hn, he).2.2 == 0) = false from ne_beq h0] at h
        simp only [cond_false] at h
        cases hb : (he == 10 && decide (dep > 1)) with
        | true => rw [hb] at h; cases h
        | false => rw [hb] at h; exact absurd h h0
def out64 (tag stop : Int) (raw : Str) (r : Rdg) : Option (V × List (List V)) :=
  some (.tup [.agg [.int .u8 (kidsR tag stop r).e.tag, .str (kidsR tag stop r).e.body, .sl .elem (kidsR tag stop r).e.kids], .int .i64 (kidsR tag stop r).next, .int .i64 (kidsR tag stop r).err], [[.str raw, .int .i64 (kidsR tag stop r).at']])
theorem lp64 (d n : Nat) (raw : Str) (dep hn st tag : Int) (hraw : raw.length ≤ 1000000000) (hst : 0 ≤ st) (hn0 : 0 ≤ hn) (hsl : st + hn ≤ raw.length) (hd1 : 1 ≤ dep) (hd2 : dep ≤ 20) (hdd : 21 ≤ (d : Int) + dep) :
    ∀ (k : Nat) (pos a : Int) (acc : List Elem) (m f : Nat), (st + hn - pos).toNat ≤ k → 0 ≤ pos → k < m → k < f → acc.length + k ≤ 1000000000 →
      L64_17 d n m dep hn st pos 0 [] tag [] [] acc raw a = out64 tag (st + hn) raw (kidsF (fun q => readF d raw q (st + hn) (dep + 1)) (st + hn) f pos acc a) := by
  intro k
  induction k with
  | zero =>
    intro pos a acc m f hk hp hm hf hacc
    obtain ⟨m, rfl, hm⟩ := pos_m hm
    obtain ⟨f, rfl, hf⟩ := pos_m hf
    rw [rd64_17, w64 (i := st + hn) (by omega) (by omega)]
    unfold kidsF
    rw [dF (p := pos < st + hn) (by omega)]
    rfl
  | succ k ih =>
    intro pos a acc m f hk hp hm hf hacc
    obtain ⟨m, rfl, hm⟩ := pos_m hm
    obtain ⟨f, rfl, hf⟩ := pos_m hf
    rw [rd64_17, w64 (i := st + hn) (by omega) (by omega), w64 (i := dep + 1) (by omega) (by omega)]
    unfold kidsF
    by_cases hlt : pos < st + hn
    · rw [dT hlt, rdG_mk hraw (by omega) hp (by omega) hsl (by omega) (by omega) (by omega)]
      simp only [cond_true]
      have hnx := readF_next (d := d) (raw := raw) (p := pos) (e := st + hn) (dep := dep + 1)
      cases he : (readF d raw pos (st + hn) (dep + 1)).err == 0 with
      | false =>
        rw [show ((readF d raw pos (st + hn) (dep + 1)).err != 0) = true by simp [bne, he]]
        unfold out64 kidsR
        simp only [Bool.not_false, cond_true]
        rw [he]
        rfl
      | true =>
        rw [show ((readF d raw pos (st + hn) (dep + 1)).err != 0) = false by simp [bne, he]]
        obtain ⟨n1, n2⟩ := hnx (eq_of_beq he)
        simp only [Bool.not_true, cond_false, elem_eta]
        rw [ble_row (by omega)]
        simp only [cond_true]
        exact ih _ _ _ m f (by omega) (by omega) (by omega) (by omega) (by simp; omega)
    · rw [dF hlt]
      rfl
theorem an64 (d : Nat) (raw : Str) (a p e dep : Int) (hg : rdG (d + 1) raw p e dep = true) : evalBody E (c64 d) 64 Tryz.f64 (raw.length + 4001) [.optr 0 0, .int .i64 p, .int .i64 e, .int .i64 dep] [[.str raw, .int .i64 a]] =
    some (.tup [.agg [.int .u8 (readF (d + 1) raw p e dep).e.tag, .str (readF (d + 1) raw p e dep).e.body, .sl .elem (readF (d + 1) raw p e dep).e.kids], .int .i64 (readF (d + 1) raw p e dep).next, .int .i64 (readF (d + 1) raw p e dep).err], [[.str raw, .int .i64 (readF (d + 1) raw p e dep).at']]) := by
  obtain ⟨hraw, _, hp, hpe, her, hd1, hd2, hdd⟩ := rdG_of hg
  rw [ev64, readF_succ]
  by_cases h20 : dep > 20
  · rw [dT h20]; rfl
  · rw [dF h20]
    simp only [cond_false]
    have q1 : (0 : Int) ≤ e := by omega
    have q2 : p ≤ ((e.toNat : Nat) : Int) := by omega
    rw [dT q1, dT her, dT hp, dT q2]
    simp only [cond_true]
    have hok : ok (List.drop p.toNat (List.take e.toNat raw)) = true := le_ok (by simp; omega)
    rw [hok, cond_true]
    have hh := head_ok (slc raw p e)
    have hs : slc raw p e = List.drop p.toNat (List.take e.toNat raw) := rfl
    rw [hs] at hh ⊢
    generalize headF (List.drop p.toNat (List.take e.toNat raw)) = h at hh ⊢
    obtain ⟨hl, hn, he⟩ := h
    simp only at hh ⊢
    unfold readB
    simp only
    by_cases h0 : he = 0
    · obtain ⟨k1, k2, k3, k4⟩ := hh h0
      subst h0
      rw [w64 (i := e - p) (by omega) (by omega), IntWalk.i64_in (e - p - hl) (by omega)]
      simp only [beq_self_eq_true, cond_true]
      by_cases h1 : hn > e - p - hl
      · rw [dT h1]
        cases decide (dep > 1) <;> rfl
      · have q3 : p < (raw.length : Int) := by omega
        have q4 : (0 : Int) ≤ p + hl + hn := by omega
        have q5 : p + hl + hn ≤ (raw.length : Int) := by omega
        have q6 : (0 : Int) ≤ p + hl := by omega
        have q7 : p + hl ≤ (((p + hl + hn).toNat : Nat) : Int) := by omega
        rw [dF h1, w64 (i := p + hl) (by omega) (by omega), w64 (i := p + hl + hn) (by omega) (by omega)]
        simp only [cond_false]
        rw [show ((0 : Int) == 10) = false from rfl, show ((0 : Int) != 0) = false from rfl]
        simp only [cond_false]
        rw [dT q3, dT q4, dT q5, dT q6, dT q7]
        simp only [cond_true]
        show (bif band (ch (raw.getD p.toNat 0)) 32 == 0 then _ else _) = _
        cases band (ch (raw.getD p.toNat 0)) 32 == 0 with
        | true => rfl
        | false =>
          simp only [cond_false]
          exact lp64 d _ raw dep hn (p + hl) (ch (raw.getD p.toNat 0)) hraw (by omega) k3 q5 hd1 (by omega) (by omega) hn.toNat (p + hl) p [] _ (hn.toNat + 1) (by omega) (by omega) (by omega) (by omega) (by simp; omega)
    · rw [ne_beq h0]
      simp only [cond_false]
      cases he == 10 with
      | true => 
        cases decide (dep > 1) with
        | true => rfl
        | false =>
          rw [show (he != 0) = true by simp [bne, ne_beq h0]]
          rfl
      | false =>
        rw [show (he != 0) = true by simp [bne, ne_beq h0]]
        rfl
theorem ok64 {T : Tab} : ∀ d, SpecOk T 64 (sp64 d)
  | 0 => by
    intro args outs r outs' h
    unfold sp64 at h
    split at h
    · obtain ⟨hg, _, _⟩ := row3 h
      have := (rdG_of hg).2.1
      omega
    · cases h
  | d + 1 => by
    intro args outs r outs' h
    unfold sp64 at h
    split at h
    · obtain ⟨hg, rfl, rfl⟩ := row3 h
      exact bd64 d (orc_cons ok86 (orc1 (ok64 d))) _ (an64 d _ _ _ _ _ hg)
    · cases h
theorem an43 (s : Str) (h : ok s = true) : evalBody E c43 43 Tryz.f43 5 [.str s] [] = some (.tup [.agg [.int .u8 (Sp.topE s).tag, .str (Sp.topE s).body, .sl .elem (Sp.topE s).kids], .int .i64 (topN s), .int .i64 (topA s), .int .i64 (topF s).err], []) := by
  have hl := ok_le h
  rw [ev43, rdG_mk hl (by decide) (by decide) (by omega) (by omega) (by decide) (by decide) (by decide)]
  simp only [cond_true]
  show (bif (topF s).err != 0 then _ else _) = _
  unfold Sp.topE topN topA
  cases hb : (topF s).err == 0 with
  | true =>
    rw [show ((topF s).err != 0) = false by simp [bne, hb], eq_of_beq hb]
    rfl
  | false =>
    rw [show ((topF s).err != 0) = true by simp [bne, hb]]
    rfl
theorem ok43 {T : Tab} : SpecOk T 43 sp43 := by
  intro args outs r outs' h
  unfold sp43 at h
  split at h
  · obtain ⟨hg, rfl, rfl⟩ := row3 h
    exact bd43 (orc1 (ok64 22)) _ (an43 _ hg)
  · cases h
end Go.Ev
/-
  The reader of change numbers answers as told.
-/
namespace Go.Ev
open Go.Proofs Go.Ev.Sp
theorem splitK_len (sep : Str) : ∀ (k : Nat) (s x : Str), x ∈ Lib.splitK sep 0 k s → x.length ≤ s.length
  | 0, s, x, h => by
    simp only [Lib.splitK, List.mem_singleton] at h
    subst h; exact Nat.le_refl _
  | k + 1, s, x, h => by
    simp only [Lib.splitK] at h
    split at h
    · simp only [List.mem_singleton] at h
      subst h; exact Nat.le_refl _
    · rcases List.mem_cons.1 h with rfl | h
      · simp; omega
      · have := splitK_len sep k _ x h
        simp at this; omega
theorem ok65x {T : Tab} (ht : TabOk T) {s : Str} {l : List Str} (hs : s.length ≤ 1000000000) (hl : Lib.split s [46] = l) : SpecOk T 65 (sp65x s l) := by
  intro args outs r outs' h
  unfold sp65x at h
  split at h
  · rename_i s'
    obtain ⟨hg, rfl, rfl⟩ := row3 h
    have hg : s' = s := eq_of_beq hg
    subst hg
    subst hl
    refine ok65 ht _ _ _ _ ?_
    have e : sp65 [.str s', .str [46]] [] = some (Nat.blt s'.length 4294967281, .sl .str (Lib.split s' [46]), []) := rfl
    rw [e, show Nat.blt s'.length 4294967281 = true from Nat.ble_eq_true_of_le (by omega)]
  · cases h
theorem f45_at : Tryz.prog.funcs[45]? = some Tryz.f45 := by kernel_rfl
theorem c45_ok {T : Tab} (ht : TabOk T) {s : Str} {l : List Str} (hs : s.length ≤ 1000000000) (hl : Lib.split s [46] = l) : OrcOk Tryz.prog T (c45 s l) :=
  orc_cons (ok65x ht hs hl) (orc_cons (ok66 ht) (orc_cons ok24 (orc1 (ok50 (ok70 ht) (ok71 ht)))))
def ansC (o : Option Sp.Csn) : V := .tup [.agg [.int .i64 (o.getD csn0).t, .int .i64 (o.getD csn0).s, .int .i64 (o.getD csn0).r], .int .i64 (bif o.isSome then 0 else 14)]
theorem an45k3 (n : Nat) (s a b c : Str) (ha : a.length ≤ 1000000000) (hb : b.length ≤ 1000000000) (hc : c.length ≤ 1000000000) : evalBody E (c45 s [a, b, c]) 45 Tryz.f45 (n + 8) [.str s] [] =
    some (ansC (bif numOk a && numOk b && numOk c && ((csn3 a b c).is && csnText (csn3 a b c) == s) then some (csn3 a b c) else none), []) := by
  refine (ev45k3 n s a b c).trans ?_
  rw [beq_self_eq_true]
  rw [show List.getD [a, b, c] 0 [] = a from rfl, show List.getD [a, b, c] 1 [] = b from rfl, show List.getD [a, b, c] 2 [] = c from rfl]
  have l1 : ∀ x : Str, x.length ≤ 1000000000 → Nat.ble x.length 281474976710656 = true := fun x hx => Nat.ble_eq_true_of_le (by omega)
  rw [l1 a ha, l1 b hb, l1 c hc]
  simp only [cond_true]
  have key : ∀ x : Str, (numK x = false ∧ numOk x = false) ∨ (numK x = true ∧ decide (numN x < 0) = true ∧ numOk x = false) ∨ (numK x = true ∧ decide (numN x < 0) = false ∧ decide (numN x > 1099511627776) = true ∧ numOk x = false) ∨
      (numK x = true ∧ decide (numN x < 0) = false ∧ decide (numN x > 1099511627776) = false ∧ numOk x = true ∧ isI64 (numN x) = true) := fun x => by
    unfold numOk
    cases numK x with
    | false => exact .inl ⟨rfl, rfl⟩
    | true =>
      by_cases h1 : numN x < 0
      · exact .inr (.inl ⟨rfl, dT h1, by rw [dF (p := 0 ≤ numN x) (by omega)]; rfl⟩)
      · by_cases h2 : numN x > 1099511627776
        · exact .inr (.inr (.inl ⟨rfl, dF h1, dT h2, by rw [dT (p := 0 ≤ numN x) (by omega), dF (p := numN x ≤ 1099511627776) (by omega)]; rfl⟩))
        · exact .inr (.inr (.inr ⟨rfl, dF h1, dF h2, by rw [dT (p := 0 ≤ numN x) (by omega), dT (p := numN x ≤ 1099511627776) (by omega)]; rfl, by unfold isI64; rw [dT (p := -9223372036854775808 ≤ numN x) (by omega), dT (p := numN x ≤ 9223372036854775807) (by omega)]; rfl⟩))
  rcases key a with ⟨a1, a2⟩ | ⟨a1, a2, a3⟩ | ⟨a1, a2, a3, a4⟩ | ⟨a1, a2, a3, a4, a5⟩
  · rw [a1, a2]; rfl
  · rw [a1, a2, a3]; rfl
  · rw [a1, a2, a3, a4]; rfl
  · rw [a1, a2, a3, a4]
    simp only [Bool.not_true, cond_false, Bool.true_and]
    rcases key b with ⟨b1, b2⟩ | ⟨b1, b2, b3⟩ | ⟨b1, b2, b3, b4⟩ | ⟨b1, b2, b3, b4, b5⟩
    · rw [b1, b2]; rfl
    · rw [b1, b2, b3]; rfl
    · rw [b1, b2, b3, b4]; rfl
    · rw [b1, b2, b3, b4]
      simp only [Bool.not_true, cond_false, Bool.true_and]
      rcases key c with ⟨d1, d2⟩ | ⟨d1, d2, d3⟩ | ⟨d1, d2, d3, d4⟩ | ⟨d1, d2, d3, d4, d5⟩
      · rw [d1, d2]; rfl
      · rw [d1, d2, d3]; rfl
      · rw [d1, d2, d3, d4]; rfl
      · rw [d1, d2, d3, d4]
        simp only [Bool.not_true, cond_false, Bool.true_and]
        have hi : Csn.i64 (csn3 a b c) = true := by
          unfold Csn.i64 csn3
          simp only [a5, b5, d5, Bool.and_self]
        rw [show Csn.mk (numN a) (numN b) (numN c) = csn3 a b c from rfl, hi]
        cases (csn3 a b c).is with
        | false => rfl
        | true =>
          cases csnText (csn3 a b c) == s with
          | false => rfl
          | true => rfl
theorem ok45 {T : Tab} (ht : TabOk T) : SpecOk T 45 sp45 := by
  intro args outs r outs' h
  unfold sp45 at h
  split at h
  · rename_i s
    obtain ⟨hg, rfl, rfl⟩ := row3 h
    have hs := ok_le hg
    have hlen : ∀ x ∈ Lib.split s [46], x.length ≤ 1000000000 := fun x hx => Nat.le_trans (splitK_len [46] _ s x hx) hs
    have bad : ∀ l : List Str, Lib.split s [46] = l → (evalBody E (c45 s l) 45 Tryz.f45 (0 + 8) [.str s] [] = some (ansC none, [])) → parseC s = none → Answers Tryz.prog T 45 [.str s] [] (ansC (parseC s)) [] := fun l hl he hp => by
      rw [hp]
      exact body (c45_ok ht hs hl) f45_at he
    have hb := beq_self_eq_true s
    show Answers Tryz.prog T 45 [.str s] [] (ansC (parseC s)) []
    match hl : Lib.split s [46] with
    | [] => exact bad _ hl (by rw [ev45k0, hb]; rfl) (by unfold parseC; rw [hl])
    | [a] => exact bad _ hl (by rw [ev45k1, hb]; rfl) (by unfold parseC; rw [hl])
    | [a, b] => exact bad _ hl (by rw [ev45k2, hb]; rfl) (by unfold parseC; rw [hl])
    | [a, b, c] =>
      rw [hl] at hlen
      have hp : parseC s = bif numOk a && numOk b && numOk c && ((csn3 a b c).is && csnText (csn3 a b c) == s) then some (csn3 a b c) else none := by unfold parseC; rw [hl]
      rw [hp]
      exact body (c45_ok ht hs hl) f45_at (an45k3 0 s a b c (hlen a (by simp)) (hlen b (by simp)) (hlen c (by simp)))
    | a :: b :: c :: e :: l => exact bad _ hl (by rw [ev45k4, hb]; rfl) (by unfold parseC; rw [hl])
  · cases h
end Go.Ev
/-
  Reading a change: an error, or a change whose bytes are the text.
-/
namespace Go.Ev
open Go.Proofs Go.Ev.Sp
def In (e : Elem) : Prop := ∃ d, inF d e = true
theorem in_body {e : Elem} (h : In e) : ok e.body = true := by
  obtain ⟨d, h⟩ := h
  cases d with
  | zero => cases h
  | succ d =>
    obtain ⟨t, b, k⟩ := e
    simp only [inF, Bool.and_eq_true] at h
    exact h.1.1
theorem in_kids {e : Elem} (h : In e) : e.kids.length ≤ 1000000000 ∧ ∀ q ∈ e.kids, In q := by
  obtain ⟨d, h⟩ := h
  cases d with
  | zero => cases h
  | succ d =>
    obtain ⟨t, b, k⟩ := e
    simp only [inF, Bool.and_eq_true, List.all_eq_true] at h
    exact ⟨Nat.le_of_ble_eq_true h.1.2, fun q hq => ⟨d, h.2 q hq⟩⟩
theorem in_e0 : In (Elem.mk 0 [] []) := ⟨1, rfl⟩
theorem in_at {l : List Elem} (h : ∀ q ∈ l, In q) (i : Nat) : In (l.getD i (Elem.mk 0 [] [])) := by
  rw [List.getD_eq_getElem?_getD]
  cases hi : l[i]? with
  | none => exact in_e0
  | some e => exact h e (List.mem_of_getElem? hi)
theorem kidsF_in {d : Nat} {f : Int → Rdg} {stop : Int} (hf : ∀ q, (f q).err = 0 → inF d (f q).e = true) : ∀ (k : Nat) (p a : Int) (acc : List Elem), acc.all (inF d) = true → (kidsF f stop k p acc a).err = 0 →
    (kidsF f stop k p acc a).e.kids.all (inF d) = true ∧ (kidsF f stop k p acc a).e.kids.length ≤ acc.length + k
  | 0, _, _, _, _, _ => ⟨rfl, Nat.zero_le _⟩
  | k + 1, p, a, acc, ha, h => by
    unfold kidsF at h ⊢
    cases hlt : decide (p < stop) with
    | false => exact ⟨ha, Nat.le_add_right _ _⟩
    | true =>
      rw [hlt] at h
      simp only [cond_true] at h ⊢
      cases he : (f p).err == 0 with
      | false =>
        rw [he] at h
        simp only [Bool.not_false, cond_true] at h
        rw [h] at he; cases he
      | true =>
        rw [he] at h
        simp only [Bool.not_true, cond_false] at h ⊢
        have := kidsF_in hf k (f p).next (f p).at' (acc ++ [(f p).e]) (by rw [List.all_append, ha]; simp [hf p (eq_of_beq he)]) h
        refine ⟨this.1, Nat.le_trans this.2 ?_⟩
        simp; omega
theorem readF_in {raw : Str} (hraw : raw.length ≤ 1000000000) : ∀ (d : Nat) (p e dep : Int), (readF d raw p e dep).err = 0 → inF d (readF d raw p e dep).e = true
  | 0, _, _, _, h => by cases h
  | d + 1, p, e, dep, h => by
    rw [readF_succ] at h ⊢
    cases hd : decide (dep > 20) with
    | true => rw [hd] at h; cases h
    | false =>
      rw [hd] at h
      simp only [cond_false] at h ⊢
      have hh := head_ok (slc raw p e)
      generalize headF (slc raw p e) = hd at hh h ⊢
      obtain ⟨hl, hn, he⟩ := hd
      unfold readB at h ⊢
      by_cases h0 : he = 0
      · obtain ⟨k1, k2, k3, k4⟩ := hh h0
        subst h0
        simp only at k1 k2 k3 k4
        simp only [beq_self_eq_true, cond_true] at h ⊢
        by_cases h1 : hn > e - p - hl
        · rw [dT h1] at h
          simp only [cond_true] at h
          cases hb : decide (dep > 1) with
          | true => rw [hb] at h; cases h
          | false => rw [hb] at h; cases h
        · rw [dF h1] at h ⊢
          simp only [cond_false] at h ⊢
          cases hb : band (ch (raw.getD p.toNat 0)) 32 == 0 with
          | true =>
            simp only [cond_true, inF, slc]
            rw [le_ok (by simp; omega)]; rfl
          | false =>
            rw [hb] at h
            simp only [cond_false] at h ⊢
            have hk := kidsF_in (d := d) (stop := p + hl + hn) (f := fun q => readF d raw q (p + hl + hn) (dep + 1)) (fun q hq => readF_in hraw d q _ _ hq) (hn.toNat + 1) (p + hl) p [] rfl
            generalize kidsF (fun q => readF d raw q (p + hl + hn) (dep + 1)) (p + hl + hn) (hn.toNat + 1) (p + hl) [] p = r at hk h ⊢
            unfold kidsR at h ⊢
            cases hr : r.err == 0 with
            | false =>
              rw [hr] at h
              simp only [cond_false] at h
              rw [h] at hr; cases hr
            | true =>
              obtain ⟨j1, j2⟩ := hk (eq_of_beq hr)
              simp only [cond_true, inF, j1, Bool.and_true]
              rw [le_ok (by simp)]
              exact Nat.ble_eq_true_of_le (Nat.le_trans j2 (by simp [lim]; omega))
      · rw [show ((hl, hn, he).2.2 == 0) = false from ne_beq h0] at h
        simp only [cond_false] at h
        cases hb : (he == 10 && decide (dep > 1)) with
        | true => rw [hb] at h; cases h
        | false => rw [hb] at h; exact absurd h h0
theorem in_top {s : Str} (h : s.length ≤ 1000000000) : In (Sp.topE s) := by
  unfold Sp.topE
  cases hb : (topF s).err == 0 with
  | false => exact in_e0
  | true => exact ⟨22, readF_in h 22 0 _ 1 (eq_of_beq hb)⟩
/-- What reading a change comes to. -/
def Fine (s : Str) (o : Option (V × List (List V))) : Prop := ∃ (c : Chn) (e : Int), o = some (.tup [.agg c.cells, .int .i64 e], []) ∧ ((e = 14 ∧ c = k00) ∨ (e = 0 ∧ c.ok = true ∧ c.i64 = true ∧ bytesC c = (s, 0)))
theorem bad16 (s : Str) : Fine s (some (.tup [.agg k00.cells, .int .i64 14], [])) := ⟨k00, 14, rfl, .inl ⟨rfl, rfl⟩⟩
theorem fin16 {s : Str} {x : Chn} (h1 : x.ok = true) (h2 : x.i64 = true) : Fine s (bif x.ok && x.i64 then bif (bytesC x).2 != 0 then some (.tup [.agg k00.cells, .int .i64 14], []) else bif !((bytesC x).1 == s) then some (.tup [.agg k00.cells, .int .i64 14], []) else some (.tup [.agg x.cells, .int .i64 0], []) else none) := by
  rw [h1, h2]
  simp only [Bool.and_self, cond_true]
  cases hb : (bytesC x).2 != 0 with
  | true => exact bad16 s
  | false =>
    cases hc : (bytesC x).1 == s with
    | false => exact bad16 s
    | true =>
      refine ⟨x, 0, rfl, .inr ⟨rfl, h1, h2, Prod.ext (eq_of_beq hc) ?_⟩⟩
      simpa using hb
noncomputable def N15 (n m : Nat) (s : Str) (l : List Elem) (i : Int) (e : Elem) (x : Chn) : Option (V × List (List V)) :=
  L16_15 n m s l i 0 0 0 0 0 0 0 0 0 0 false e.tag e.body e.kids x.c.t x.c.s x.c.r x.kind x.id.t x.id.s x.id.r x.par.t x.par.s x.par.r x.del [] [] x.rdn x.mods
noncomputable def N19 (n m : Nat) (s : Str) (l : List Elem) (k i : Int) (x : Chn) : Option (V × List (List V)) :=
  L16_19 n m s l k i 0 0 0 0 0 0 0 0 0 0 false x.c.t x.c.s x.c.r x.kind x.id.t x.id.s x.id.r x.par.t x.par.s x.par.r x.del [] [] x.rdn x.mods
noncomputable def N26 (n m19 m : Nat) (s : Str) (l : List Elem) (k i : Int) (q : List Elem) (qk j : Int) (x : Chn) (kd : Int) (a : Str) (vs : List Str) : Option (V × List (List V)) :=
  L16_26 n m19 m s l k i q qk j 0 0 0 0 0 0 0 0 0 0 false x.c.t x.c.s x.c.r x.kind x.id.t x.id.s x.id.r x.par.t x.par.s x.par.r x.del kd a [] [] x.rdn x.mods vs
theorem lp26 (n m19 : Nat) (s : Str) (l : List Elem) (k i : Int) (x : Chn) (kd : Int) (a : Str) (hx : x.mods.length ≤ 1000000000) : ∀ (post pre : List Elem) (m : Nat) (vs : List Str), post.length < m → pre.length + post.length ≤ 1000000000 → vs.length = pre.length →
    N26 n m19 m s l k i (pre ++ post) ((pre ++ post).length : Int) (pre.length : Int) x kd a vs = N19 n m19 s l k (IntKind.wrap .i64 (i + 1)) { x with mods := x.mods ++ [⟨kd, a, vs ++ post.map Elem.body⟩] }
  | [], pre, m, vs, hm, hl, hv => by
    obtain ⟨m, rfl, hm⟩ := pos_m hm
    unfold N26 N19
    rw [rd16_26, dF (by simp)]
    simp only [cond_false]
    rw [ble_row hx]
    simp
  | c :: post, pre, m, vs, hm, hl, hv => by
    obtain ⟨m, rfl, hm⟩ := pos_m hm
    simp only [List.length_cons] at hl
    have ih := lp26 n m19 s l k i x kd a hx post (pre ++ [c]) m (vs ++ [c.body]) (by simp at hm; omega) (by simp; omega) (by simp [hv])
    unfold N26 at ih ⊢
    rw [rd16_26, dT (by simp; omega), i64_succ (i := pre.length) (by omega), toN, mid, dle0]
    rw [ble_row (by omega)]
    rw [len_snoc, ← app_mid] at ih
    simp only [cond_true]
    refine ih.trans ?_
    simp
theorem lp19 (n : Nat) (s : Str) : ∀ (post pre : List Elem) (m : Nat) (x : Chn), post.length < m → pre.length + post.length ≤ 1000000000 → x.mods.length = pre.length → x.i64 = true → okAs x.rdn = true → x.mods.all okM = true → (∀ e ∈ post, In e) → 1000000000 < n →
    Fine s (N19 n m s (pre ++ post) ((pre ++ post).length : Int) (pre.length : Int) x)
  | [], pre, m, x, hm, hl, hx, hi, hr, ho, hin, hn => by
    obtain ⟨m, rfl, hm⟩ := pos_m hm
    unfold N19
    rw [rd16_19, dF (by simp)]
    have hok : x.ok = true := by
      unfold Chn.ok okMs
      rw [hr, ho, Nat.ble_eq_true_of_le (show x.mods.length ≤ lim by simp at hl; rw [hx]; exact hl)]; rfl
    exact fin16 (x := x) hok hi
  | c :: post, pre, m, x, hm, hl, hx, hi, hr, ho, hin, hn => by
    obtain ⟨m, rfl, hm⟩ := pos_m hm
    simp only [List.length_cons] at hl
    have hc := hin c List.mem_cons_self
    obtain ⟨hkl, hkk⟩ := in_kids hc
    unfold N19
    rw [rd16_19, dT (by simp; omega), toN, mid, dle0]
    simp only [cond_true]
    by_cases h2 : ((c.kids.length : Int) < 2)
    · rw [dT h2]; exact bad16 s
    · have p0 : (0 : Int) < (c.kids.length : Int) := by omega
      have p1 : (1 : Int) < (c.kids.length : Int) := by omega
      have p2 : (2 : Int) ≤ ((c.kids.length : Nat) : Int) := by omega
      rw [dF h2, dT p0, dT p1, dT p2, in_body (in_at hkk 0)]
      simp only [cond_true, cond_false]
      rw [List.take_length]
      have e26 := lp26 n m s (pre ++ c :: post) ((pre ++ c :: post).length : Int) (pre.length : Int) x (rdI (c.kids.getD 0 (Elem.mk 0 [] [])).body) (c.kids.getD 1 (Elem.mk 0 [] [])).body (by omega) (c.kids.drop 2) [] n [] (by simp; omega) (by simp; omega) rfl
      rw [i64_succ (i := pre.length) (by omega)] at e26
      have ih := lp19 n s post (pre ++ [c]) m { x with mods := x.mods ++ [⟨rdI (c.kids.getD 0 (Elem.mk 0 [] [])).body, (c.kids.getD 1 (Elem.mk 0 [] [])).body, [] ++ (c.kids.drop 2).map Elem.body⟩] } (by simp at hm; omega) (by simp; omega) (by simp [hx]) ?_ hr ?_ (fun e he => hin e (List.mem_cons_of_mem _ he)) hn
      · rw [len_snoc, ← app_mid, ← e26] at ih
        exact ih
      · unfold Chn.i64 at hi ⊢
        simp only [List.all_append, List.all_cons, List.all_nil, Bool.and_true, rdI_i64]
        exact hi
      · rw [List.all_append, ho]
        simp only [List.all_cons, List.all_nil, Bool.and_true, Bool.true_and]
        unfold okM okSs
        simp only [Bool.and_eq_true, List.all_eq_true]
        refine ⟨in_body (in_at hkk 1), Nat.ble_eq_true_of_le (by simp [lim]; omega), fun v hv => ?_⟩
        simp only [List.nil_append, List.mem_map] at hv
        obtain ⟨q, hq, rfl⟩ := hv
        exact in_body (hkk q (List.mem_of_mem_drop hq))
theorem lp15 (n : Nat) (s : Str) (l : List Elem) (e : Elem) (hl : l.length ≤ 1000000000) (hin : ∀ q ∈ l, In q) (he : In e) (h6 : e.kids.length = 6) (hn : 1000000000 < n) : ∀ (k i m : Nat) (x : Chn), l.length - i ≤ k → k < m → i ≤ l.length → x.rdn.length ≤ i → x.mods = [] → x.i64 = true → x.rdn.all okA = true →
    Fine s (N15 n m s l (i : Int) e x) := by
  intro k
  induction k with
  | zero =>
    intro i m x hk hm hi hr hmods h64 hok
    obtain ⟨m, rfl, hm⟩ := pos_m hm
    unfold N15
    rw [rd16_15, i64_succ (i := i) (by omega), dF (by omega)]
    simp only [cond_false]
    have p5 : (5 : Int) < (e.kids.length : Int) := by omega
    rw [dT p5]
    simp only [cond_true]
    obtain ⟨g1, g2⟩ := in_kids (in_at (in_kids he).2 5)
    exact lp19 n s (e.kids.getD 5 (Elem.mk 0 [] [])).kids [] n x (by omega) (by simpa using g1) (by rw [hmods]; rfl) h64 (by unfold okAs; rw [hok, Nat.ble_eq_true_of_le (show x.rdn.length ≤ lim from Nat.le_trans hr (Nat.le_trans hi hl))]; rfl) (by rw [hmods]; rfl) g2 hn
  | succ k ih =>
    intro i m x hk hm hi hr hmods h64 hok
    obtain ⟨m, rfl, hm⟩ := pos_m hm
    unfold N15
    rw [rd16_15, i64_succ (i := i) (by omega), i64_two (by omega)]
    by_cases h1 : (((i + 1 : Nat) : Int) < (l.length : Int))
    · have p1 : ((i : Int) < (l.length : Int)) := by omega
      rw [dT h1, dle0, dT p1, dle0, toN, toN]
      simp only [cond_true]
      rw [ble_row (by omega)]
      simp only [cond_true]
      exact ih (i + 2) m { x with rdn := x.rdn ++ [⟨(l.getD i (Elem.mk 0 [] [])).body, (l.getD (i + 1) (Elem.mk 0 [] [])).body⟩] } (by omega) (by omega) (by omega) (by simp; omega) hmods h64 (by
        rw [List.all_append, hok]
        simp only [List.all_cons, List.all_nil, Bool.and_true, Bool.true_and]
        unfold okA
        simp only [in_body (in_at hin i), in_body (in_at hin (i + 1)), Bool.and_self])
    · rw [dF h1]
      simp only [cond_false]
      have p5 : (5 : Int) < (e.kids.length : Int) := by omega
      rw [dT p5]
      simp only [cond_true]
      obtain ⟨g1, g2⟩ := in_kids (in_at (in_kids he).2 5)
      exact lp19 n s (e.kids.getD 5 (Elem.mk 0 [] [])).kids [] n x (by omega) (by simpa using g1) (by rw [hmods]; rfl) h64 (by unfold okAs; rw [hok, Nat.ble_eq_true_of_le (show x.rdn.length ≤ lim from Nat.le_trans hr (Nat.le_trans hi hl))]; rfl) (by rw [hmods]; rfl) g2 hn
theorem an16 (n : Nat) (hn : 1000000000 < n) (s : Str) (h : ok s = true) : Fine s (evalBody E c16 16 Tryz.f16 (n + 8) [.str s] []) := by
  have hl := ok_le h
  have ht := in_top hl
  obtain ⟨hk, hkk⟩ := in_kids ht
  rw [ev16, h]
  simp only [cond_true]
  cases (topF s).err != 0 with
  | true => exact bad16 s
  | false =>
    simp only [cond_false]
    cases topN s != (s.length : Int) with
    | true => exact bad16 s
    | false =>
      simp only [cond_false]
      cases h6 : ((Sp.topE s).kids.length : Int) != 6 with
      | true => exact bad16 s
      | false =>
        simp only [cond_false]
        have e6 : (Sp.topE s).kids.length = 6 := by
          have : ((Sp.topE s).kids.length : Int) = 6 := by simpa using h6
          omega
        have o : ∀ i, ok ((Sp.topE s).kids.getD i (Elem.mk 0 [] [])).body = true := fun i => in_body (in_at hkk i)
        have w1 : IntKind.wrap .i64 (0 + 1) = 1 := by kernel_rfl
        have w2 : IntKind.wrap .i64 (1 + 1) = 2 := by kernel_rfl
        have w3 : IntKind.wrap .i64 (2 + 1) = 3 := by kernel_rfl
        rw [w1, w2, w3, e6, o 0, o 1, o 2, o 3]
        rw [show decide ((0 : Int) < ((6 : Nat) : Int)) = true from rfl, show decide ((1 : Int) < ((6 : Nat) : Int)) = true from rfl, show decide ((2 : Int) < ((6 : Nat) : Int)) = true from rfl, show decide ((3 : Int) < ((6 : Nat) : Int)) = true from rfl, show decide ((4 : Int) < ((6 : Nat) : Int)) = true from rfl]
        simp only [cond_true]
        have pc : ∀ t : Str, ((parseC t).getD csn0).i64 = true := fun t => by
          unfold parseC
          split
          · rename_i a b c _
            cases hb : (numOk a && numOk b && numOk c && ((csn3 a b c).is && csnText (csn3 a b c) == t)) with
            | false => rfl
            | true =>
              simp only [Bool.and_eq_true, numOk, decide_eq_true_eq] at hb
              obtain ⟨⟨⟨⟨⟨_, a1⟩, a2⟩, ⟨_, b1⟩, b2⟩, ⟨_, d1⟩, d2⟩, _⟩ := hb
              have ii : ∀ v : Int, 0 ≤ v → v ≤ 1099511627776 → isI64 v = true := fun v h1 h2 => by
                unfold isI64
                rw [dT (p := -9223372036854775808 ≤ v) (by omega), dT (p := v ≤ 9223372036854775807) (by omega)]; rfl
              show (isI64 (numN a) && isI64 (numN b) && isI64 (numN c)) = true
              rw [ii _ a1 a2, ii _ b1 b2, ii _ d1 d2]; rfl
          · rfl
        have par : ∀ t : Str, (((bif Option.isSome (parseC t) then (0 : Int) else 14) != 0) = true) ∨ ((bif Option.isSome (parseC t) then (0 : Int) else 14) != 0) = false := fun t => by
          cases (bif Option.isSome (parseC t) then (0 : Int) else 14) != 0
          · exact .inr rfl
          · exact .inl rfl
        rcases par ((Sp.topE s).kids.getD 1 (Elem.mk 0 [] [])).body with q1 | q1
        · rw [q1]; exact bad16 s
        · rw [q1]
          simp only [cond_false]
          rcases par ((Sp.topE s).kids.getD 2 (Elem.mk 0 [] [])).body with q2 | q2
          · rw [q2]; exact bad16 s
          · rw [q2]
            simp only [cond_false]
            rcases par ((Sp.topE s).kids.getD 3 (Elem.mk 0 [] [])).body with q3 | q3
            · rw [q3]; exact bad16 s
            · rw [q3]
              simp only [cond_false]
              generalize hkd : (bif decide (IntKind.wrap .i64 (0 - rdI ((Sp.topE s).kids.getD 0 (Elem.mk 0 [] [])).body) > rdI ((Sp.topE s).kids.getD 0 (Elem.mk 0 [] [])).body) then IntKind.wrap .i64 (0 - rdI ((Sp.topE s).kids.getD 0 (Elem.mk 0 [] [])).body) else rdI ((Sp.topE s).kids.getD 0 (Elem.mk 0 [] [])).body) = kd
              have hki : isI64 kd = true := by
                rw [← hkd]
                cases decide (IntKind.wrap .i64 (0 - rdI ((Sp.topE s).kids.getD 0 (Elem.mk 0 [] [])).body) > rdI ((Sp.topE s).kids.getD 0 (Elem.mk 0 [] [])).body) with
                | true => exact wrap_i64 _
                | false => exact rdI_i64 _
              obtain ⟨g1, g2⟩ := in_kids (in_at hkk 4)
              refine lp15 (n + 8) s ((Sp.topE s).kids.getD 4 (Elem.mk 0 [] [])).kids (Sp.topE s) g1 g2 ht e6 (by omega) 1000000000 0 (n + 8)
                ⟨(parseC ((Sp.topE s).kids.getD 1 (Elem.mk 0 [] [])).body).getD csn0, kd, (parseC ((Sp.topE s).kids.getD 2 (Elem.mk 0 [] [])).body).getD csn0, (parseC ((Sp.topE s).kids.getD 3 (Elem.mk 0 [] [])).body).getD csn0, [], decide (rdI ((Sp.topE s).kids.getD 0 (Elem.mk 0 [] [])).body < 0), []⟩
                (by omega) (by omega) (Nat.zero_le _) (Nat.zero_le _) rfl ?_ rfl
              unfold Chn.i64
              simp only [pc, hki, List.all_nil, Bool.and_self]
/-- A text is no change, or a change's bytes. -/
theorem ans16 {T : Tab} (ht : TabOk T) (s : Str) (h : ok s = true) : ∃ (c : Chn) (e : Int), Answers Tryz.prog T 16 [.str s] [] (.tup [.agg c.cells, .int .i64 e]) [] ∧ ((e = 14 ∧ c = k00) ∨ (e = 0 ∧ c.ok = true ∧ c.i64 = true ∧ bytesC c = (s, 0))) := by
  obtain ⟨n, hn⟩ : ∃ n, 1000000000 < n := ⟨_, Nat.lt_succ_self _⟩
  obtain ⟨c, e, h1, h2⟩ := an16 n hn s h
  exact ⟨c, e, bd16 (orc_cons ok43 (orc_cons ok44 (orc_cons (ok45 ht) (orc1 (ok9 (ok70 ht) (ok71 ht)))))) _ h1, h2⟩
end Go.Ev
