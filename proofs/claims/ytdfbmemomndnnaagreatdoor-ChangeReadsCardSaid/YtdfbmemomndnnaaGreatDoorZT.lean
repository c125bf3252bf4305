/-
  What the program's functions answer: elements and their bytes.
-/
import Derived.Test.YtdfbmemomndnnaaGreatDoorZS
namespace Go.Ev
open Go.Proofs Go.Ev.Sp
theorem elem_eta (e : Elem) : Elem.mk e.tag e.body e.kids = e := by cases e; rfl
theorem ok19 {T : Tab} : SpecOk T 19 sp19 := by
  intro args outs r outs' h
  unfold sp19 at h
  split at h
  · rename_i t s
    obtain ⟨-, rfl, rfl⟩ := row3 h
    exact bd19 orc_nil 0 (ev19 0 t s)
  · cases h
theorem ok21 {T : Tab} : SpecOk T 21 sp21 := by
  intro args outs r outs' h
  unfold sp21 at h
  split at h
  · rename_i t l
    obtain ⟨-, rfl, rfl⟩ := row3 h
    exact bd21 orc_nil 0 (ev21 0 t l)
  · cases h
/-! A number's bytes -/
theorem u8_rng (n : Int) : 0 ≤ IntKind.wrap .u8 n ∧ IntKind.wrap .u8 n ≤ 255 := by rw [IntKind.wrap_u8]; omega
theorem u8_ch (n : Int) : ch (UInt8.ofNat (IntKind.wrap .u8 n).toNat) = IntKind.wrap .u8 n := by
  have := u8_rng n
  unfold ch
  rw [UInt8.toNat_ofNat']
  omega
theorem bs_cons (c : UInt8) (s : Str) : bs (c :: s) = ch c :: bs s := rfl
theorem top_all : ∀ c : UInt8, ((IntKind.wrap .u8 (↑(BitVec.toNat (BitVec.ofInt 8 (ch c) &&& BitVec.ofInt 8 128)) : Int) != 0) == decide (ch c ≥ 128)) = true := all_bytes (by kernel_rfl)
theorem top_bit (c : UInt8) : (IntKind.wrap .u8 (↑(BitVec.toNat (BitVec.ofInt 8 (ch c) &&& BitVec.ofInt 8 128)) : Int) != 0) = decide (ch c ≥ 128) := eq_of_beq (top_all c)
theorem ble_cons {c : Int} {l : List Int} (h : l.length ≤ 1000) : Nat.ble (List.length [c] + l.length) 1073741824 = true := Nat.ble_eq_true_of_le (by simp; omega)
theorem lp46 (n : Nat) : ∀ (k : Nat) (rest : Int) (c : UInt8) (b r : Str) (m : Nat), intA k rest (c :: b) = some r → k ≤ m → b.length + k ≤ 1000 →
    L46_4v1 n m rest (bs (c :: b)) = some (.str r, []) ∧ L46_4v2 n m rest (bs (c :: b)) = some (.str r, [])
  | 0, _, _, _, _, _, h, _, _ => by cases h
  | k + 1, rest, c, b, r, m, h, hm, hb => by
    obtain ⟨m, rfl⟩ : ∃ q, m = q + 1 := ⟨m - 1, by omega⟩
    simp only [intA, List.getD_cons_zero] at h
    have hlen : (bs (c :: b)).length = b.length + 1 := by rw [bs_len]; rfl
    have hg : List.getD (bs (c :: b)) 0 0 = ch c := rfl
    have hnew : [IntKind.wrap .u8 rest] ++ bs (c :: b) = bs (UInt8.ofNat (IntKind.wrap .u8 rest).toNat :: c :: b) := by rw [bs_cons _ (c :: b), u8_ch]; rfl
    rw [rd46_4v1, rd46_4v2, dT (by omega), hg, top_bit, hnew, ble_cons (by omega), of_bs, show ((2 : Int) ^ (8 : Nat)) = 256 from rfl]
    simp only [cond_true]
    have ih : (rest == (bif decide (ch c ≥ 128) then -1 else 0)) = false → L46_4v1 n m (rest.fdiv 256) (bs (UInt8.ofNat (IntKind.wrap .u8 rest).toNat :: c :: b)) = some (.str r, []) ∧ L46_4v2 n m (rest.fdiv 256) (bs (UInt8.ofNat (IntKind.wrap .u8 rest).toNat :: c :: b)) = some (.str r, []) := fun he => by
      rw [he] at h
      exact lp46 n k _ _ (c :: b) r m h (by omega) (by simp only [List.length_cons]; omega)
    cases hd : decide (ch c ≥ 128) with
    | true =>
      rw [hd] at h ih
      simp only [cond_true] at h ih ⊢
      cases he : rest == -1 with
      | true => rw [he] at h; cases h; exact ⟨rfl, rfl⟩
      | false => exact ⟨(ih he).2, (ih he).1⟩
    | false =>
      rw [hd] at h ih
      simp only [cond_false] at h ih ⊢
      cases he : rest == 0 with
      | true => rw [he] at h; cases h; exact ⟨rfl, rfl⟩
      | false => exact ⟨(ih he).2, (ih he).1⟩
theorem lp46a (n k : Nat) (rest : Int) (c : UInt8) (r : Str) (m : Nat) (h : intA k rest [c] = some r) (hm : k ≤ m) (hb : k ≤ 999) : L46_4 n m rest (bs [c]) = some (.str r, []) := by
  cases k with
  | zero => cases h
  | succ k =>
    obtain ⟨m, rfl⟩ : ∃ q, m = q + 1 := ⟨m - 1, by omega⟩
    simp only [intA, List.getD_cons_zero] at h
    have hg : List.getD (bs [c]) 0 0 = ch c := rfl
    have hnew : [IntKind.wrap .u8 rest] ++ bs [c] = bs (UInt8.ofNat (IntKind.wrap .u8 rest).toNat :: [c]) := by rw [bs_cons _ [c], u8_ch]; rfl
    rw [rd46_4, dT (by rw [bs_len]; simp), hg, top_bit, hnew, ble_cons (by rw [bs_len]; simp), of_bs, show ((2 : Int) ^ (8 : Nat)) = 256 from rfl]
    simp only [cond_true]
    have ih : (rest == (bif decide (ch c ≥ 128) then -1 else 0)) = false → L46_4v1 n m (rest.fdiv 256) (bs (UInt8.ofNat (IntKind.wrap .u8 rest).toNat :: [c])) = some (.str r, []) := fun he => by
      rw [he] at h
      exact (lp46 n k _ _ [c] r m h (by omega) (by simp; omega)).1
    cases hd : decide (ch c ≥ 128) with
    | true =>
      rw [hd] at h ih
      simp only [cond_true] at h ih ⊢
      cases he : rest == -1 with
      | true => rw [he] at h; cases h; rfl
      | false => exact ih he
    | false =>
      rw [hd] at h ih
      simp only [cond_false] at h ih ⊢
      cases he : rest == 0 with
      | true => rw [he] at h; cases h; rfl
      | false => exact ih he
theorem intA_some : ∀ (j : Nat) (rest : Int) (b : Str), -(256 ^ j : Int) ≤ rest → rest < 256 ^ j → (intA (j + 2) rest b).isSome = true
  | 0, rest, b, h1, h2 => by
    have : rest = -1 ∨ rest = 0 := by simp at h1 h2; omega
    simp only [intA]
    rcases this with rfl | rfl
    · cases (decide (ch (b.getD 0 0) ≥ 128)) <;> rfl
    · cases (decide (ch (b.getD 0 0) ≥ 128)) <;> rfl
  | j + 1, rest, b, h1, h2 => by
    rw [intA]
    cases (rest == (bif decide (ch (b.getD 0 0) ≥ 128) then -1 else 0)) with
    | true => rfl
    | false =>
      simp only [cond_false]
      have e1 : (256 : Int) ^ (j + 1) = 256 ^ j * 256 := Int.pow_succ _ _
      rw [e1] at h1 h2
      have e : rest.fdiv 256 = rest / 256 := Int.fdiv_eq_ediv_of_nonneg _ (by decide)
      have hb : -(256 ^ j : Int) ≤ rest.fdiv 256 ∧ rest.fdiv 256 < 256 ^ j := by
        rw [e]
        generalize (256 : Int) ^ j = p at h1 h2 ⊢
        omega
      exact intA_some j _ _ hb.1 hb.2
theorem itoa_len (n : Int) (h : isI64 n = true) : (Lib.itoa n).length ≤ 21 := by
  simp only [isI64, Bool.and_eq_true, decide_eq_true_eq] at h
  have key : ∀ (k u : Nat), 1 ≤ k → u < 10 ^ k → (Lib.decDigits u).length ≤ k := by
    intro k
    induction k with
    | zero => intro u h; omega
    | succ k ih =>
      intro u _ hu
      rw [Lib.decDigits]
      split
      · simp
      · rename_i hn
        have hk : 1 ≤ k := by
          cases k with
          | zero => simp at hu; omega
          | succ k => omega
        have := ih (u / 10) hk (by rw [Nat.pow_succ] at hu; omega)
        simp only [List.length_append, List.length_singleton]
        omega
  unfold Lib.itoa
  split
  · have := key 20 n.natAbs (by decide) (by have : (10 : Nat) ^ 20 = 100000000000000000000 := by decide
                                            omega)
    simp only [List.length_cons]; omega
  · have := key 20 n.toNat (by decide) (by have : (10 : Nat) ^ 20 = 100000000000000000000 := by decide
                                           omega)
    omega
theorem intB_some {n : Int} (h : isI64 n = true) : intA 12 (n.fdiv 256) [UInt8.ofNat (IntKind.wrap .u8 n).toNat] = some (intB n) := by
  simp only [isI64, Bool.and_eq_true, decide_eq_true_eq] at h
  have e : n.fdiv 256 = n / 256 := Int.fdiv_eq_ediv_of_nonneg _ (by decide)
  have hs : (intA 12 (n.fdiv 256) [UInt8.ofNat (IntKind.wrap .u8 n).toNat]).isSome = true := by
    have p10 : (256 : Int) ^ 10 = 1208925819614629174706176 := by decide
    exact intA_some 10 _ _ (by rw [e, p10]; omega) (by rw [e, p10]; omega)
  unfold intB
  cases hq : intA 12 (n.fdiv 256) [UInt8.ofNat (IntKind.wrap .u8 n).toNat] with
  | none => rw [hq] at hs; cases hs
  | some r => rfl
theorem an46 (n : Nat) (hn : 12 ≤ n) (i : Int) (h : isI64 i = true) : evalBody E c0 46 Tryz.f46 n [.int .i64 i] [] = some (.str (intB i), []) := by
  rw [ev46, show ((2 : Int) ^ (8 : Nat)) = 256 from rfl]
  have := lp46a n 12 _ _ _ n (intB_some h) hn (by decide)
  rw [bs_cons, u8_ch] at this
  exact this
theorem ok46 {T : Tab} : SpecOk T 46 sp46 := by
  intro args outs r outs' h
  unfold sp46 at h
  split at h
  · rename_i n
    obtain ⟨hn, rfl, rfl⟩ := row3 h
    exact bd46 orc_nil 12 (an46 12 (Nat.le_refl _) n hn)
  · cases h
theorem ok20 {T : Tab} : SpecOk T 20 sp20 := by
  intro args outs r outs' h
  unfold sp20 at h
  split at h
  · rename_i t n
    obtain ⟨hn, rfl, rfl⟩ := row3 h
    refine bd20 (orc_cons ok46 (orc1 ok19)) 0 ((ev20 0 t n).trans ?_)
    rw [hn]; rfl
  · cases h
theorem u8_nat {k : Nat} : UInt8.ofNat (IntKind.wrap .u8 (k : Int)).toNat = UInt8.ofNat k := by
  rw [IntKind.wrap_u8]
  apply UInt8.toNat_inj.1
  rw [UInt8.toNat_ofNat', UInt8.toNat_ofNat']
  omega
theorem an69 (k : Nat) (h : k ≤ 4000) : evalBody E c0 69 Tryz.f69 0 [.int .i64 (k : Int)] [] = some (.str (lenB k), []) := by
  rw [ev69]
  unfold lenB
  simp only [List.map_cons, List.map_nil, u8_nat]
  by_cases h1 : k < 128
  · rw [dT (by omega), show Nat.blt k 128 = true from Nat.ble_eq_true_of_le h1]; rfl
  · rw [dF (by omega), show Nat.blt k 128 = false from nble (by omega)]
    by_cases h2 : k < 256
    · rw [dT (by omega), show Nat.blt k 256 = true from Nat.ble_eq_true_of_le h2]; rfl
    · rw [dF (by omega), show Nat.blt k 256 = false from nble (by omega)]
      have e : Int.fdiv (k : Int) (2 ^ 8) = ((k / 256 : Nat) : Int) := by
        rw [show ((2 : Int) ^ 8) = 256 from rfl, Int.fdiv_eq_ediv_of_nonneg _ (by decide)]; omega
      have e2 : UInt8.ofNat (k % 256) = UInt8.ofNat k := by
        apply UInt8.toNat_inj.1
        rw [UInt8.toNat_ofNat', UInt8.toNat_ofNat']
        omega
      rw [e, u8_nat, e2]; rfl
theorem ok69 {T : Tab} : SpecOk T 69 sp69 := by
  intro args outs r outs' h
  unfold sp69 at h
  split at h
  · rename_i n
    obtain ⟨hn, rfl, rfl⟩ := row3 h
    simp only [Bool.and_eq_true, decide_eq_true_eq] at hn
    obtain ⟨k, rfl⟩ := Int.eq_ofNat_of_zero_le hn.1
    exact bd69 orc_nil 0 (an69 k (by omega))
  · cases h
/-! Well formed -/
theorem inF_kids {d : Nat} {t : Int} {b : Str} {k : List Elem} (h : inF (d + 1) (.mk t b k) = true) : ok b = true ∧ k.length ≤ 1000000000 ∧ k.all (inF d) = true := by
  simp only [inF, Bool.and_eq_true] at h
  exact ⟨h.1.1, Nat.le_of_ble_eq_true h.1.2, h.2⟩
theorem lp90 (d n : Nat) : ∀ (post pre : List Elem) (m : Nat), post.length < m → pre.length + post.length ≤ 1000000000 → post.all (inF d) = true →
    L90_2 d n m (pre ++ post) ((pre.length + post.length : Nat) : Int) (pre.length : Nat) = some (.int .i64 (ixOf (fun e => !formedF d e) post pre.length), [])
  | [], pre, m, hm, hl, hp => by
    obtain ⟨m, rfl, -⟩ := pos_m hm
    rw [rd90_2, dF (by simp)]
    rfl
  | c :: post, pre, m, hm, hl, hp => by
    obtain ⟨m, rfl, hm⟩ := pos_m hm
    simp only [List.length_cons] at hl hm
    simp only [List.all_cons, Bool.and_eq_true] at hp
    have ih1 := lp90 d n post (pre ++ [c]) m (by omega) (by rw [len_snoc]; omega) hp.2
    have e2 : (pre ++ [c]).length + post.length = pre.length + (c :: post).length := by simp; omega
    rw [e2, len_snoc, ← app_mid] at ih1
    rw [rd90_2, i64_succ (by omega), toN, mid, dT (by simp; omega), dT (by omega), dT (by simp; omega), ih1, elem_eta, hp.1]
    simp only [cond_true, ixOf]
    cases formedF d c <;> rfl
theorem ok90 {T : Tab} {d : Nat} (h68 : SpecOk T 68 (sp68 d)) : SpecOk T 90 (sp90 d) := by
  intro args outs r outs' h
  unfold sp90 at h
  split at h
  · rename_i l
    obtain ⟨hl, rfl, rfl⟩ := row3 h
    simp only [Bool.and_eq_true] at hl
    have hle : List.length (α := Elem) l ≤ 1000000000 := Nat.le_of_ble_eq_true hl.1
    have lp := lp90 d (List.length (α := Elem) l + 1) l [] (List.length (α := Elem) l + 1) (Nat.lt_succ_self _) (by rw [List.length_nil, Nat.zero_add]; exact hle) hl.2
    rw [List.length_nil, Nat.zero_add] at lp
    exact bd90 d (orc1 h68) _ ((ev90 d _ l).trans lp)
  · cases h
theorem an67 (d : Nat) (l : List Elem) (h : (Nat.ble l.length lim && l.all (inF d)) = true) : evalBody E (c67 d) 67 Tryz.f67 0 [.sl .elem l, .fn 68 []] [] = some (.bool (l.any fun e => !formedF d e), []) := by
  have h' : (Nat.ble l.length 1000000000 && l.all (inF d)) = true := h
  rw [ev67, ixOf_any, h']; rfl
theorem ok67 {T : Tab} {d : Nat} (h90 : SpecOk T 90 (sp90 d)) : SpecOk T 67 (sp67 d) := by
  intro args outs r outs' h
  unfold sp67 at h
  split at h
  · rename_i l
    obtain ⟨hl, rfl, rfl⟩ := row3 h
    exact bd67 d (orc1 h90) 0 (an67 d l hl)
  · cases h
theorem an68 (d : Nat) (e : Elem) (h : inF d e = true) : evalBody E (c68 d) 68 Tryz.f68 0 [elV e] [] = some (.bool (!formedF d e), []) := by
  have := ev68 d 0 e.tag e.body e.kids
  rw [elem_eta, h] at this
  exact this
theorem ok68 {T : Tab} {d : Nat} (h47 : SpecOk T 47 (sp47 d)) : SpecOk T 68 (sp68 d) := by
  intro args outs r outs' h
  unfold sp68 at h
  split at h
  · obtain ⟨e, he, h⟩ := of_bind h
    obtain ⟨hl, rfl, rfl⟩ := row3 h
    rw [elOf_cells he]
    exact bd68 d (orc1 h47) 0 (an68 d e hl)
  · cases h
theorem any_not' {α : Type} (xs : List α) (p : α → Bool) : (!xs.any fun v => !(p v)) = xs.all p := by
  induction xs with
  | nil => rfl
  | cons a l ih => simp only [List.any_cons, List.all_cons, Bool.not_or, Bool.not_not, ih]
theorem an47 (d : Nat) (e : Elem) (h : inF (d + 1) e = true) : evalBody E (c47 d) 47 Tryz.f47 0 [elV e] [] = some (.bool (formedF (d + 1) e), []) := by
  obtain ⟨t, b, k⟩ := e
  obtain ⟨h1, h2, h3⟩ := inF_kids h
  refine (ev47 d 0 t b k).trans ?_
  rw [Nat.ble_eq_true_of_le h2, h3, isEmp_len, any_not']
  simp only [formedF, Bool.and_self, cond_true]
  rw [show IntKind.wrap .u8 (↑(BitVec.toNat (BitVec.ofInt 8 t &&& BitVec.ofInt 8 31)) : Int) = band t 31 from rfl, show IntKind.wrap .u8 (↑(BitVec.toNat (BitVec.ofInt 8 t &&& BitVec.ofInt 8 32)) : Int) = band t 32 from rfl]
  cases band t 31 == 31 <;> cases band t 32 == 0 <;> cases b == [] <;> rfl
theorem ok47 {T : Tab} : ∀ (d : Nat), SpecOk T 47 (sp47 d)
  | 0 => by
    intro args outs r outs' h
    unfold sp47 at h
    split at h
    · obtain ⟨e, he, h⟩ := of_bind h
      obtain ⟨hl, rfl, rfl⟩ := row3 h
      cases e; cases hl
    · cases h
  | d + 1 => by
    intro args outs r outs' h
    unfold sp47 at h
    split at h
    · obtain ⟨e, he, h⟩ := of_bind h
      obtain ⟨hl, rfl, rfl⟩ := row3 h
      rw [elOf_cells he]
      exact bd47 d (orc1 (ok67 (ok90 (ok68 (ok47 d))))) 0 (an47 d e hl)
    · cases h
/-! How deep -/
theorem maxN_rng {a b : Int} {d : Int} (h1 : 0 ≤ a) (h2 : a ≤ d) (h3 : b ≤ d) : 0 ≤ maxN a b ∧ maxN a b ≤ d := by
  unfold maxN
  by_cases h : b > a
  · rw [dT h]; simp only [cond_true]; omega
  · rw [dF h]; simp only [cond_false]; omega
theorem fold_rng {f : Elem → Int} {d : Int} (hf : ∀ e, f e ≤ d) : ∀ (l : List Elem) (a : Int), 0 ≤ a → a ≤ d → 0 ≤ l.foldl (fun n e => maxN n (f e)) a ∧ l.foldl (fun n e => maxN n (f e)) a ≤ d
  | [], a, h1, h2 => ⟨h1, h2⟩
  | e :: l, a, h1, h2 => by
    have := maxN_rng h1 h2 (hf e)
    exact fold_rng hf l _ this.1 this.2
theorem deep_le : ∀ (d : Nat) (e : Elem), deepF d e ≤ (d : Int)
  | 0, _ => Int.le_refl _
  | d + 1, .mk t b k => by
    have := (fold_rng (fun e => deep_le d e) k 0 (Int.le_refl _) (by omega)).2
    simp only [deepF]
    omega
theorem lp48 (d n : Nat) (hd : d ≤ 1000) : ∀ (post pre : List Elem) (m : Nat) (a : Int), post.length < m → pre.length + post.length ≤ 1000000000 → post.all (inF d) = true → 0 ≤ a → a ≤ d →
    L48_3 d n m a (pre ++ post) ((pre.length + post.length : Nat) : Int) (pre.length : Nat) = some (.int .i64 (post.foldl (fun n e => maxN n (deepF d e)) a + 1), [])
  | [], pre, m, a, hm, hl, hp, h0, ha => by
    obtain ⟨m, rfl, -⟩ := pos_m hm
    rw [rd48_3, dF (by simp), IntWalk.i64_in (a + 1) (by omega)]
    rfl
  | c :: post, pre, m, a, hm, hl, hp, h0, ha => by
    obtain ⟨m, rfl, hm⟩ := pos_m hm
    simp only [List.length_cons] at hl hm
    simp only [List.all_cons, Bool.and_eq_true] at hp
    have hmx := maxN_rng h0 ha (deep_le d c)
    have ih1 := lp48 d n hd post (pre ++ [c]) m (maxN a (deepF d c)) (by omega) (by rw [len_snoc]; omega) hp.2 hmx.1 hmx.2
    have e2 : (pre ++ [c]).length + post.length = pre.length + (c :: post).length := by simp; omega
    rw [e2, len_snoc, ← app_mid] at ih1
    rw [rd48_3, i64_succ (i := pre.length) (by omega), toN, mid, dT (by simp; omega), dT (by omega), dT (by simp; omega), elem_eta, hp.1, Nat.ble_eq_true_of_le hd]
    exact ih1
theorem an48 (d : Nat) (e : Elem) (h : inF (d + 1) e = true) (hd : d ≤ 1000) : ∃ n, evalBody E (c48 d) 48 Tryz.f48 n [elV e] [] = some (.int .i64 (deepF (d + 1) e), []) := by
  obtain ⟨t, b, k⟩ := e
  obtain ⟨h1, h2, h3⟩ := inF_kids h
  refine ⟨k.length + 1, (ev48 d _ t b k).trans ?_⟩
  have lp := lp48 d (k.length + 1) hd k [] (k.length + 1) 0 (Nat.lt_succ_self _) (by simpa using h2) h3 (Int.le_refl _) (by omega)
  rw [List.length_nil, Nat.zero_add] at lp
  exact lp
theorem ok48 {T : Tab} : ∀ (d : Nat), SpecOk T 48 (sp48 d)
  | 0 => by
    intro args outs r outs' h
    unfold sp48 at h
    split at h
    · obtain ⟨e, he, h⟩ := of_bind h
      obtain ⟨hl, rfl, rfl⟩ := row3 h
      cases e; cases hl
    · cases h
  | d + 1 => by
    intro args outs r outs' h
    unfold sp48 at h
    split at h
    · obtain ⟨e, he, h⟩ := of_bind h
      obtain ⟨hl, rfl, rfl⟩ := row3 h
      simp only [Bool.and_eq_true] at hl
      have := Nat.le_of_ble_eq_true hl.2
      rw [elOf_cells he]
      obtain ⟨n, hn⟩ := an48 d e hl.1 (by omega)
      exact bd48 d (orc1 (ok48 d)) n hn
    · cases h
end Go.Ev
/-
  What the program's functions answer: an element's bytes; a number's text; a change's bytes.
-/
namespace Go.Ev
open Go.Proofs Go.Ev.Sp
theorem bytes_le : ∀ (d : Nat) (e : Elem) (s : Str), bytesF d e = some s → s.length ≤ 4010
  | 0, _, _, h => by cases h
  | d + 1, .mk t b k, s, h => by
    simp only [bytesF] at h
    obtain ⟨x, _, h⟩ := of_bind h
    obtain ⟨h1, h⟩ := of_bif h
    have h1 := Nat.le_of_ble_eq_true h1
    simp only [Option.some.injEq] at h
    subst h
    have : (lenB x.length).length ≤ 3 := by
      unfold lenB
      cases Nat.blt x.length 128 <;> cases Nat.blt x.length 256 <;> simp
    simp only [List.length_cons, List.length_append]
    omega
def byV (t : Int) : Option Str → V
  | some s => bif Nat.ble s.length 4000 then .tup [.str (UInt8.ofNat t.toNat :: (lenB s.length ++ s)), .bool true] else .tup [.str [], .bool false]
  | none => .tup [.str [], .bool false]
theorem bs_app (a b : Str) : bs a ++ bs b = bs (a ++ b) := by simp [bs]
theorem lp49 (d n : Nat) (t : Int) (b0 : Str) (k0 : List Elem) : ∀ (post pre : List Elem) (m : Nat) (acc : Str), post.length < m → pre.length + post.length ≤ 1000000000 → post.all (inF d) = true → acc.length ≤ 1000000000 →
    L49_3 d n m (pre ++ post) ((pre.length + post.length : Nat) : Int) (pre.length : Nat) t b0 k0 (bs acc) = some (byV t (joinF (bytesF d) post acc), [])
  | [], pre, m, acc, hm, hl, hp, ha => by
    obtain ⟨m, rfl, -⟩ := pos_m hm
    rw [rd49_3, dF (by simp)]
    simp only [cond_false, joinF, byV, bs_len, toN, of_bs]
    by_cases h4 : acc.length ≤ 4000
    · have hlb : (lenB acc.length).length ≤ 3 := by
        unfold lenB
        cases Nat.blt acc.length 128 <;> cases Nat.blt acc.length 256 <;> simp
      rw [dF (by omega), dT (by omega), dT (by omega), Nat.ble_eq_true_of_le h4, Nat.ble_eq_true_of_le (show (List.map (fun (n : Int) => UInt8.ofNat n.toNat) [t]).length + (lenB acc.length).length ≤ 1099511627776 by simp; omega),
        Nat.ble_eq_true_of_le (show (List.map (fun (n : Int) => UInt8.ofNat n.toNat) [t] ++ lenB acc.length).length + acc.length ≤ 1099511627776 by simp; omega)]
      simp
    · rw [dT (by omega), nble h4]; rfl
  | c :: post, pre, m, acc, hm, hl, hp, ha => by
    obtain ⟨m, rfl, hm⟩ := pos_m hm
    simp only [List.length_cons] at hl hm
    simp only [List.all_cons, Bool.and_eq_true] at hp
    rw [rd49_3, i64_succ (i := pre.length) (by omega), toN, mid, dT (by simp; omega), dT (by omega), dT (by simp; omega), elem_eta, hp.1]
    simp only [cond_true, joinF]
    cases hb : bytesF d c with
    | none => rfl
    | some x =>
      have hx := bytes_le d c x hb
      have e : IntKind.wrap .i64 (((bs acc).length : Int) + (x.length : Int)) = ((acc.length + x.length : Nat) : Int) := by
        rw [bs_len, IntWalk.i64_in _ (by omega)]; omega
      simp only [Option.isSome_some, Bool.not_true, cond_false, Option.getD_some, Option.bind_some, e]
      by_cases h4 : acc.length + x.length ≤ 4000
      · have e3 : bs acc ++ List.map (fun (c : UInt8) => (↑(UInt8.toNat c) : Int)) x = bs (acc ++ x) := bs_app acc x
        rw [dF (by omega), Nat.ble_eq_true_of_le h4, e3, Nat.ble_eq_true_of_le (show (bs acc).length + _ ≤ 1073741824 by rw [bs_len]; simp; omega)]
        have ih1 := lp49 d n t b0 k0 post (pre ++ [c]) m (acc ++ x) (by omega) (by rw [len_snoc]; omega) hp.2 (by simp; omega)
        have e2 : (pre ++ [c]).length + post.length = pre.length + (c :: post).length := by simp; omega
        rw [e2, len_snoc, ← app_mid] at ih1
        exact ih1
      · rw [dT (by omega), nble h4]; rfl
theorem an49 (d : Nat) (e : Elem) (h : inF (d + 1) e = true) : ∃ n, evalBody E (c49 d) 49 Tryz.f49 n [elV e] [] = some (.tup [.str ((bytesF (d + 1) e).getD []), .bool (bytesF (d + 1) e).isSome], []) := by
  obtain ⟨t, b, k⟩ := e
  obtain ⟨h1, h2, h3⟩ := inF_kids h
  refine ⟨k.length + 1, (ev49 d _ t b k).trans ?_⟩
  have lp := lp49 d (k.length + 1) t b k k [] (k.length + 1) b (Nat.lt_succ_self _) (by simpa using h2) h3 (ok_le h1)
  rw [List.length_nil, Nat.zero_add] at lp
  refine lp.trans ?_
  simp only [bytesF]
  cases joinF (bytesF d) k b with
  | none => rfl
  | some s => cases hs : Nat.ble s.length 4000 <;> simp [byV, hs]
theorem ok49 {T : Tab} : ∀ (d : Nat), SpecOk T 49 (sp49 d)
  | 0 => by
    intro args outs r outs' h
    unfold sp49 at h
    split at h
    · obtain ⟨e, he, h⟩ := of_bind h
      obtain ⟨hl, rfl, rfl⟩ := row3 h
      cases e; cases hl
    · cases h
  | d + 1 => by
    intro args outs r outs' h
    unfold sp49 at h
    split at h
    · obtain ⟨e, he, h⟩ := of_bind h
      obtain ⟨hl, rfl, rfl⟩ := row3 h
      rw [elOf_cells he]
      obtain ⟨n, hn⟩ := an49 d e hl
      exact bd49 d (orc_cons (ok49 d) (orc1 ok69)) n hn
    · cases h
theorem an22 (d : Nat) (e : Elem) (h : (inF d e && Nat.ble d 1000) = true) : evalBody E (c22 d) 22 Tryz.f22 0 [elV e] [] = some (.tup [.str (writeF d e).1, .int .i64 (writeF d e).2], []) := by
  have ev := ev22 d 0 e.tag e.body e.kids
  rw [elem_eta, h] at ev
  simp only [Bool.and_eq_true] at h
  rw [h.1] at ev
  refine ev.trans ?_
  unfold writeF
  simp only [cond_true]
  cases formedF d e with
  | false => rfl
  | true =>
    simp only [Bool.not_true, cond_false]
    cases decide (deepF d e > 20) with
    | true => rfl
    | false => cases bytesF d e <;> rfl
theorem ok22 {T : Tab} (d : Nat) : SpecOk T 22 (sp22 d) := by
  intro args outs r outs' h
  unfold sp22 at h
  split at h
  · obtain ⟨e, he, h⟩ := of_bind h
    obtain ⟨hl, rfl, rfl⟩ := row3 h
    rw [elOf_cells he]
    exact bd22 d (orc_cons (ok47 d) (orc_cons (ok48 d) (orc1 (ok49 d)))) 0 (an22 d e hl)
  · cases h
/-! A number's text -/
theorem an50 (x : Csn) (h : x.i64 = true) : evalBody E c50 50 Tryz.f50 0 [.agg (Csn.cells x)] [] = some (.str (csnText x), []) := by
  simp only [Csn.i64, Bool.and_eq_true] at h
  have l1 := itoa_len _ h.1.1
  have l2 := itoa_len _ h.1.2
  have l3 := itoa_len _ h.2
  rw [ev50, h.1.1, h.1.2, h.2]
  repeat rw [Nat.ble_eq_true_of_le (by simp; omega)]
  rfl
theorem ok50 {T : Tab} (h70 : SpecOk T 70 sp70) (h71 : SpecOk T 71 sp71) : SpecOk T 50 sp50 := by
  intro args outs r outs' h
  unfold sp50 at h
  split at h
  · obtain ⟨x, hx, h⟩ := of_bind h
    obtain ⟨hl, rfl, rfl⟩ := row3 h
    rw [csnOf_cells hx]
    exact bd50 (orc_cons h70 (orc1 h71)) 0 (an50 x hl)
  · cases h
theorem ok23 {T : Tab} (h50 : SpecOk T 50 sp50) : SpecOk T 23 sp23 := by
  intro args outs r outs' h
  unfold sp23 at h
  split at h
  · obtain ⟨x, hx, h⟩ := of_bind h
    obtain ⟨hl, rfl, rfl⟩ := row3 h
    rw [csnOf_cells hx]
    refine bd23 (orc_cons h50 (orc1 ok19)) 0 ((ev23 0 x).trans ?_)
    have hl' : Csn.i64 ⟨x.t, x.s, x.r⟩ = true := hl
    rw [hl']; rfl
  · cases h
end Go.Ev
/-
  What the program's functions answer: a change's bytes.
-/
namespace Go.Ev
open Go.Proofs Go.Ev.Sp
theorem intA_len : ∀ (k : Nat) (rest : Int) (b r : Str), intA k rest b = some r → r.length ≤ b.length + k
  | 0, _, _, _, h => by cases h
  | k + 1, rest, b, r, h => by
    rw [intA] at h
    cases hc : (rest == (bif decide (ch (b.getD 0 0) ≥ 128) then -1 else 0)) with
    | true => rw [hc] at h; cases h; omega
    | false =>
      rw [hc] at h
      have := intA_len k _ _ r h
      simp only [List.length_cons] at this
      omega
theorem intB_len {n : Int} (h : isI64 n = true) : (intB n).length ≤ 13 := by
  have := intA_len 12 _ _ _ (intB_some h)
  simpa using this
theorem csnText_len {x : Csn} (h : x.i64 = true) : (csnText x).length ≤ 70 := by
  simp only [Csn.i64, Bool.and_eq_true] at h
  have l1 := itoa_len _ h.1.1
  have l2 := itoa_len _ h.1.2
  have l3 := itoa_len _ h.2
  unfold csnText
  simp only [List.length_append, List.length_singleton]
  omega
theorem isChange_small {x : Chn} (h : isChange x = true) : x.rdn.length ≤ 4 ∧ x.mods.length ≤ 8 ∧ ∀ m ∈ x.mods, m.values.length ≤ 12 := by
  have hm : ∀ last, isMods last x.mods = true → x.mods.length ≤ 8 ∧ ∀ m ∈ x.mods, m.values.length ≤ 12 := fun last hh => by
    simp only [isMods, Bool.and_eq_true, List.all_eq_true] at hh
    refine ⟨Nat.le_of_ble_eq_true hh.2, fun m hm => ?_⟩
    have := hh.1 m hm
    simp only [isMod, Bool.and_eq_true] at this
    exact Nat.le_of_ble_eq_true this.1.1.2
  have h0 : x.mods.isEmpty = true → x.mods.length ≤ 8 ∧ ∀ m ∈ x.mods, m.values.length ≤ 12 := fun hh => by
    have : x.mods = [] := List.isEmpty_iff.1 hh
    rw [this]; simp
  have hr : isRDNc x.rdn = true → x.rdn.length ≤ 4 := fun hh => by
    simp only [isRDNc, Bool.and_eq_true] at hh
    exact isRDN_le hh.1.1
  have hb : x.bare = true → x.rdn.length ≤ 4 := fun hh => by
    simp only [Chn.bare, Bool.and_eq_true] at hh
    have : x.rdn = [] := List.isEmpty_iff.1 hh.1.2
    rw [this]; simp
  unfold isChange at h
  simp only [Bool.and_eq_true] at h
  have h := h.2
  cases k1 : x.kind == 1 with
  | true =>
    rw [k1] at h
    simp only [cond_true, Bool.and_eq_true] at h
    exact ⟨hr h.1.1.2, hm 1 h.1.2⟩
  | false =>
    rw [k1] at h
    cases k2 : x.kind == 2 with
    | true =>
      rw [k2] at h
      simp only [cond_true, cond_false, Bool.and_eq_true] at h
      exact ⟨hb h.1.2, h0 h.2⟩
    | false =>
      rw [k2] at h
      cases k3 : x.kind == 3 with
      | true =>
        rw [k3] at h
        simp only [cond_true, cond_false, Bool.and_eq_true] at h
        exact ⟨hb h.1.1.2, hm 3 h.2⟩
      | false =>
        rw [k3] at h
        cases k4 : x.kind == 4 with
        | true =>
          rw [k4] at h
          simp only [cond_true, cond_false, Bool.and_eq_true] at h
          exact ⟨hr h.1.2, h0 h.2⟩
        | false => rw [k4] at h; cases h
theorem wrap_i64 (n : Int) : isI64 (IntKind.wrap .i64 n) = true := by
  rw [IntKind.wrap_i64]
  simp only [isI64, Bool.and_eq_true, decide_eq_true_eq]
  omega
noncomputable def M9a (n m : Nat) (l i : Int) (x : Chn) (r4 r5 : List Elem) : Option (V × List (List V)) := L9_5 n m x.rdn l i x.c.t x.c.s x.c.r x.kind x.id.t x.id.s x.id.r x.par.t x.par.s x.par.r x.rdn x.del x.mods r4 r5
noncomputable def M9b (n m : Nat) (l i : Int) (x : Chn) (r4 r5 : List Elem) : Option (V × List (List V)) := L9_10 n m x.mods l i x.c.t x.c.s x.c.r x.kind x.id.t x.id.s x.id.r x.par.t x.par.s x.par.r x.rdn x.del x.mods r4 r5
noncomputable def M9c (n m4 m : Nat) (l i : Int) (vs : List Str) (lv j : Int) (x : Chn) (r4 r5 r49 : List Elem) : Option (V × List (List V)) := L9_14 n m4 m x.mods l i vs lv j x.c.t x.c.s x.c.r x.kind x.id.t x.id.s x.id.r x.par.t x.par.s x.par.r x.rdn x.del x.mods r4 r5 r49
def topE (x : Chn) (r4 r5 : List Elem) : Elem := tList [tInt (kindI x), tText (csnText x.c), tText (csnText x.id), tText (csnText x.par), tList r4, tList r5]
def endB (x : Chn) (r4 r5 : List Elem) : V :=
  bif (writeF 4 (topE x r4 r5)).2 == 0 && decide (((writeF 4 (topE x r4 r5)).1.length : Int) > 4000) then .tup [.str [], .int .i64 13] else .tup [.str (writeF 4 (topE x r4 r5)).1, .int .i64 (writeF 4 (topE x r4 r5)).2]
theorem tailQ (q : Str × Int) : (bif q.2 == 0 then bif decide ((q.1.length : Int) > 4000) then some (V.tup [.str [], .int .i64 13], ([] : List (List V))) else some (V.tup [V.str q.1, V.int .i64 q.2], []) else some (V.tup [V.str q.1, V.int .i64 q.2], [])) =
    some (bif q.2 == 0 && decide ((q.1.length : Int) > 4000) then V.tup [.str [], .int .i64 13] else V.tup [V.str q.1, V.int .i64 q.2], []) := by
  cases q.2 == 0 <;> cases decide ((q.1.length : Int) > 4000) <;> rfl
theorem lp9c (n m4 : Nat) (l : Int) (i : Nat) (hi : i < 1000) (x : Chn) (r4 r5 : List Elem) (h5 : r5.length ≤ 1000) (vs : List Str) (hv : vs.length ≤ 1000) : ∀ (post pre : List Str) (m : Nat) (r49 : List Elem), post.length < m → vs = pre ++ post → r49.length ≤ pre.length + 2 →
    M9c n m4 m l i vs (vs.length : Nat) (pre.length : Nat) x r4 r5 r49 = M9b n m4 l ((i + 1 : Nat) : Int) x r4 (r5 ++ [tList (r49 ++ post.map tText)])
  | [], pre, m, r49, hm, hp, hr => by
    obtain ⟨m, rfl, -⟩ := pos_m hm
    unfold M9c
    rw [rd9_14, i64_succ (i := i) (by omega), dF (by rw [hp]; simp), Nat.ble_eq_true_of_le (show r5.length + _ ≤ 1073741824 by simp; omega)]
    simp only [cond_false, cond_true, List.map_nil, List.append_nil]
    rfl
  | v :: post, pre, m, r49, hm, hp, hr => by
    obtain ⟨m, rfl, hm⟩ := pos_m hm
    simp only [List.length_cons] at hm
    have hvl : pre.length + (post.length + 1) ≤ 1000 := by rw [hp] at hv; simpa using hv
    have hlen : vs.length = pre.length + (post.length + 1) := by rw [hp]; simp
    have hg : List.getD vs pre.length [] = v := by rw [hp]; exact mid pre post v _
    have ih := lp9c n m4 l i hi x r4 r5 h5 vs hv post (pre ++ [v]) m (r49 ++ [tText v]) (by omega) (by rw [hp]; simp) (by simp; omega)
    rw [len_snoc] at ih
    unfold M9c at ih ⊢
    rw [rd9_14, i64_succ (i := pre.length) (by omega), toN, hg, dT (by omega), dT (by omega), Nat.ble_eq_true_of_le (show r49.length + _ ≤ 1073741824 by simp; omega)]
    simp only [cond_true]
    refine (Eq.trans ?_ ih).trans ?_
    · rfl
    · simp
theorem lp9b (n : Nat) (hn : 1000 < n) (x : Chn) (r4 : List Elem) (hx : x.i64 = true) (hv : ∀ m ∈ x.mods, m.values.length ≤ 12) (hml : x.mods.length ≤ 8) (hf : inF 4 (topE x r4 (x.mods.map modE)) = true) : ∀ (post pre : List Mod) (m : Nat), post.length < m → x.mods = pre ++ post →
    M9b n m (x.mods.length : Nat) (pre.length : Nat) x r4 (pre.map modE) = some (endB x r4 (x.mods.map modE), [])
  | [], pre, m, hm, hp => by
    obtain ⟨m, rfl, -⟩ := pos_m hm
    simp only [Chn.i64, Bool.and_eq_true] at hx
    rw [List.append_nil] at hp
    have hk : inF 4 (topE x r4 (pre.map modE)) = true := by rw [← hp]; exact hf
    rw [hp]
    unfold M9b
    rw [rd9_10, dF (by simp)]
    simp only [cond_false]
    rw [wrap_i64, show Csn.i64 ⟨x.c.t, x.c.s, x.c.r⟩ = true from hx.1.1.1.1, show Csn.i64 ⟨x.id.t, x.id.s, x.id.r⟩ = true from hx.1.1.1.2, show Csn.i64 ⟨x.par.t, x.par.s, x.par.r⟩ = true from hx.1.1.2, hx.1.2]
    simp only [cond_true, Bool.and_true]
    unfold endB
    unfold topE tList tInt tText kindI at hk ⊢
    cases hd : x.del with
    | true =>
      rw [hd] at hk
      simp only [cond_true] at hk ⊢
      rw [hk]
      simp only [cond_true]
      exact tailQ (writeF 4 (Elem.mk 48 [] [Elem.mk 2 (intB (IntKind.wrap .i64 (0 - x.kind))) [], Elem.mk 4 (csnText x.c) [], Elem.mk 4 (csnText x.id) [], Elem.mk 4 (csnText x.par) [], Elem.mk 48 [] r4, Elem.mk 48 [] (pre.map modE)]))
    | false =>
      rw [hd] at hk
      simp only [cond_false] at hk ⊢
      rw [hk]
      simp only [cond_true]
      exact tailQ (writeF 4 (Elem.mk 48 [] [Elem.mk 2 (intB x.kind) [], Elem.mk 4 (csnText x.c) [], Elem.mk 4 (csnText x.id) [], Elem.mk 4 (csnText x.par) [], Elem.mk 48 [] r4, Elem.mk 48 [] (pre.map modE)]))
  | c :: post, pre, m, hm, hp => by
    obtain ⟨m, rfl, hm⟩ := pos_m hm
    simp only [List.length_cons] at hm
    have hc : c ∈ x.mods := by rw [hp]; simp
    have hki : isI64 c.kind = true := by
      simp only [Chn.i64, Bool.and_eq_true, List.all_eq_true] at hx
      exact hx.2 c hc
    have hlen : x.mods.length = pre.length + (post.length + 1) := by rw [hp]; simp
    have hg : List.getD x.mods pre.length (Go.Ev.Mod.mk 0 [] []) = c := by rw [hp]; exact mid pre post c _
    have hcv := hv c hc
    have ih := lp9b n hn x r4 hx hv hml hf post (pre ++ [c]) m (by omega) (by rw [hp]; simp)
    have inn := lp9c n m (x.mods.length : Nat) pre.length (by omega) x r4 (pre.map modE) (by simp; omega) c.values (by omega) c.values [] n [tInt c.kind, tText c.attr] (by omega) rfl (by simp)
    unfold M9b
    rw [rd9_10, toN, hg, hki, dT (by omega), dT (by omega)]
    simp only [cond_true]
    refine Eq.trans ?_ (inn.trans ?_)
    · rfl
    · rw [len_snoc] at ih
      rw [← ih]
      simp [modE, M9b]
theorem lp9a (n : Nat) (hn : 1000 < n) (x : Chn) (hl : x.rdn.length ≤ 4) : ∀ (post pre : List AVA) (m : Nat), post.length < m → x.rdn = pre ++ post →
    M9a n m (x.rdn.length : Nat) (pre.length : Nat) x (pre.flatMap avaE) [] = M9b n n (x.mods.length : Nat) 0 x (x.rdn.flatMap avaE) []
  | [], pre, m, hm, hp => by
    obtain ⟨m, rfl, -⟩ := pos_m hm
    rw [List.append_nil] at hp
    subst hp
    unfold M9a
    rw [rd9_5, dF (by simp)]
    rfl
  | c :: post, pre, m, hm, hp => by
    obtain ⟨m, rfl, hm⟩ := pos_m hm
    simp only [List.length_cons] at hm
    have hlen : x.rdn.length = pre.length + (post.length + 1) := by rw [hp]; simp
    have hg : List.getD x.rdn pre.length (AVA.mk [] []) = c := by rw [hp]; exact mid pre post c _
    have hfl : ∀ l : List AVA, (l.flatMap avaE).length = 2 * l.length := by
      intro l
      induction l with
      | nil => rfl
      | cons a l ih => simp only [List.flatMap_cons, List.length_append, ih, List.length_cons]; simp [avaE]; omega
    have ih := lp9a n hn x hl post (pre ++ [c]) m (by omega) (by rw [hp]; simp)
    rw [len_snoc] at ih
    unfold M9a at ih ⊢
    rw [rd9_5, i64_succ (i := pre.length) (by omega), toN, hg, dT (by omega), dT (by omega), Nat.ble_eq_true_of_le (show (pre.flatMap avaE).length + _ ≤ 1073741824 by rw [hfl]; simp; omega)]
    simp only [cond_true]
    refine Eq.trans ?_ ih
    rw [List.flatMap_append]
    rfl
theorem inF_top {x : Chn} (hc : isChange x = true) (hx : x.i64 = true) (ho : x.ok = true) : inF 4 (topE x (x.rdn.flatMap avaE) (x.mods.map modE)) = true := by
  obtain ⟨s1, s2, s3⟩ := isChange_small hc
  simp only [Chn.ok, Bool.and_eq_true] at ho
  obtain ⟨o1, o2⟩ := okAs_all ho.1
  obtain ⟨o3, o4⟩ := okMs_all ho.2
  simp only [Chn.i64, Bool.and_eq_true, List.all_eq_true] at hx
  have tx : ∀ (d : Nat) (s : Str), s.length ≤ 1000000000 → inF (d + 1) (tText s) = true := fun d s h => by
    simp only [tText, inF, le_ok h, List.all_nil, List.length_nil]; rfl
  have ti : ∀ (d : Nat) (n : Int), isI64 n = true → inF (d + 1) (tInt n) = true := fun d n h => by
    simp only [tInt, inF, le_ok (show (intB n).length ≤ 1000000000 by have := intB_len h; omega), List.all_nil, List.length_nil]; rfl
  have tl : ∀ (d : Nat) (l : List Elem), l.length ≤ 1000000000 → (∀ e ∈ l, inF d e = true) → inF (d + 1) (tList l) = true := fun d l h1 h2 => by
    simp only [tList, inF, Bool.and_eq_true, List.all_eq_true]
    exact ⟨⟨rfl, Nat.ble_eq_true_of_le h1⟩, h2⟩
  have ct : ∀ c : Csn, c.i64 = true → inF 3 (tText (csnText c)) = true := fun c h => tx 2 _ (by have := csnText_len h; omega)
  have hfl : ∀ l : List AVA, (l.flatMap avaE).length = 2 * l.length := by
    intro l
    induction l with
    | nil => rfl
    | cons a l ih => simp only [List.flatMap_cons, List.length_append, ih, List.length_cons]; simp [avaE]; omega
  refine tl 3 _ (by simp) fun e he => ?_
  simp only [List.mem_cons, List.not_mem_nil, or_false] at he
  rcases he with rfl | rfl | rfl | rfl | rfl | rfl
  · refine ti 2 _ ?_
    unfold kindI
    cases x.del
    · exact hx.1.2
    · exact wrap_i64 _
  · exact ct _ hx.1.1.1.1
  · exact ct _ hx.1.1.1.2
  · exact ct _ hx.1.1.2
  · refine tl 2 _ (by rw [hfl]; omega) fun e he => ?_
    obtain ⟨a, ha, he⟩ := List.mem_flatMap.1 he
    obtain ⟨p1, p2⟩ := o2 a ha
    simp only [avaE, List.mem_cons, List.not_mem_nil, or_false] at he
    rcases he with rfl | rfl
    · exact tx 1 _ (ok_le p1)
    · exact tx 1 _ (ok_le p2)
  · refine tl 2 _ (by simp; omega) fun e he => ?_
    obtain ⟨m, hm, rfl⟩ := List.mem_map.1 he
    obtain ⟨p1, p2⟩ := o4 m hm
    obtain ⟨q1, q2⟩ := okSs_all p2
    refine tl 1 _ (by simp; have := s3 m hm; omega) fun e he => ?_
    simp only [List.mem_cons, List.mem_map] at he
    rcases he with rfl | rfl | ⟨v, hv, rfl⟩
    · exact ti 0 _ (hx.2 m hm)
    · exact tx 0 _ (ok_le p1)
    · exact tx 0 _ (ok_le (q2 v hv))
theorem an9 (n : Nat) (hn : 1000 < n) (x : Chn) (h : (x.ok && x.i64) = true) : evalBody E c9 9 Tryz.f9 n [.agg (Chn.cells x)] [] = some (.tup [.str (bytesC x).1, .int .i64 (bytesC x).2], []) := by
  simp only [Bool.and_eq_true] at h
  refine (ev9 n x).trans ?_
  rw [show Chn.ok _ = true from h.1]
  simp only [cond_true]
  unfold bytesC
  cases hc : isChange x with
  | false =>
    rfl
  | true =>
    simp only [Bool.not_true, cond_false]
    obtain ⟨s1, s2, s3⟩ := isChange_small hc
    have a := lp9a n hn x s1 x.rdn [] n (by omega) rfl
    have b := lp9b n hn x (x.rdn.flatMap avaE) h.2 s3 s2 (inF_top hc h.2 h.1) x.mods [] n (by omega) rfl
    have e : M9a n n (x.rdn.length : Nat) 0 x [] [] = some (endB x (x.rdn.flatMap avaE) (x.mods.map modE), []) := a.trans b
    refine Eq.trans (show _ = M9a n n (x.rdn.length : Nat) 0 x [] [] from rfl) (e.trans ?_)
    unfold endB
    rw [show topE x (x.rdn.flatMap avaE) (x.mods.map modE) = chgE x from rfl]
    cases (writeF 4 (chgE x)).2 == 0 && decide (((writeF 4 (chgE x)).1.length : Int) > 4000) <;> rfl
theorem ok9 {T : Tab} (h70 : SpecOk T 70 sp70) (h71 : SpecOk T 71 sp71) : SpecOk T 9 sp9 := by
  intro args outs r outs' h
  unfold sp9 at h
  split at h
  · obtain ⟨x, hx, h⟩ := of_bind h
    obtain ⟨hl, rfl, rfl⟩ := row3 h
    rw [chgOf_cells hx]
    exact bd9 (orc_cons ok10 (orc_cons ok19 (orc_cons ok20 (orc_cons ok21 (orc_cons (ok22 4) (orc1 (ok23 (ok50 h70 h71))))))))
      1001 (an9 1001 (by decide) x hl)
  · cases h
end Go.Ev
