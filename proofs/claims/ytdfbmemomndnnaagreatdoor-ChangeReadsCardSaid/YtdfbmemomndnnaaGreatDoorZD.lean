/-
  What the evaluator says of one operation is what the model does: part 4: slices, rows, conversions, len, literals.
-/
import Derived.Test.YtdfbmemomndnnaaGreatDoorZC
import Derived.Great.BuildSlice
import Derived.Deep.AppendSrc
namespace Go.Ev
section
variable {P : Program} {E : Env} {C : Orc} {om : Nat → Nat} {W0 : World} {S0 : Prot} {s : St} {c : Cc} {w : World} {a : Act}

theorem isKd_eq {x : Option K} {k : K} (h : isKd x k = true) : x = some k := by
  unfold isKd at h
  split at h
  · rename_i k'
    cases k' <;> cases k <;> first | rfl | (simp [K.same] at h)
  · cases h

theorem run_bounds (hs : ∀ t, RD (cxOf om s c) c.S w (a.tmps.getD t Go.undef) (s.sl t)) (isS : Bool) {len cap : Nat} (hlc : len ≤ cap) {lo hi : Option Operand} {p : Nat × Nat}
    (h : bounds len (lo.map (val s)) (hi.map (val s)) = some p) : (Instr.sliceBounds isS len cap (lo.map a.eval) (hi.map a.eval) none).run P w = .ok (p.1, p.2, cap) w ∧ p.1 ≤ p.2 ∧ p.2 ≤ len := by
  unfold bounds at h
  obtain ⟨hh, h1, h⟩ := of_bind h
  obtain ⟨ll, h2, h⟩ := of_bind h
  simp only [Option.some.injEq] at h
  subst h
  have hhi : (hi = none ∧ hh = len) ∨ ∃ x k n, hi = some x ∧ a.eval x = .int k n ∧ 0 ≤ n ∧ n ≤ (len : Int) ∧ hh = n.toNat := by
    cases hi with
    | none => simp at h1; exact .inl ⟨rfl, h1.symm⟩
    | some x =>
      simp only [Option.map_some] at h1
      have hv := val_RD hs x
      split at h1
      · rename_i hx; cases hx
      · rename_i k n hx
        have hx : val s x = .int k n := by simpa using hx
        rw [hx] at hv
        obtain ⟨q1, h1⟩ := of_bif h1
        obtain ⟨q2, h1⟩ := of_bif h1
        simp only [Option.some.injEq] at h1
        exact .inr ⟨x, k, n, rfl, RD_iff.1 hv, by simpa using q1, by simpa using q2, h1.symm⟩
      · cases h1
  have hlo : (lo = none ∧ ll = 0) ∨ ∃ x k n, lo = some x ∧ a.eval x = .int k n ∧ 0 ≤ n ∧ n ≤ (hh : Int) ∧ ll = n.toNat := by
    cases lo with
    | none => simp at h2; exact .inl ⟨rfl, h2.symm⟩
    | some x =>
      simp only [Option.map_some] at h2
      have hv := val_RD hs x
      split at h2
      · rename_i hx; cases hx
      · rename_i k n hx
        have hx : val s x = .int k n := by simpa using hx
        rw [hx] at hv
        obtain ⟨q1, h2⟩ := of_bif h2
        obtain ⟨q2, h2⟩ := of_bif h2
        simp only [Option.some.injEq] at h2
        exact .inr ⟨x, k, n, rfl, RD_iff.1 hv, by simpa using q1, by simpa using q2, h2.symm⟩
      · cases h2
  clear h1 h2
  rcases hhi with ⟨rfl, rfl⟩ | ⟨x, k, n, rfl, hx, n0, n1, rfl⟩
  · rcases hlo with ⟨rfl, rfl⟩ | ⟨y, k', m, rfl, hy, m0, m1, rfl⟩
    · exact ⟨by simp [Instr.sliceBounds], Nat.zero_le _, Nat.le_refl _⟩
    · refine ⟨?_, by omega, Nat.le_refl _⟩
      simp [Instr.sliceBounds, hy, run_sliceBound w k' m hh _ m0 m1]
  · have hb : ∀ code, (Instr.sliceBound (.int k n) cap code).run P w = .ok n.toNat w := fun code => run_sliceBound w k n cap code n0 (by omega)
    rcases hlo with ⟨rfl, rfl⟩ | ⟨y, k', m, rfl, hy, m0, m1, rfl⟩
    · exact ⟨by simp [Instr.sliceBounds, hx, hb], Nat.zero_le _, by omega⟩
    · refine ⟨?_, by omega, by omega⟩
      simp [Instr.sliceBounds, hx, hy, hb, run_sliceBound w k' m n.toNat _ m0 m1]

theorem good_slice (hE : EnvOk P E) (h : Inv om W0 S0 s c w) (hs : ∀ t, RD (cxOf om s c) c.S w (a.tmps.getD t Go.undef) (s.sl t)) {d : Option Tmp} {x : Operand} {lo hi : Option Operand} {t : TypeId} {ty : TypeId} {pos : String} {af : Array Edge} {g : Option (Nat × Bool)} {e : Eff}
    (he : eff E C s ⟨d, .slice t x lo hi none, ty, pos, af, g⟩ = some e) : Good P om W0 S0 s c w e (execOp a.eval ⟨d, .slice t x lo hi none, ty, pos, af, g⟩) := by
  have hv := val_RD hs x
  simp only [eff] at he
  cases hx : val s x with
  | str b =>
    rw [hx] at he hv
    simp only at he
    obtain ⟨hst, he⟩ := of_bif he
    obtain ⟨p, hp, he⟩ := of_bind he
    have hxv : a.eval x = .string ⟨b.toArray⟩ := RD_iff.1 hv
    have hsz : (⟨b.toArray⟩ : ByteArray).size = b.length := by simp [ByteArray.size]
    obtain ⟨h1, h2, h3⟩ := run_bounds (P := P) hs false (Nat.le_refl _) hp
    refine Good.plain h he (.string ⟨((b.take p.2).drop p.1).toArray⟩) ?_ (RD_iff.2 rfl)
    have hu := run_underlying (P := P) (hE.str t hst) w
    simp only [execOp, Instr.sliceAt, Instr.slice, hxv, Sem.run_bind, hu, Result.andThen_ok, Option.map_none, hsz, h1, Option.isSome_none, Bool.false_eq_true, if_false, Sem.run_pure]
    rw [ByteArray.extract_mk, List.drop_take]
  | sl k xs =>
    rw [hx] at he hv
    simp only at he
    obtain ⟨p, hp, he⟩ := of_bind he
    obtain ⟨hk, he⟩ := of_bif he
    obtain ⟨el, i, z, hu, hi, hsz, _⟩ := hE.kd t k (isKd_eq hk)
    obtain ⟨ad, cp, hxv, hle, hel⟩ := RD_iff.1 hv
    obtain ⟨h1, h2, h3⟩ := run_bounds (P := P) hs true hle hp
    refine Good.plain h he (.slice (if cp = p.1 then ad else ad.map (·.add (p.1 * i.size))) (p.2 - p.1) (cp - p.1)) ?_ (RD_iff.2 ?_)
    · have hur := run_underlying (P := P) hu w
      simp only [execOp, Instr.sliceAt, Instr.slice, hxv, Sem.run_bind, hur, Result.andThen_ok, Option.map_none, h1, sizeOf, typeInfo, run_program, hi, Sem.run_pure]
    · have hlen : ((xs.take p.2).drop p.1).length = p.2 - p.1 := by simp; omega
      refine ⟨if cp = p.1 then ad else ad.map (·.add (p.1 * i.size)), cp - p.1, by rw [hlen], by rw [hlen]; omega, fun j y hy => ?_⟩
      rw [List.getElem?_drop, List.getElem?_take] at hy
      split at hy
      · rename_i hlt
        obtain ⟨g', q, vs, hq1, hq2, hq3⟩ := hel (p.1 + j) y hy
        rw [if_neg (by omega), hq1]
        refine ⟨g', q + p.1 * k.size, vs, by rw [hsz]; simp [Addr.add_lit], hq2, fun m u hm => ?_⟩
        have := hq3 m u hm
        rwa [Nat.add_mul, ← Nat.add_assoc] at this
      · cases hy
  | _ => rw [hx] at he; cases he

/-- An element's cells, of a row that is only read. -/
theorem dptr_own {S : Prot} {w : World} {cx : Cx} {B : Nat} {r : Row} {v : Value} (hr : RowOK cx S w B r v) (hb : r.k ≠ .byte) {j : Nat} {x : El r.k} (hx : r.xs[j]? = some x) :
    ∃ g n m, v = .slice (some ⟨g, 0, none⟩) n m ∧ r.xs.length = n ∧ RD cx S w (.pointer (some ⟨g, j * r.k.size, none⟩)) (.dptr (enc r.k x) 0) := by
  rcases hr with ⟨_, e⟩ | ⟨g, cap, cur, T, lo, hi, rfl, hB, hg, hcur, hcap, hfr, hel, hpr⟩
  · rw [e] at hx; cases hx
  · refine ⟨g, _, _, rfl, rfl, RD_iff.2 ?_⟩
    obtain ⟨vs, hvs, hcc⟩ := hel j x hx
    have hj : j < r.xs.length := (List.getElem?_eq_some_iff.1 hx).1
    refine ⟨g, j * r.k.size, vs, by simp, hvs, fun m u hm => ?_⟩
    have hc := hcc m u hm
    have hml : m < vs.length := (List.getElem?_eq_some_iff.1 hm).1
    have hel2 : (enc r.k x).length = r.k.size := by cases r with | mk k xs => cases k <;> rfl
    refine ⟨(hpr _).2 ⟨hb, ?_⟩, by simp [World.cell?, hg, hc]⟩
    have : (j + 1) * r.k.size ≤ r.xs.length * r.k.size := Nat.mul_le_mul_right _ hj
    rw [Nat.add_mul] at this
    have := hvs.len
    omega

theorem good_indexAddr (hE : EnvOk P E) (h : Inv om W0 S0 s c w) (hs : ∀ t, RD (cxOf om s c) c.S w (a.tmps.getD t Go.undef) (s.sl t)) {d : Option Tmp} {x y : Operand} {t : TypeId} {ty : TypeId} {pos : String} {af : Array Edge} {g : Option (Nat × Bool)} {e : Eff}
    (he : eff E C s ⟨d, .indexAddr t x y, ty, pos, af, g⟩ = some e) : Good P om W0 S0 s c w e (execOp a.eval ⟨d, .indexAddr t x y, ty, pos, af, g⟩) := by
  have hv := val_RD hs x
  have hvy := val_RD hs y
  simp only [eff] at he
  split at he
  · rename_i kk n hy
    rw [hy] at hvy
    have hyv : a.eval y = .int kk n := RD_iff.1 hvy
    have run_sl : ∀ (k : K) (g' o len cap : Nat), E.kd t = some k → a.eval x = .slice (some ⟨g', o, none⟩) len cap → 0 ≤ n → n < (len : Int) →
        (execOp a.eval ⟨d, .indexAddr t x y, ty, pos, af, g⟩).run P w = .ok (.value (.pointer (some ⟨g', o + n.toNat * k.size, none⟩))) w := by
      intro k g' o len cap hk hxv h0 h1
      obtain ⟨el, i, z, hu, hi, hsz, _⟩ := hE.kd t k hk
      have hur := run_underlying (P := P) hu w
      by_cases htiny : len ≤ 1
      · simp [execOp, Instr.indexAt, hxv, hyv, asIntOf, hur, h0, h1, sizeOf, typeInfo, hi, hsz, Addr.add_lit, htiny]
      · simp [execOp, Instr.indexAt, hxv, hyv, asIntOf, hur, h0, h1, sizeOf, typeInfo, hi, hsz, Addr.add_lit, htiny]
    cases hx : val s x with
    | sl k xs =>
      rw [hx] at he hv
      simp only at he
      obtain ⟨hk, he⟩ := of_bif he
      obtain ⟨j, hj, he⟩ := of_bind he
      obtain ⟨h0, h1, rfl, h2⟩ := natIx_spec hj
      obtain ⟨ad, cp, hxv, hle, hel⟩ := RD_iff.1 hv
      obtain ⟨g', q, vs, hq1, hq2, hq3⟩ := hel n.toNat _ (getD_some xs n.toNat (El.dflt k) h2)
      subst hq1
      refine Good.plain h he _ (run_sl k g' q xs.length cp (isKd_eq hk) hxv h0 h1) (RD_iff.2 ⟨g', q + n.toNat * k.size, vs, rfl, hq2, hq3⟩)
    | own id u =>
      rw [hx] at he hv
      simp only at he
      obtain ⟨hu, he⟩ := of_bif he
      have hu := natbeq hu
      split at he
      · rename_i xs hr
        obtain ⟨hk, he⟩ := of_bif he
        obtain ⟨j, hj, he⟩ := of_bind he
        obtain ⟨h0, h1, rfl, h2⟩ := natIx_spec hj
        simp only [Option.some.injEq] at he
        subst he
        have hxv := (RD_iff.1 hv).2.2 hu (by simp [hr])
        rcases h.row id _ hr with ⟨_, e1⟩ | ⟨g', cap, cur, T, lo, hi, e0, _⟩
        · exact absurd h2 (by have e1 : xs = [] := e1; rw [e1]; simp)
        · rw [e0] at hxv
          refine Good.still h _ rfl rfl rfl (run_sl .byte g' 0 xs.length cap (isKd_eq hk) hxv h0 h1) (RD_iff.2 ⟨⟨_, rfl⟩, (RD_iff.1 hv).2.1, fun _ r hrr => ?_⟩)
          rw [hr] at hrr
          cases hrr
          exact ⟨h2, g', _, cap, e0, by simp [K.size]⟩
      · rename_i k xs hnb hr
        obtain ⟨hk, he⟩ := of_bif he
        obtain ⟨j, hj, he⟩ := of_bind he
        obtain ⟨h0, h1, rfl, h2⟩ := natIx_spec hj
        simp only [Option.some.injEq] at he
        subst he
        have hxv := (RD_iff.1 hv).2.2 hu (by simp [hr])
        have hne : k ≠ .byte := by
          rintro rfl
          exact hnb xs rfl HEq.rfl
        obtain ⟨g', n', m', e0, e1, e2⟩ := dptr_own (h.row id _ hr) hne (getD_some xs n.toNat (El.dflt k) h2)
        rw [e0] at hxv
        refine Good.still h _ rfl rfl rfl (run_sl k g' 0 n' m' (isKd_eq hk) hxv h0 ?_) (by simpa using e2)
        have e1 : xs.length = n' := e1
        omega
      · cases he
    | ptr b gn p =>
      rw [hx] at he hv
      simp only at he
      obtain ⟨hb, he⟩ := of_bif he
      simp only [Bool.and_eq_true] at hb
      obtain ⟨m, hm, he⟩ := of_bind he
      obtain ⟨j, hj, he⟩ := of_bind he
      obtain ⟨h0, h1, rfl, h2⟩ := natIx_spec hj
      simp only [Option.some.injEq] at he
      subst he
      obtain ⟨el, i, hu, hi, hsz⟩ := hE.arr t m hm
      have hxv := (RD_iff.1 hv).2.2 (natbeq hb.1) hb.2
      refine Good.still h (.pointer (some ⟨c.bl b, p + n.toNat, none⟩)) rfl rfl rfl ?_ (RD_iff.2 ⟨⟨_, rfl⟩, (RD_iff.1 hv).2.1, fun _ _ => rfl⟩)
      have hur := run_underlying (P := P) hu w
      by_cases htiny : m ≤ 1
      · simp [execOp, Instr.indexAt, hxv, hyv, asIntOf, Instr.sureAddr, hur, h0, h1, sizeOf, typeInfo, hi, hsz, Addr.add_lit, htiny]
      · simp [execOp, Instr.indexAt, hxv, hyv, asIntOf, Instr.sureAddr, hur, h0, h1, sizeOf, typeInfo, hi, hsz, Addr.add_lit, htiny]
    | _ => rw [hx] at he; cases he
  · cases he

/-- What a row holds, as bytes. -/
theorem row_bytes {cx : Cx} {S : Prot} {w : World} {B : Nat} {xs : List (El .byte)} {v : Value} (hr : RowOK cx S w B ⟨.byte, xs⟩ v) :
    (v = .slice none 0 0 ∧ xs = []) ∨ ∃ g cap, v = .slice (some ⟨g, 0, none⟩) xs.length cap ∧ ∀ i, i < List.length (α := Int) xs → w.cell? ⟨g, 0 + i, none⟩ = some (.int .u8 (List.getD (α := Int) xs i 0)) := by
  rcases hr with e | ⟨g, cap, cur, T, lo, hi, rfl, hB, hg, hcur, hcap, hfr, hel, hpr⟩
  · exact .inl e
  · refine .inr ⟨g, cap, rfl, fun i hi' => ?_⟩
    obtain ⟨vs, hvs, hcc⟩ := hel i _ (getD_some (α := Int) xs i 0 hi')
    match vs, hvs with
    | [v], hvs =>
      have hv0 : v = .int .u8 (List.getD (α := Int) xs i 0) := RD_iff.1 hvs.1
      have hc0 : cur[i]? = some v := by simpa [K.size] using hcc 0 v rfl
      rw [Nat.zero_add]
      simp only [World.cell?, hg]
      simp [hc0, hv0]
    | [], hvs => exact hvs.elim
    | _ :: _ :: _, hvs => exact hvs.2.elim

theorem good_convert (hE : EnvOk P E) (h : Inv om W0 S0 s c w) (hs : ∀ t, RD (cxOf om s c) c.S w (a.tmps.getD t Go.undef) (s.sl t)) {d : Option Tmp} {x : Operand} {src dst : TypeId} {ty : TypeId} {pos : String} {af : Array Edge} {g : Option (Nat × Bool)} {e : Eff}
    (he : eff E C s ⟨d, .convert src dst x, ty, pos, af, g⟩ = some e) : Good P om W0 S0 s c w e (execOp a.eval ⟨d, .convert src dst x, ty, pos, af, g⟩) := by
  have hv := val_RD hs x
  simp only [eff] at he
  cases hx : val s x with
  | int k n =>
    rw [hx] at he hv
    simp only at he
    obtain ⟨k1, hk1, he⟩ := of_bind he
    obtain ⟨k2, hk2, he⟩ := of_bind he
    have hxv : a.eval x = .int k n := RD_iff.1 hv
    refine Good.plain h he (.int k2 (k2.wrap n)) ?_ (RD_iff.2 rfl)
    have h1 := run_underlying (P := P) (hE.ik src k1 hk1) w
    have h2 := run_underlying (P := P) (hE.ik dst k2 hk2) w
    simp [execOp, convert, hxv, h1, h2, Conv.intToInt]
  | str b =>
    rw [hx] at he hv
    simp only at he
    obtain ⟨hsrc, he⟩ := of_bif he
    have hxv : a.eval x = .string ⟨b.toArray⟩ := RD_iff.1 hv
    have h1 := hE.str src hsrc
    cases hd : E.str dst with
    | true =>
      rw [hd] at he
      refine Good.plain h he (.string ⟨b.toArray⟩) ?_ (RD_iff.2 rfl)
      simp [execOp, convert, hxv, run_underlying h1, run_underlying (hE.str dst hd)]
    | false =>
      rw [hd] at he
      simp only [cond_false] at he
      split at he
      · rename_i hk
        simp only [Option.some.injEq] at he
        subst he
        obtain ⟨el, i, z, hu, hi, hsz, _, _, _, hby⟩ := hE.kd dst .byte hk
        have hrun := Lib.run_convert_string_bytes (P := P) w src dst el ⟨b.toArray⟩ h1 hu (hby rfl)
        have hsize : (⟨b.toArray⟩ : ByteArray).size = b.length := by simp [ByteArray.size]
        have hcap := grownCap_ge w (⟨b.toArray⟩ : ByteArray).size 0 el
        rw [hsize] at hcap hrun
        have hcl : (Lib.bytesCells w el ⟨b.toArray⟩).toList = b.map (fun c => Value.int .u8 (c.toNat : Int)) ++ List.replicate (grownCap w b.length 0 el - b.length) (.int .u8 0) := by
          simp [Lib.bytesCells, hsize]
        have hlen : (Lib.bytesCells w el ⟨b.toArray⟩).toList.length = grownCap w b.length 0 el := by rw [hcl]; simp; omega
        have hsz2 : (Lib.bytesCells w el ⟨b.toArray⟩).size = grownCap w b.length 0 el := by rw [← hlen]; simp
        have hnew := Lib.bytesWorld_at_new w el ⟨b.toArray⟩
        rw [hsz2] at hnew
        have hch : Chg (fun _ => False) w (Lib.bytesWorld w el ⟨b.toArray⟩) := ⟨fun g hg _ => Lib.bytesWorld_at_old w el _ g hg, by rw [Lib.bytesWorld_size]; omega, rfl, rfl, rfl⟩
        have hml : (b.map fun (c : UInt8) => ((c.toNat : Int))).length = b.length := by simp
        obtain ⟨i1, l1, k1⟩ := h.newRow (d.getD 0) ⟨.byte, b.map fun (c : UInt8) => ((c.toNat : Int))⟩ hch w.heap.size (grownCap w b.length 0 el) (Lib.bytesCells w el ⟨b.toArray⟩).toList el _ _ (Nat.le_refl _)
          (by simpa using hnew) (by simpa [K.size] using hlen) (by show (b.map fun (c : UInt8) => ((c.toNat : Int))).length ≤ _; omega) (.inr (by simp [K.size]))
          (fun m y hy => by
            have hy' : (b.map fun (c : UInt8) => ((c.toNat : Int)))[m]? = some y := hy
            refine ⟨[.int .u8 y], ⟨RD_iff.2 rfl, trivial⟩, fun j q hq => ?_⟩
            match j, hq with
            | 0, hq =>
              simp only [List.getElem?_cons_zero, Option.some.injEq] at hq
              subst hq
              rw [hcl]
              show _[m * 1 + 0]? = _
              have hm : m < b.length := by
                have := (List.getElem?_eq_some_iff.1 hy').1; simpa using this
              rw [Nat.mul_one, Nat.add_zero, List.getElem?_append_left (by simpa using hm)]
              rw [List.getElem?_map] at hy' ⊢
              rw [List.getElem?_eq_getElem hm] at hy' ⊢
              simp only [Option.map_some] at hy' ⊢
              exact congrArg some (congrArg (fun (n : Int) => Value.int .u8 n) (Option.some.inj hy'))
            | j + 1, hq => simp at hq) rfl rfl
        refine ⟨_, .slice (some ⟨w.heap.size, 0, none⟩) b.length (grownCap w b.length 0 el), _, _, ?_, .inl rfl, i1, l1, k1, RD_iff.2 ⟨⟨_, _, _, rfl⟩, ?_, fun _ _ => ?_⟩⟩
        · simp only [execOp, hxv, Sem.run_bind, hrun, Result.andThen_ok, Sem.run_pure]
        · simp [app, putDst, putOut, putBoxes, putRows]
        · simp [app, putDst, putOut, putBoxes, putRows]
          exact hml.symm
      · cases he
  | own id u =>
    rw [hx] at he hv
    simp only at he
    obtain ⟨hd, he⟩ := of_bif he
    obtain ⟨hu, he⟩ := of_bif he
    split at he
    · rename_i xs hr hk
      simp only [Option.some.injEq] at he
      subst he
      obtain ⟨el, i, z, hus, hi, hsz, _, _, _, hby⟩ := hE.kd src .byte hk
      have hxv := (RD_iff.1 hv).2.2 (natbeq hu) (by simp [hr])
      refine Good.still h (.string ⟨(List.map (fun (n : Int) => UInt8.ofNat n.toNat) xs).toArray⟩) rfl rfl rfl ?_ (RD_iff.2 rfl)
      rcases row_bytes (h.row id _ hr) with ⟨e0, e1⟩ | ⟨g', cap, e0, hcells⟩
      · rw [e0] at hxv
        subst e1
        have := run_convert_bytes_nil (P := P) w src el hus (hby rfl) 0 0 dst (hE.str dst hd)
        simp only [execOp, hxv, Sem.run_bind, this, Result.andThen_ok, Sem.run_pure]
        rfl
      · have := run_convert_bytes_arg (P := P) w src el hus (hby rfl) g' 0 (xs : List Int).length cap xs rfl hcells dst (hE.str dst hd)
        rw [e0] at hxv
        simp only [execOp, hxv, Sem.run_bind]
        rw [show (List.length xs) = (xs : List Int).length from rfl, this]
        rfl
    · cases he
  | _ => rw [hx] at he; cases he
end
end Go.Ev
/-
  What the evaluator says of one operation is what the model does: part 5: struct literals, len, max, min.
-/
namespace Go.Ev
section
variable {P : Program} {E : Env} {C : Orc} {om : Nat → Nat} {W0 : World} {S0 : Prot} {s : St} {c : Cc} {w : World} {a : Act}

theorem fold_set (cur vs : List Value) (off : Nat) (h : off + vs.length ≤ cur.length) :
    (vs.toArray.zipIdx.foldl (fun cs (x : Value × Nat) => cs.setIfInBounds (off + x.2) x.1) cur.toArray) = (cur.take off ++ vs ++ cur.drop (off + vs.length)).toArray := by
  rw [← Array.foldl_toList, Array.toList_zipIdx]
  obtain ⟨h1, h2⟩ := Great.foldl_set off vs 0 cur.toArray
  apply Array.ext_getElem?
  intro k
  rw [h2 k]
  simp only [Nat.add_zero, List.size_toArray, List.getElem?_toArray]
  have htl : (cur.take off).length = off := by simp; omega
  by_cases hA : off ≤ k ∧ k < off + vs.length ∧ k < cur.length
  · rw [if_pos hA, List.append_assoc, List.getElem?_append_right (by omega), htl, List.getElem?_append_left (by omega)]
  · rw [if_neg hA]
    by_cases hB : k < off
    · rw [List.append_assoc, List.getElem?_append_left (by omega), List.getElem?_take, if_pos hB]
    · rw [List.append_assoc, List.getElem?_append_right (by omega), htl, List.getElem?_append_right (by omega), List.getElem?_drop]
      congr 1; omega

/-- A part of a literal, as cells. -/
theorem part_cells {S : Prot} {w : World} {cx : Cx} (hcx : cx.le cx) {v : Value} {x : V} (hf : fits (some (match x with | .agg c => some c.length | _ => none)) x = true) (hv : RD cx S w v x)
    (hc : ∀ y, oneV y = true → ∀ u, RD cx S w u y → u.cells = #[u]) : ∃ vs : List Value, v.cells = vs.toArray ∧ All2 (RD cx S w) vs (cellsOf x) := by
  cases x with
  | agg cs =>
    obtain ⟨vs, rfl, hvs⟩ := RD_iff.1 hv
    exact ⟨vs, rfl, hvs⟩
  | undef => cases hf
  | tup _ => cases hf
  | _ => exact ⟨[v], hc _ (by exact hf) v hv, ⟨hv, trivial⟩⟩

theorem fill_run (hE : EnvOk P E) {t : TypeId} {pl : Array (Nat × Nat)} (hpl : ∀ i p, E.fld t i = some p → pl[i]? = some p)
    (hs : ∀ x : Operand, RD (cxOf om s c) c.S w (a.eval x) (val s x)) {cx' : Cx} {S' : Prot} {w' : World} (hk : ∀ v x, RD (cxOf om s c) c.S w v x → RD cx' S' w' v x) :
    ∀ (ps : List (Nat × Operand)) (cur : List Value) (cs cs' : List V), All2 (RD cx' S' w') cur cs → fillParts E s t ps cs = some cs' →
      ∃ new : List Value, Instr.fill (pl[·]?) cur.toArray (ps.map fun x => (x.1, a.eval x.2)) = some new.toArray ∧ All2 (RD cx' S' w') new cs'
  | [], cur, cs, cs', h, he => by
    simp only [fillParts, Option.some.injEq] at he
    subst he
    exact ⟨cur, rfl, h⟩
  | (i, x) :: ps, cur, cs, cs', h, he => by
    simp only [fillParts] at he
    obtain ⟨p, hp, he⟩ := of_bind he
    obtain ⟨hb, he⟩ := of_bif he
    simp only [Bool.and_eq_true] at hb
    obtain ⟨⟨h1, h2⟩, h3⟩ := hb
    have h1 := natbeq h1
    have h2 := Nat.le_of_ble_eq_true h2
    obtain ⟨vs, hv1, hv2⟩ := part_cells (Cx.le_refl _) h3 (hs x) (fun y ho u hu => by rw [(cells_scalar ho hu).1])
    have hl := hv2.len
    have hcl := h.len
    have hnew : All2 (RD cx' S' w') (cur.take p.1 ++ vs ++ cur.drop (p.1 + vs.length)) (setCells cs p.1 (cellsOf (val s x))) := by
      unfold setCells
      rw [hl]
      exact ((h.take p.1).append (hv2.mono hk)).append (h.drop _)
    obtain ⟨new, hn1, hn2⟩ := fill_run hE hpl hs hk ps _ _ _ hnew he
    refine ⟨new, ?_, hn2⟩
    have hp' : pl[i]? = some (p.1, p.2) := hpl i p hp
    simp only [List.map_cons, Instr.fill, hp', hv1]
    rw [if_neg (by simp; omega), fold_set cur vs p.1 (by omega)]
    exact hn1

theorem good_build (hE : EnvOk P E) (h : Inv om W0 S0 s c w) (hs : ∀ t, RD (cxOf om s c) c.S w (a.tmps.getD t Go.undef) (s.sl t)) {d : Option Tmp} {t : TypeId} {ps : Array (Nat × Operand)} {ty : TypeId} {pos : String} {af : Array Edge} {g : Option (Nat × Bool)} {e : Eff}
    (he : eff E C s ⟨d, .build t ps, ty, pos, af, g⟩ = some e) : Good P om W0 S0 s c w e (execOp a.eval ⟨d, .build t ps, ty, pos, af, g⟩) := by
  simp only [eff] at he
  obtain ⟨p0, h0, he⟩ := of_bind he
  obtain ⟨zs, hz, he⟩ := of_bind he
  obtain ⟨cs, hcs, he⟩ := of_bind he
  simp only [Option.some.injEq] at he
  subst he
  obtain ⟨i, z, hi, hzz, hrel⟩ := hE.zero t zs hz
  obtain ⟨c1, i1, l1, e1, e2, hv⟩ := h.zeros (nilBase (d.getD 0)) hrel
  obtain ⟨fs, F, _, pl, hu, _, _, _, _, _, hrun, _⟩ := hE.fld t 0 p0 h0
  have hpl : ∀ j p, E.fld t j = some p → pl[j]? = some p := fun j p hj => by
    obtain ⟨fs', _, _, pl', hu', _, _, _, _, _, hrun', hj'⟩ := hE.fld t j p hj
    rw [hu] at hu'
    simp only [Option.some.injEq, TypeDesc.struct.injEq] at hu'
    subst hu'
    have := (hrun w).symm.trans (hrun' w)
    simp only [Result.ok.injEq, and_true] at this
    rw [this]; exact hj'
  obtain ⟨new, hn1, hn2⟩ := fill_run hE hpl (fun x => val_RD hs x) (fun v x hh => hh.keep l1 (Keeps.refl _ _)) ps.toList z.cells.toList _ _ (e1 ▸ hv) hcs
  refine ⟨.value (.agg new.toArray), _, w, c1, ?_, .inl rfl, ?_, ?_, ?_, ?_⟩
  · have hru := run_underlying (P := P) hu w
    have hr := hrun w
    have hn1' : Instr.fill (pl[·]?) z.cells (ps.map fun x => (x.1, a.eval x.2)).toList = some new.toArray := by simpa using hn1
    have hz' : (zeroValue t).run P w = .ok z w := by simp [zeroValue, typeInfo, hi, hzz]
    simp only [execOp, Instr.build, Sem.run_bind, hz', hru, Result.andThen_ok, hr, hn1', Sem.run_pure]
  · simpa [app, putDst, putOut, putBoxes] using i1
  · simpa [app, putDst, putOut, putBoxes] using l1
  · rw [e1]; exact Keeps.refl _ _
  · rw [RD_iff]
    refine ⟨new, rfl, ?_⟩
    rw [e1]
    simpa [app, putDst, putOut, putBoxes] using hn2

theorem good_len (hE : EnvOk P E) (h : Inv om W0 S0 s c w) (hs : ∀ t, RD (cxOf om s c) c.S w (a.tmps.getD t Go.undef) (s.sl t)) {d : Option Tmp} {as : Array Operand} {ts : Array TypeId} {ty : TypeId} {pos : String} {af : Array Edge} {g : Option (Nat × Bool)} {e : Eff}
    (he : eff E C s ⟨d, .call { callee := .builtin .len, args := as, argTypes := ts }, ty, pos, af, g⟩ = some e) : Good P om W0 S0 s c w e (execOp a.eval ⟨d, .call { callee := .builtin .len, args := as, argTypes := ts }, ty, pos, af, g⟩) := by
  simp only [eff] at he
  split at he
  · rename_i x t hx ht
    have hxa : as = #[x] := by rw [← Array.toArray_toList (xs := as), hx]
    have hta : ts = #[t] := by rw [← Array.toArray_toList (xs := ts), ht]
    subst hxa hta
    have hv := val_RD hs x
    cases hvx : val s x with
    | str b =>
      rw [hvx] at he hv
      simp only at he
      obtain ⟨hst, he⟩ := of_bif he
      have hxv : a.eval x = .string ⟨b.toArray⟩ := RD_iff.1 hv
      refine Good.plain h he (.int .i64 (b.length : Int)) ?_ (RD_iff.2 rfl)
      have hru := run_underlying (P := P) (hE.str t hst) w
      have hsz : (⟨b.toArray⟩ : ByteArray).size = b.length := rfl
      simp [execOp, resolve, invoke, builtin, Builtin.len_, hxv, hru, goInt, hsz]
    | sl k xs =>
      rw [hvx] at he hv
      simp only at he
      obtain ⟨hk, he⟩ := of_bif he
      obtain ⟨aa, cc, hxv, _⟩ := RD_iff.1 hv
      refine Good.plain h he (.int .i64 (xs.length : Int)) ?_ (RD_iff.2 rfl)
      cases hkd : E.kd t with
      | none => rw [hkd] at hk; cases hk
      | some k' =>
        obtain ⟨el, _, _, hu, _⟩ := hE.kd t k' hkd
        have hru := run_underlying (P := P) hu w
        simp [execOp, resolve, invoke, builtin, Builtin.len_, hxv, hru, goInt]
    | own id v =>
      rw [hvx] at he hv
      simp only at he
      obtain ⟨hver, he⟩ := of_bif he
      split at he
      · rename_i k xs hr
        obtain ⟨hk, he⟩ := of_bif he
        simp only [Option.some.injEq] at he
        subst he
        have hxv := (RD_iff.1 hv).2.2 (natbeq hver) (by simp [hr])
        refine Good.still h (.int .i64 (xs.length : Int)) rfl rfl rfl ?_ (RD_iff.2 rfl)
        obtain ⟨el, _, _, hu, _⟩ := hE.kd t k (isKd_eq hk)
        have hru := run_underlying (P := P) hu w
        rcases h.row id _ hr with ⟨e0, e1⟩ | ⟨g', cap, cur, T, lo, hi, e0, _⟩
        · have e1 : xs = [] := e1
          subst e1
          simp [execOp, resolve, invoke, builtin, Builtin.len_, hxv, e0, hru, goInt]
        · simp [execOp, resolve, invoke, builtin, Builtin.len_, hxv, e0, hru, goInt]
      · cases he
    | _ => rw [hvx] at he; cases he
  · cases he

theorem good_max (h : Inv om W0 S0 s c w) (hs : ∀ t, RD (cxOf om s c) c.S w (a.tmps.getD t Go.undef) (s.sl t)) {d : Option Tmp} {as : Array Operand} {ts : Array TypeId} {ty : TypeId} {pos : String} {af : Array Edge} {g : Option (Nat × Bool)} {e : Eff}
    (he : eff E C s ⟨d, .call { callee := .builtin .max, args := as, argTypes := ts }, ty, pos, af, g⟩ = some e) : Good P om W0 S0 s c w e (execOp a.eval ⟨d, .call { callee := .builtin .max, args := as, argTypes := ts }, ty, pos, af, g⟩) := by
  simp only [eff] at he
  have hall := all2_vals (c := c) (w := w) hs as.toList
  split at he
  · rename_i k x k' y hxy
    split at he
    · rename_i hkk
      subst hkk
      rw [hxy] at hall
      match hm : as.toList.map a.eval, hall with
      | [u, v], hall =>
        have h1 : u = .int k x := RD_iff.1 hall.1
        have h2 : v = .int k y := RD_iff.1 hall.2.1
        subst h1 h2
        refine Good.plain h he (.int k (bif decide (y > x) then y else x)) ?_ (RD_iff.2 rfl)
        by_cases hxy : y > x <;> simp [execOp, resolve, invoke, builtin, Builtin.max_, Builtin.max2, hm, hxy]
      | [], hall => exact hall.elim
      | [_], hall => exact hall.2.elim
      | _ :: _ :: _ :: _, hall => exact hall.2.2.elim
    · cases he
  · cases he
theorem good_min (h : Inv om W0 S0 s c w) (hs : ∀ t, RD (cxOf om s c) c.S w (a.tmps.getD t Go.undef) (s.sl t)) {d : Option Tmp} {as : Array Operand} {ts : Array TypeId} {ty : TypeId} {pos : String} {af : Array Edge} {g : Option (Nat × Bool)} {e : Eff}
    (he : eff E C s ⟨d, .call { callee := .builtin .min, args := as, argTypes := ts }, ty, pos, af, g⟩ = some e) : Good P om W0 S0 s c w e (execOp a.eval ⟨d, .call { callee := .builtin .min, args := as, argTypes := ts }, ty, pos, af, g⟩) := by
  simp only [eff] at he
  have hall := all2_vals (c := c) (w := w) hs as.toList
  split at he
  · rename_i k x k' y hxy
    split at he
    · rename_i hkk
      subst hkk
      rw [hxy] at hall
      match hm : as.toList.map a.eval, hall with
      | [u, v], hall =>
        have h1 : u = .int k x := RD_iff.1 hall.1
        have h2 : v = .int k y := RD_iff.1 hall.2.1
        subst h1 h2
        refine Good.plain h he (.int k (bif decide (y < x) then y else x)) ?_ (RD_iff.2 rfl)
        by_cases hxy : y < x <;> simp [execOp, resolve, invoke, builtin, Builtin.min_, Builtin.min2, hm, hxy]
      | [], hall => exact hall.elim
      | [_], hall => exact hall.2.elim
      | _ :: _ :: _ :: _, hall => exact hall.2.2.elim
    · cases he
  · cases he
end
end Go.Ev
