/-
  What the evaluator says of one operation is what the model does: part 6: literal slices, append.
-/
import Derived.Test.YtdfbmemomndnnaaGreatDoorZD
namespace Go.Ev
theorem enc_len : ∀ (k : K) (x : El k), (enc k x).length = k.size := by intro k x; cases k <;> rfl
theorem enc_oneV : ∀ (k : K) (x : El k), (enc k x).all oneV = true := by intro k x; cases k <;> rfl
theorem K.size_pos (k : K) : 0 < k.size := by cases k <;> decide
theorem K.size_le (k : K) : k.size ≤ 3 := by cases k <;> decide
theorem dec_enc {k : K} {cs : List V} {x : El k} (h : dec k cs = some x) : enc k x = cs := by
  unfold dec at h
  split at h <;> cases h <;> rfl

/-- Elements, as cells. -/
structure Elems (cx : Cx) (S : Prot) (w : World) (k : K) (xs : List (El k)) (cells : List Value) : Prop where
  len : cells.length = xs.length * k.size
  el : ∀ (i : Nat) (x : El k), xs[i]? = some x → ∃ vs, All2 (RD cx S w) vs (enc k x) ∧ ∀ (j : Nat) (y : Value), vs[j]? = some y → cells[i * k.size + j]? = some y
section
variable {cx : Cx} {S : Prot} {w : World} {k : K}
theorem vs_len {vs : List Value} {x : El k} (h : All2 (RD cx S w) vs (enc k x)) : vs.length = k.size := h.len.trans (enc_len k x)
theorem ix_lt {i j n m : Nat} (hi : i < n) (hj : j < m) : i * m + j < n * m :=
  Nat.lt_of_lt_of_le (Nat.add_lt_add_left hj _) (by rw [← Nat.succ_mul]; exact Nat.mul_le_mul_right _ hi)
theorem Elems.nil : Elems cx S w k [] [] := ⟨by simp, fun i x hx => by simp at hx⟩
theorem Elems.append {xs ys : List (El k)} {a b : List Value} (h : Elems cx S w k xs a) (h' : Elems cx S w k ys b) : Elems cx S w k (xs ++ ys) (a ++ b) := by
  refine ⟨by simp [h.len, h'.len, Nat.add_mul], fun i x hx => ?_⟩
  by_cases hi : i < xs.length
  · rw [List.getElem?_append_left hi] at hx
    obtain ⟨vs, hv, hc⟩ := h.el i x hx
    refine ⟨vs, hv, fun j y hy => ?_⟩
    have hj := (List.getElem?_eq_some_iff.1 hy).1
    rw [vs_len hv] at hj
    rw [List.getElem?_append_left (by rw [h.len]; exact ix_lt hi hj)]
    exact hc j y hy
  · rw [List.getElem?_append_right (by omega)] at hx
    obtain ⟨vs, hv, hc⟩ := h'.el _ x hx
    refine ⟨vs, hv, fun j y hy => ?_⟩
    have e : i * k.size + j - a.length = (i - xs.length) * k.size + j := by
      rw [h.len, Nat.sub_mul]
      have : xs.length * k.size ≤ i * k.size := Nat.mul_le_mul_right _ (by omega)
      omega
    have hle : a.length ≤ i * k.size + j := by
      rw [h.len]
      have : xs.length * k.size ≤ i * k.size := Nat.mul_le_mul_right _ (by omega)
      omega
    rw [List.getElem?_append_right hle, e]
    exact hc j y hy
theorem Elems.padded {xs : List (El k)} {a : List Value} (h : Elems cx S w k xs a) (b : List Value) : ∀ (i : Nat) (x : El k), xs[i]? = some x → ∃ vs, All2 (RD cx S w) vs (enc k x) ∧ ∀ (j : Nat) (y : Value), vs[j]? = some y → (a ++ b)[i * k.size + j]? = some y := fun i x hx => by
  obtain ⟨vs, hv, hc⟩ := h.el i x hx
  exact ⟨vs, hv, fun j y hy => by rw [List.getElem?_append_left (List.getElem?_eq_some_iff.1 (hc j y hy)).1]; exact hc j y hy⟩
theorem Elems.of_take {xs : List (El k)} {cur : List Value} (hl : xs.length * k.size ≤ cur.length)
    (hel : ∀ (i : Nat) (x : El k), xs[i]? = some x → ∃ vs, All2 (RD cx S w) vs (enc k x) ∧ ∀ (j : Nat) (y : Value), vs[j]? = some y → cur[i * k.size + j]? = some y) : Elems cx S w k xs (cur.take (xs.length * k.size)) := by
  refine ⟨by simp; omega, fun i x hx => ?_⟩
  obtain ⟨vs, hv, hc⟩ := hel i x hx
  refine ⟨vs, hv, fun j y hy => ?_⟩
  have hj := (List.getElem?_eq_some_iff.1 hy).1
  rw [vs_len hv] at hj
  rw [List.getElem?_take, if_pos (ix_lt (List.getElem?_eq_some_iff.1 hx).1 hj)]
  exact hc j y hy
/-- A place among cells: of which element it is. -/
theorem place {xs : List (El k)} {m : Nat} (hm : m < xs.length * k.size) : ∃ x, xs[m / k.size]? = some x ∧ m % k.size < k.size ∧ m / k.size * k.size + m % k.size = m := by
  have hlt : m / k.size < xs.length := (Nat.div_lt_iff_lt_mul k.size_pos).2 hm
  refine ⟨xs[m / k.size], by simp [hlt], Nat.mod_lt _ k.size_pos, ?_⟩
  rw [Nat.mul_comm]; exact Nat.div_add_mod m k.size
/-- Elements in memory: their cells. -/
theorem Elems.of_mem {xs : List (El k)} {g p : Nat} (h : ∀ (i : Nat) (x : El k), xs[i]? = some x → ∃ vs, All2 (RD cx S w) vs (enc k x) ∧ ∀ (j : Nat) (y : Value), vs[j]? = some y → w.cell? ⟨g, p + i * k.size + j, none⟩ = some y) :
    ∃ cells, Elems cx S w k xs cells ∧ ∀ (j : Nat) (u : Value), cells[j]? = some u → w.cell? ⟨g, p + j, none⟩ = some u := by
  refine ⟨(List.range (xs.length * k.size)).map fun m => (w.cell? ⟨g, p + m, none⟩).getD Go.undef, ⟨by simp, fun i x hx => ?_⟩, fun m u hu => ?_⟩
  · obtain ⟨vs, hv, hc⟩ := h i x hx
    refine ⟨vs, hv, fun j y hy => ?_⟩
    have hj := (List.getElem?_eq_some_iff.1 hy).1
    rw [vs_len hv] at hj
    rw [List.getElem?_map, List.getElem?_range (ix_lt (List.getElem?_eq_some_iff.1 hx).1 hj)]
    simp only [Option.map_some, Option.some.injEq]
    rw [← Nat.add_assoc, hc j y hy]; rfl
  · have hm : m < xs.length * k.size := by
      have := (List.getElem?_eq_some_iff.1 hu).1; simpa using this
    obtain ⟨x, hx, h1, h2⟩ := place hm
    obtain ⟨vs, hv, hc⟩ := h _ x hx
    have hy : vs[m % k.size]? = some (vs[m % k.size]'(by rw [vs_len hv]; exact h1)) := by simp [vs_len hv, h1]
    have := hc _ _ hy
    rw [Nat.add_assoc, h2] at this
    rw [List.getElem?_map, List.getElem?_range hm] at hu
    simp only [Option.map_some, Option.some.injEq] at hu
    rw [this] at hu ⊢
    exact congrArg some hu
end
section
variable {P : Program} {E : Env} {C : Orc} {om : Nat → Nat} {W0 : World} {S0 : Prot} {s : St} {c : Cc} {w : World} {a : Act}
theorem Elems.one {k : K} {xs : List (El k)} {cells : List Value} (h : Elems (cxOf om s c) c.S w k xs cells) : ∀ u ∈ cells, u.oneCell' = true := fun u hu => by
  obtain ⟨m, hm, rfl⟩ := List.mem_iff_getElem.1 hu
  have hm' := hm
  rw [h.len] at hm'
  obtain ⟨x, hx, h1, h2⟩ := place hm'
  obtain ⟨vs, hv, hc⟩ := h.el _ x hx
  have hlt : m % k.size < vs.length := by rw [vs_len hv]; exact h1
  have := hc (m % k.size) (vs[m % k.size]) (by simp [hlt])
  rw [h2] at this
  have e : cells[m] = vs[m % k.size] := by simpa [hm] using this
  rw [e]
  exact all2_one hv (enc_oneV k x) _ (List.getElem_mem hlt)

/-- A row in memory. -/
theorem row_mem {cx : Cx} {S : Prot} {B : Nat} {r : Row} {v : Value} (hr : RowOK cx S w B r v) :
    (v = .slice none 0 0 ∧ r.xs = []) ∨ ∃ g cap, v = .slice (some ⟨g, 0, none⟩) r.xs.length cap ∧ r.xs.length ≤ cap ∧ (r.k ≠ .byte → ∀ o, o < r.xs.length * r.k.size → S g o) ∧
      ∀ (i : Nat) (x : El r.k), r.xs[i]? = some x → ∃ vs, All2 (RD cx S w) vs (enc r.k x) ∧ ∀ (j : Nat) (y : Value), vs[j]? = some y → w.cell? ⟨g, 0 + i * r.k.size + j, none⟩ = some y := by
  rcases hr with e | ⟨g, cap, cur, T, lo, hi, rfl, hB, hg, hcur, hcap, hfr, hel, hpr⟩
  · exact .inl e
  · refine .inr ⟨g, cap, rfl, hcap, fun hb o ho => (hpr o).2 ⟨hb, ho⟩, fun i x hx => ?_⟩
    obtain ⟨vs, hv, hc⟩ := hel i x hx
    exact ⟨vs, hv, fun j y hy => by rw [Nat.zero_add]; simp [World.cell?, hg, hc j y hy]⟩

theorem escC_RD (h : Inv om W0 S0 s c w) {v : Value} {x : V} (hv : RD (cxOf om s c) c.S w v x) : RD (cxOf om s c) c.S w v (escC s x) := by
  cases x with
  | own id u =>
    cases hb : Nat.beq u (s.ver id) with
    | false =>
      simp only [escC, hb, cond_false]
      exact ⟨1, trivial⟩
    | true =>
      simp only [escC, hb, cond_true]
      have key : ∀ r, s.row id = some r → r.k ≠ .byte → RD (cxOf om s c) c.S w v (.sl r.k r.xs) := fun r hr hk => by
        have hxv := (RD_iff.1 hv).2.2 (natbeq hb) (by simp [hr])
        rw [hxv]
        rcases row_mem (h.row id r hr) with ⟨e0, e1⟩ | ⟨g, cap, e0, hcap, hS, hel⟩
        · rw [e0, RD_iff, e1]
          exact ⟨none, 0, rfl, Nat.le_refl _, fun i x hx => by simp at hx⟩
        · rw [e0, RD_iff]
          refine ⟨_, cap, rfl, hcap, fun i x hx => ?_⟩
          obtain ⟨vs, hv, hc⟩ := hel i x hx
          refine ⟨g, 0, vs, rfl, hv, fun j y hy => ⟨?_, hc j y hy⟩⟩
          have hj := (List.getElem?_eq_some_iff.1 hy).1
          rw [vs_len hv] at hj
          rw [Nat.zero_add]
          exact hS hk _ (ix_lt (List.getElem?_eq_some_iff.1 hx).1 hj)
      split
      · exact ⟨1, trivial⟩
      · exact ⟨1, trivial⟩
      · rename_i k xs hnb hnp hr
        exact key ⟨k, xs⟩ hr (fun e => by simp only at e; subst e; first | exact hnb xs hr | exact hnb xs rfl HEq.rfl | exact hnb _ rfl)
      · exact ⟨1, trivial⟩
  | _ => exact hv
theorem esc_RD (h : Inv om W0 S0 s c w) {v : Value} {x : V} (hv : RD (cxOf om s c) c.S w v x) : RD (cxOf om s c) c.S w v (esc s x) := by
  cases x with
  | agg cs =>
    obtain ⟨vs, rfl, hvs⟩ := RD_iff.1 hv
    exact RD_iff.2 ⟨vs, rfl, hvs.mapR fun _ _ k => escC_RD h k⟩
  | _ => exact escC_RD h hv

theorem lit_run (h : Inv om W0 S0 s c w) (hs : ∀ x : Operand, RD (cxOf om s c) c.S w (a.eval x) (val s x)) {k : K} : ∀ (l : List (Nat × Operand)) (j : Nat) (cs : List (List V)) (xs : List (El k)), litParts s l j = some cs → decAll k cs = some xs →
    cs.length = xs.length ∧ l.map (fun x => (x.1, a.eval x.2)) = ((l.map fun x => a.eval x.2).zipIdx j).map (fun x => (x.2, x.1)) ∧
    All2 (fun v x => ∃ vs : List Value, v.cells = vs.toArray ∧ All2 (RD (cxOf om s c) c.S w) vs (enc k x)) (l.map fun x => a.eval x.2) xs
  | [], j, cs, xs, h1, h2 => by
    simp only [litParts, Option.some.injEq] at h1
    subst h1
    simp only [decAll, Option.some.injEq] at h2
    subst h2
    exact ⟨rfl, rfl, trivial⟩
  | (i, x) :: l, j, cs, xs, h1, h2 => by
    simp only [litParts] at h1
    obtain ⟨hij, h1⟩ := of_bif h1
    obtain ⟨q, hq, h1⟩ := of_bind h1
    simp only [Option.some.injEq] at h1
    subst h1
    simp only [decAll] at h2
    obtain ⟨y, hy, h2⟩ := of_bind h2
    obtain ⟨ys, hys, h2⟩ := of_bind h2
    simp only [Option.some.injEq] at h2
    subst h2
    obtain ⟨a1, a2, a3⟩ := lit_run h hs l (j + 1) q ys hq hys
    have hij := natbeq hij
    subst hij
    have he := dec_enc hy
    refine ⟨by simp [a1], by simp [a2], ?_, a3⟩
    have hv := hs x
    have hone := enc_oneV k y
    cases hx : val s x with
    | agg cs =>
      rw [hx] at he hv
      obtain ⟨vs, hev, hvs⟩ := RD_iff.1 hv
      exact ⟨vs, by show (a.eval x).cells = _; rw [hev]; rfl, by rw [he]; exact hvs.mapR fun _ _ k => escC_RD h k⟩
    | _ =>
      rw [hx] at he hv
      simp only [cellsOf, List.map_cons, List.map_nil] at he
      have hv' := escC_RD h hv
      have ho : oneV (escC s (val s x)) = true := by
        rw [he] at hone
        rw [hx]
        simpa using hone
      rw [hx] at ho
      exact ⟨[a.eval x], (cells_scalar ho hv').1, by rw [he]; exact ⟨hv', trivial⟩⟩

theorem good_buildSlice (hE : EnvOk P E) (h : Inv om W0 S0 s c w) (hs : ∀ t, RD (cxOf om s c) c.S w (a.tmps.getD t Go.undef) (s.sl t)) {d : Option Tmp} {t : TypeId} {n : Nat} {ps : Array (Nat × Operand)} {ty : TypeId} {pos : String} {af : Array Edge} {g : Option (Nat × Bool)} {e : Eff}
    (he : eff E C s ⟨d, .buildSlice t n ps, ty, pos, af, g⟩ = some e) : Good P om W0 S0 s c w e (execOp a.eval ⟨d, .buildSlice t n ps, ty, pos, af, g⟩) := by
  simp only [eff] at he
  obtain ⟨k, hk, he⟩ := of_bind he
  obtain ⟨cs, hcs, he⟩ := of_bind he
  obtain ⟨hn, he⟩ := of_bif he
  obtain ⟨xs, hxs, he⟩ := of_bind he
  simp only [Option.some.injEq] at he
  subst he
  simp only [Bool.and_eq_true] at hn
  have hn1 := natbeq hn.1
  have hn2 := Nat.le_of_ble_eq_true hn.2
  obtain ⟨el, i, z, hu, hi, hsz, hby, hz, hzs, hb⟩ := hE.kd t k hk
  obtain ⟨l1, l2, l3⟩ := lit_run h (fun x => val_RD hs x) ps.toList 0 cs xs hcs hxs
  have hnx : xs.length = n := l1.symm.trans hn1
  have hlen := l3.len
  have hsizes : ∀ v ∈ ps.toList.map (fun x => a.eval x.2), v.cells.size = k.size := fun v hv => by
    obtain ⟨m, hm⟩ := List.mem_iff_getElem?.1 hv
    obtain ⟨x, _, vs, hvs, hr⟩ := l3.get' m v hm
    rw [hvs]; simpa using vs_len hr
  have hpos := k.size_pos
  -- the cells
  have hel : Elems (cxOf om s c) c.S w k xs ((ps.toList.map fun x => a.eval x.2).flatMap fun v => v.cells.toList) := by
    have hg := Great.flat_get hpos _ hsizes
    refine ⟨?_, fun i x hx => ?_⟩
    · rw [List.length_flatMap]
      have : ∀ (l : List Value), (∀ v ∈ l, v.cells.size = k.size) → (l.map fun v => v.cells.toList.length).sum = l.length * k.size := by
        intro l hl
        induction l with
        | nil => simp
        | cons v l ih => simp only [List.map_cons, List.sum_cons, List.length_cons, Nat.succ_mul]; rw [ih (fun u hu => hl u (by simp [hu]))]; simp [hl v (by simp)]; omega
      rw [this _ hsizes, hlen]
    · obtain ⟨v, hv, vs, hvs, hr⟩ := l3.get i x hx
      refine ⟨vs, hr, fun j y hy => ?_⟩
      have hj := (List.getElem?_eq_some_iff.1 hy).1
      rw [vs_len hr] at hj
      have hd : (i * k.size + j) / k.size = i := by rw [Nat.mul_comm, Nat.mul_add_div hpos, Nat.div_eq_of_lt hj, Nat.add_zero]
      have hm : (i * k.size + j) % k.size = j := by rw [Nat.mul_comm, Nat.mul_add_mod, Nat.mod_eq_of_lt hj]
      rw [hg, hd, hm, hv]
      simp [hvs, hy]
  have hflen := hel.len
  generalize hcells : (ps.toList.map fun x => a.eval x.2).flatMap (fun v => v.cells.toList) = cells at hel hflen
  have hrun : (Instr.buildSlice t n (ps.map fun (i, x) => (i, a.eval x))).run P w = .ok (.slice (some ⟨w.heap.size, 0, none⟩) n n) (w.alloc (.cells cells.toArray el)) := by
    have hpsl : (ps.map fun (i, x) => (i, a.eval x)).toList = ((ps.toList.map fun x => a.eval x.2).zipIdx 0).map (fun x => (x.2, x.1)) := by rw [← l2]; simp
    rcases Nat.eq_zero_or_pos n with h0 | h0
    · subst h0
      have hxe : xs = [] := List.length_eq_zero_iff.1 hnx
      subst hxe
      have hpe : ps.toList.map (fun x => a.eval x.2) = [] := List.length_eq_zero_iff.1 (by simpa using hlen)
      rw [hpe] at hpsl hcells
      have hce : cells = [] := by rw [← hcells]; rfl
      subst hce
      have hru := run_underlying (P := P) hu w
      have hps0 : ps.toList = [] := List.map_eq_nil_iff.1 hpe
      simp only [Instr.buildSlice, Sem.run_bind, hru, Result.andThen_ok, sizeOf, typeInfo, hi]
      simp [hi, hsz, Instr.fill, newRow, hps0]
      rw [show Array.map (fun (_ : Nat) => (default : Value)) (Array.range 0) = #[] from Array.eq_empty_of_size_eq_zero (by simp)]
    · refine run_buildSlice w t el n _ cells.toArray i z hu hi hz ?_ ?_ ?_
      · rw [hsz]
        have := k.size_le
        have : n * k.size ≤ 1000000 * 3 := Nat.mul_le_mul hn2 this
        omega
      · rw [hsz]; have := Nat.mul_pos h0 hpos; omega
      · rw [hsz, hpsl, Great.fill_whole hpos _ _ hsizes (by simp only [Array.size_map, Array.size_range]; rw [hlen, hnx]), hcells]
  obtain ⟨i1, l1', k1⟩ := h.newRow (alt s (d.getD 0)) ⟨k, xs⟩ (w' := w.alloc (.cells cells.toArray el)) (chg_alloc w _ _) w.heap.size n cells el 0 0 (Nat.le_refl _) (heap_alloc_new w _) (by rw [hflen, hnx]) (Nat.le_of_eq hnx) (.inl (Nat.le_refl _))
    hel.el rfl rfl
  refine ⟨.value (.slice (some ⟨w.heap.size, 0, none⟩) n n), _, _, _, ?_, .inl rfl, i1, l1', k1, RD_iff.2 ⟨⟨_, _, _, rfl⟩, ?_, fun _ _ => ?_⟩⟩
  · simp only [execOp, Sem.run_bind, hrun, Result.andThen_ok, Sem.run_pure]
  · simp [app, putDst, putOut, putBoxes, putRows]
  · simp [app, putDst, putOut, putBoxes, putRows, hnx]

/-! #### append -/
theorem src_of (h : Inv om W0 S0 s c w) {k : K} {v : Value} {x : V} (hv : RD (cxOf om s c) c.S w v x) {ys : List (El k)} {rr : List Nat} (ha : appended s k x = some (ys, rr)) {tx : TypeId} (hkd : (∃ e', P.underlying tx = some (.slice e')) ∨ P.underlying tx = some .string) :
    ∃ news, Src P k.size tx v ys.length news w ∧ Elems (cxOf om s c) c.S w k ys news := by
  -- from what lies in memory
  have mem : ∀ (ys : List (El k)), ((∃ ao cap, v = .slice ao 0 cap ∧ ys = []) ∨ ∃ g p cap, v = .slice (some ⟨g, p, none⟩) ys.length cap ∧
      ∀ (i : Nat) (x : El k), ys[i]? = some x → ∃ vs, All2 (RD (cxOf om s c) c.S w) vs (enc k x) ∧ ∀ (j : Nat) (y : Value), vs[j]? = some y → w.cell? ⟨g, p + i * k.size + j, none⟩ = some y) →
      ∃ news, Src P k.size tx v ys.length news w ∧ Elems (cxOf om s c) c.S w k ys news := fun ys hm => by
    rcases hm with ⟨ao, cap, rfl, rfl⟩ | ⟨g, p, cap, rfl, hel⟩
    · cases ao with
      | some aa => exact ⟨[], ⟨hkd, fun _ => rfl, run_firstCells_some w k.size 0 aa 0 cap [] (by simp) (fun j u hu => by simp at hu), run_firstCells_some w.drew k.size 0 aa 0 cap [] (by simp) (fun j u hu => by simp at hu), by simp, fun _ h => by cases h⟩, Elems.nil⟩
      | none => exact ⟨[], ⟨hkd, fun _ => rfl, run_firstCells_none w k.size 0 0 cap, run_firstCells_none w.drew k.size 0 0 cap, by simp, fun _ h => by cases h⟩, Elems.nil⟩
    · obtain ⟨cells, he, hc⟩ := Elems.of_mem hel
      exact ⟨cells, ⟨hkd, fun _ => rfl, run_firstCells_some w k.size _ _ _ cap cells he.len (fun j u hu => by rw [Addr.add_lit]; exact hc j u hu), run_firstCells_some w.drew k.size _ _ _ cap cells he.len (fun j u hu => by rw [Addr.add_lit]; simpa using hc j u hu), he.len, he.one⟩, he⟩
  have own : ∀ id u (ys : List (El k)), x = .own id u → Nat.beq u (s.ver id) = true → s.row id = some ⟨k, ys⟩ → ∃ news, Src P k.size tx v ys.length news w ∧ Elems (cxOf om s c) c.S w k ys news := fun id u ys hx hb hr => by
    subst hx
    have hxv := (RD_iff.1 hv).2.2 (natbeq hb) (by simp [hr])
    refine mem ys ?_
    rw [hxv]
    rcases row_mem (h.row id _ hr) with ⟨e0, e1⟩ | ⟨g, cap, e0, _, _, hel⟩
    · exact .inl ⟨none, 0, e0, e1⟩
    · exact .inr ⟨g, 0, cap, e0, hel⟩
  have sl : ∀ (ys : List (El k)), x = .sl k ys → ∃ news, Src P k.size tx v ys.length news w ∧ Elems (cxOf om s c) c.S w k ys news := fun ys hx => by
    subst hx
    obtain ⟨ao, cap, e, _, hel⟩ := RD_iff.1 hv
    refine mem ys ?_
    rw [e]
    cases ao with
    | none =>
      cases ys with
      | nil => exact .inl ⟨none, cap, rfl, rfl⟩
      | cons y ys => obtain ⟨_, _, _, q, _⟩ := hel 0 y rfl; cases q
    | some aa =>
      cases ys with
      | nil => exact .inl ⟨some aa, cap, rfl, rfl⟩
      | cons y ys =>
        obtain ⟨g, p, _, q, _⟩ := hel 0 y rfl
        cases q
        refine .inr ⟨g, p, cap, rfl, fun i x hx => ?_⟩
        obtain ⟨g', p', vs, q, hvs, hc⟩ := hel i x hx
        cases q
        exact ⟨vs, hvs, fun j y hy => (hc j y hy).2⟩
  cases x with
  | sl k' xs =>
    unfold appended at ha
    simp only at ha
    cases k <;> cases k' <;> first | (cases ha; done) | (simp only [Option.some.injEq, Prod.mk.injEq] at ha; obtain ⟨rfl, _⟩ := ha; exact sl _ rfl)
  | own id u =>
    unfold appended at ha
    simp only at ha
    obtain ⟨hb, ha⟩ := of_bif ha
    refine own id u ys rfl hb ?_
    cases hr : s.row id with
    | none => rw [hr] at ha; cases k <;> cases ha
    | some r =>
      obtain ⟨k', xs⟩ := r
      rw [hr] at ha
      cases k <;> cases k' <;> first | (cases ha; done) | (simp only [Option.some.injEq, Prod.mk.injEq] at ha; rw [ha.1])
  | str b =>
    unfold appended at ha
    simp only at ha
    split at ha
    · simp only [Option.some.injEq, Prod.mk.injEq] at ha
      obtain ⟨rfl, _⟩ := ha
      have hxv : v = .string ⟨b.toArray⟩ := RD_iff.1 hv
      subst hxv
      have hsz : (⟨b.toArray⟩ : ByteArray).size = b.length := rfl
      have hbl : (byteCells ⟨b.toArray⟩) = b.map fun (c : UInt8) => Value.int .u8 (c.toNat : Int) := by simp [byteCells]
      have hml : List.length (α := Int) (b.map fun (c : UInt8) => ((c.toNat : Int))) = b.length := by simp
      refine ⟨byteCells ⟨b.toArray⟩, ?_, ?_, fun i x hx => ?_⟩
      · have hsrc := firstCells_string (P := P) ⟨b.toArray⟩
        rw [hsz] at hsrc
        refine (show Src P 1 tx _ (List.length (α := Int) (b.map fun (c : UInt8) => ((c.toNat : Int)))) _ w from hml.symm ▸ (?_ : Src P 1 tx _ b.length _ w))
        exact ⟨hkd, fun _ => rfl, hsrc w, hsrc w.drew, by rw [byteCells_length, hsz, Nat.mul_one], fun u hu => by
          obtain ⟨_, _, rfl⟩ := List.mem_map.1 hu
          rfl⟩
      · rw [byteCells_length, hsz]
        exact (show b.length = List.length (α := Int) (b.map fun (c : UInt8) => ((c.toNat : Int))) * 1 from by rw [hml, Nat.mul_one])
      · have hx' : (b.map fun (c : UInt8) => ((c.toNat : Int)))[i]? = some x := hx
        refine ⟨[.int .u8 x], ⟨RD_iff.2 rfl, trivial⟩, fun j y hy => ?_⟩
        match j, hy with
        | 0, hy =>
          simp only [List.getElem?_cons_zero, Option.some.injEq] at hy
          subst hy
          rw [hbl]
          show _[i * 1 + 0]? = _
          rw [Nat.mul_one, Nat.add_zero, List.getElem?_map]
          rw [List.getElem?_map] at hx'
          cases hbi : b[i]? with
          | none => rw [hbi] at hx'; cases hx'
          | some ch => rw [hbi] at hx'; simp only [Option.map_some] at hx' ⊢; exact congrArg some (congrArg (fun (n : Int) => Value.int .u8 n) (Option.some.inj hx'))
        | j + 1, hy => simp at hy
    · cases ha
  | emp b =>
    have ha' : (some ([], []) : Option (List (El k) × List Nat)) = some (ys, rr) := ha
    simp only [Option.some.injEq, Prod.mk.injEq] at ha'
    obtain ⟨rfl, _⟩ := ha'
    obtain ⟨ao, cc, hxv, _⟩ := RD_iff.1 hv
    exact mem [] (.inl ⟨ao, cc, hxv, rfl⟩)
  | _ => cases ha

theorem run_append_room_fr (t tx ty e : TypeId) (i : TypeInfo) (ht : P.underlying t = some (.slice e)) (hi : P.info? e = some i) (g sLen sCap : Nat) (x : Value) (n : Nat) (news : List Value) (hs : Src P i.size tx x n news w)
    (hroom : sLen + n ≤ sCap) (cur : List Value) (T lo hi' : Nat) (hg : w.heap[g]? = some (.cells cur.toArray T (lo, hi'))) (hl : sLen * i.size + news.length ≤ cur.length) (hfr : hi' ≤ lo ∨ cur.length ≤ lo) :
    (Builtin.append_ #[t, tx] ty #[.slice (some ⟨g, 0, none⟩) sLen sCap, x]).run P w =
      .ok (.slice (some ⟨g, 0, none⟩) (sLen + n) sCap) (w.setRow g (cur.take (sLen * i.size) ++ news ++ cur.drop (sLen * i.size + news.length)).toArray) := by
  have hst := run_storeCells_fr P g (sLen * i.size) T lo hi' news 0 cur w hg (by omega) hfr hs.one
  simp only [Nat.add_zero] at hst
  rcases hs.kind with ⟨e', hk⟩ | hk <;> simp [Builtin.append_, run_underlying ht, run_underlying hk, sizeOf, typeInfo, hi, hs.len, hroom, hs.cells, Addr.add_lit, hst]
theorem run_append_none (t tx ty e : TypeId) (i : TypeInfo) (ht : P.underlying t = some (.slice e)) (hi : P.info? e = some i) (x : Value) (hs : Src P i.size tx x 0 [] w) :
    (Builtin.append_ #[t, tx] ty #[.slice none 0 0, x]).run P w = .ok (.slice none 0 0) w := by
  rcases hs.kind with ⟨e', hk⟩ | hk <;> simp [Builtin.append_, run_underlying ht, run_underlying hk, sizeOf, typeInfo, hi, hs.len, hs.cells]

/-- An append that moves: the row that comes of it. -/
theorem app_grow (hE : EnvOk P E) (h : Inv om W0 S0 s c w) {t t2 ty : TypeId} {k : K} (hk : E.kd t = some k) {id : Nat} {xs ys : List (El k)} {base : Option Addr} {cap : Nat} {yv : Value} {olds news : List Value}
    (hold : (Builtin.firstCells k.size xs.length (.slice base xs.length cap)).run P w.drew = .ok olds.toArray w.drew) (ho : Elems (cxOf om s c) c.S w k xs olds)
    (hsrc : Src P k.size t2 yv ys.length news w) (hn : Elems (cxOf om s c) c.S w k ys news) (hg : cap < xs.length + ys.length) (hlim : xs.length + ys.length ≤ rowLim) :
    ∃ v w' c', (Builtin.append_ #[t, t2] ty #[.slice base xs.length cap, yv]).run P w = .ok v w' ∧
      Inv om W0 S0 { s with row := put id (some ⟨k, xs ++ ys⟩) s.row, ver := put id (s.ver id + 1) s.ver } c' w' ∧
      (cxOf om s c).le (cxOf om { s with row := put id (some ⟨k, xs ++ ys⟩) s.row, ver := put id (s.ver id + 1) s.ver } c') ∧ Keeps c.S w c'.S w' ∧ v = c'.rv id ∧ (∃ x y z, v = .slice x y z) := by
  obtain ⟨el, i, z, hu, hi, hsz, hby, hz, hzs, _⟩ := hE.kd t k hk
  have hlim' : xs.length + ys.length ≤ 2 ^ 30 := hlim
  have hfit : Builtin.nextslicecap (xs.length + ys.length) cap * i.bytes ≤ 281474976710656 := by
    refine growslice_fits hg ?_
    have : (xs.length + ys.length) * i.bytes ≤ 2 ^ 30 * 256 := Nat.mul_le_mul hlim' hby
    omega
  have hrun := run_append_grow_src (P := P) w t t2 ty el i z hu hi hz base xs.length cap olds (hsz ▸ hold) yv ys.length news (hsz ▸ hsrc) hg (by omega) hfit
  have hge := grownCap_ge w (xs.length + ys.length) cap el
  have hall := ho.append hn
  have hcurEq : (olds ++ news).toArray ++ Builtin.zeroCells z.cells (grownCap w (xs.length + ys.length) cap el - (xs.length + ys.length)) = ((olds ++ news) ++ (Builtin.zeroCells z.cells (grownCap w (xs.length + ys.length) cap el - (xs.length + ys.length))).toList).toArray := by
    apply Array.ext'; simp
  rw [hcurEq] at hrun
  have hxl : (xs ++ ys).length = xs.length + ys.length := by simp
  obtain ⟨i1, l1, k1⟩ := h.newRow id ⟨k, xs ++ ys⟩ (w' := w.drew.alloc (.cells ((olds ++ news) ++ (Builtin.zeroCells z.cells (grownCap w (xs.length + ys.length) cap el - (xs.length + ys.length))).toList).toArray el))
    ⟨fun g hg _ => heap_push w _ g hg, by simp, rfl, rfl, rfl⟩ w.heap.size (grownCap w (xs.length + ys.length) cap el) _ el 0 0 (Nat.le_refl _) (heap_alloc_new w.drew _)
    (by
      have hz2 : (Builtin.zeroCells z.cells (grownCap w (xs.length + ys.length) cap el - (xs.length + ys.length))).toList.length = (grownCap w (xs.length + ys.length) cap el - (xs.length + ys.length)) * k.size := by rw [Array.length_toList, size_zeroCells, hzs]
      show _ = _ * k.size
      rw [List.length_append, hall.len, hz2, hxl, ← Nat.add_mul]
      congr 1; omega)
    (by show (xs ++ ys).length ≤ _; omega) (.inl (Nat.le_refl _)) (hall.padded _) rfl rfl
  refine ⟨_, _, _, hrun, i1, l1, k1, ?_, ⟨_, _, _, rfl⟩⟩
  simp

theorem good_append (hE : EnvOk P E) (h : Inv om W0 S0 s c w) (hs : ∀ t, RD (cxOf om s c) c.S w (a.tmps.getD t Go.undef) (s.sl t)) {d : Option Tmp} {as : Array Operand} {ts : Array TypeId} {ty : TypeId} {pos : String} {af : Array Edge} {g : Option (Nat × Bool)} {e : Eff}
    (he : eff E C s ⟨d, .call { callee := .builtin .append, args := as, argTypes := ts }, ty, pos, af, g⟩ = some e) : Good P om W0 S0 s c w e (execOp a.eval ⟨d, .call { callee := .builtin .append, args := as, argTypes := ts }, ty, pos, af, g⟩) := by
  simp only [eff] at he
  split at he
  · rename_i x y t t2 hx ht
    have hxa : as = #[x, y] := by rw [← Array.toArray_toList (xs := as), hx]
    have hta : ts = #[t, t2] := by rw [← Array.toArray_toList (xs := ts), ht]
    subst hxa hta
    have hv := val_RD hs x
    have hy := val_RD hs y
    have hexec : ∀ v w', (Builtin.append_ #[t, t2] ty #[a.eval x, a.eval y]).run P w = .ok v w' → (execOp a.eval ⟨d, .call { callee := .builtin .append, args := #[x, y], argTypes := #[t, t2] }, ty, pos, af, g⟩).run P w = .ok (.value v) w' := fun v w' hh => by
      simp [execOp, resolve, invoke, builtin, hh]
    split at he
    · rename_i id u hvx
      rw [hvx] at hv
      obtain ⟨hver, he⟩ := of_bif he
      have hver := natbeq hver
      subst hver
      split at he
      · rename_i k xs hr
        obtain ⟨hkk, he⟩ := of_bif he
        obtain ⟨ysr, hys, he⟩ := of_bind he
        obtain ⟨ys, rr⟩ := ysr
        obtain ⟨hlim, he⟩ := of_bif he
        simp only [Option.some.injEq] at he
        subst he
        have hlim := Nat.le_of_ble_eq_true hlim
        simp only [Bool.and_eq_true, Bool.or_eq_true] at hkk
        have hkd := isKd_eq hkk.1
        have hk2 : (∃ e', P.underlying t2 = some (.slice e')) ∨ P.underlying t2 = some .string := by
          rcases hkk.2 with h2 | h2
          · obtain ⟨el2, _, _, hu2, _⟩ := hE.kd t2 k (isKd_eq h2)
            exact .inl ⟨el2, hu2⟩
          · exact .inr (hE.str t2 h2)
        obtain ⟨news, hsrc, hnews⟩ := src_of h hy hys hk2
        have hxv := (RD_iff.1 hv).2.2 rfl (by simp [hr])
        obtain ⟨el, i, z, hu, hi, hsz, hby, hz, hzs, _⟩ := hE.kd t k hkd
        -- an append that moves
        have grow : ∀ base cap olds, c.rv id = .slice base xs.length cap → (Builtin.firstCells k.size xs.length (.slice base xs.length cap)).run P w.drew = .ok olds.toArray w.drew → Elems (cxOf om s c) c.S w k xs olds → cap < xs.length + ys.length →
            Good P om W0 S0 s c w { v := .own id (s.ver id + 1), row := [(id, s.ver id + 1, ⟨k, xs ++ ys⟩)], rr := id :: rr } (execOp a.eval ⟨d, .call { callee := .builtin .append, args := #[x, y], argTypes := #[t, t2] }, ty, pos, af, g⟩) := fun base cap olds hb hold ho hg => by
          obtain ⟨v, w', c', h1, h2, h3, h4, h5, h6⟩ := app_grow (t2 := t2) (ty := ty) (id := id) hE h hkd hold ho hsrc hnews hg hlim
          refine ⟨.value v, v, w', c', hexec _ _ (by rw [hxv, hb]; exact h1), .inl rfl, h2, h3, h4, RD_iff.2 ⟨h6, ?_, fun _ _ => h5⟩⟩
          simp [app, putDst, putOut, putBoxes, putRows]
        have hro := h.row id _ hr
        rcases hro with ⟨e0, e1⟩ | ⟨g', cap, cur, T, lo, hi', e0, hB, hgg, hcur, hcap, hfr, hel, hpr⟩
        · have e1 : xs = [] := e1
          subst e1
          cases hyl : ys with
          | nil =>
            subst hyl
            have hnn : news = [] := List.length_eq_zero_iff.1 (by have := hnews.len; simpa using this)
            subst hnn
            have hrun := run_append_none (P := P) (w := w) t t2 ty el i hu hi (a.eval y) (hsz ▸ hsrc)
            obtain ⟨i1, l1⟩ := h.nilRow id k rfl rfl
            refine ⟨.value (.slice none 0 0), _, w, _, hexec _ _ (by rw [hxv, e0]; exact hrun), .inl rfl, i1, l1, Keeps.refl _ _, ?_⟩
            rw [RD_iff]
            refine ⟨⟨_, _, _, rfl⟩, ?_, fun _ _ => ?_⟩ <;> simp [app, putRows, putBoxes, putOut, putDst]
          | cons y1 yr =>
            rw [← hyl]
            exact grow none 0 [] e0 (run_firstCells_none _ _ _ _ _) Elems.nil (by rw [hyl]; simp)
        · have hel' : ∀ (i : Nat) (x : El k), xs[i]? = some x → ∃ vs, All2 (RD (cxOf om s c) c.S w) vs (enc k x) ∧ ∀ (j : Nat) (y : Value), vs[j]? = some y → cur[i * k.size + j]? = some y := hel
          have hcur' : cur.length = cap * k.size := hcur
          have hcap' : xs.length ≤ cap := hcap
          have hmul : xs.length * k.size ≤ cap * k.size := Nat.mul_le_mul_right _ hcap'
          have hold := Elems.of_take (by omega) hel'
          by_cases hroom : xs.length + ys.length ≤ cap
          · have hnl := hnews.len
            have hmul2 : (xs.length + ys.length) * k.size ≤ cap * k.size := Nat.mul_le_mul_right _ hroom
            rw [Nat.add_mul] at hmul2
            have hrun := run_append_room_fr (P := P) (w := w) t t2 ty el i hu hi g' xs.length cap (a.eval y) ys.length news (hsz ▸ hsrc) hroom cur T lo hi' hgg (by rw [hsz]; omega) (by rw [hcur']; exact hfr)
            rw [hsz] at hrun
            have hxl : (xs ++ ys).length = xs.length + ys.length := by simp
            obtain ⟨i1, l1, k1⟩ := h.rowAt id (s.ver id + 1) ⟨k, xs⟩ ⟨k, xs ++ ys⟩ hr rfl g' cap (cur.take (xs.length * k.size) ++ news ++ cur.drop (xs.length * k.size + news.length)) T lo hi' e0 (chg_setRow w _ _) (setRow_heap _ _ _ _ _ _ hgg)
              (by show _ = cap * k.size; simp; omega) (by show (xs ++ ys).length ≤ cap; omega) hfr
              (fun o ho => by
                have hlt : o < xs.length * k.size := ((hpr o).1 ho).2
                have h1 := setRow_heap w g' cur.toArray (cur.take (xs.length * k.size) ++ news ++ cur.drop (xs.length * k.size + news.length)).toArray T (lo, hi') hgg
                simp only [World.cell?, h1, hgg]
                simp only [List.getElem?_toArray]
                rw [List.append_assoc, List.getElem?_append_left (by simp; omega), List.getElem?_take, if_pos hlt])
              (by show xs.length ≤ (xs ++ ys).length; omega) ((hold.append hnews).padded _) (.inr rfl) rfl rfl
            refine ⟨.value (.slice (some ⟨g', 0, none⟩) (xs.length + ys.length) cap), _, _, _, hexec _ _ (by rw [hxv, e0]; exact hrun), .inl rfl, i1, l1, k1, ?_⟩
            rw [RD_iff]
            refine ⟨⟨_, _, _, rfl⟩, ?_, fun _ _ => ?_⟩
            · simp [app, putRows, putBoxes, putOut, putDst]
            · simp [app, putRows, putBoxes, putOut, putDst]
          · refine grow (some ⟨g', 0, none⟩) cap (cur.take (xs.length * k.size)) e0 ?_ hold (by omega)
            refine run_firstCells_some w.drew k.size _ _ _ cap _ hold.len fun j u hu => ?_
            have hj := (List.getElem?_eq_some_iff.1 hu).1
            rw [Addr.add_lit, Nat.zero_add]
            have : cur[j]? = some u := by
              rw [List.getElem?_take] at hu
              split at hu
              · exact hu
              · cases hu
            have hd : w.drew.heap[g']? = some (.cells cur.toArray T (lo, hi')) := hgg
            simp [World.cell?, hd, this]
      · cases he
    · cases he
  · cases he
end
end Go.Ev
/-
  Calls: what a callee is asked to keep, how a frame hands its values on, and that its invariant outlives the call.
-/
namespace Go.Ev

/-- How a callee's arguments read: none of them is into a frame. -/
def argCx (om : Nat → Nat) : Cx := { om := om, pt := fun _ _ _ _ => False, ow := fun _ _ _ => False, bp := fun _ _ _ _ => False }
def dataR : V → Bool
  | .tup vs => vs.all isData
  | v => isData v
/-- What holds behind a call. -/
structure After (om : Nat → Nat) (S : Prot) (w : World) (outs : List (List V)) (r : V) (outs' : List (List V)) (S' : Prot) (v : Value) (w' : World) : Prop where
  le : ∀ g o, S g o → S' g o
  old : ∀ g o, S' g o → g < w.heap.size → S g o
  lt : ∀ g o, S' g o → g < w'.heap.size
  blk : Chg (fun g => ∃ j, j < outs.length ∧ g = om j) w w'
  len : outs'.length = outs.length
  out : ∀ j cs, outs'[j]? = some cs → BoxOK (argCx om) S' w' (om j) cs
  outD : ∀ cs ∈ outs', cs.all isDataC = true
  val : RD (argCx om) S' w' v r
  dat : dataR r = true
/-- A call, of a function with or without a body. -/
def Does (P : Program) (f : FuncId) (vals : Array Value) (w : World) (Post : Value → World → Prop) : Prop :=
  (∃ v w', (callFunc f vals).run P w = .ok (.value v) w' ∧ Post v w') ∨
  ((callFunc f vals).run P w = .ok (.enter f vals) w ∧ Calls P f vals w fun e w' => match e with | .returned v => Post v w' | _ => False)
/-- What lies at some global variables, for good. -/
abbrev Tab := Nat → Obj → Prop
def Answers (P : Program) (T : Tab) (f : FuncId) (args : List V) (outs : List (List V)) (r : V) (outs' : List (List V)) : Prop :=
  ∀ (om : Nat → Nat) (S : Prot) (w : World) (vals : List Value),
    All2 (RD (argCx om) S w) vals args → (∀ j cs, outs[j]? = some cs → BoxOK (argCx om) S w (om j) cs) → (∀ cs ∈ outs, cs.all isDataC = true) → (∀ j, j < outs.length → ∀ o, ¬ S (om j) o) →
    (∀ i j, i < outs.length → j < outs.length → om i = om j → i = j) → (∀ g o, S g o → g < w.heap.size) → (∀ g b, T g b → S g 0 ∧ w.heap[g]? = some b) →
    Does P f vals.toArray w fun v w' => ∃ S', After om S w outs r outs' S' v w'
def OrcOk (P : Program) (T : Tab) (C : Orc) : Prop := ∀ f args outs r outs', C f args outs = some (true, r, outs') → Answers P T f args outs r outs'

theorem Does.mono {P : Program} {f : FuncId} {vals : Array Value} {w : World} {Q Q' : Value → World → Prop} (hq : ∀ v w', Q v w' → Q' v w') (h : Does P f vals w Q) : Does P f vals w Q' := by
  rcases h with ⟨v, w', h1, h2⟩ | ⟨h1, h2⟩
  · exact .inl ⟨v, w', h1, hq _ _ h2⟩
  · exact .inr ⟨h1, Calls.mono h2 fun e w' he => by cases e <;> first | exact hq _ _ he | exact he⟩

theorem all2_data {cx cx' : Cx} {S : Prot} {w : World} : ∀ {vs : List Value} {cs : List V}, cs.all isDataC = true → All2 (RD cx S w) vs cs → All2 (RD cx' S w) vs cs
  | [], [], _, _ => trivial
  | _ :: _, _ :: _, hd, h => by
    simp only [List.all_cons, Bool.and_eq_true] at hd
    exact ⟨h.1.data hd.1, all2_data hd.2 h.2⟩
  | [], _ :: _, _, h => h.elim
  | _ :: _, [], _, h => h.elim
theorem RD.data' {cx cx' : Cx} {S : Prot} {w : World} {v : Value} {x : V} (hd : isData x = true) (h : RD cx S w v x) : RD cx' S w v x := by
  cases x with
  | agg cs =>
    obtain ⟨vs, rfl, hvs⟩ := RD_iff.1 h
    exact RD_iff.2 ⟨vs, rfl, all2_data hd hvs⟩
  | _ => exact h.data hd
theorem all2_data' {cx cx' : Cx} {S : Prot} {w : World} : ∀ {vs : List Value} {cs : List V}, cs.all isData = true → All2 (RD cx S w) vs cs → All2 (RD cx' S w) vs cs
  | [], [], _, _ => trivial
  | _ :: _, _ :: _, hd, h => by
    simp only [List.all_cons, Bool.and_eq_true] at hd
    exact ⟨h.1.data' hd.1, all2_data' hd.2 h.2⟩
  | [], _ :: _, _, h => h.elim
  | _ :: _, [], _, h => h.elim
theorem RD.dataR {cx cx' : Cx} {S : Prot} {w : World} {v : Value} {x : V} (hd : dataR x = true) (h : RD cx S w v x) : RD cx' S w v x := by
  cases x with
  | tup cs =>
    obtain ⟨vs, rfl, hvs⟩ := RD_iff.1 h
    exact RD_iff.2 ⟨vs, rfl, all2_data' hd hvs⟩
  | _ => exact h.data' hd
theorem BoxOK.data {cx cx' : Cx} {S : Prot} {w : World} {g : Nat} {cs : List V} (hd : cs.all isDataC = true) (h : BoxOK cx S w g cs) : BoxOK cx' S w g cs := by
  obtain ⟨vs, T, hg, hv⟩ := h
  exact ⟨vs, T, hg, all2_data hd hv⟩

section
variable {om : Nat → Nat} {W0 : World} {S0 : Prot} {s : St} {c : Cc} {w : World}

/-- Some boxes, of the frame or of its callers, have been written by a callee. -/
theorem Inv.touch (h : Inv om W0 S0 s c w) {w' : World} {S' : Prot} {t : Nat → Prop} (hch : Chg t w w') (hS : ∀ g o, c.S g o → S' g o) (hSold : ∀ g o, S' g o → g < w.heap.size → c.S g o)
    (hSlt : ∀ g o, S' g o → g < w'.heap.size) (htS : ∀ g o, c.S g o → ¬ t g) {s' : St} (hgen : s'.gen = s.gen) (hrow : s'.row = s.row) (hver : s'.ver = s.ver)
    (hbox : ∀ b cs, s'.box b = some cs → (s.box b).isSome = true ∧ ((s.box b = some cs ∧ ¬ t (c.bl b)) ∨ (cs.all isDataC = true ∧ BoxOK (argCx om) S' w' (c.bl b) cs)))
    (hlen : s'.out.length = s.out.length) (hout : ∀ j cs, s'.out[j]? = some cs → (s.out[j]? = some cs ∧ ¬ t (om j)) ∨ (cs.all isDataC = true ∧ BoxOK (argCx om) S' w' (om j) cs))
    (htrow : ∀ i g, (s.row i).isSome = true → blkOf (c.rv i) = some g → ¬ t g) (htold : ∀ g, t g → W0.heap.size ≤ g ∨ ∃ j, j < s.out.length ∧ g = om j) :
    Inv om W0 S0 s' { c with S := S' } w' ∧ (cxOf om s c).le (cxOf om s' { c with S := S' }) ∧ Keeps c.S w S' w' := by
  have hle : (cxOf om s c).le (cxOf om s' { c with S := S' }) := by
    refine cx_le (fun i => by rw [hgen]; exact Nat.le_refl _) (fun i e hs => ⟨?_, rfl⟩) (fun i => by rw [hver]; exact Nat.le_refl _) (fun i _ r' hr' => ⟨r', by rw [hrow] at hr'; exact hr', Nat.le_refl _, rfl⟩)
    obtain ⟨x, hx⟩ := Option.isSome_iff_exists.1 hs
    exact (hbox i x hx).1
  have hk : Keeps c.S w S' w' := hch.keeps hS h.slt htS
  have hsome : ∀ i, (s'.box i).isSome = true → (s.box i).isSome = true := fun i hi => by
    obtain ⟨x, hx⟩ := Option.isSome_iff_exists.1 hi
    exact (hbox i x hx).1
  have hSiff : ∀ g o, g < w.heap.size → (S' g o ↔ c.S g o) := fun g o hg => ⟨fun k => hSold g o k hg, hS g o⟩
  have hblt : ∀ i, (s.box i).isSome = true → c.bl i < w.heap.size := fun i hi => by
    obtain ⟨x, hx⟩ := Option.isSome_iff_exists.1 hi
    exact (h.box i x hx).lt
  refine ⟨?_, hle, hk⟩
  exact {
    box := fun i x e => by
      obtain ⟨_, ⟨e', ht⟩ | ⟨hd, hb⟩⟩ := hbox i x e
      · exact (h.box i x e').keep hle hk (hch.blk _ (h.box i x e').lt ht)
      · exact hb.data hd
    boxB := fun i e => h.boxB i (hsome i e)
    boxS := fun i e o k => h.boxS i (hsome i e) o (hSold _ _ k (hblt i (hsome i e)))
    boxne := fun i j hi hj e => h.boxne i j (hsome i hi) (hsome j hj) e
    row := fun i r e => by
      rw [hrow] at e
      have hlt := fun g hg => ((h.row i r e).lt (g := g) hg).1
      exact (h.row i r e).keep hle hk (fun g hg => hch.blk g (hlt g hg) (htrow i g (by simp [e]) hg)) (fun g hg o => hSiff g o (hlt g hg))
    rowne := by rw [hrow]; exact h.rowne
    rowbox := fun i j hi hj => by rw [hrow] at hi; exact h.rowbox i j hi (hsome j hj)
    out := fun j x e => by
      rcases hout j x e with ⟨e', ht⟩ | ⟨hd, hb⟩
      · exact (h.out j x e').keep hle hk (hch.blk _ (h.out j x e').lt ht)
      · exact hb.data hd
    outB := by rw [hlen]; exact h.outB
    outS := fun j hj o k => by
      rw [hlen] at hj
      exact h.outS j hj o (hSold _ _ k (Nat.lt_of_lt_of_le (h.outB j hj) h.size))
    outne := by rw [hlen]; exact h.outne
    old := fun g hg ho => by
      rw [hlen] at ho
      refine (hch.blk g (Nat.lt_of_lt_of_le hg h.size) fun ht => ?_).trans (h.old g hg ho)
      rcases htold g ht with h1 | ⟨j, hj, rfl⟩
      · omega
      · exact ho j hj rfl
    size := Nat.le_trans h.size hch.size
    os := hch.os.trans h.os
    tape := hch.tape.trans h.tape
    output := hch.output.trans h.output
    s0 := fun g o k => hS g o (h.s0 g o k)
    sold := fun g o k hlt => h.sold g o (hSold g o k (Nat.lt_of_lt_of_le hlt h.size)) hlt
    slt := hSlt }

/-! #### references among arguments -/
def locR (om : Nat → Nat) (c : Cc) : Ref → Nat
  | .box b => c.bl b
  | .out j => om j
theorem refIx_some : ∀ (r : Ref) (rs : List Ref) (i k : Nat), refIx r rs i = some k → ∃ j, k = i + j ∧ rs[j]? = some r
  | r, [], i, k, h => by cases r <;> cases h
  | .box b, .box b' :: rs, i, k, h => by
    simp only [refIx] at h
    cases hb : Nat.beq b b' with
    | true => rw [hb] at h; cases h; exact ⟨0, rfl, by simp [natbeq hb]⟩
    | false =>
      rw [hb] at h
      obtain ⟨j, h1, h2⟩ := refIx_some (.box b) rs (i + 1) k h
      exact ⟨j + 1, by omega, by simpa using h2⟩
  | .out b, .out b' :: rs, i, k, h => by
    simp only [refIx] at h
    cases hb : Nat.beq b b' with
    | true => rw [hb] at h; cases h; exact ⟨0, rfl, by simp [natbeq hb]⟩
    | false =>
      rw [hb] at h
      obtain ⟨j, h1, h2⟩ := refIx_some (.out b) rs (i + 1) k h
      exact ⟨j + 1, by omega, by simpa using h2⟩
  | .box b, .out b' :: rs, i, k, h => by
    have h : refIx (.box b) rs (i + 1) = some k := h
    obtain ⟨j, h1, h2⟩ := refIx_some (.box b) rs (i + 1) k h
    exact ⟨j + 1, by omega, by simpa using h2⟩
  | .out b, .box b' :: rs, i, k, h => by
    have h : refIx (.out b) rs (i + 1) = some k := h
    obtain ⟨j, h1, h2⟩ := refIx_some (.out b) rs (i + 1) k h
    exact ⟨j + 1, by omega, by simpa using h2⟩
theorem natbeq_false {a b : Nat} (h : Nat.beq a b = false) : a ≠ b := fun e => by
  subst e
  rw [show Nat.beq a a = true from Nat.beq_refl a] at h
  cases h
theorem refIx_none : ∀ (r : Ref) (rs : List Ref) (i : Nat), refIx r rs i = none → r ∉ rs
  | r, [], i, h => by simp
  | .box b, .box b' :: rs, i, h => by
    simp only [refIx] at h
    cases hb : Nat.beq b b' with
    | true => rw [hb] at h; cases h
    | false =>
      rw [hb] at h
      have := refIx_none (.box b) rs (i + 1) h
      have hne := natbeq_false hb
      simp [this, hne]
  | .out b, .out b' :: rs, i, h => by
    simp only [refIx] at h
    cases hb : Nat.beq b b' with
    | true => rw [hb] at h; cases h
    | false =>
      rw [hb] at h
      have := refIx_none (.out b) rs (i + 1) h
      have hne := natbeq_false hb
      simp [this, hne]
  | .box b, .out b' :: rs, i, h => by
    have h : refIx (.box b) rs (i + 1) = none := h
    have := refIx_none (.box b) rs (i + 1) h
    simp [this]
  | .out b, .box b' :: rs, i, h => by
    have h : refIx (.out b) rs (i + 1) = none := h
    have := refIx_none (.out b) rs (i + 1) h
    simp [this]

/-- A handed value reads the same to the callee. -/
def Hands (om : Nat → Nat) (s : St) (c : Cc) (S : Prot) (w : World) (R : List Ref) (x y : V) : Prop :=
  ∀ om', (∀ i r, R[i]? = some r → om' i = locR om c r) → (∀ b, Ref.box b ∈ R → (s.box b).isSome = true) → ∀ v, RD (cxOf om s c) S w v x → RD (argCx om') S w v y
theorem Hands.mono {R R' : List Ref} {S : Prot} {x y : V} (h : Hands om s c S w R x y) (hr : ∃ t, R' = R ++ t) : Hands om s c S w R' x y := by
  obtain ⟨t, rfl⟩ := hr
  intro om' h1 h2 v hv
  refine h om' (fun i r hi => h1 i r ?_) (fun b hb => h2 b (List.mem_append_left _ hb)) v hv
  rw [List.getElem?_append_left (List.getElem?_eq_some_iff.1 hi).1]; exact hi

theorem pass1_ok (h : Inv om W0 S0 s c w) {x y : V} {rs rs' : List Ref} (hp : pass1 s x rs = some (y, rs')) (hn : rs.Nodup) :
    rs'.Nodup ∧ (∃ t, rs' = rs ++ t) ∧ Hands om s c c.S w rs' x y := by
  have last : ∀ r : Ref, (rs ++ [r])[rs.length]? = some r := fun r => by simp
  have nod : ∀ r : Ref, r ∉ rs → (rs ++ [r]).Nodup := fun r hr => List.nodup_append.2 ⟨hn, by simp, fun a ha b hb => by simp at hb; subst hb; exact fun e => hr (e ▸ ha)⟩
  cases x with
  | ptr b g o =>
    simp only [pass1] at hp
    obtain ⟨hg, hp'⟩ := of_bif hp
    clear hp
    obtain rfl := natbeq hg
    have key : ∀ (R : List Ref) (i : Nat), R[i]? = some (.box b) → Hands om s c c.S w R (.ptr b (s.gen b) o) (.optr i o) := fun R i hi om' h1 h2 v hv => by
      have := (RD_iff.1 hv).2.2 rfl (h2 b (List.mem_of_getElem? hi))
      rw [RD_iff]
      show v = _
      rw [this]
      show _ = Value.pointer (some ⟨om' i, o, none⟩)
      rw [h1 i _ hi]; rfl
    split at hp'
    · rename_i i hi
      simp only [Option.some.injEq, Prod.mk.injEq] at hp'
      obtain ⟨rfl, rfl⟩ := hp'
      obtain ⟨j, rfl, hj⟩ := refIx_some _ _ _ _ hi
      exact ⟨hn, ⟨[], by simp⟩, by rw [Nat.zero_add]; exact key rs j hj⟩
    · rename_i hi
      simp only [Option.some.injEq, Prod.mk.injEq] at hp'
      obtain ⟨rfl, rfl⟩ := hp'
      exact ⟨nod _ (refIx_none _ _ _ hi), ⟨_, rfl⟩, key _ _ (last _)⟩
  | optr j o =>
    simp only [pass1] at hp
    have key : ∀ (R : List Ref) (i : Nat), R[i]? = some (.out j) → Hands om s c c.S w R (.optr j o) (.optr i o) := fun R i hi om' h1 h2 v hv => by
      have : v = .pointer (some ⟨om j, o, none⟩) := RD_iff.1 hv
      rw [RD_iff]
      show v = Value.pointer (some ⟨om' i, o, none⟩)
      rw [this, h1 i _ hi]; rfl
    split at hp
    · rename_i i hi
      simp only [Option.some.injEq, Prod.mk.injEq] at hp
      obtain ⟨rfl, rfl⟩ := hp
      obtain ⟨k, rfl, hk⟩ := refIx_some _ _ _ _ hi
      exact ⟨hn, ⟨[], by simp⟩, by rw [Nat.zero_add]; exact key rs k hk⟩
    · rename_i hi
      simp only [Option.some.injEq, Prod.mk.injEq] at hp
      obtain ⟨rfl, rfl⟩ := hp
      exact ⟨nod _ (refIx_none _ _ _ hi), ⟨_, rfl⟩, key _ _ (last _)⟩
  | _ =>
    simp only [pass1] at hp
    obtain ⟨hd, hp⟩ := of_bif hp
    simp only [Option.some.injEq, Prod.mk.injEq] at hp
    obtain ⟨rfl, rfl⟩ := hp
    exact ⟨hn, ⟨[], by simp⟩, fun om' _ _ v hv => (esc_RD h hv).data' hd⟩

theorem passCaps_ok (h : Inv om W0 S0 s c w) : ∀ (xs : List V) (rs : List Ref) (ys : List V) (rs' : List Ref), passCaps s xs rs = some (ys, rs') → rs.Nodup →
    rs'.Nodup ∧ (∃ t, rs' = rs ++ t) ∧ ∀ R, (∃ t, R = rs' ++ t) → ∀ om', (∀ i r, R[i]? = some r → om' i = locR om c r) → (∀ b, Ref.box b ∈ R → (s.box b).isSome = true) →
      ∀ vs, All2 (RD (cxOf om s c) c.S w) vs xs → All2 (RD (argCx om') c.S w) vs ys
  | [], rs, ys, rs', hp, hn => by
    simp only [passCaps, Option.some.injEq, Prod.mk.injEq] at hp
    obtain ⟨rfl, rfl⟩ := hp
    exact ⟨hn, ⟨[], by simp⟩, fun R _ om' _ _ vs hv => by cases vs with | nil => trivial | cons _ _ => exact hv.elim⟩
  | x :: xs, rs, ys, rs', hp, hn => by
    simp only [passCaps] at hp
    obtain ⟨⟨y, rs1⟩, h1, hp⟩ := of_bind hp
    obtain ⟨⟨ys', rs2⟩, h2, hp⟩ := of_bind hp
    simp only [Option.some.injEq, Prod.mk.injEq] at hp
    obtain ⟨rfl, rfl⟩ := hp
    obtain ⟨n1, ⟨t1, e1⟩, k1⟩ := pass1_ok h h1 hn
    obtain ⟨n2, ⟨t2, e2⟩, k2⟩ := passCaps_ok h xs rs1 ys' rs2 h2 n1
    refine ⟨n2, ⟨t1 ++ t2, by rw [e2, e1, List.append_assoc]⟩, fun R ⟨t, hR⟩ om' ho hb vs hv => ?_⟩
    cases vs with
    | nil => exact hv.elim
    | cons v vs => exact ⟨(k1.mono ⟨t2 ++ t, by rw [hR, e2, List.append_assoc]⟩) om' ho hb v hv.1, k2 R ⟨t, hR⟩ om' ho hb vs hv.2⟩

theorem passArgs_ok (h : Inv om W0 S0 s c w) : ∀ (xs : List V) (rs : List Ref) (ys : List V) (rs' : List Ref), passArgs s xs rs = some (ys, rs') → rs.Nodup →
    rs'.Nodup ∧ (∃ t, rs' = rs ++ t) ∧ ∀ R, (∃ t, R = rs' ++ t) → ∀ om', (∀ i r, R[i]? = some r → om' i = locR om c r) → (∀ b, Ref.box b ∈ R → (s.box b).isSome = true) →
      ∀ vs, All2 (RD (cxOf om s c) c.S w) vs xs → All2 (RD (argCx om') c.S w) vs ys
  | [], rs, ys, rs', hp, hn => by
    simp only [passArgs, Option.some.injEq, Prod.mk.injEq] at hp
    obtain ⟨rfl, rfl⟩ := hp
    exact ⟨hn, ⟨[], by simp⟩, fun R _ om' _ _ vs hv => by cases vs with | nil => trivial | cons _ _ => exact hv.elim⟩
  | x :: xs, rs, ys, rs', hp, hn => by
    simp only [passArgs] at hp
    obtain ⟨⟨y, rs1⟩, h1, hp⟩ := of_bind hp
    obtain ⟨⟨ys', rs2⟩, h2, hp⟩ := of_bind hp
    simp only [Option.some.injEq, Prod.mk.injEq] at hp
    obtain ⟨rfl, rfl⟩ := hp
    have hone : rs1.Nodup ∧ (∃ t, rs1 = rs ++ t) ∧ ∀ R, (∃ t, R = rs1 ++ t) → ∀ om', (∀ i r, R[i]? = some r → om' i = locR om c r) → (∀ b, Ref.box b ∈ R → (s.box b).isSome = true) → ∀ v, RD (cxOf om s c) c.S w v x → RD (argCx om') c.S w v y := by
      split at h1
      · rename_i f caps
        obtain ⟨⟨q, rq⟩, hq, h1⟩ := of_bind h1
        simp only [Option.some.injEq, Prod.mk.injEq] at h1
        obtain ⟨rfl, rfl⟩ := h1
        obtain ⟨n, t, k⟩ := passCaps_ok h caps rs q rq hq hn
        refine ⟨n, t, fun R hR om' ho hb v hv => ?_⟩
        obtain ⟨cs, rfl, hcs⟩ := RD_iff.1 hv
        exact RD_iff.2 ⟨cs, rfl, k R hR om' ho hb cs hcs⟩
      · obtain ⟨n, t, k⟩ := pass1_ok h h1 hn
        exact ⟨n, t, fun R hR om' ho hb v hv => (k.mono hR) om' ho hb v hv⟩
    obtain ⟨n1, ⟨t1, e1⟩, k1⟩ := hone
    obtain ⟨n2, ⟨t2, e2⟩, k2⟩ := passArgs_ok h xs rs1 ys' rs2 h2 n1
    refine ⟨n2, ⟨t1 ++ t2, by rw [e2, e1, List.append_assoc]⟩, fun R ⟨t, hR⟩ om' ho hb vs hv => ?_⟩
    cases vs with
    | nil => exact hv.elim
    | cons v vs => exact ⟨k1 R ⟨t2 ++ t, by rw [hR, e2, List.append_assoc]⟩ om' ho hb v hv.1, k2 R ⟨t, hR⟩ om' ho hb vs hv.2⟩

theorem getRefs_ok : ∀ (R : List Ref) (os : List (List V)), getRefs s R = some os → os.length = R.length ∧ ∀ (i : Nat) (r : Ref), R[i]? = some r →
    match r with
    | .box b => ∃ cs, s.box b = some cs ∧ os[i]? = some (cs.map (escC s)) ∧ (cs.map (escC s)).all isDataC = true
    | .out j => ∃ cs, s.out[j]? = some cs ∧ os[i]? = some cs
  | [], os, h => by
    simp only [getRefs, Option.some.injEq] at h
    subst h
    exact ⟨rfl, fun i r hi => by simp at hi⟩
  | .box b :: R, os, h => by
    simp only [getRefs] at h
    obtain ⟨cs, hb, h⟩ := of_bind h
    obtain ⟨hd, h⟩ := of_bif h
    obtain ⟨q, hq, h⟩ := of_bind h
    simp only [Option.some.injEq] at h
    subst h
    obtain ⟨h1, h2⟩ := getRefs_ok R q hq
    refine ⟨by simp [h1], fun i r hi => ?_⟩
    cases i with
    | zero => simp only [List.getElem?_cons_zero, Option.some.injEq] at hi; subst hi; exact ⟨cs, hb, rfl, hd⟩
    | succ i => simpa using h2 i r (by simpa using hi)
  | .out j :: R, os, h => by
    simp only [getRefs] at h
    split at h
    · rename_i cs r hd
      obtain ⟨q, hq, h⟩ := of_bind h
      simp only [Option.some.injEq] at h
      subst h
      obtain ⟨h1, h2⟩ := getRefs_ok R q hq
      have hj : s.out[j]? = some cs := by
        have := congrArg (·[0]?) hd
        simpa [List.getElem?_drop] using this
      refine ⟨by simp [h1], fun i r hi => ?_⟩
      cases i with
      | zero => simp only [List.getElem?_cons_zero, Option.some.injEq] at hi; subst hi; exact ⟨cs, hj, rfl⟩
      | succ i => simpa using h2 i r (by simpa using hi)
    · cases h

theorem put_self {α : Type} (f : Nat → α) (b : Nat) : put b (f b) f = f := by
  funext i
  by_cases h : i = b
  · subst h; simp
  · exact put_other _ _ h
theorem refBoxes_ok : ∀ (R : List Ref) (os : List (List V)) (s0 : St), R.length = os.length → R.Nodup → s0.gen = s.gen →
    (putBoxes (refBoxes s R os) s0).gen = s.gen ∧ (putBoxes (refBoxes s R os) s0).row = s0.row ∧ (putBoxes (refBoxes s R os) s0).ver = s0.ver ∧ (putBoxes (refBoxes s R os) s0).out = s0.out ∧ (putBoxes (refBoxes s R os) s0).sl = s0.sl ∧
    ∀ b cs, (putBoxes (refBoxes s R os) s0).box b = some cs → (∃ i : Nat, R[i]? = some (Ref.box b) ∧ os[i]? = some cs) ∨ (Ref.box b ∉ R ∧ s0.box b = some cs)
  | [], [], s0, _, _, hg => ⟨hg, rfl, rfl, rfl, rfl, fun b cs h => .inr ⟨by simp, h⟩⟩
  | .out j :: R, o :: os, s0, hl, hn, hg => by
    obtain ⟨a1, a2, a3, a4, a5, a6⟩ := refBoxes_ok R os s0 (by simpa using hl) (List.nodup_cons.1 hn).2 hg
    refine ⟨a1, a2, a3, a4, a5, fun b cs h => ?_⟩
    rcases a6 b cs h with ⟨i, h1, h2⟩ | ⟨h1, h2⟩
    · exact .inl ⟨i + 1, by simpa using h1, by simpa using h2⟩
    · exact .inr ⟨by simp [h1], h2⟩
  | .box b0 :: R, o :: os, s0, hl, hn, hg => by
    have hn' := List.nodup_cons.1 hn
    obtain ⟨a1, a2, a3, a4, a5, a6⟩ := refBoxes_ok R os { s0 with box := put b0 (some o) s0.box, gen := put b0 (s.gen b0) s0.gen } (by simpa using hl) hn'.2 (by rw [hg]; exact put_self _ _)
    refine ⟨a1, a2, a3, a4, a5, fun b cs h => ?_⟩
    rcases a6 b cs h with ⟨i, h1, h2⟩ | ⟨h1, h2⟩
    · exact .inl ⟨i + 1, by simpa using h1, by simpa using h2⟩
    · by_cases hb : b = b0
      · subst hb
        simp only [put_same, Option.some.injEq] at h2
        subst h2
        exact .inl ⟨0, rfl, rfl⟩
      · dsimp only at h2
        rw [put_other _ _ hb] at h2
        exact .inr ⟨by simp [h1, hb], h2⟩
  | [], _ :: _, _, hl, _, _ => by simp at hl
  | _ :: _, [], _, hl, _, _ => by simp at hl
theorem refOuts_ok : ∀ (R : List Ref) (os o : List (List V)), R.length = os.length → R.Nodup → (∀ j, Ref.out j ∈ R → j < o.length) → (refOuts R os o).length = o.length ∧
    ∀ j cs, (refOuts R os o)[j]? = some cs → (∃ i : Nat, R[i]? = some (Ref.out j) ∧ os[i]? = some cs) ∨ (Ref.out j ∉ R ∧ o[j]? = some cs)
  | [], [], o, _, _, _ => ⟨rfl, fun j cs h => .inr ⟨by simp, h⟩⟩
  | .box j :: R, q :: os, o, hl, hn, hr => by
    obtain ⟨a1, a2⟩ := refOuts_ok R os o (by simpa using hl) (List.nodup_cons.1 hn).2 (fun j hj => hr j (by simp [hj]))
    refine ⟨a1, fun b cs h => ?_⟩
    rcases a2 b cs h with ⟨i, h1, h2⟩ | ⟨h1, h2⟩
    · exact .inl ⟨i + 1, by simpa using h1, by simpa using h2⟩
    · exact .inr ⟨by simp [h1], h2⟩
  | .out j0 :: R, q :: os, o, hl, hn, hr => by
    have hn' := List.nodup_cons.1 hn
    have h0 := hr j0 (by simp)
    obtain ⟨a1, a2⟩ := refOuts_ok R os (o.set j0 q) (by simpa using hl) hn'.2 (fun j hj => by simpa using hr j (by simp [hj]))
    refine ⟨a1.trans List.length_set, fun b cs h => ?_⟩
    rcases a2 b cs h with ⟨i, h1, h2⟩ | ⟨h1, h2⟩
    · exact .inl ⟨i + 1, by simpa using h1, by simpa using h2⟩
    · by_cases hb : j0 = b
      · subst hb
        rw [List.getElem?_set_self h0] at h2
        simp only [Option.some.injEq] at h2
        subst h2
        exact .inl ⟨0, rfl, rfl⟩
      · rw [List.getElem?_set_ne hb] at h2
        exact .inr ⟨by simp [h1, Ne.symm hb], h2⟩
  | [], _ :: _, _, hl, _, _ => by simp at hl
  | _ :: _, [], _, hl, _, _ => by simp at hl
theorem refRo_ok : ∀ (R : List Ref), refRo R = false → ∀ j, Ref.out j ∉ R
  | [], _, j => by simp
  | .box b :: R, h, j => by simp [refRo_ok R h j]
  | .out b :: R, h, j => by cases h

/-- A CALL. -/
theorem good_call {P : Program} {T : Tab} {C : Orc} (hC : OrcOk P T C) (h : Inv om W0 S0 s c w) (htb : ∀ g b, T g b → S0 g 0 ∧ g < W0.heap.size ∧ W0.heap[g]? = some b) (hod : ∀ cs ∈ s.out, cs.all isDataC = true) {f : FuncId} {args : List V} {vals : List Value} (hargs : All2 (RD (cxOf om s c) c.S w) vals args) {e : Eff}
    (he : callEff C s f args = some e) :
    Does P f vals.toArray w fun v w' => ∃ c', Inv om W0 S0 (app none e s) c' w' ∧ (cxOf om s c).le (cxOf om (app none e s) c') ∧ Keeps c.S w c'.S w' ∧ RD (cxOf om (app none e s) c') c'.S w' v e.v ∧
      ∀ cs ∈ (app none e s).out, cs.all isDataC = true := by
  unfold callEff at he
  obtain ⟨⟨args', R⟩, hp, he⟩ := of_bind he
  obtain ⟨os, hg, he⟩ := of_bind he
  obtain ⟨⟨okb, r, os'⟩, hr, he⟩ := of_bind he
  obtain ⟨hokb, he⟩ := of_bif he
  simp only at hokb
  subst hokb
  simp only [Option.some.injEq] at he
  simp only at hg hr
  obtain ⟨hn, _, hpass⟩ := passArgs_ok h args [] args' R hp List.nodup_nil
  obtain ⟨hol, hos⟩ := getRefs_ok R os hg
  have hbx : ∀ b, Ref.box b ∈ R → (s.box b).isSome = true := fun b hb => by
    obtain ⟨i, hi⟩ := List.mem_iff_getElem?.1 hb
    obtain ⟨cs, h1, _⟩ := hos i _ hi
    simp [h1]
  have hox : ∀ j, Ref.out j ∈ R → j < s.out.length := fun j hj => by
    obtain ⟨i, hi⟩ := List.mem_iff_getElem?.1 hj
    obtain ⟨cs, h1, _⟩ := hos i _ hi
    exact (List.getElem?_eq_some_iff.1 h1).1
  -- where the callee's boxes are
  let om' : Nat → Nat := fun i => match R[i]? with | some r => locR om c r | none => 0
  have hom : ∀ (i : Nat) (r : Ref), R[i]? = some r → om' i = locR om c r := fun i r hi => by simp only [om', hi]
  have hdat : ∀ (i : Nat) (cs : List V), os[i]? = some cs → cs.all isDataC = true := fun i cs hi => by
    have hlt : i < R.length := by rw [← hol]; exact (List.getElem?_eq_some_iff.1 hi).1
    have hri : R[i]? = some R[i] := by simp [hlt]
    have := hos i _ hri
    cases hrr : R[i] with
    | box b =>
      rw [hrr] at this
      obtain ⟨x, _, h2, h3⟩ := this
      rw [hi] at h2; cases h2; exact h3
    | out j =>
      rw [hrr] at this
      obtain ⟨x, h1, h2⟩ := this
      rw [hi] at h2
      simp only [Option.some.injEq] at h2
      subst h2
      exact hod cs (List.mem_of_getElem? h1)
  have hloc : ∀ (i : Nat) (r : Ref), R[i]? = some r → ((∃ b, r = .box b ∧ om' i = c.bl b ∧ (s.box b).isSome = true) ∨ ∃ j, r = .out j ∧ om' i = om j ∧ j < s.out.length) := fun i r hi => by
    cases r with
    | box b => exact .inl ⟨b, rfl, hom i _ hi, hbx b (List.mem_of_getElem? hi)⟩
    | out j => exact .inr ⟨j, rfl, hom i _ hi, hox j (List.mem_of_getElem? hi)⟩
  have hget : ∀ i, i < os.length → ∃ r, R[i]? = some r := fun i hi => ⟨R[i]'(by omega), by simp⟩
  have A1 := hpass R ⟨[], by simp⟩ om' hom hbx vals hargs
  have A2 : ∀ (j : Nat) (cs : List V), os[j]? = some cs → BoxOK (argCx om') c.S w (om' j) cs := fun j cs hj => by
    obtain ⟨r', hr'⟩ := hget j (List.getElem?_eq_some_iff.1 hj).1
    have hd := hdat j cs hj
    have := hos j r' hr'
    rw [hom j r' hr']
    cases r' with
    | box b =>
      obtain ⟨x, h1, h2, _⟩ := this
      rw [hj] at h2; cases h2
      obtain ⟨vs, T, hg', hv⟩ := h.box b x h1
      exact ⟨vs, T, hg', all2_data hd (hv.mapR fun _ _ k => escC_RD h k)⟩
    | out i =>
      obtain ⟨x, h1, h2⟩ := this
      rw [hj] at h2; cases h2
      exact (h.out i _ h1).data hd
  have A4 : ∀ j, j < os.length → ∀ o, ¬ c.S (om' j) o := fun j hj o => by
    obtain ⟨r', hr'⟩ := hget j hj
    rcases hloc j r' hr' with ⟨b, _, e1, e2⟩ | ⟨i, _, e1, e2⟩
    · rw [e1]; exact h.boxS b e2 o
    · rw [e1]; exact h.outS i e2 o
  have A5 : ∀ i j, i < os.length → j < os.length → om' i = om' j → i = j := fun i j hi hj e => by
    obtain ⟨r1, hr1⟩ := hget i hi
    obtain ⟨r2, hr2⟩ := hget j hj
    have hne : r1 = r2 → i = j := fun e' => by
      have h1 := List.getElem?_eq_some_iff.1 hr1
      have h2 := List.getElem?_eq_some_iff.1 hr2
      exact (List.getElem_inj hn).1 (h1.2.trans (e'.trans h2.2.symm))
    rcases hloc i r1 hr1 with ⟨b, e0, e1, e2⟩ | ⟨k, e0, e1, e2⟩ <;> rcases hloc j r2 hr2 with ⟨b', f0, f1, f2⟩ | ⟨k', f0, f1, f2⟩
    · rw [e1, f1] at e
      exact hne (by rw [e0, f0, h.boxne b b' e2 f2 e])
    · rw [e1, f1] at e
      have := h.boxB b e2; have := h.outB k' f2; omega
    · rw [e1, f1] at e
      have := h.boxB b' f2; have := h.outB k e2; omega
    · rw [e1, f1] at e
      exact hne (by rw [e0, f0, h.outne k k' e2 f2 e])
  refine (hC f args' os r os' hr om' c.S w vals A1 A2 (fun cs hcs => by obtain ⟨i, hi⟩ := List.mem_iff_getElem?.1 hcs; exact hdat i cs hi) A4 A5 h.slt (fun g b hg => by
    obtain ⟨t1, t2, t3⟩ := htb g b hg
    exact ⟨h.s0 g 0 t1, (h.old g t2 fun j hj e => h.outS j hj 0 (e ▸ h.s0 g 0 t1)).trans t3⟩)).mono fun v w' ⟨S', hA⟩ => ?_
  subst he
  have hlen' : R.length = os'.length := by rw [hA.len, hol]
  obtain ⟨b1, b2, b3, b4, b5, b6⟩ := refBoxes_ok (s := s) R os' s hlen' hn rfl
  obtain ⟨o1, o2⟩ := refOuts_ok R os' s.out hlen' hn hox
  -- the outer boxes behind the call
  have hro : ∀ (s1 : St), s1.out = s.out → (putOut (bif refRo R then some (refOuts R os' s.out) else none) s1).out.length = s.out.length ∧
      ∀ j cs, (putOut (bif refRo R then some (refOuts R os' s.out) else none) s1).out[j]? = some cs → (∃ i : Nat, R[i]? = some (Ref.out j) ∧ os'[i]? = some cs) ∨ (Ref.out j ∉ R ∧ s.out[j]? = some cs) := fun s1 h1 => by
    cases hq : refRo R with
    | true => exact ⟨o1, o2⟩
    | false => exact ⟨by simp [putOut, h1], fun j cs hj => .inr ⟨refRo_ok R hq j, by simpa [putOut, h1] using hj⟩⟩
  have hpo : ∀ (o : Option (List (List V))) (s1 : St), (putOut o s1).gen = s1.gen ∧ (putOut o s1).row = s1.row ∧ (putOut o s1).ver = s1.ver ∧ (putOut o s1).box = s1.box ∧ (putOut o s1).sl = s1.sl := fun o s1 => by cases o <;> exact ⟨rfl, rfl, rfl, rfl, rfl⟩
  obtain ⟨p1, p2, p3, p4, p5⟩ := hpo (bif refRo R then some (refOuts R os' s.out) else none) (putBoxes (refBoxes s R os') s)
  obtain ⟨r1, r2⟩ := hro (putBoxes (refBoxes s R os') s) b4
  have htl : ∀ g, (∃ j, j < os.length ∧ g = om' j) → (∃ b, Ref.box b ∈ R ∧ g = c.bl b ∧ (s.box b).isSome = true) ∨ ∃ j, Ref.out j ∈ R ∧ g = om j ∧ j < s.out.length := fun g ⟨j, hj, e⟩ => by
    obtain ⟨r', hr'⟩ := hget j hj
    rcases hloc j r' hr' with ⟨b, e0, e1, e2⟩ | ⟨i, e0, e1, e2⟩
    · exact .inl ⟨b, e0 ▸ List.mem_of_getElem? hr', by rw [e, e1], e2⟩
    · exact .inr ⟨i, e0 ▸ List.mem_of_getElem? hr', by rw [e, e1], e2⟩
  have hbk : ∀ (i : Nat) (cs : List V), os'[i]? = some cs → BoxOK (argCx om) S' w' (om' i) cs := fun i cs hi => (hA.out i cs hi).data (hA.outD cs (List.mem_of_getElem? hi))
  obtain ⟨i1, l1, k1⟩ := h.touch (s' := app none { v := r, box := refBoxes s R os', out := bif refRo R then some (refOuts R os' s.out) else none, rb := refBs R, rr := escRows args ++ boxRows s (refBs R), ro := refRo R } s)
    hA.blk hA.le hA.old hA.lt (fun g o hS ⟨j, hj, e⟩ => A4 j hj o (e ▸ hS)) (by simp only [app, putDst, putRows]; rw [p1, b1]) (by simp only [app, putDst, putRows]; rw [p2, b2]) (by simp only [app, putDst, putRows]; rw [p3, b3])
    (fun b cs hb => by
      simp only [app, putDst, putRows] at hb
      rw [p4] at hb
      rcases b6 b cs hb with ⟨i, h1, h2⟩ | ⟨h1, h2⟩
      · have := hbk i cs h2
        rw [hom i _ h1] at this
        exact ⟨hbx b (List.mem_of_getElem? h1), .inr ⟨hA.outD cs (List.mem_of_getElem? h2), this⟩⟩
      · refine ⟨by simp [h2], .inl ⟨h2, fun ht => ?_⟩⟩
        rcases htl _ ht with ⟨b', q1, q2, q3⟩ | ⟨j, q1, q2, q3⟩
        · exact h1 (h.boxne b b' (by simp [h2]) q3 q2 ▸ q1)
        · have := h.boxB b (by simp [h2]); have := h.outB j q3; omega)
    (by simp only [app, putDst, putRows]; exact r1)
    (fun j cs hj => by
      simp only [app, putDst, putRows] at hj
      rcases r2 j cs hj with ⟨i, h1, h2⟩ | ⟨h1, h2⟩
      · have := hbk i cs h2
        rw [hom i _ h1] at this
        exact .inr ⟨hA.outD cs (List.mem_of_getElem? h2), this⟩
      · refine .inl ⟨h2, fun ht => ?_⟩
        have hjl := (List.getElem?_eq_some_iff.1 h2).1
        rcases htl _ ht with ⟨b', q1, q2, q3⟩ | ⟨j', q1, q2, q3⟩
        · have := h.boxB b' q3; have := h.outB j hjl; omega
        · exact h1 (h.outne j j' hjl q3 q2 ▸ q1))
    (fun i g hi hg ht => by
      obtain ⟨x, hx⟩ := Option.isSome_iff_exists.1 hi
      rcases htl _ ht with ⟨b', q1, q2, q3⟩ | ⟨j', q1, q2, q3⟩
      · exact h.rowbox i b' hi q3 (q2 ▸ hg)
      · have := ((h.row i x hx).lt hg).2; have := h.outB j' q3; omega)
    (fun g ht => by
      rcases htl _ ht with ⟨b', q1, q2, q3⟩ | ⟨j', q1, q2, q3⟩
      · exact .inl (q2 ▸ h.boxB b' q3)
      · exact .inr ⟨j', q3, q2⟩)
  refine ⟨_, i1, l1, k1, hA.val.dataR hA.dat, fun cs hcs => ?_⟩
  obtain ⟨j, hj⟩ := List.mem_iff_getElem?.1 hcs
  simp only [app, putDst, putRows] at hj
  rcases r2 j cs hj with ⟨i, h1, h2⟩ | ⟨h1, h2⟩
  · exact hA.outD cs (List.mem_of_getElem? h2)
  · exact hod cs (List.mem_of_getElem? h2)
end
end Go.Ev
