/-
  What the evaluator says of one operation is what the model does: operations without calls, part 1.
-/
import Derived.Test.YtdfbmemomndnnaaGreatDoorZB
import Derived.Lib.ConvBytes
namespace Go.Ev

/-- A zero cell. -/
def zrel (v : Value) : Z → Prop
  | .int k => v = .int k 0
  | .bool => v = .bool false
  | .str => v = .string ⟨#[]⟩
  | .sl _ => v = .slice none 0 0
  | .err => v = .nilIface
  | .other => True

/-- The tables are the program's. -/
structure EnvOk (P : Program) (E : Env) : Prop where
  fld : ∀ t f p, E.fld t f = some p → ∃ (fs : Array Field) (F : Field) (i : TypeInfo) (pl : Array (Nat × Nat)), P.underlying t = some (.struct fs) ∧ fs[f]? = some F ∧ F.offset = p.1 ∧ P.info? F.type = some i ∧ i.size = p.2 ∧ p.2 ≠ 0 ∧
    (∀ w, (fs.mapM fun f => do pure (f.offset, ← sizeOf f.type) : Sem (Array (Nat × Nat))).run P w = .ok pl w) ∧ pl[f]? = some p
  agg : ∀ t n, E.agg t = some (some n) → ∃ i, P.info? t = some i ∧ i.size = n ∧ ∀ w, (isAgg t).run P w = .ok true w
  sc : ∀ t, E.agg t = some none → ∃ i, P.info? t = some i ∧ i.size = 1 ∧ ∀ w, (isAgg t).run P w = .ok false w
  kd : ∀ t k, E.kd t = some k → ∃ e i z, P.underlying t = some (.slice e) ∧ P.info? e = some i ∧ i.size = k.size ∧ i.bytes ≤ 256 ∧ i.zero = some z ∧ z.cells.size = k.size ∧ (k = .byte → P.underlying e = some (.int .u8))
  zero : ∀ t zs, E.zero t = some zs → ∃ i z, P.info? t = some i ∧ i.zero = some z ∧ All2 zrel z.cells.toList zs
  ik : ∀ t k, E.ik t = some k → P.underlying t = some (.int k)
  str : ∀ t, E.str t = true → P.underlying t = some .string
  eq1 : ∀ t, E.eqk t = 1 → P.underlying t = some .bool
  eq2 : ∀ t (cx : Cx) (S : Prot) (w : World) (xs ys : List Value) (cs ds : List V) (b : Bool), ((E.eqk t = 10 + 2 * cs.length ∧ cs.all isIntV = true) ∨ (E.eqk t = 11 + 2 * cs.length ∧ cs.all isStrV = true)) → All2 (RD cx S w) xs cs → All2 (RD cx S w) ys ds → eqCs cs ds = some b →
    P.eqGuardType P.depth t = false ∧ (Op.equal t (.agg xs.toArray) (.agg ys.toArray)).run P w = .ok b w
  eq3 : ∀ t, E.eqk t = 3 → ∃ ms, P.underlying t = some (.interface ms)
  arr : ∀ t n, E.arr t = some n → ∃ e i, P.underlying t = some (.array n e) ∧ P.info? e = some i ∧ i.size = 1

/-- The operation does what the evaluator says. -/
def Good (P : Program) (om : Nat → Nat) (W0 : World) (S0 : Prot) (s : St) (c : Cc) (w : World) (e : Eff) (x : Sem Next) : Prop :=
  ∃ n v w' c', x.run P w = .ok n w' ∧ (n = .value v ∨ (n = .skip ∧ v = Go.undef)) ∧ Inv om W0 S0 (app none e s) c' w' ∧ (cxOf om s c).le (cxOf om (app none e s) c') ∧ Keeps c.S w c'.S w' ∧
    RD (cxOf om (app none e s) c') c'.S w' v e.v

theorem app_still {e : Eff} {s : St} (hb : e.box = []) (hr : e.row = []) (ho : e.out = none) : app none e s = s := by
  simp [app, hb, hr, ho, putRows, putBoxes, putOut, putDst]

section
variable {P : Program} {E : Env} {C : Orc} {om : Nat → Nat} {W0 : World} {S0 : Prot} {s : St} {c : Cc} {w : World} {a : Act}

theorem Good.still (h : Inv om W0 S0 s c w) {e : Eff} {x : Sem Next} (v : Value) (hb : e.box = []) (hr : e.row = []) (ho : e.out = none) (hx : x.run P w = .ok (.value v) w) (hv : RD (cxOf om s c) c.S w v e.v) :
    Good P om W0 S0 s c w e x := by
  refine ⟨.value v, v, w, c, hx, .inl rfl, ?_⟩
  rw [app_still hb hr ho]
  exact ⟨h, Cx.le_refl _, Keeps.refl _ _, hv⟩
theorem Good.plain (h : Inv om W0 S0 s c w) {y : V} {e : Eff} (he : plain y = some e) {x : Sem Next} (v : Value) (hx : x.run P w = .ok (.value v) w) (hv : RD (cxOf om s c) c.S w v y) :
    Good P om W0 S0 s c w e x := by
  simp only [Ev.plain, Option.some.injEq] at he
  subst he
  exact Good.still h v rfl rfl rfl hx hv

theorem ofConst_RD (cx : Cx) (S : Prot) (w : World) (v : Value) : RD cx S w v (ofConst v) := by
  rw [RD_iff]
  cases v <;> simp [ofConst, RdF]
theorem val_RD (hs : ∀ t, RD (cxOf om s c) c.S w (a.tmps.getD t Go.undef) (s.sl t)) (x : Operand) : RD (cxOf om s c) c.S w (a.eval x) (val s x) := by
  cases x with
  | tmp t => exact hs t
  | const v => exact ofConst_RD _ _ _ v
  | global g => exact ⟨1, trivial⟩
  | func f => exact RD_iff.2 ⟨[], rfl, trivial⟩

theorem getD_some {α : Type} (xs : List α) (i : Nat) (d : α) (h : i < xs.length) : xs[i]? = some (xs.getD i d) := by
  rw [List.getD_eq_getElem?_getD, List.getElem?_eq_getElem h]; rfl
theorem natbeq {a b : Nat} (h : Nat.beq a b = true) : a = b := Nat.eq_of_beq_eq_true h
theorem of_bif {α : Type} {b : Bool} {x : Option α} {y : α} (h : (bif b then x else none) = some y) : b = true ∧ x = some y := by
  cases b
  · cases h
  · exact ⟨rfl, h⟩
theorem of_bind {α β : Type} {x : Option α} {f : α → Option β} {y : β} (h : x.bind f = some y) : ∃ z, x = some z ∧ f z = some y := by
  cases x with
  | none => cases h
  | some z => exact ⟨z, rfl, h⟩

theorem isNilSl_eval {x : Operand} (h : isNilSl x = true) : a.eval x = .slice none 0 0 := by
  unfold isNilSl at h
  split at h
  · rfl
  · cases h

/-! #### moves -/
theorem good_move (h : Inv om W0 S0 s c w) (hs : ∀ t, RD (cxOf om s c) c.S w (a.tmps.getD t Go.undef) (s.sl t)) {d : Option Tmp} {x : Operand} {ty : TypeId} {pos : String} {af : Array Edge} {g : Option (Nat × Bool)} {e : Eff}
    (he : (bif isNilSl x then (E.kd ty).bind fun k => some ({ v := .own (d.getD 0) (s.ver (d.getD 0) + 1), row := [(d.getD 0, s.ver (d.getD 0) + 1, ⟨k, []⟩)] } : Eff) else Ev.plain (val s x)) = some e) :
    Good P om W0 S0 s c w e (pure (.value (a.eval x))) := by
  cases hn : isNilSl x with
  | false => rw [hn] at he; exact Good.plain h he _ rfl (val_RD hs x)
  | true =>
    rw [hn] at he
    obtain ⟨k, _, he⟩ := of_bind he
    simp only [Option.some.injEq] at he
    subst he
    rw [isNilSl_eval hn]
    obtain ⟨i1, l1⟩ := h.nilRow (d.getD 0) k rfl rfl
    refine ⟨.value (.slice none 0 0), _, w, _, rfl, .inl rfl, i1, l1, Keeps.refl _ _, ?_⟩
    rw [RD_iff]
    refine ⟨⟨_, _, _, rfl⟩, ?_, fun _ _ => ?_⟩ <;> simp [app, putRows, putBoxes, putOut, putDst]

/-! #### cells in memory -/
def CellsAt (w : World) (g p : Nat) (vs : List Value) : Prop := ∀ (j : Nat) (x : Value), vs[j]? = some x → w.cell? ⟨g, p + j, none⟩ = some x
theorem cellsAt_block {w : World} {g : Nat} {vs : List Value} {T : TypeId} {fr : Nat × Nat} (h : w.heap[g]? = some (.cells vs.toArray T fr)) : CellsAt w g 0 vs := fun j x hx => by
  simp [World.cell?, h, hx]

theorem run_load (hE : EnvOk P E) {t : TypeId} {k : Option Nat} (hk : E.agg t = some k) {cx : Cx} {S : Prot} {vs : List Value} {cs : List V} (hv : All2 (RD cx S w) vs cs) {g p o : Nat} (hc : CellsAt w g p vs) {x : V}
    (hx : asVal k cs o = some x) : ∃ v, (loadVar t ⟨g, p + o, none⟩).run P w = .ok v w ∧ RD cx S w v x := by
  cases k with
  | some n =>
    obtain ⟨i, hi, hn, hag⟩ := hE.agg t n hk
    simp only [asVal] at hx
    obtain ⟨hle, hx⟩ := of_bif hx
    have hle : o + n ≤ cs.length := Nat.le_of_ble_eq_true hle
    simp only [Option.some.injEq] at hx
    subst hx
    have hl := hv.len
    refine ⟨.agg ((vs.drop o).take n).toArray, ?_, RD_iff.2 ⟨_, rfl, (hv.drop o).take n⟩⟩
    have hlen : ((vs.drop o).take n).length = n := by simp; omega
    have hload := run_loadCells_list (P := P) w ⟨g, p + o, none⟩ ((vs.drop o).take n) (fun j v hj => by
      rw [Addr.add_lit, Nat.add_assoc]
      refine hc (o + j) v ?_
      rw [List.getElem?_take] at hj
      split at hj
      · simpa [List.getElem?_drop] using hj
      · cases hj)
    rw [hlen] at hload
    simp [loadVar, hag, sizeOf, typeInfo, hi, hn, hload]
  | none =>
    obtain ⟨i, hi, hn, hag⟩ := hE.sc t hk
    simp only [asVal] at hx
    split at hx
    · rename_i y r hd
      simp only [Option.some.injEq] at hx
      subst hx
      have hy : cs[o]? = some y := by
        have := congrArg (·[0]?) hd
        simpa [List.getElem?_drop] using this
      obtain ⟨v, hv1, hv2⟩ := hv.get o y hy
      exact ⟨v, by simp [loadVar, hag, hc o v hv1], hv2⟩
    · cases hx

theorem good_load (hE : EnvOk P E) (h : Inv om W0 S0 s c w) (hs : ∀ t, RD (cxOf om s c) c.S w (a.tmps.getD t Go.undef) (s.sl t)) {d : Option Tmp} {x : Operand} {t ty : TypeId} {pos : String} {af : Array Edge} {g : Option (Nat × Bool)} {e : Eff}
    (he : eff E C s ⟨d, .load t x, ty, pos, af, g⟩ = some e) : Good P om W0 S0 s c w e (execOp a.eval ⟨d, .load t x, ty, pos, af, g⟩) := by
  have hv := val_RD hs x
  simp only [eff] at he
  have hrun : ∀ (p : Addr) (v : Value), a.eval x = .pointer (some p) → (loadVar t p).run P w = .ok v w → (execOp a.eval ⟨d, .load t x, ty, pos, af, g⟩).run P w = .ok (.value v) w := by
    intro p v h1 h2
    simp [execOp, Instr.loadAt, h1, Instr.sureAddr, h2]
  cases hx : val s x with
  | ptr b gn o =>
    rw [hx] at he hv
    simp only at he
    obtain ⟨hgn, he⟩ := of_bif he
    obtain ⟨cs, hb, he⟩ := of_bind he
    obtain ⟨y, hy, he⟩ := of_bind he
    obtain ⟨k, hk, hy⟩ := of_bind hy
    simp only [Option.some.injEq] at he
    subst he
    have hp := (RD_iff.1 hv).2.2 (natbeq hgn) (by simp [hb])
    obtain ⟨vs, T, hg, hcs⟩ := h.box b cs hb
    obtain ⟨v, hv1, hv2⟩ := run_load hE hk hcs (p := 0) (cellsAt_block hg) hy
    rw [Nat.zero_add] at hv1
    exact Good.still h v rfl rfl rfl (hrun _ _ hp hv1) hv2
  | optr j o =>
    rw [hx] at he hv
    simp only at he
    split at he
    · rename_i cs r hd
      obtain ⟨y, hy, he⟩ := of_bind he
      obtain ⟨k, hk, hy⟩ := of_bind hy
      simp only [Option.some.injEq] at he
      subst he
      have hj : s.out[j]? = some cs := by
        have := congrArg (·[0]?) hd
        simpa [List.getElem?_drop] using this
      have hp : a.eval x = .pointer (some ⟨om j, o, none⟩) := RD_iff.1 hv
      obtain ⟨vs, T, hg, hcs⟩ := h.out j cs hj
      obtain ⟨v, hv1, hv2⟩ := run_load hE hk hcs (p := 0) (cellsAt_block hg) hy
      rw [Nat.zero_add] at hv1
      exact Good.still h v rfl rfl rfl (hrun _ _ hp hv1) hv2
    · cases he
  | dptr cs o =>
    rw [hx] at he hv
    simp only at he
    obtain ⟨y, hy, he⟩ := of_bind he
    obtain ⟨k, hk, hy⟩ := of_bind hy
    obtain ⟨g', p, vs, hp, hcs, hr⟩ := RD_iff.1 hv
    obtain ⟨v, hv1, hv2⟩ := run_load hE hk hcs (fun j y hj => (hr j y hj).2) hy
    exact Good.plain h he v (hrun _ _ hp hv1) hv2
  | bptr id u i =>
    rw [hx] at he hv
    simp only at he
    obtain ⟨hu, he⟩ := of_bif he
    split at he
    · rename_i xs hr
      obtain ⟨hbp, he⟩ := of_bif he
      simp only [Option.some.injEq] at he
      subst he
      obtain ⟨hi, g', n, m, h1, h2⟩ := (RD_iff.1 hv).2.2 (natbeq hu) _ hr
      rcases h.row id _ hr with ⟨e0, e1⟩ | ⟨g2, cap, cur, T, lo, hi2, e0, hB, hg2, hcur, hcap, hfr, hel, hpr⟩
      · rw [e0] at h1; cases h1
      · rw [h1] at e0
        simp only [Value.slice.injEq, Option.some.injEq, Addr.mk.injEq] at e0
        obtain rfl := e0.1.1
        have hxi : (xs : List (El .byte))[i]? = some ((xs : List Int).getD i (0 : Int)) := getD_some (α := Int) xs i 0 hi
        obtain ⟨vs, hvs, hcc⟩ := hel i _ hxi
        match vs, hvs with
        | [v], hvs =>
          have hv0 : v = .int .u8 ((xs : List Int).getD i (0 : Int)) := RD_iff.1 hvs.1
          have hc0 := hcc 0 v rfl
          have hci : w.cell? ⟨g', i, none⟩ = some v := by
            have : cur[i]? = some v := by simpa [K.size] using hc0
            simp [World.cell?, hg2, this]
          obtain ⟨inf, hinf, hn, hag⟩ := hE.sc t (by
            cases hq : E.agg t with
            | none => rw [hq] at hbp; simp at hbp
            | some k => cases k with
              | none => rfl
              | some _ => rw [hq] at hbp; simp at hbp)
          refine Good.still h v rfl rfl rfl (hrun _ _ h2 ?_) (RD_iff.2 hv0)
          simp [loadVar, hag, hci]
        | [], hvs => exact hvs.elim
        | _ :: _ :: _, hvs => exact hvs.2.elim
    · cases he
  | _ => rw [hx] at he; cases he

end
end Go.Ev
/-
  What the evaluator says of one operation is what the model does: part 2: stores, boxes, structs, literals.
-/
namespace Go.Ev

theorem set_get {α : Type} (xs : List α) (i k : Nat) (n z : α) (hi : i < xs.length) (hz : (xs.set i n)[k]? = some z) : (i = k ∧ z = n) ∨ (i ≠ k ∧ xs[k]? = some z) := by
  by_cases h : i = k
  · subst h
    rw [List.getElem?_set_self hi] at hz
    exact .inl ⟨rfl, by cases hz; rfl⟩
  · rw [List.getElem?_set_ne h] at hz
    exact .inr ⟨h, hz⟩

/-- Cells are stored into a block in which none of them is frozen. -/
theorem run_storeCells_fr (P : Program) (g o : Nat) (T lo hi : Nat) : ∀ (vs : List Value) (i : Nat) (cur : List Value) (w : World), w.heap[g]? = some (.cells cur.toArray T (lo, hi)) → o + i + vs.length ≤ cur.length →
    (hi ≤ lo ∨ cur.length ≤ lo) → (∀ v ∈ vs, v.oneCell' = true) →
    (storeCells ⟨g, o, none⟩ vs i).run P w = .ok () (w.setRow g (cur.take (o + i) ++ vs ++ cur.drop (o + i + vs.length)).toArray)
  | [], i, cur, w, hg, _, _, _ => by
    simp only [storeCells, List.append_nil, List.length_nil, Nat.add_zero, List.take_append_drop]
    rw [setRow_self w g cur.toArray T (lo, hi) hg]
    rfl
  | v :: rest, i, cur, w, hg, hl, hf, h1 => by
    have hi' : o + i < cur.length := by simp at hl; omega
    have hcell : w.cell? ⟨g, o + i, none⟩ = some cur[o + i] := by simp [World.cell?, hg, hi']
    have hfro : w.frozen? ⟨g, o + i, none⟩ = false := by
      simp [World.frozen?, hg]; omega
    have hset : cur.toArray.setIfInBounds (o + i) v = (cur.set (o + i) v).toArray := by simp
    have hst : (store ((⟨g, o, none⟩ : Addr).add i) v).run P w = .ok () (w.setRow g (cur.set (o + i) v).toArray) := by
      rw [Addr.add_lit, run_store P w _ v _ (h1 v (by simp)), hcell]
      simp only [hfro, Bool.false_eq_true, if_false]
      rw [setCell_eq_setRow w g (o + i) cur.toArray T (lo, hi) v hg, hset]
    have hl2 : (cur.set (o + i) v).length = cur.length := by simp
    have ih := run_storeCells_fr P g o T lo hi rest (i + 1) (cur.set (o + i) v) (w.setRow g (cur.set (o + i) v).toArray) (setRow_heap w g cur.toArray _ T _ hg) (by simp at hl ⊢; omega) (by rw [hl2]; exact hf) (fun x hx => h1 x (by simp [hx]))
    simp only [storeCells, Sem.run_bind, hst, Result.andThen_ok, ih, setRow_setRow]
    congr 3
    have e := list_seg_step cur (o + i) v rest (by simp at hl ⊢; omega)
    simpa [Nat.add_assoc] using e

section
variable {P : Program} {E : Env} {C : Orc} {om : Nat → Nat} {W0 : World} {S0 : Prot} {s : St} {c : Cc} {w : World} {a : Act}

theorem oneV_cell {S : Prot} {w : World} {v : Value} {x : V} (ho : oneV x = true) (h : RD (cxOf om s c) S w v x) : v.oneCell' = true := by
  have h := RD_iff.1 h
  cases x with
  | undef => cases ho
  | agg _ => cases ho
  | tup _ => cases ho
  | int k n => cases h; rfl
  | bool b => cases h; rfl
  | str b => cases h; rfl
  | nilErr => cases h; rfl
  | ifc t k n => cases h; rfl
  | err => obtain ⟨_, _, rfl⟩ := h; rfl
  | errq b =>
    cases b with
    | true => cases h; rfl
    | false => obtain ⟨_, _, rfl⟩ := h; rfl
  | fn f caps => obtain ⟨_, rfl, _⟩ := h; rfl
  | ptr b g o => obtain ⟨⟨_, rfl⟩, _⟩ := h; rfl
  | optr j o => cases h; rfl
  | bptr i u o => obtain ⟨⟨_, rfl⟩, _⟩ := h; rfl
  | sl k xs => obtain ⟨_, _, rfl, _⟩ := h; rfl
  | own i u => obtain ⟨⟨_, _, _, rfl⟩, _⟩ := h; rfl
  | dptr cs o => obtain ⟨_, _, _, rfl, _⟩ := h; rfl
  | emp b => obtain ⟨_, _, rfl, _⟩ := h; rfl

theorem all2_one {S : Prot} {w : World} : ∀ {vs : List Value} {cs : List V}, All2 (RD (cxOf om s c) S w) vs cs → cs.all oneV = true → ∀ u ∈ vs, u.oneCell' = true
  | [], [], _, _, u, hu => by cases hu
  | v :: vs, x :: cs, h, ho, u, hu => by
    simp only [List.all_cons, Bool.and_eq_true] at ho
    rcases List.mem_cons.1 hu with rfl | hu
    · exact oneV_cell ho.1 h.1
    · exact all2_one h.2 ho.2 u hu
  | [], _ :: _, h, _, _, _ => h.elim
  | _ :: _, [], h, _, _, _ => h.elim

theorem cells_scalar {S : Prot} {w : World} {v : Value} {x : V} (ho : oneV x = true) (h : RD (cxOf om s c) S w v x) : v.cells = [v].toArray ∧ cellsOf x = [x] := by
  have h1 := oneV_cell ho h
  refine ⟨?_, by cases x <;> first | rfl | cases ho⟩
  cases v <;> first | rfl | (simp [Value.oneCell'] at h1)

/-- A value that fits a type, as cells. -/
theorem fits_cells (hE : EnvOk P E) {t : TypeId} {S : Prot} {w : World} {v : Value} {x : V} (hf : fits (E.agg t) x = true) (hv : RD (cxOf om s c) S w v x) :
    ∃ (vs : List Value) (i : TypeInfo), v.cells = vs.toArray ∧ All2 (RD (cxOf om s c) S w) vs (cellsOf x) ∧ (∀ u ∈ vs, u.oneCell' = true) ∧ P.info? t = some i ∧ i.size = vs.length := by
  unfold fits at hf
  split at hf
  · rename_i n cs hn
    simp only [Bool.and_eq_true] at hf
    obtain ⟨i, hi, hsz, _⟩ := hE.agg t n hn
    obtain ⟨vs, rfl, hvs⟩ := RD_iff.1 hv
    exact ⟨vs, i, rfl, hvs, all2_one hvs hf.2, hi, by rw [hsz, hvs.len]; exact (natbeq hf.1).symm⟩
  · rename_i hn
    obtain ⟨i, hi, hsz, _⟩ := hE.sc t hn
    obtain ⟨h1, h2⟩ := cells_scalar hf hv
    exact ⟨[v], i, h1, by rw [h2]; exact ⟨hv, trivial⟩, fun u hu => by simp at hu; subst hu; exact oneV_cell hf hv, hi, by simp [hsz]⟩
  · cases hf

theorem run_storeVar (hE : EnvOk P E) {t : TypeId} {S : Prot} {v : Value} {x : V} (hf : fits (E.agg t) x = true) (hv : RD (cxOf om s c) S w v x) {g o T lo hi : Nat} {cur : List Value} {cs : List V}
    (hg : w.heap[g]? = some (.cells cur.toArray T (lo, hi))) (hfr : hi ≤ lo ∨ cur.length ≤ lo) (hcs : All2 (RD (cxOf om s c) S w) cur cs) (hl : o + (cellsOf x).length ≤ cs.length) :
    ∃ new : List Value, (storeVar t ⟨g, o, none⟩ v).run P w = .ok () (w.setRow g new.toArray) ∧ All2 (RD (cxOf om s c) S w) new (setCells cs o (cellsOf x)) ∧
      (w.setRow g new.toArray).heap[g]? = some (.cells new.toArray T (lo, hi)) := by
  obtain ⟨vs, i, h1, h2, h3, h4, h5⟩ := fits_cells hE hf hv
  have hlen := h2.len
  have hcl := hcs.len
  refine ⟨cur.take o ++ vs ++ cur.drop (o + vs.length), ?_, ?_, setRow_heap _ _ _ _ _ _ hg⟩
  · have hst := run_storeCells_fr P g o T lo hi vs 0 cur w hg (by simp; omega) hfr h3
    simp only [Nat.add_zero] at hst
    simp [storeVar, h1, sizeOf, typeInfo, h4, h5, hst]
  · unfold setCells
    rw [hlen]
    exact ((hcs.take o).append h2).append (hcs.drop _)

theorem chg_setRow (w : World) (g : Nat) (cs : Array Value) : Chg (fun x => x = g) w (w.setRow g cs) :=
  ⟨fun x _ hne => setRow_other w g x cs hne, by simp, rfl, rfl, rfl⟩

theorem good_store (hE : EnvOk P E) (h : Inv om W0 S0 s c w) (hs : ∀ t, RD (cxOf om s c) c.S w (a.tmps.getD t Go.undef) (s.sl t)) {d : Option Tmp} {x y : Operand} {t ty : TypeId} {pos : String} {af : Array Edge} {g : Option (Nat × Bool)} {e : Eff}
    (he : eff E C s ⟨d, .store t x y, ty, pos, af, g⟩ = some e) : Good P om W0 S0 s c w e (execOp a.eval ⟨d, .store t x y, ty, pos, af, g⟩) := by
  have hv := val_RD hs x
  have hy := val_RD hs y
  simp only [eff] at he
  have hrun : ∀ (p : Addr) (w' : World), a.eval x = .pointer (some p) → (storeVar t p (a.eval y)).run P w = .ok () w' → (execOp a.eval ⟨d, .store t x y, ty, pos, af, g⟩).run P w = .ok .skip w' := by
    intro p w' h1 h2
    simp [execOp, Instr.storeAt, h1, Instr.sureAddr, h2]
  cases hx : val s x with
  | ptr b gn o =>
    rw [hx] at he hv
    simp only at he
    obtain ⟨hgn, he⟩ := of_bif he
    obtain ⟨cs, hb, he⟩ := of_bind he
    obtain ⟨hf, he⟩ := of_bif he
    obtain ⟨hle, he⟩ := of_bif he
    simp only [Option.some.injEq] at he
    subst he
    have hgn := natbeq hgn
    subst hgn
    have hp := (RD_iff.1 hv).2.2 rfl (by simp [hb])
    obtain ⟨vs, T, hg, hcs⟩ := h.box b cs hb
    obtain ⟨new, h1, h2, h3⟩ := run_storeVar hE hf hy hg (.inl (Nat.le_refl _)) hcs (Nat.le_of_ble_eq_true hle)
    obtain ⟨i1, l1, k1⟩ := h.setBox b cs _ hb (chg_setRow w _ _) new T h3 h2 rfl
    exact ⟨.skip, Go.undef, _, c, hrun _ _ hp h1, .inr ⟨rfl, rfl⟩, i1, l1, k1, ⟨1, trivial⟩⟩
  | optr j o =>
    rw [hx] at he hv
    simp only at he
    split at he
    · rename_i cs r hd
      obtain ⟨hf, he⟩ := of_bif he
      obtain ⟨hle, he⟩ := of_bif he
      obtain ⟨_, he⟩ := of_bif he
      simp only [Option.some.injEq] at he
      subst he
      have hj : s.out[j]? = some cs := by
        have := congrArg (·[0]?) hd
        simpa [List.getElem?_drop] using this
      have hp : a.eval x = .pointer (some ⟨om j, o, none⟩) := RD_iff.1 hv
      obtain ⟨vs, T, hg, hcs⟩ := h.out j cs hj
      obtain ⟨new, h1, h2, h3⟩ := run_storeVar hE hf hy hg (.inl (Nat.le_refl _)) hcs (Nat.le_of_ble_eq_true hle)
      obtain ⟨i1, l1, k1⟩ := h.setOut j (List.getElem?_eq_some_iff.1 hj).1 _ (chg_setRow w _ _) new T h3 h2 rfl
      exact ⟨.skip, Go.undef, _, c, hrun _ _ hp h1, .inr ⟨rfl, rfl⟩, i1, l1, k1, ⟨1, trivial⟩⟩
    · cases he
  | bptr id u i =>
    rw [hx] at he hv
    simp only at he
    split at he
    · rename_i n hyn
      obtain ⟨hu, he⟩ := of_bif he
      split at he
      · rename_i xs hr
        obtain ⟨hf, he⟩ := of_bif he
        simp only [Option.some.injEq] at he
        subst he
        have hu := natbeq hu
        subst hu
        obtain ⟨hi, g', n', m', h1, h2⟩ := (RD_iff.1 hv).2.2 rfl _ hr
        rcases h.row id _ hr with ⟨e0, e1⟩ | ⟨g2, cap, cur, T, lo, hi2, e0, hB, hg2, hcur, hcap, hfr, hel, hpr⟩
        · rw [e0] at h1; cases h1
        · have e0' := e0
          rw [h1] at e0
          simp only [Value.slice.injEq, Option.some.injEq, Addr.mk.injEq] at e0
          obtain rfl := e0.1.1
          rw [hyn] at hy
          have hyv : a.eval y = .int .u8 n := RD_iff.1 hy
          have hcur' : cur.length = cap := by simpa [K.size] using hcur
          have hxl : (xs : List Int).length ≤ cap := hcap
          have hil : i < (xs : List Int).length := hi
          obtain ⟨inf, hinf, hsz, _⟩ := hE.sc t (by
            cases hq : E.agg t with
            | none => rw [hq] at hf; simp at hf
            | some k => cases k with
              | none => rfl
              | some _ => rw [hq] at hf; simp at hf)
          have hst := run_storeCells_fr P g' i T lo hi2 [.int .u8 n] 0 cur w hg2 (by simp; omega) (by rw [hcur']; simpa [K.size] using hfr) (by simp [Value.oneCell'])
          simp only [Nat.add_zero, List.length_singleton] at hst
          have hstv : (storeVar t ⟨g', i, none⟩ (a.eval y)).run P w = .ok () (w.setRow g' (cur.take i ++ [Value.int .u8 n] ++ cur.drop (i + 1)).toArray) := by
            rw [hyv]
            simp [storeVar, Value.cells, sizeOf, typeInfo, hinf, hsz, hst]
          have hset : cur.take i ++ [Value.int .u8 n] ++ cur.drop (i + 1) = cur.set i (.int .u8 n) := by
            rw [List.set_eq_take_append_cons_drop, if_pos (by omega)]; simp
          rw [hset] at hstv
          have hlen : (List.set (α := Int) xs i n).length = (xs : List Int).length := List.length_set
          obtain ⟨i1, l1, k1⟩ := h.rowAt id (s.ver id) ⟨.byte, xs⟩ ⟨.byte, List.set (α := Int) xs i n⟩ hr rfl g' cap (cur.set i (.int .u8 n)) T lo hi2 e0' (chg_setRow w _ _) (setRow_heap _ _ _ _ _ _ hg2)
            (by simpa [K.size] using hcur') (by show (List.set (α := Int) xs i n).length ≤ cap; omega) hfr
            (fun o ho => absurd ((hpr o).1 ho).1 (by simp)) (by show (xs : List Int).length ≤ (List.set (α := Int) xs i n).length; omega)
            (fun k z hz => by
              have hz' : (List.set (α := Int) xs i n)[k]? = some z := hz
              refine ⟨[.int .u8 z], ⟨RD_iff.2 rfl, trivial⟩, fun j q hq => ?_⟩
              match j, hq with
              | 0, hq =>
                simp only [List.getElem?_cons_zero, Option.some.injEq] at hq
                subst hq
                show (cur.set i (.int .u8 n))[k * 1 + 0]? = _
                simp only [Nat.mul_one, Nat.add_zero]
                rcases set_get (α := Int) xs i k n z hil hz' with ⟨hki, hzn⟩ | ⟨hki, hz'⟩
                · subst hki
                  rw [List.getElem?_set_self (by omega), hzn]
                · rw [List.getElem?_set_ne hki]
                  obtain ⟨vs, hvs, hcc⟩ := hel k z hz'
                  match vs, hvs with
                  | [v], hvs =>
                    have hv0 : v = .int .u8 z := RD_iff.1 hvs.1
                    have := hcc 0 v rfl
                    simpa [K.size, hv0] using this
                  | [], hvs => exact hvs.elim
                  | _ :: _ :: _, hvs => exact hvs.2.elim
              | j + 1, hq => simp at hq)
            (.inl ⟨rfl, hlen⟩) rfl rfl
          exact ⟨.skip, Go.undef, _, _, hrun _ _ h2 hstv, .inr ⟨rfl, rfl⟩, i1, l1, k1, ⟨1, trivial⟩⟩
      · cases he
    · cases he
  | _ => rw [hx] at he; cases he

/-! #### new boxes, structs, literals -/
theorem zero_cells : ∀ (zs : List Z) (vs : List Value) (i base : Nat), All2 zrel vs zs →
    (∀ x ∈ (zeroCells s base zs i).2, x.2.1 = s.ver x.1 + 1 ∧ x.2.2.xs = []) ∧ (∀ x ∈ (zeroCells s base zs i).2, base + i ≤ x.1) ∧ ((zeroCells s base zs i).2.map (·.1)).Nodup ∧
    ∀ (s' : St) (c' : Cc) (S : Prot) (w : World), (∀ x ∈ (zeroCells s base zs i).2, s'.ver x.1 = s.ver x.1 + 1 ∧ c'.rv x.1 = .slice none 0 0) → All2 (RD (cxOf om s' c') S w) vs (zeroCells s base zs i).1
  | [], [], i, base, _ => by simp [zeroCells, All2]
  | [], _ :: _, _, _, h => h.elim
  | _ :: _, [], _, _, h => h.elim
  | z :: zs, v :: vs, i, base, h => by
    obtain ⟨a1, a2, a3, a4⟩ := zero_cells zs vs (i + 1) base h.2
    have hz := h.1
    have b2 : ∀ x ∈ (zeroCells s base zs (i + 1)).2, base + i ≤ x.1 := fun x hx => by have := a2 x hx; omega
    cases z with
    | sl k =>
      simp only [zeroCells]
      refine ⟨fun x hx => ?_, fun x hx => ?_, ?_, fun s' c' S w hx => ?_⟩
      · rcases List.mem_cons.1 hx with rfl | hx
        · exact ⟨rfl, rfl⟩
        · exact a1 x hx
      · rcases List.mem_cons.1 hx with rfl | hx
        · exact Nat.le_refl _
        · exact b2 x hx
      · simp only [List.map_cons, List.nodup_cons]
        refine ⟨fun hm => ?_, a3⟩
        obtain ⟨x, hx, he⟩ := List.mem_map.1 hm
        have := a2 x hx; omega
      · have h0 := hx _ (List.mem_cons_self)
        exact ⟨RD_iff.2 ⟨⟨_, _, _, hz⟩, Nat.le_of_eq h0.1.symm, fun _ _ => hz.trans h0.2.symm⟩, a4 s' c' S w fun x hm => hx x (List.mem_cons_of_mem _ hm)⟩
    | int k => exact ⟨a1, b2, a3, fun s' c' S w hx => ⟨RD_iff.2 hz, a4 s' c' S w hx⟩⟩
    | bool => exact ⟨a1, b2, a3, fun s' c' S w hx => ⟨RD_iff.2 hz, a4 s' c' S w hx⟩⟩
    | str => exact ⟨a1, b2, a3, fun s' c' S w hx => ⟨RD_iff.2 hz, a4 s' c' S w hx⟩⟩
    | err => exact ⟨a1, b2, a3, fun s' c' S w hx => ⟨RD_iff.2 hz, a4 s' c' S w hx⟩⟩
    | other => exact ⟨a1, b2, a3, fun s' c' S w hx => ⟨⟨1, trivial⟩, a4 s' c' S w hx⟩⟩

theorem ver_putRows : ∀ (l : List (Nat × Nat × Row)) (s : St), (l.map (·.1)).Nodup → (∀ x ∈ l, (putRows l s).ver x.1 = x.2.1) ∧ ∀ i, i ∉ l.map (·.1) → (putRows l s).ver i = s.ver i
  | [], s, _ => ⟨fun _ h => (by cases h), fun _ _ => rfl⟩
  | (id, v, r) :: l, s, hn => by
    simp only [List.map_cons, List.nodup_cons] at hn
    obtain ⟨h1, h2⟩ := ver_putRows l { s with row := put id (some r) s.row, ver := put id v s.ver } hn.2
    refine ⟨fun x hx => ?_, fun i hi => ?_⟩
    · rcases List.mem_cons.1 hx with rfl | hx
      · exact (h2 id hn.1).trans (by simp)
      · exact h1 x hx
    · simp only [List.map_cons, List.mem_cons, not_or] at hi
      exact (h2 i hi.2).trans (put_other _ _ hi.1)
theorem gen_putRows : ∀ (l : List (Nat × Nat × Row)) (s : St), (putRows l s).gen = s.gen ∧ (putRows l s).box = s.box ∧ (putRows l s).out = s.out ∧ (putRows l s).sl = s.sl
  | [], _ => ⟨rfl, rfl, rfl, rfl⟩
  | (id, v, r) :: l, s => gen_putRows l { s with row := put id (some r) s.row, ver := put id v s.ver }

/-- Zero cells, their nil slices rows of their own. -/
theorem Inv.zeros (h : Inv om W0 S0 s c w) (base : Nat) {zs : List Z} {vs : List Value} (hz : All2 zrel vs zs) :
    ∃ c', Inv om W0 S0 (putRows (zeroCells s base zs 0).2 s) c' w ∧ (cxOf om s c).le (cxOf om (putRows (zeroCells s base zs 0).2 s) c') ∧ c'.S = c.S ∧ c'.bl = c.bl ∧
      All2 (RD (cxOf om (putRows (zeroCells s base zs 0).2 s) c') c'.S w) vs (zeroCells s base zs 0).1 := by
  obtain ⟨a1, _, a3, a4⟩ := zero_cells (s := s) (om := om) zs vs 0 base hz
  obtain ⟨c', i1, l1, e1, e2, _, e4⟩ := Inv.nilRows _ h a1 a3
  refine ⟨c', i1, l1, e1, e2, a4 _ _ _ _ fun x hx => ⟨?_, e4 x hx⟩⟩
  rw [(ver_putRows _ s a3).1 x hx, (a1 x hx).1]

theorem good_alloc (hE : EnvOk P E) (h : Inv om W0 S0 s c w) {d : Option Tmp} {t ty : TypeId} {pos : String} {af : Array Edge} {g : Option (Nat × Bool)} {e : Eff}
    (he : eff E C s ⟨d, .alloc t, ty, pos, af, g⟩ = some e) : Good P om W0 S0 s c w e (execOp a.eval ⟨d, .alloc t, ty, pos, af, g⟩) := by
  simp only [eff] at he
  obtain ⟨zs, hz, he⟩ := of_bind he
  simp only [Option.some.injEq] at he
  subst he
  obtain ⟨i, z, hi, hzz, hrel⟩ := hE.zero t zs hz
  obtain ⟨c1, i1, l1, e1, e2, hv⟩ := h.zeros (nilBase (d.getD 0)) hrel
  obtain ⟨q1, q2, q3, q4⟩ := gen_putRows (zeroCells s (nilBase (d.getD 0)) zs 0).2 s
  obtain ⟨i2, l2, k2⟩ := i1.newBox (d.getD 0) t z.cells.toList _ hv rfl rfl
  refine ⟨.value (.pointer (some ⟨w.heap.size, 0, none⟩)), _, w.alloc (.cells z.cells t), { c1 with bl := put (d.getD 0) w.heap.size c1.bl }, ?_, .inl rfl, ?_, ?_, ?_, ?_⟩
  · simp [execOp, Instr.alloc, zeroValue, typeInfo, hi, hzz, newVar, newRow]
  · have := i2
    rw [q1] at this
    simpa [app, putDst, putOut, putBoxes, q1] using this
  · have := Cx.le_trans l1 l2
    rw [q1] at this
    simpa [app, putDst, putOut, putBoxes, q1] using this
  · rw [← e1]; simpa using k2
  · rw [RD_iff]
    refine ⟨⟨_, rfl⟩, ?_, fun _ _ => ?_⟩ <;> simp [app, putDst, putOut, putBoxes]

theorem good_box (hE : EnvOk P E) (h : Inv om W0 S0 s c w) (hs : ∀ t, RD (cxOf om s c) c.S w (a.tmps.getD t Go.undef) (s.sl t)) {d : Option Tmp} {x : Operand} {t ty : TypeId} {pos : String} {af : Array Edge} {g : Option (Nat × Bool)} {e : Eff}
    (he : eff E C s ⟨d, .box t x, ty, pos, af, g⟩ = some e) : Good P om W0 S0 s c w e (execOp a.eval ⟨d, .box t x, ty, pos, af, g⟩) := by
  have hv := val_RD hs x
  simp only [eff] at he
  obtain ⟨hf, he⟩ := of_bif he
  simp only [Option.some.injEq] at he
  subst he
  obtain ⟨vs, i, h1, h2, _⟩ := fits_cells hE hf hv
  obtain ⟨i2, l2, k2⟩ := h.newBox (d.getD 0) t vs _ h2 rfl rfl
  refine ⟨.value (.pointer (some ⟨w.heap.size, 0, none⟩)), _, w.alloc (.cells vs.toArray t), _, ?_, .inl rfl, i2, l2, k2, ?_⟩
  · simp [execOp, Instr.box, newVar, newRow, h1]
  · rw [RD_iff]
    refine ⟨⟨_, rfl⟩, ?_, fun _ _ => ?_⟩ <;> simp [app, putDst, putOut, putBoxes, putRows]
end
end Go.Ev
/-
  What the evaluator says of one operation is what the model does: part 3: operations that touch no memory.
-/
namespace Go.Ev
section
variable {P : Program} {E : Env} {C : Orc} {om : Nat → Nat} {W0 : World} {S0 : Prot} {s : St} {c : Cc} {w : World} {a : Act}

theorem good_pick (h : Inv om W0 S0 s c w) (hs : ∀ t, RD (cxOf om s c) c.S w (a.tmps.getD t Go.undef) (s.sl t)) {d : Option Tmp} {x y z : Operand} {ty : TypeId} {pos : String} {af : Array Edge} {g : Option (Nat × Bool)} {e : Eff}
    (he : eff E C s ⟨d, .pick x y z, ty, pos, af, g⟩ = some e) : Good P om W0 S0 s c w e (execOp a.eval ⟨d, .pick x y z, ty, pos, af, g⟩) := by
  simp only [eff] at he
  split at he
  · rename_i b hb
    have hx := val_RD hs x
    rw [hb] at hx
    have hx : a.eval x = .bool b := RD_iff.1 hx
    refine Good.plain h he (bif b then a.eval y else a.eval z) ?_ ?_
    · cases b <;> simp [execOp, hx, asBool]
    · cases b
      · exact val_RD hs z
      · exact val_RD hs y
  · cases he

theorem good_nilCheck (h : Inv om W0 S0 s c w) (hs : ∀ t, RD (cxOf om s c) c.S w (a.tmps.getD t Go.undef) (s.sl t)) {d : Option Tmp} {x : Operand} {ty : TypeId} {pos : String} {af : Array Edge} {g : Option (Nat × Bool)} {e : Eff}
    (he : eff E C s ⟨d, .nilCheck x, ty, pos, af, g⟩ = some e) : Good P om W0 S0 s c w e (execOp a.eval ⟨d, .nilCheck x, ty, pos, af, g⟩) := by
  have hv := val_RD hs x
  simp only [eff] at he
  cases hx : val s x with
  | ptr b gn o =>
    rw [hx] at he hv
    simp only at he
    obtain ⟨hgn, he⟩ := of_bif he
    simp only [Bool.and_eq_true] at hgn
    have hp := (RD_iff.1 hv).2.2 (natbeq hgn.1) hgn.2
    simp only [Option.some.injEq] at he
    subst he
    exact Good.still h _ rfl rfl rfl (by simp [execOp, hp]) (hp ▸ hv)
  | optr j o =>
    rw [hx] at he hv
    have hp : a.eval x = .pointer (some ⟨om j, o, none⟩) := RD_iff.1 hv
    exact Good.plain h he _ (by simp [execOp, hp]) (hp ▸ hv)
  | dptr cs o =>
    rw [hx] at he hv
    obtain ⟨g', p, vs, hp, _⟩ := RD_iff.1 hv
    exact Good.plain h he _ (by simp [execOp, hp]) (hp ▸ hv)
  | _ => rw [hx] at he; cases he

theorem good_extract (h : Inv om W0 S0 s c w) (hs : ∀ t, RD (cxOf om s c) c.S w (a.tmps.getD t Go.undef) (s.sl t)) {d : Option Tmp} {x : Operand} {i : Nat} {ty : TypeId} {pos : String} {af : Array Edge} {g : Option (Nat × Bool)} {e : Eff}
    (he : eff E C s ⟨d, .extract x i, ty, pos, af, g⟩ = some e) : Good P om W0 S0 s c w e (execOp a.eval ⟨d, .extract x i, ty, pos, af, g⟩) := by
  have hv := val_RD hs x
  simp only [eff] at he
  cases hx : val s x with
  | tup vs =>
    rw [hx] at he hv
    simp only at he
    split at he
    · rename_i y r hd
      obtain ⟨cs, hp, hcs⟩ := RD_iff.1 hv
      have hy : vs[i]? = some y := by
        have := congrArg (·[0]?) hd
        simpa [List.getElem?_drop] using this
      obtain ⟨v, hv1, hv2⟩ := hcs.get i y hy
      exact Good.plain h he v (by simp [execOp, hp, Instr.extract, hv1]) hv2
    · cases he
  | _ => rw [hx] at he; cases he

theorem good_fieldAddr (hE : EnvOk P E) (h : Inv om W0 S0 s c w) (hs : ∀ t, RD (cxOf om s c) c.S w (a.tmps.getD t Go.undef) (s.sl t)) {d : Option Tmp} {x : Operand} {t : TypeId} {f : Nat} {ty : TypeId} {pos : String} {af : Array Edge} {g : Option (Nat × Bool)} {e : Eff}
    (he : eff E C s ⟨d, .fieldAddr t x f, ty, pos, af, g⟩ = some e) : Good P om W0 S0 s c w e (execOp a.eval ⟨d, .fieldAddr t x f, ty, pos, af, g⟩) := by
  have hv := val_RD hs x
  simp only [eff] at he
  obtain ⟨p, hp, he⟩ := of_bind he
  obtain ⟨fs, F, i, pl, h1, h2, h3, h4, h5, h6, _⟩ := hE.fld t f p hp
  have hrun : ∀ (g' o : Nat), a.eval x = .pointer (some ⟨g', o, none⟩) → (execOp a.eval ⟨d, .fieldAddr t x f, ty, pos, af, g⟩).run P w = .ok (.value (.pointer (some ⟨g', o + p.1, none⟩))) w := by
    intro g' o hx
    have hne : i.size ≠ 0 := by rw [h5]; exact h6
    simp [execOp, Instr.fieldAt, run_underlying h1, h2, hx, Instr.sureAddr, fieldPlace, sizeOf, typeInfo, h4, hne, Addr.add_lit, h3]
  cases hx : val s x with
  | ptr b gn o =>
    rw [hx] at he hv
    simp only at he
    obtain ⟨hgn, he⟩ := of_bif he
    simp only [Bool.and_eq_true] at hgn
    have hp := (RD_iff.1 hv).2.2 (natbeq hgn.1) hgn.2
    simp only [Option.some.injEq] at he
    subst he
    exact Good.still h _ rfl rfl rfl (hrun _ _ hp) (RD_iff.2 ⟨⟨_, rfl⟩, (RD_iff.1 hv).2.1, fun _ _ => rfl⟩)
  | optr j o =>
    rw [hx] at he hv
    exact Good.plain h he _ (hrun _ _ (RD_iff.1 hv)) (RD_iff.2 rfl)
  | dptr cs o =>
    rw [hx] at he hv
    obtain ⟨g', q, vs, hp, hr⟩ := RD_iff.1 hv
    exact Good.plain h he _ (hrun _ _ hp) (RD_iff.2 ⟨g', q, vs, by rw [Nat.add_assoc], hr⟩)
  | _ => rw [hx] at he; cases he

theorem good_makeInterface (hE : EnvOk P E) (h : Inv om W0 S0 s c w) (hs : ∀ t, RD (cxOf om s c) c.S w (a.tmps.getD t Go.undef) (s.sl t)) {d : Option Tmp} {x : Operand} {t : TypeId} {ty : TypeId} {pos : String} {af : Array Edge} {g : Option (Nat × Bool)} {e : Eff}
    (he : eff E C s ⟨d, .makeInterface t x, ty, pos, af, g⟩ = some e) : Good P om W0 S0 s c w e (execOp a.eval ⟨d, .makeInterface t x, ty, pos, af, g⟩) := by
  have hv := val_RD hs x
  simp only [eff] at he
  cases hx : val s x with
  | int k n =>
    rw [hx] at he hv
    simp only at he
    obtain ⟨hb, he⟩ := of_bif he
    have hp : a.eval x = .int k n := RD_iff.1 hv
    cases hk : E.ik t with
    | none => rw [hk] at hb; simp at hb
    | some k' => exact Good.plain h he (.iface t (.int k n)) (by simp [execOp, Instr.makeInterface, run_underlying (hE.ik t k' hk), hp]) (RD_iff.2 rfl)
  | _ => rw [hx] at he; cases he

theorem all2_vals (hs : ∀ t, RD (cxOf om s c) c.S w (a.tmps.getD t Go.undef) (s.sl t)) : ∀ (l : List Operand), All2 (RD (cxOf om s c) c.S w) (l.map a.eval) (l.map (val s))
  | [] => trivial
  | x :: l => ⟨val_RD hs x, all2_vals hs l⟩

theorem good_makeFunc (h : Inv om W0 S0 s c w) (hs : ∀ t, RD (cxOf om s c) c.S w (a.tmps.getD t Go.undef) (s.sl t)) {d : Option Tmp} {f : FuncId} {x y : Array Operand} {ty : TypeId} {pos : String} {af : Array Edge} {g : Option (Nat × Bool)} {e : Eff}
    (he : eff E C s ⟨d, .makeFunc (.func f) x y, ty, pos, af, g⟩ = some e) : Good P om W0 S0 s c w e (execOp a.eval ⟨d, .makeFunc (.func f) x y, ty, pos, af, g⟩) := by
  simp only [eff] at he
  obtain ⟨hb, he⟩ := of_bif he
  have hx : x = #[] := Array.eq_empty_of_size_eq_zero (natbeq hb)
  subst hx
  refine Good.plain h he (.func (.func f) #[] (y.toList.map a.eval).toArray) ?_ (RD_iff.2 ⟨_, rfl, all2_vals hs y.toList⟩)
  have : Array.map a.eval y = (List.map a.eval y.toList).toArray := by rw [← Array.toList_map]
  simp [execOp, Instr.makeFunc, this]

theorem good_unOp (h : Inv om W0 S0 s c w) (hs : ∀ t, RD (cxOf om s c) c.S w (a.tmps.getD t Go.undef) (s.sl t)) {d : Option Tmp} {op : UnOp} {x : Operand} {t : TypeId} {ty : TypeId} {pos : String} {af : Array Edge} {g : Option (Nat × Bool)} {e : Eff}
    (he : eff E C s ⟨d, .unOp op t x, ty, pos, af, g⟩ = some e) : Good P om W0 S0 s c w e (execOp a.eval ⟨d, .unOp op t x, ty, pos, af, g⟩) := by
  have hv := val_RD hs x
  simp only [eff] at he
  obtain ⟨y, hy, he⟩ := of_bind he
  unfold unEff at hy
  split at hy
  · rename_i k n hx
    rw [hx] at hv
    have hp : a.eval x = .int k n := RD_iff.1 hv
    simp only [Option.some.injEq] at hy
    subst hy
    exact Good.plain h he (.int k (k.wrap (0 - n))) (by simp [execOp, hp, Op.unary, Op.intArith]) (RD_iff.2 rfl)
  · rename_i b hx
    rw [hx] at hv
    have hp : a.eval x = .bool b := RD_iff.1 hv
    simp only [Option.some.injEq] at hy
    subst hy
    exact Good.plain h he (.bool (!b)) (by simp [execOp, hp, Op.unary]) (RD_iff.2 rfl)
  · cases hy

theorem intOp_run {op : BinOp} {k : IntKind} {x y : Int} {r : V} (hr : intOp op k x y = some r) (t : TypeId) (cx : Cx) (S : Prot) :
    ∃ v, (binOp op t (.int k x) (.int k y)).run P w = .ok v w ∧ RD cx S w v r := by
  cases op <;> simp only [intOp] at hr <;> first
    | (cases hr; done)
    | (simp only [Option.some.injEq] at hr; subst hr; exact ⟨_, by simp [binOp, Op.intArith, Op.intBits, Op.intCmp], RD_iff.2 rfl⟩)
    | skip
  · cases hy : decide (y = 0) with
    | true => rw [hy] at hr; cases hr
    | false =>
      rw [hy] at hr
      simp only [cond_false, Option.some.injEq] at hr
      subst hr
      have hy : ¬ y = 0 := by simpa using hy
      exact ⟨_, by simp [binOp, Op.intDiv, hy], RD_iff.2 rfl⟩
  · cases hy : decide (y = 0) with
    | true => rw [hy] at hr; cases hr
    | false =>
      rw [hy] at hr
      simp only [cond_false, Option.some.injEq] at hr
      subst hr
      have hy : ¬ y = 0 := by simpa using hy
      exact ⟨_, by simp [binOp, Op.intDiv, hy], RD_iff.2 rfl⟩

theorem shiftOp_run {op : BinOp} {k k' : IntKind} {x y : Int} {r : V} (hop : op = .shl ∨ op = .shr) (hr : shiftOp op k x y = some r) (t : TypeId) (cx : Cx) (S : Prot) :
    ∃ v, (binOp op t (.int k x) (.int k' y)).run P w = .ok v w ∧ RD cx S w v r := by
  unfold shiftOp at hr
  cases hy : decide (y < 0) with
  | true => rw [hy] at hr; cases hr
  | false =>
    rw [hy] at hr
    have hy : ¬ y < 0 := by simpa using hy
    rcases hop with rfl | rfl <;> simp only [cond_false, Option.some.injEq] at hr <;> subst hr <;> exact ⟨_, by simp [binOp, Op.shift, hy], RD_iff.2 rfl⟩

theorem strOp_run {op : BinOp} {x y : Str} {r : V} (hr : strOp op x y = some r) (t : TypeId) (cx : Cx) (S : Prot) :
    ∃ v, (binOp op t (.string ⟨x.toArray⟩) (.string ⟨y.toArray⟩)).run P w = .ok v w ∧ RD cx S w v r := by
  cases op <;> simp only [strOp] at hr <;> first
    | (cases hr; done)
    | (simp only [Option.some.injEq] at hr; subst hr; exact ⟨_, by simp [binOp, Op.stringOp], RD_iff.2 rfl⟩)
    | skip
  obtain ⟨hb, hr⟩ := of_bif hr
  simp only [Option.some.injEq] at hr
  subst hr
  have hl : x.length + y.length ≤ strLim := Nat.le_of_ble_eq_true hb
  unfold strLim at hl
  refine ⟨.string ⟨(x ++ y).toArray⟩, ?_, RD_iff.2 rfl⟩
  have := run_string_add_sum (P := P) (w := w) ⟨x.toArray⟩ ⟨y.toArray⟩ (by simp [ByteArray.size]; omega)
  rw [ByteArray.mk_append_mk] at this
  simpa [binOp] using this

theorem eqGuard_skip {op : BinOp} {t : TypeId} {x y : Operand} {u v : Value} (h : (op ≠ .eql ∧ op ≠ .neq) ∨ (∀ cs, u ≠ .agg cs) ∧ (u ≠ .nilIface ∨ v ≠ .nilIface)) : (eqGuard op t x y u v).run P w = .ok () w := by
  rcases h with h | ⟨h1, h2⟩
  · cases op <;> simp_all [eqGuard]
  · unfold eqGuard
    cases u <;> cases v <;> cases op <;> simp_all

theorem run_equal_nil_iface {t : TypeId} {ms : Array (String × TypeId)} (h : P.underlying t = some (.interface ms)) (u : TypeId) (x : Value) :
    (Op.equal t .nilIface (.iface u x)).run P w = .ok false w ∧ (Op.equal t (.iface u x) .nilIface).run P w = .ok false w := by
  have h1 : ∀ d, (Op.equalIn (d + 1) t .nilIface (.iface u x)).run P w = .ok false w := fun d => by simp only [Op.equalIn]; simp [run_underlying h]
  have h2 : ∀ d, (Op.equalIn (d + 1) t (.iface u x) .nilIface).run P w = .ok false w := fun d => by simp only [Op.equalIn]; simp [run_underlying h]
  exact ⟨h1 9999, h2 9999⟩

/-- '==' of what may be compared. -/
theorem eqOp_run (hE : EnvOk P E) {t : TypeId} {x y : V} {b : Bool} (hb : eqOp (E.eqk t) x y = some b) {S : Prot} {u v : Value} {cx : Cx} (hx : RD cx S w u x) (hy : RD cx S w v y) (op : BinOp) (ox oy : Operand) :
    (eqGuard op t ox oy u v).run P w = .ok () w ∧ (binOp .eql t u v).run P w = .ok (.bool b) w ∧ (binOp .neq t u v).run P w = .ok (.bool (!b)) w := by
  unfold eqOp at hb
  split at hb
  · rename_i p q
    obtain ⟨hq, hb⟩ := of_bif hb
    simp only [Option.some.injEq] at hb
    subst hb
    have h1 : u = .bool p := RD_iff.1 hx
    have h2 : v = .bool q := RD_iff.1 hy
    subst h1 h2
    have ht := hE.eq1 t (natbeq hq)
    exact ⟨eqGuard_skip (.inr (by simp)), run_eql_bool w t p q ht, run_neq_bool w t p q ht⟩
  · rename_i p q
    obtain ⟨hq, hb⟩ := of_bif hb
    obtain ⟨xs, rfl, hxs⟩ := RD_iff.1 hx
    obtain ⟨ys, rfl, hys⟩ := RD_iff.1 hy
    obtain ⟨h1, h2⟩ := hE.eq2 t cx S w xs ys p q b (by simp only [Bool.or_eq_true, Bool.and_eq_true] at hq; exact hq.imp (fun k => ⟨natbeq k.1, k.2⟩) fun k => ⟨natbeq k.1, k.2⟩) hxs hys hb
    refine ⟨?_, by simp only [binOp]; simp [h2], by simp only [binOp]; simp [h2]⟩
    unfold eqGuard
    cases op <;> simp [h1]
  all_goals first
    | (cases hb; done)
    | (obtain ⟨hq, hb⟩ := of_bif hb
       simp only [Option.some.injEq] at hb; subst hb
       obtain ⟨ms, hms⟩ := hE.eq3 t (natbeq hq)
       have hx := RD_iff.1 hx
       have hy := RD_iff.1 hy
       simp only [RdF] at hx hy
       first
         | (subst hx hy; have h12 := run_equal_nil_iface (P := P) (w := w) hms; refine ⟨eqGuard_skip (.inr (by simp)), ?_, ?_⟩ <;> (simp only [binOp]; simp [h12]))
         | (obtain ⟨_, _, rfl⟩ := hx; subst hy; have h12 := run_equal_nil_iface (P := P) (w := w) hms; refine ⟨eqGuard_skip (.inr (by simp)), ?_, ?_⟩ <;> (simp only [binOp]; simp [h12]))
         | (obtain ⟨_, _, rfl⟩ := hy; subst hx; have h12 := run_equal_nil_iface (P := P) (w := w) hms; refine ⟨eqGuard_skip (.inr (by simp)), ?_, ?_⟩ <;> (simp only [binOp]; simp [h12])))

theorem run_equal_nils {t : TypeId} {ms : Array (String × TypeId)} (h : P.underlying t = some (.interface ms)) : (Op.equal t .nilIface .nilIface).run P w = .ok true w := by
  have h1 : ∀ d, (Op.equalIn (d + 1) t .nilIface .nilIface).run P w = .ok true w := fun d => by simp only [Op.equalIn]; simp [run_underlying h]
  exact h1 9999
theorem nilEq_run (hE : EnvOk P E) {t : TypeId} (hq : E.eqk t = 3) {x y : V} {b : Bool} (hb : nilEq x y = some b) {S : Prot} {u v : Value} {cx : Cx} (hx : RD cx S w u x) (hy : RD cx S w v y) :
    (binOp .eql t u v).run P w = .ok (.bool b) w ∧ (binOp .neq t u v).run P w = .ok (.bool (!b)) w ∧ (∀ cs, u ≠ .agg cs) := by
  obtain ⟨ms, hms⟩ := hE.eq3 t hq
  have h12 := run_equal_nil_iface (P := P) (w := w) hms
  have h0 := run_equal_nils (P := P) (w := w) hms
  have hx := RD_iff.1 hx
  have hy := RD_iff.1 hy
  unfold nilEq at hb
  split at hb
  all_goals first
    | (cases hb; done)
    | (simp only [Option.some.injEq] at hb; subst hb
       simp only [RdF] at hx hy
       first
         | (subst hx hy; refine ⟨?_, ?_, fun cs => by simp⟩ <;> (simp only [binOp]; simp [h12, h0]))
         | (obtain ⟨_, _, rfl⟩ := hx; subst hy; refine ⟨?_, ?_, fun cs => by simp⟩ <;> (simp only [binOp]; simp [h12]))
         | (obtain ⟨_, _, rfl⟩ := hy; subst hx; refine ⟨?_, ?_, fun cs => by simp⟩ <;> (simp only [binOp]; simp [h12])))
    | (simp only [Option.some.injEq] at hb
       simp only [RdF] at hx hy
       rw [hb] at hx
       subst hy
       cases b with
       | true => simp only [cond_true] at hx; subst hx; refine ⟨?_, ?_, fun cs => by simp⟩ <;> (simp only [binOp]; simp [h12, h0])
       | false => simp only [cond_false] at hx; obtain ⟨_, _, rfl⟩ := hx; refine ⟨?_, ?_, fun cs => by simp⟩ <;> (simp only [binOp]; simp [h12]))
theorem eqGuard_const {op : BinOp} {t : TypeId} {x y : Operand} {u v : Value} (h : isNilI x = true ∨ isNilI y = true) (hu : ∀ cs, u ≠ .agg cs) : (eqGuard op t x y u v).run P w = .ok () w := by
  by_cases hn : u = .nilIface ∧ v = .nilIface
  · obtain ⟨rfl, rfl⟩ := hn
    rcases h with h | h
    · unfold isNilI at h
      split at h
      · unfold eqGuard; cases op <;> simp
      · cases h
    · unfold isNilI at h
      split at h
      · unfold eqGuard; cases op <;> simp
      · cases h
  · exact eqGuard_skip (.inr ⟨hu, by by_cases h1 : u = .nilIface <;> by_cases h2 : v = .nilIface <;> simp_all⟩)

theorem good_binOp (hE : EnvOk P E) (h : Inv om W0 S0 s c w) (hs : ∀ t, RD (cxOf om s c) c.S w (a.tmps.getD t Go.undef) (s.sl t)) {d : Option Tmp} {op : BinOp} {x y : Operand} {t yt : TypeId} {ty : TypeId} {pos : String} {af : Array Edge} {g : Option (Nat × Bool)} {e : Eff}
    (he : eff E C s ⟨d, .binOp op t x y yt, ty, pos, af, g⟩ = some e) : Good P om W0 S0 s c w e (execOp a.eval ⟨d, .binOp op t x y yt, ty, pos, af, g⟩) := by
  have hvx := val_RD hs x
  have hvy := val_RD hs y
  simp only [eff] at he
  obtain ⟨r, hr, he⟩ := of_bind he
  have fin : ∀ v, (eqGuard op t x y (a.eval x) (a.eval y)).run P w = .ok () w → (binOp op t (a.eval x) (a.eval y)).run P w = .ok v w → RD (cxOf om s c) c.S w v r → Good P om W0 S0 s c w e (execOp a.eval ⟨d, .binOp op t x y yt, ty, pos, af, g⟩) := by
    intro v h1 h2 h3
    exact Good.plain h he v (by simp [execOp, h1, h2]) h3
  cases hns : isNilSl y with
  | true =>
    rw [hns] at hr
    simp only [cond_true] at hr
    obtain ⟨hkd, hr'⟩ := of_bif hr
    clear hr
    have hr := hr'
    clear hr'
    have hyv : a.eval y = .slice none 0 0 := isNilSl_eval hns
    have hsl : ∃ e, P.underlying t = some (.slice e) := by
      cases hk : E.kd t with
      | none => rw [hk] at hkd; cases hkd
      | some k => obtain ⟨e, _, _, hu, _⟩ := hE.kd t k hk; exact ⟨e, hu⟩
    obtain ⟨el, hu⟩ := hsl
    have heq : ∀ (ao : Option Addr) (n c : Nat), (Op.equal t (.slice ao n c) (.slice none 0 0)).run P w = .ok ao.isNone w := fun ao n c => by
      have h1 : ∀ d, (Op.equalIn (d + 1) t (.slice ao n c) (.slice none 0 0)).run P w = .ok ao.isNone w := fun d => by
        cases ao <;> (simp only [Op.equalIn]; simp [run_underlying hu])
      exact h1 9999
    have hgd : ∀ (ao : Option Addr) (n c : Nat), a.eval x = .slice ao n c → (eqGuard op t x y (a.eval x) (a.eval y)).run P w = .ok () w := fun ao n c hx => eqGuard_skip (.inr (by rw [hx]; simp))
    unfold nilSl at hr
    split at hr
    · rename_i b hx
      rw [hx] at hvx
      obtain ⟨ao, cc, hxv, hb⟩ := RD_iff.1 hvx
      simp only [Option.some.injEq] at hr
      subst hr
      exact fin (.bool b) (hgd _ _ _ hxv) (by rw [hxv, hyv]; simp only [binOp]; simp [heq, hb]) (RD_iff.2 rfl)
    · rename_i b hx
      rw [hx] at hvx
      obtain ⟨ao, cc, hxv, hb⟩ := RD_iff.1 hvx
      simp only [Option.some.injEq] at hr
      subst hr
      exact fin (.bool (!b)) (hgd _ _ _ hxv) (by rw [hxv, hyv]; simp only [binOp]; simp [heq, hb]) (RD_iff.2 rfl)
    · rename_i k z zs hx
      rw [hx] at hvx
      obtain ⟨ao, cc, hxv, _, hel⟩ := RD_iff.1 hvx
      obtain ⟨_, _, _, rfl, _⟩ := hel 0 z rfl
      simp only [Option.some.injEq] at hr
      subst hr
      exact fin (.bool false) (hgd _ _ _ hxv) (by rw [hxv, hyv]; simp only [binOp]; simp [heq]) (RD_iff.2 rfl)
    · rename_i k z zs hx
      rw [hx] at hvx
      obtain ⟨ao, cc, hxv, _, hel⟩ := RD_iff.1 hvx
      obtain ⟨_, _, _, rfl, _⟩ := hel 0 z rfl
      simp only [Option.some.injEq] at hr
      subst hr
      exact fin (.bool true) (hgd _ _ _ hxv) (by rw [hxv, hyv]; simp only [binOp]; simp [heq]) (RD_iff.2 rfl)
    · cases hr
  | false =>
  rw [hns] at hr
  simp only [cond_false] at hr
  cases hn : isNilI x || isNilI y with
  | true =>
    rw [hn] at hr
    simp only [cond_true, nilEff] at hr
    obtain ⟨hq, hr⟩ := of_bif hr
    simp only [Bool.or_eq_true] at hn
    split at hr
    · cases hb : nilEq (val s x) (val s y) with
      | none => rw [hb] at hr; cases hr
      | some b =>
        rw [hb] at hr
        simp only [Option.map_some, Option.some.injEq] at hr
        subst hr
        obtain ⟨h1, _, h3⟩ := nilEq_run (P := P) (w := w) hE (natbeq hq) hb hvx hvy
        exact fin _ (eqGuard_const hn h3) h1 (RD_iff.2 rfl)
    · cases hb : nilEq (val s x) (val s y) with
      | none => rw [hb] at hr; cases hr
      | some b =>
        rw [hb] at hr
        simp only [Option.map_some, Option.some.injEq] at hr
        subst hr
        obtain ⟨_, h2, h3⟩ := nilEq_run (P := P) (w := w) hE (natbeq hq) hb hvx hvy
        exact fin _ (eqGuard_const hn h3) h2 (RD_iff.2 rfl)
    · cases hr
  | false =>
  rw [hn] at hr
  simp only [cond_false] at hr
  unfold binEff at hr
  split at hr
  · rename_i k m k' n hx hy
    rw [hx] at hvx; rw [hy] at hvy
    have hx : a.eval x = .int k m := RD_iff.1 hvx
    have hy : a.eval y = .int k' n := RD_iff.1 hvy
    obtain ⟨v, h1, h2⟩ := shiftOp_run (P := P) (w := w) (k' := k') (.inl rfl) hr t (cxOf om s c) c.S
    exact fin v (eqGuard_skip (.inl ⟨by simp, by simp⟩)) (by rw [hx, hy]; exact h1) h2
  · rename_i k m k' n hx hy
    rw [hx] at hvx; rw [hy] at hvy
    have hx : a.eval x = .int k m := RD_iff.1 hvx
    have hy : a.eval y = .int k' n := RD_iff.1 hvy
    obtain ⟨v, h1, h2⟩ := shiftOp_run (P := P) (w := w) (k' := k') (.inr rfl) hr t (cxOf om s c) c.S
    exact fin v (eqGuard_skip (.inl ⟨by simp, by simp⟩)) (by rw [hx, hy]; exact h1) h2
  · rename_i k m k' n _ _ hx hy
    rw [hx] at hvx; rw [hy] at hvy
    have hx : a.eval x = .int k m := RD_iff.1 hvx
    have hy : a.eval y = .int k' n := RD_iff.1 hvy
    split at hr
    · rename_i hkk
      subst hkk
      obtain ⟨v, h1, h2⟩ := intOp_run (P := P) (w := w) hr t (cxOf om s c) c.S
      exact fin v (eqGuard_skip (.inr (by rw [hx, hy]; simp))) (by rw [hx, hy]; exact h1) h2
    · cases hr
  · rename_i m n hx hy
    rw [hx] at hvx; rw [hy] at hvy
    have hx : a.eval x = .string ⟨m.toArray⟩ := RD_iff.1 hvx
    have hy : a.eval y = .string ⟨n.toArray⟩ := RD_iff.1 hvy
    obtain ⟨v, h1, h2⟩ := strOp_run (P := P) (w := w) hr t (cxOf om s c) c.S
    exact fin v (eqGuard_skip (.inr (by rw [hx, hy]; simp))) (by rw [hx, hy]; exact h1) h2
  · cases hb : eqOp (E.eqk t) (val s x) (val s y) with
    | none => rw [hb] at hr; cases hr
    | some b =>
      rw [hb] at hr
      simp only [Option.map_some, Option.some.injEq] at hr
      subst hr
      obtain ⟨h1, h2, _⟩ := eqOp_run (P := P) (w := w) hE hb hvx hvy .eql x y
      exact fin _ h1 h2 (RD_iff.2 rfl)
  · cases hb : eqOp (E.eqk t) (val s x) (val s y) with
    | none => rw [hb] at hr; cases hr
    | some b =>
      rw [hb] at hr
      simp only [Option.map_some, Option.some.injEq] at hr
      subst hr
      obtain ⟨h1, _, h2⟩ := eqOp_run (P := P) (w := w) hE hb hvx hvy .neq x y
      exact fin _ h1 h2 (RD_iff.2 rfl)
  · cases hr

theorem natIx_spec {n : Int} {len j : Nat} (h : natIx n len = some j) : 0 ≤ n ∧ n < (len : Int) ∧ j = n.toNat ∧ j < len := by
  unfold natIx at h
  obtain ⟨h1, h⟩ := of_bif h
  obtain ⟨h2, h⟩ := of_bif h
  have h1 : 0 ≤ n := by simpa using h1
  have h2 : n < (len : Int) := by simpa using h2
  simp only [Option.some.injEq] at h
  exact ⟨h1, h2, h.symm, by omega⟩

theorem good_index (hE : EnvOk P E) (h : Inv om W0 S0 s c w) (hs : ∀ t, RD (cxOf om s c) c.S w (a.tmps.getD t Go.undef) (s.sl t)) {d : Option Tmp} {x y : Operand} {t : TypeId} {ty : TypeId} {pos : String} {af : Array Edge} {g : Option (Nat × Bool)} {e : Eff}
    (he : eff E C s ⟨d, .index t x y, ty, pos, af, g⟩ = some e) : Good P om W0 S0 s c w e (execOp a.eval ⟨d, .index t x y, ty, pos, af, g⟩) := by
  have hvx := val_RD hs x
  have hvy := val_RD hs y
  simp only [eff] at he
  split at he
  · rename_i k n b hy hx
    rw [hx] at hvx; rw [hy] at hvy
    have hx : a.eval x = .string ⟨b.toArray⟩ := RD_iff.1 hvx
    have hy : a.eval y = .int k n := RD_iff.1 hvy
    obtain ⟨hst, he⟩ := of_bif he
    obtain ⟨j, hj, he⟩ := of_bind he
    obtain ⟨h0, h1, rfl, h2⟩ := natIx_spec hj
    have hsz : (⟨b.toArray⟩ : ByteArray).size = b.length := by simp [ByteArray.size]
    refine Good.plain h he (.int .u8 ((b.getD n.toNat 0).toNat : Int)) ?_ (RD_iff.2 rfl)
    have := run_index_string (P := P) (w := w) t ⟨b.toArray⟩ k n (hE.str t hst)
    rw [dif_pos ⟨h0, by rw [hsz]; exact h1⟩] at this
    simp only [execOp, hx, hy, Sem.run_bind, this, Result.andThen_ok, Sem.run_pure]
    congr 3
    have hg : (⟨b.toArray⟩ : ByteArray)[n.toNat]'(by rw [hsz]; exact h2) = b.getD n.toNat 0 := by
      rw [List.getD_eq_getElem?_getD, List.getElem?_eq_getElem h2]; rfl
    rw [hg]
  · cases he
end
end Go.Ev
