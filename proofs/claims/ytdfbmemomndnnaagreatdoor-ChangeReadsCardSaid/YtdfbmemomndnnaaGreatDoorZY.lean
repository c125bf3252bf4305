/-
  What a statement's arguments read as, in the words of the evaluator; what the listed variables hold; a call that changes nothing that was there answers as a law's statement wants it.
-/
import Derived.Test.YtdfbmemomndnnaaGreatDoorZU
import Derived.Test.YtdfbmemomndnnaaGreatDoorRows
import Derived.ProofKit
import Derived.LaidMore
import Derived.OpenShut
import Derived.Carry
import Derived.HandedShaped
import Derived.Stop.Joined
import Derived.Lay
namespace Go.Ev
open Go.Proofs Sp Go.RowKit

section
variable {H : Type} {en : TypeId × Value → H} {sp : Nat → Bool} {om : Nat → Nat} {W : World}
abbrev AllS (W : World) : Prot := fun g _ => g < W.heap.size
/-- Cells that are read at a type are an element. -/
def Elt (en : TypeId × Value → H) (sp : Nat → Bool) (om : Nat → Nat) (W : World) (k : K) (t : TypeId) (good : El k → Prop) : Prop :=
  ∀ (fuel : Nat) (cs : List Value) (x : DataW H × List MemPlace), DataW.trod en Tryz.prog W 0 sp true fuel t cs = some x → ∃ e : El k, good e ∧ All2 (RD (argCx om) (AllS W) W) cs (enc k e)
theorem cell_some {a : Addr} {v : Value} (h : W.cell? a = some v) : a.spot = none ∧ a.block < W.heap.size := by
  unfold World.cell? at h
  split at h
  · rename_i c _ _ hc
    split at h
    · cases h
    · rename_i hs
      exact ⟨by simpa using hs, heap_lt hc⟩
  · cases h
theorem add_add (g p i j : Nat) : (Addr.add (Addr.add ⟨g, p, none⟩ i) j) = ⟨g, p + i + j, none⟩ := by
  unfold Addr.add
  by_cases hi : i = 0
  · subst hi
    by_cases hj : j = 0
    · subst hj; simp
    · simp [hj]
  · by_cases hj : j = 0
    · subst hj; simp [hi]
    · simp [hi, hj]
theorem rd_slice {k : K} {t e : TypeId} {good : El k → Prop} (ht : Tryz.prog.underlying t = some (.slice e)) (hc : Tryz.prog.cellsOf e = k.size) (hk : 0 < k.size) (hel : Elt en sp om W k e good)
    {fuel : Nat} {cs : List Value} {x : DataW H × List MemPlace} (h : DataW.trod en Tryz.prog W 0 sp true fuel t cs = some x) :
    ∃ (xs : List (El k)) (v : Value), (∀ y ∈ xs, good y) ∧ xs.length ≤ maxLen ∧ cs = [v] ∧ RD (argCx om) (AllS W) W v (.sl k xs) := by
  rcases DataW.trod_slice ht h with ⟨rfl, _⟩ | ⟨a, len, cap, elems, rest, n, _, rfl, _, _, hlc, hcm, hlen, hel1, _, _⟩
  · refine ⟨[], .slice none 0 0, (fun _ h => by cases h), Nat.zero_le _, rfl, ?_⟩
    refine RD_iff.2 ⟨none, 0, rfl, Nat.le_refl _, fun i x hx => by simp at hx⟩
  · rw [hc] at hel1
    have hone : ∀ i : Fin len, ∃ (y : El k) (cs' : List Value), good y ∧ W.cells? 0 (a.add (i.val * k.size)) k.size = some cs' ∧ All2 (RD (argCx om) (AllS W) W) cs' (enc k y) := fun i => by
      have h1 := hel1 i.val i.isLt
      have h2 : elems[i.val]? = some elems[i.val] := List.getElem?_eq_getElem (by omega)
      rw [h2] at h1
      obtain ⟨cs', h3, h4⟩ := Option.bind_eq_some_iff.1 h1
      obtain ⟨y, hy, hr⟩ := hel n cs' _ h4
      exact ⟨y, cs', hy, h3, hr⟩
    let f : Fin len → El k := fun i => Classical.choose (hone i)
    have hf : ∀ i : Fin len, ∃ cs' : List Value, good (f i) ∧ W.cells? 0 (a.add (i.val * k.size)) k.size = some cs' ∧ All2 (RD (argCx om) (AllS W) W) cs' (enc k (f i)) := fun i => Classical.choose_spec (hone i)
    refine ⟨List.ofFn f, .slice (some a) len cap, fun y hy => ?_, by simp; omega, rfl, RD_iff.2 ⟨some a, cap, by simp, by simpa using hlc, fun i y hy => ?_⟩⟩
    · obtain ⟨i, rfl⟩ := List.mem_ofFn.1 hy
      exact (hf i).elim fun _ h => h.1
    · have hi : i < len := by
        have := (List.getElem?_eq_some_iff.1 hy).1
        simpa using this
      have hy' : f ⟨i, hi⟩ = y := by
        have := List.getElem?_ofFn (f := f) (i := i)
        rw [this, dif_pos hi] at hy
        exact Option.some.inj hy
      subst hy'
      obtain ⟨cs', _, h2, h3⟩ := hf ⟨i, hi⟩
      obtain ⟨cs0, _, h02, _⟩ := hf ⟨0, by omega⟩
      obtain ⟨_, l0, c0⟩ := World.cells?_some h02
      have z : W.cell? a = cs0[0]? := by
        have := c0 0 hk
        simpa [Addr.add] using this
      have hsome : cs0[0]? = some cs0[0] := List.getElem?_eq_getElem (by omega)
      obtain ⟨hspot, hlt⟩ := cell_some (z.trans hsome)
      obtain ⟨g, p, s⟩ := a
      obtain rfl : s = none := hspot
      obtain ⟨_, l1, c1⟩ := World.cells?_some h2
      refine ⟨g, p, cs', rfl, h3, fun j v hj => ⟨hlt, ?_⟩⟩
      have hj' : j < k.size := by have := (List.getElem?_eq_some_iff.1 hj).1; omega
      have := c1 j hj'
      rw [add_add] at this
      rw [this, hj]
theorem fld {fs : Array Field} {H : Type} {en : TypeId × Value → H} {sp : Nat → Bool} {W : World} {n m : Nat} {cs : List Value} {xs : List (DataW H × List MemPlace)} (hx : xs.length = fs.size)
    (hf : ∀ (i : Nat) (f : Field), fs[i]? = some f → DataW.trod en Tryz.prog W 0 sp true n f.type ((cs.drop f.offset).take (Tryz.prog.cellsOf f.type)) = xs[i]?) (i : Nat) (t o : Nat) (h : (fs[i]?).map (fun f => (f.type, f.offset)) = some (t, o)) (hc : Tryz.prog.cellsOf t = m) :
    ∃ y, DataW.trod en Tryz.prog W 0 sp true n t ((cs.drop o).take m) = some y := by
  cases hfi : fs[i]? with
  | none => rw [hfi] at h; cases h
  | some f =>
    rw [hfi] at h
    simp only [Option.map_some, Option.some.injEq, Prod.mk.injEq] at h
    obtain ⟨rfl, rfl⟩ := h
    have hi : i < xs.length := by rw [hx]; exact (Array.getElem?_eq_some_iff.1 hfi).1
    have := hf i f hfi
    rw [hc, List.getElem?_eq_getElem hi] at this
    exact ⟨_, this⟩
theorem two {α : Type} {l : List α} (h : l.length = 2) : ∃ a b, l = [a, b] := by
  match l, h with
  | [a, b], _ => exact ⟨a, b, rfl⟩
theorem three {α : Type} {l : List α} (h : l.length = 3) : ∃ a b c, l = [a, b, c] := by
  match l, h with
  | [a, b, c], _ => exact ⟨a, b, c, rfl⟩
theorem seven {α : Type} {l : List α} (h : l.length = 7) : ∃ a b c d e f g, l = [a, b, c, d, e, f, g] := by
  match l, h with
  | [a, b, c, d, e, f, g], _ => exact ⟨a, b, c, d, e, f, g, rfl⟩
theorem thirteen {α : Type} {l : List α} (h : l.length = 13) : ∃ a b c d e f g i j k m n o, l = [a, b, c, d, e, f, g, i, j, k, m, n, o] := by
  match l, h with
  | [a, b, c, d, e, f, g, i, j, k, m, n, o], _ => exact ⟨a, b, c, d, e, f, g, i, j, k, m, n, o, rfl⟩
theorem c2 : Tryz.prog.cellsOf 2 = 1 := by kernel_rfl
theorem c3' : Tryz.prog.cellsOf 3 = 1 := by kernel_rfl
theorem c4' : Tryz.prog.cellsOf 4 = 1 := by kernel_rfl
theorem c9' : Tryz.prog.cellsOf 9 = 1 := by kernel_rfl
theorem c23' : Tryz.prog.cellsOf 23 = 3 := by kernel_rfl
theorem c25' : Tryz.prog.cellsOf 25 = 1 := by kernel_rfl
theorem c26' : Tryz.prog.cellsOf 26 = 1 := by kernel_rfl
theorem c28' : Tryz.prog.cellsOf 28 = 13 := by kernel_rfl
theorem c41' : Tryz.prog.cellsOf 41 = 2 := by kernel_rfl
theorem c42' : Tryz.prog.cellsOf 42 = 1 := by kernel_rfl
theorem c44' : Tryz.prog.cellsOf 44 = 3 := by kernel_rfl
theorem rd_str {fuel : Nat} {cs : List Value} {x : DataW H × List MemPlace} (h : DataW.trod en Tryz.prog W 0 sp true fuel 9 cs = some x) : ∃ s : Str, cs = [.string ⟨s.toArray⟩] ∧ s.length ≤ maxLen := by
  obtain ⟨s, rfl, _, hl⟩ := DataW.trod_string Tryz.underlying9 h
  exact ⟨s.data.toList, by simp, hl⟩
theorem i64_wf {n : Int} (h : (Lit.int .i64 n).wf = true) : isI64 n = true := h
theorem rd_int {t : TypeId} (ht : Tryz.prog.underlying t = some (.int .i64)) {fuel : Nat} {cs : List Value} {x : DataW H × List MemPlace} (h : DataW.trod en Tryz.prog W 0 sp true fuel t cs = some x) : ∃ i : Int, cs = [.int .i64 i] ∧ isI64 i = true := by
  obtain ⟨i, rfl, _, hl⟩ := DataW.trod_int ht h
  exact ⟨i, rfl, i64_wf hl⟩
theorem elt_str : Elt en sp om W .str 9 (fun _ => True) := fun fuel cs x h => by
  obtain ⟨s, rfl, _⟩ := rd_str h
  exact ⟨s, trivial, RD_iff.2 rfl, trivial⟩
theorem elt_ava : Elt en sp om W .ava 41 (fun _ => True) := fun fuel cs x h => by
  obtain ⟨xs, n, _, _, hl, hx, hf⟩ := DataW.trod_struct Tryz.underlying41 h
  rw [c41'] at hl
  obtain ⟨a, b, rfl⟩ := two hl
  obtain ⟨y0, h0⟩ := fld hx hf 0 9 0 rfl c9'
  obtain ⟨y1, h1⟩ := fld hx hf 1 9 1 rfl c9'
  obtain ⟨s0, q0, _⟩ := rd_str h0
  obtain ⟨s1, q1, _⟩ := rd_str h1
  simp only [List.drop_zero, List.take_succ_cons, List.take_zero, List.cons.injEq, List.drop_succ_cons, and_true] at q0 q1
  subst q0; subst q1
  exact ⟨⟨s0, s1⟩, trivial, RD_iff.2 rfl, RD_iff.2 rfl, trivial⟩
theorem elt_mod : Elt en sp om W .mod 44 (fun m => isI64 m.kind = true ∧ m.values.length ≤ maxLen) := fun fuel cs x h => by
  obtain ⟨xs, n, _, _, hl, hx, hf⟩ := DataW.trod_struct Tryz.underlying44 h
  rw [c44'] at hl
  obtain ⟨a, b, c, rfl⟩ := three hl
  obtain ⟨y0, h0⟩ := fld hx hf 0 3 0 rfl c3'
  obtain ⟨y1, h1⟩ := fld hx hf 1 9 1 rfl c9'
  obtain ⟨y2, h2⟩ := fld hx hf 2 42 2 rfl c42'
  obtain ⟨i0, q0, w0⟩ := rd_int Tryz.underlying3 h0
  obtain ⟨s1, q1, _⟩ := rd_str h1
  obtain ⟨l2, v2, _, hl2, q2, r2⟩ := rd_slice (om := om) (k := .str) Tryz.underlying42 c9' (by decide) elt_str h2
  simp only [List.drop_zero, List.take_succ_cons, List.take_zero, List.cons.injEq, List.drop_succ_cons, and_true] at q0 q1 q2
  subst q0; subst q1; subst q2
  exact ⟨⟨i0, s1, l2⟩, ⟨w0, hl2⟩, RD_iff.2 rfl, RD_iff.2 rfl, r2, trivial⟩
theorem rd_csn {fuel : Nat} {cs : List Value} {x : DataW H × List MemPlace} (h : DataW.trod en Tryz.prog W 0 sp true fuel 23 cs = some x) : ∃ c : Sp.Csn, c.i64 = true ∧ cs = [.int .i64 c.t, .int .i64 c.s, .int .i64 c.r] := by
  obtain ⟨xs, n, _, _, hl, hx, hf⟩ := DataW.trod_struct Tryz.underlying23 h
  rw [c23'] at hl
  obtain ⟨a, b, c, rfl⟩ := three hl
  obtain ⟨y0, h0⟩ := fld hx hf 0 2 0 rfl c2
  obtain ⟨y1, h1⟩ := fld hx hf 1 3 1 rfl c3'
  obtain ⟨y2, h2⟩ := fld hx hf 2 3 2 rfl c3'
  obtain ⟨i0, q0, w0⟩ := rd_int Tryz.underlying2 h0
  obtain ⟨i1, q1, w1⟩ := rd_int Tryz.underlying3 h1
  obtain ⟨i2, q2, w2⟩ := rd_int Tryz.underlying3 h2
  simp only [List.drop_zero, List.take_succ_cons, List.take_zero, List.cons.injEq, List.drop_succ_cons, and_true] at q0 q1 q2
  subst q0; subst q1; subst q2
  exact ⟨⟨i0, i1, i2⟩, by simp [Sp.Csn.i64, w0, w1, w2], rfl⟩
theorem max_big : maxLen ≤ big := by decide
theorem rd_chn {fuel : Nat} {cs : List Value} {x : DataW H × List MemPlace} (h : DataW.trod en Tryz.prog W 0 sp true fuel 28 cs = some x) :
    ∃ c : Chn, bigC c = true ∧ c.i64 = true ∧ All2 (RD (argCx om) (AllS W) W) cs c.cells := by
  obtain ⟨xs, n, _, _, hl, hx, hf⟩ := DataW.trod_struct Tryz.underlying28 h
  rw [c28'] at hl
  obtain ⟨a1, a2, a3, a4, a5, a6, a7, a8, a9, a10, a11, a12, a13, rfl⟩ := thirteen hl
  obtain ⟨y0, h0⟩ := fld hx hf 0 23 0 rfl c23'
  obtain ⟨y1, h1⟩ := fld hx hf 1 3 3 rfl c3'
  obtain ⟨y2, h2⟩ := fld hx hf 2 23 4 rfl c23'
  obtain ⟨y3, h3⟩ := fld hx hf 3 23 7 rfl c23'
  obtain ⟨y4, h4⟩ := fld hx hf 4 25 10 rfl c25'
  obtain ⟨y5, h5⟩ := fld hx hf 5 4 11 rfl c4'
  obtain ⟨y6, h6⟩ := fld hx hf 6 26 12 rfl c26'
  obtain ⟨n0, w0, q0⟩ := rd_csn h0
  obtain ⟨n1, q1, w1⟩ := rd_int Tryz.underlying3 h1
  obtain ⟨n2, w2, q2⟩ := rd_csn h2
  obtain ⟨n3, w3, q3⟩ := rd_csn h3
  obtain ⟨l4, v4, _, hl4, q4, r4⟩ := rd_slice (om := om) (k := .ava) Tryz.underlying25 c41' (by decide) elt_ava h4
  obtain ⟨b5, q5, _⟩ := DataW.trod_bool Tryz.underlying4 h5
  obtain ⟨l6, v6, g6, hl6, q6, r6⟩ := rd_slice (om := om) (k := .mod) Tryz.underlying26 c44' (by decide) elt_mod h6
  simp only [List.drop_zero, List.take_succ_cons, List.take_zero, List.cons.injEq, List.drop_succ_cons, and_true] at q0 q1 q2 q3 q4 q5 q6
  obtain ⟨rfl, rfl, rfl⟩ := q0
  obtain ⟨rfl, rfl, rfl⟩ := q2
  obtain ⟨rfl, rfl, rfl⟩ := q3
  subst q1; subst q4; subst q5; subst q6
  refine ⟨⟨n0, n1, n2, n3, l4, b5, l6⟩, ?_, ?_, RD_iff.2 rfl, RD_iff.2 rfl, RD_iff.2 rfl, RD_iff.2 rfl, RD_iff.2 rfl, RD_iff.2 rfl, RD_iff.2 rfl, RD_iff.2 rfl, RD_iff.2 rfl, RD_iff.2 rfl, r4, RD_iff.2 rfl, r6, trivial⟩
  · have m := max_big
    unfold bigC bigMs
    simp only [Bool.and_eq_true, List.all_eq_true]
    exact ⟨⟨Nat.ble_eq_true_of_le (Nat.le_trans hl6 m), List.all_eq_true.2 fun y hy => Nat.ble_eq_true_of_le (Nat.le_trans (g6 y hy).2 m)⟩, Nat.ble_eq_true_of_le (Nat.le_trans hl4 m)⟩
  · unfold Chn.i64
    simp only [Bool.and_eq_true, List.all_eq_true]
    exact ⟨⟨⟨⟨w0, w2⟩, w3⟩, w1⟩, List.all_eq_true.2 fun y hy => (g6 y hy).1⟩
set_option maxRecDepth 100000 in
theorem agg_of {b0 : Nat} {r : Reach} {v : Value} (hv : Value.okWide Tryz.prog W r b0 28 v) : ∃ cs, v = .agg cs := by
  unfold Value.okWide at hv
  rw [Tryz.underlying28] at hv
  obtain ⟨cs, rfl, _⟩ := hv
  exact ⟨cs, rfl⟩
set_option maxRecDepth 100000 in
theorem rd_change {b0 : Nat} {r : Reach} {v : Value} {d : DataW H} {ps : List MemPlace} (hv : Value.okWide Tryz.prog W r b0 28 v) (h : DataW.Trod en Tryz.prog W 0 sp true 28 v d ps) :
    ∃ c : Chn, bigC c = true ∧ c.i64 = true ∧ RD (argCx om) (AllS W) W v (.agg c.cells) := by
  obtain ⟨cs, rfl⟩ := agg_of hv
  obtain ⟨fuel, h⟩ := h
  obtain ⟨c, h1, h2, h3⟩ := rd_chn (om := om) h
  exact ⟨c, h1, h2, RD_iff.2 ⟨cs.toList, by simp, h3⟩⟩
end
end Go.Ev
/-
  What the listed variables hold, for the library's functions; a call that changes nothing that was there, as a law's statement wants it.
-/
namespace Go.Ev
open Go.Proofs Sp Go.RowKit Go.ChangeShapes
section
variable {H : Type} {en : TypeId × Value → H} {W : World}
theorem laidOk : laidOutB Tryz.prog = true := by kernel_rfl
theorem g0' : Tryz.prog.globalNamed "strconv.ErrSyntax" = some 0 := by kernel_rfl
theorem g1' : Tryz.prog.globalNamed "strconv.ErrRange" = some 1 := by kernel_rfl
theorem g2' : Tryz.prog.globalNamed "internal/strconv.uint64pow10" = some 2 := by kernel_rfl
theorem gt0 : (Tryz.prog.globals[0]?).map (·.type) = some 104 := by kernel_rfl
theorem gt1 : (Tryz.prog.globals[1]?).map (·.type) = some 104 := by kernel_rfl
theorem gt2 : (Tryz.prog.globals[2]?).map (·.type) = some 168 := by kernel_rfl
theorem var_heap {n : String} {g : Nat} {cs : Array Value} (hg : Tryz.prog.globalNamed n = some g) (h : W.var? Tryz.prog n = some cs) : ∃ ty fr, W.heap[g]? = some (.cells cs ty fr) := by
  unfold World.var? at h
  rw [hg, Option.bind_some] at h
  split at h
  · rename_i c ty fr hc
    obtain rfl := Option.some.inj h
    exact ⟨ty, fr, hc⟩
  · cases h
theorem rd_iface {sp : Nat → Bool} {b : Bool} {base fuel : Nat} {t : TypeId} {ms : Array (String × TypeId)} {cs : List Value} {x : DataW H × List MemPlace} (ht : Tryz.prog.underlying t = some (.interface ms)) (h : DataW.trod en Tryz.prog W base sp b fuel t cs = some x) :
    ∃ ev, cs = [ev] ∧ (ev = .nilIface ∨ ∃ te pe, ev = .iface te pe) := by
  cases fuel with
  | zero => simp [DataW.trod] at h
  | succ n =>
    unfold DataW.trod at h
    rw [ht] at h
    split at h <;> simp_all
theorem arr_one {cs : Array Value} {v : Value} (h : cs.toList = [v]) : cs[0]? = some v := by
  rw [← Array.getElem?_toList, h]; rfl
/-- The listed variables and the shape of the world give what the library's functions ask. -/
theorem tab_laid (h : laidMetH Tryz.prog YtdfbmemomndnnaaGreatDoor.Rows.changeTellsRow.laid W) (hs : W.ShapedOpen Tryz.prog) : TabOk fun g b => W.heap[g]? = some b := by
  rw [MakeChecks.laidMetH_plain _ _ _ (by kernel_rfl)] at h
  obtain ⟨ps, h, _, _⟩ := h
  obtain ⟨_, _, _, _, _, _, _, _, _, _, h, _⟩ := h
  obtain ⟨_, _, _, _, _, _, _, _, _, _, h, _⟩ := h
  obtain ⟨g2, t2, cs2, f2, p2, q2, hg2, ht2, hv2, hd2, h, _⟩ := h
  obtain ⟨_, _, _, _, _, _, _, _, _, _, h, _⟩ := h
  obtain ⟨g1, t1, cs1, f1, p1, q1, hg1, ht1, hv1, hd1, h, _⟩ := h
  obtain ⟨g0, t0, cs0, f0, p0, q0, hg0, ht0, hv0, hd0, _, _⟩ := h
  obtain rfl := Option.some.inj (g2'.symm.trans hg2)
  obtain rfl := Option.some.inj (g1'.symm.trans hg1)
  obtain rfl := Option.some.inj (g0'.symm.trans hg0)
  obtain rfl := Option.some.inj (gt2.symm.trans ht2)
  obtain rfl := Option.some.inj (gt1.symm.trans ht1)
  obtain rfl := Option.some.inj (gt0.symm.trans ht0)
  obtain ⟨ty2, fr2, hh2⟩ := var_heap hg2 hv2
  obtain ⟨ty1, fr1, hh1⟩ := var_heap hg1 hv1
  obtain ⟨ty0, fr0, hh0⟩ := var_heap hg0 hv0
  obtain ⟨ev1, he1, hk1⟩ := rd_iface Tryz.underlying104 hd1
  obtain ⟨ev0, he0, hk0⟩ := rd_iface Tryz.underlying104 hd0
  refine ⟨⟨ty2, fr2, ?_⟩, ?_, ⟨ev0, cs0, ty0, fr0, hh0, arr_one he0, hk0⟩, ⟨ev1, cs1, ty1, fr1, hh1, arr_one he1, hk1⟩⟩
  · rw [hh2]
    obtain ⟨xs, m, _, hx, hl, hxl, hel⟩ := DataW.trod_array Tryz.underlying168 hd2
    have c1 : Tryz.prog.cellsOf 137 = 1 := by kernel_rfl
    have c2 : Tryz.prog.cellsOf 168 = 20 := by kernel_rfl
    rw [c2] at hl
    have key : cs2.toList = Lib.pow10Tab.map fun z => Value.int .u64 z := by
      refine List.ext_getElem? fun i => ?_
      by_cases hi : i < 20
      · have h1 := hel i hi
        rw [c1, Nat.mul_one, List.getElem?_eq_getElem (by omega)] at h1
        obtain ⟨v, e1, e2, _⟩ := DataW.trod_int Tryz.underlying137 h1
        have e3 : cs2.toList[i]? = some (.int .u64 v) := by
          have := congrArg (·[0]?) e1
          simpa [List.getElem?_take, List.getElem?_drop] using this
        have e4 : (xs.map (·.1))[i]? = some (.lit (.int .u64 v)) := by
          rw [List.getElem?_map, List.getElem?_eq_getElem (by omega), Option.map_some, e2]
        have e5 : DataW.agg (xs.map (·.1)) = YtdfbmemomndnnaaGreatDoor.Rows.laid_internal_strconv_uint64pow10 := (Prod.mk.inj hx).1.symm
        have e6 : DataW.agg (H := Unit) (Lib.pow10Tab.map fun z => DataW.lit (.int .u64 z)) = YtdfbmemomndnnaaGreatDoor.Rows.laid_internal_strconv_uint64pow10 := by kernel_rfl
        have e7 := DataW.agg.inj (e5.trans e6.symm)
        rw [e7, List.getElem?_map] at e4
        rw [e3, List.getElem?_map]
        cases hz : Lib.pow10Tab[i]? with
        | none => rw [hz] at e4; cases e4
        | some z =>
          rw [hz] at e4
          simp only [Option.map_some, Option.some.injEq, DataW.lit.injEq, Lit.int.injEq, true_and] at e4
          rw [Option.map_some, e4]
      · rw [List.getElem?_eq_none (by omega), List.getElem?_eq_none (by show (Lib.pow10Tab.map _).length ≤ i; simp [Lib.pow10Tab]; omega)]
    rw [← key]
  · obtain ⟨v, hv⟩ := cell_of_shapedOpen_int (zero := #[.int .i64 0]) (t := 3) (g := 3) hs (of_decide_eq_true (by kernel_rfl)) (by kernel_rfl) rfl (by kernel_rfl) (by kernel_rfl) Tryz.underlying3
    unfold World.cell? at hv
    split at hv
    · rename_i c ty fr hc
      exact ⟨v, c, ty, fr, hc, by simpa using hv⟩
    · cases hv

/-- A call, of a function with a body, out of its answer. -/
theorem calls_of {T : Tab} {f : FuncId} {fn : Func} (hf : Tryz.prog.funcs[f]? = some fn) (hb : fn.body.isSome = true) {args : List V} {r : V} (h : Answers Tryz.prog T f args [] r []) {S : Prot} {vals : List Value}
    (hr : All2 (RD (argCx fun _ => 0) S W) vals args) (hS : ∀ g o, S g o → g < W.heap.size) (ht : ∀ g b, T g b → S g 0 ∧ W.heap[g]? = some b) :
    Calls Tryz.prog f vals.toArray W fun e W' => ∃ v, e = .returned v ∧ Below W.heap.size W W' ∧ ∃ S' : Prot, RD (argCx fun _ => 0) S' W' v r := by
  have hnm : (fn.name == "runtime.NumGoroutine") = false := by have := List.all_eq_true.1 namesOk fn (Array.mem_toList_iff.2 (Array.mem_of_getElem? hf)); simpa using this
  obtain ⟨code, hb⟩ := Option.isSome_iff_exists.1 hb
  have hrun : (callFunc f vals.toArray).run Tryz.prog W = .ok (.enter f vals.toArray) W := by
    simp only [callFunc, Sem.run_bind, run_program, Result.andThen_ok, hf, hnm, hb]
    rfl
  rcases h (fun _ => 0) S W vals hr (fun _ _ hj => by simp at hj) (fun _ hc => by cases hc) (fun j hj => absurd hj (Nat.not_lt_zero _)) (fun i _ hi => absurd hi (Nat.not_lt_zero _)) hS ht with ⟨v, w', h1, _⟩ | ⟨_, h2⟩
  · rw [hrun] at h1; cases h1
  · refine Calls.mono h2 fun e W' he => ?_
    cases e with
    | returned v =>
      obtain ⟨S', ha⟩ := he
      exact ⟨v, rfl, ⟨ha.blk.os, ha.blk.tape, ha.blk.output, ha.blk.size, fun g hg => ha.blk.blk g hg fun ⟨j, hj, _⟩ => absurd hj (Nat.not_lt_zero _)⟩, S', ha.val⟩
    | _ => exact he.elim

set_option maxRecDepth 100000 in
theorem trodAll_below {W' : World} (hb : Below W.heap.size W W') : ∀ (ts : List TypeId) (vs : List Value) (ds : List (DataW H)) (p : List MemPlace), (ts.all fun t => Tryz.prog.readableRec t && decide (t < Tryz.prog.types.size)) = true →
    DataW.TrodAll en Tryz.prog W 0 (fun _ => true) true ts vs ds p → (∀ x ∈ p, x.block < W.heap.size) → DataW.TrodAll en Tryz.prog W' 0 (fun b => decide (b < W.heap.size)) true ts vs ds p := by
  intro ts
  induction ts with
  | nil =>
    intro vs ds p _ h _
    cases vs with
    | cons _ _ => exact h.elim
    | nil =>
      cases ds with
      | cons _ _ => exact h.elim
      | nil => exact h
  | cons t ts ih =>
    intro vs ds p0 ht h hlt
    cases vs with
    | nil => exact h.elim
    | cons v vs =>
      cases ds with
      | nil => exact h.elim
      | cons d ds =>
        obtain ⟨p, q, h1, h2, e⟩ := h
        rw [List.all_cons, Bool.and_eq_true, Bool.and_eq_true] at ht
        subst e
        exact ⟨p, q, Below.trod laidOk ht.1.1 (of_decide_eq_true ht.1.2) h1 hb (fun x hx => hlt x (by simp [hx])), ih vs ds q ht.2 h2 (fun x hx => hlt x (by simp [hx])), rfl⟩
/-- A law's end: it answers true, and nothing that was there has turned. -/
theorem post_true {fn : Func} {s : ChangeSpec} {W' : World} {args : Array Value} {ds gs : List (DataW H)} {before : List MemPlace} (hv : s.vars = [])
    (hts : (fn.params.toList.all fun t => Tryz.prog.readableRec t && decide (t < Tryz.prog.types.size)) = true) (hr : fn.resultTypes = #[4]) (hfn : s.fn H ds = { results := [.lit (.bool true)], args := ds })
    (hW : DataW.Whole en Tryz.prog fn.params.toList s.vars false W args.toList ds gs before) (hb : Below W.heap.size W W') : s.post en Tryz.prog fn false true false false W args (.bool true) W' := by
  have hlt : ∀ x ∈ before, x.block < W.heap.size := fun x hx => by simpa using hW.lt x hx
  have hW' := hW
  obtain ⟨p, q, hA, hV, rfl, _, _⟩ := hW
  rw [hv] at hV
  obtain ⟨rfl, rfl⟩ := trodVars_none hV
  have hfn' : s.fn H (ds ++ []) = { results := [.lit (.bool true)], args := ds } := by rw [List.append_nil]; exact hfn
  refine ⟨ds, [], p ++ [], [], p, [], hW', ?_, ?_, ?_, hb.frame _, fun h => by cases h⟩
  · rw [hfn', hr]
    exact trodAll_mk1 (shut_bool Tryz.underlying4 _)
  · rw [hfn']
    exact trodAll_below hb _ _ _ _ hts hA (fun x hx => hlt x (by simp [hx]))
  · rw [hfn', hv]; rfl
end
end Go.Ev
/-
  From a function's answer to a law's statement: once for all the laws.
-/
namespace Go.Ev
open Go.Proofs Sp Go.RowKit Go.ChangeShapes
abbrev laidL : List (String × DataW Unit) := YtdfbmemomndnnaaGreatDoor.Rows.changeTellsRow.laid
theorem own : ownKnob Tryz.checked.prog.godebug = none := by kernel_rfl
set_option maxRecDepth 100000 in
theorem law_lifted {H : Type} {en : TypeId × Value → H} {os : Os} (started : os.Started) {f : FuncId} {fn : Func} {s : ChangeSpec} {conds : List PathCond} (hv : s.vars = []) (noInit : Tryz.checked.prog.inits.idxOf? f = none) (hfn : Tryz.prog.funcs[f]? = some fn) (hb : fn.body.isSome = true)
    (hts : (fn.params.toList.all fun t => Tryz.prog.readableRec t && decide (t < Tryz.prog.types.size)) = true) (hr : fn.resultTypes = #[4])
    (witness : ∃ (w : World) (tape : Tape) (i : Input), w.os = os ∧ (w.forCall tape i).Shaped Tryz.checked.prog ∧ i.vars = [] ∧ Input.okWide Tryz.checked.prog (w.forCall tape i) .any w.heap.size f i ∧
      ((s.pre en Tryz.checked.prog fn conds false (w.forCall tape i).memory i.args ∧ laidMetH Tryz.prog laidL (w.forCall tape i).memory) ∧ sizedMet en Tryz.checked.prog fn (OpenSpec.ofChange s) false (w.forCall tape i).memory i.args) ∧ ({} : Assume).holds Tryz.checked.prog (lone (Frame.enter Tryz.checked.prog f i.args .normal) [] (w.forCall tape i)))
    (main : ∀ (W : World) (base : Nat) (args : Array Value) (ds : List (DataW H)) (p : List MemPlace), (∀ (j : Nat) t v, fn.params[j]? = some t → args[j]? = some v → Value.okWide Tryz.prog W .any base t v) →
      DataW.TrodAll en Tryz.prog W 0 (fun _ => true) true fn.params.toList args.toList ds p →
      s.fn H ds = { results := [.lit (.bool true)], args := ds } ∧ ∃ avs : List V, All2 (RD (argCx fun _ => 0) (AllS W) W) args.toList avs ∧ ∀ T : Tab, TabOk T → Answers Tryz.prog T f avs [] (.bool true) []) :
    ReturnsInHanded {} Tryz.checked os f .any (fun w args => (s.pre en Tryz.checked.prog fn conds false w args ∧ laidMetH Tryz.prog laidL w) ∧ sizedMet en Tryz.checked.prog fn (OpenSpec.ofChange s) false w args)
      (s.post en Tryz.checked.prog fn false true false false) := by
  refine returnsInHanded_of_calls own started noInit witness ?_
  intro w tape i _ hsh _ hok hpre _
  obtain ⟨_, _, _, fn', hfn', _, _, _, _, hval⟩ := hok
  obtain rfl : fn' = fn := Option.some.inj (hfn'.symm.trans hfn)
  obtain ⟨⟨⟨ds, gs, before, hw, _⟩, hx⟩, _⟩ := hpre
  have hw' := DataW.Whole.of_heap (w' := w.forCall tape i) (by rfl) hw
  have hl : laidMetH Tryz.prog laidL (w.forCall tape i) := hx.of_heap (by rfl)
  generalize w.forCall tape i = W at hw' hl hsh hval ⊢
  obtain ⟨p, q, hA, hV, _⟩ := id hw'
  obtain ⟨hs, avs, hrd, hans⟩ := main W w.heap.size i.args ds p hval hA
  have hc := calls_of hfn hb (hans _ (tab_laid hl hsh)) hrd (fun _ _ h => h) (fun g b h => ⟨heap_lt h, h⟩)
  refine Calls.mono hc fun e W' ⟨v, he, hbl, S', hv'⟩ => ?_
  subst he
  obtain rfl : v = .bool true := RD_iff.1 hv'
  exact ChangeSpec.post_blind (post_true hv hts hr hs hw' hbl)
theorem laid_all (os : Os) (args : Array Value) : laidMetH Tryz.prog laidL ((World.laidAll Tryz.prog os laidL).forCall (fun _ _ => 0) ⟨#[], args, []⟩).memory := by
  rw [MakeChecks.laidMetH_plain _ _ _ (by kernel_rfl)]
  exact laidMet_laidAll _ (by kernel_rfl) (by kernel_rfl)
theorem laid_shaped (os : Os) (args : Array Value) : ((World.laidAll Tryz.prog os laidL).forCall (fun _ _ => 0) ⟨#[], args, []⟩).Shaped Tryz.checked.prog := World.shaped_of_ZipB (by kernel_rfl) (by kernel_rfl)
/-- A change of zeros. -/
def zeroC : Value := .agg #[.int .i64 0, .int .i64 0, .int .i64 0, .int .i64 0, .int .i64 0, .int .i64 0, .int .i64 0, .int .i64 0, .int .i64 0, .int .i64 0, .slice none 0 0, .bool false, .slice none 0 0]
end Go.Ev
