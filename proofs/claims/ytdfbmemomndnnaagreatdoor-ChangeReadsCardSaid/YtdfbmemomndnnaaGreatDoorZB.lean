/-
  How the evaluator's pure values read in the model's worlds: the relation, and that it outlives what a frame does beside it.
-/
import Derived.Test.YtdfbmemomndnnaaGreatDoorZA
namespace Go.Ev

/-! ### Lists of two kinds, step by step -/
def All2 {α β : Type} (R : α → β → Prop) : List α → List β → Prop
  | [], [] => True
  | a :: as, b :: bs => R a b ∧ All2 R as bs
  | _, _ => False
section
variable {α β : Type} {R R' : α → β → Prop}
theorem All2.len : ∀ {as : List α} {bs : List β}, All2 R as bs → as.length = bs.length
  | [], [], _ => rfl
  | _ :: _, _ :: _, h => by simp [All2.len h.2]
theorem All2.mono (h : ∀ a b, R a b → R' a b) : ∀ {as : List α} {bs : List β}, All2 R as bs → All2 R' as bs
  | [], [], _ => trivial
  | _ :: _, _ :: _, k => ⟨h _ _ k.1, All2.mono h k.2⟩
theorem All2.get : ∀ {as : List α} {bs : List β}, All2 R as bs → ∀ (i : Nat) (b : β), bs[i]? = some b → ∃ a, as[i]? = some a ∧ R a b
  | [], [], _, i, c, hc => by simp at hc
  | a :: _, b :: _, k, 0, c, hc => by simp at hc; subst hc; exact ⟨a, rfl, k.1⟩
  | _ :: _, _ :: _, k, i + 1, c, hc => by simpa using All2.get k.2 i c (by simpa using hc)
theorem All2.get' : ∀ {as : List α} {bs : List β}, All2 R as bs → ∀ (i : Nat) (a : α), as[i]? = some a → ∃ b, bs[i]? = some b ∧ R a b
  | [], [], _, i, c, hc => by simp at hc
  | a :: _, b :: _, k, 0, c, hc => by simp at hc; subst hc; exact ⟨b, rfl, k.1⟩
  | _ :: _, _ :: _, k, i + 1, c, hc => by simpa using All2.get' k.2 i c (by simpa using hc)
theorem All2.append : ∀ {as : List α} {bs : List β} {cs : List α} {ds : List β}, All2 R as bs → All2 R cs ds → All2 R (as ++ cs) (bs ++ ds)
  | [], [], _, _, _, k => k
  | _ :: _, _ :: _, _, _, h, k => ⟨h.1, All2.append h.2 k⟩
theorem All2.take : ∀ {as : List α} {bs : List β}, All2 R as bs → ∀ n, All2 R (as.take n) (bs.take n)
  | [], [], _, n => by simp [All2]
  | _ :: _, _ :: _, _, 0 => by simp [All2]
  | _ :: _, _ :: _, h, n + 1 => ⟨h.1, All2.take h.2 n⟩
theorem All2.drop : ∀ {as : List α} {bs : List β}, All2 R as bs → ∀ n, All2 R (as.drop n) (bs.drop n)
  | [], [], _, n => by simp [All2]
  | _ :: _, _ :: _, h, 0 => h
  | _ :: _, _ :: _, h, n + 1 => All2.drop h.2 n
theorem All2.mapR {γ : Type} {f : β → γ} {Q : α → γ → Prop} (h : ∀ a b, R a b → Q a (f b)) : ∀ {as : List α} {bs : List β}, All2 R as bs → All2 Q as (bs.map f)
  | [], [], _ => trivial
  | _ :: _, _ :: _, k => ⟨h _ _ k.1, All2.mapR h k.2⟩
theorem All2.of_get : ∀ {as : List α} {bs : List β}, as.length = bs.length → (∀ (i : Nat) (a : α) (b : β), as[i]? = some a → bs[i]? = some b → R a b) → All2 R as bs
  | [], [], _, _ => trivial
  | a :: as, b :: bs, hl, h => ⟨h 0 a b rfl rfl, All2.of_get (by simpa using hl) fun i x y hx hy => h (i + 1) x y (by simpa using hx) (by simpa using hy)⟩
  | [], _ :: _, hl, _ => by simp at hl
  | _ :: _, [], hl, _ => by simp at hl
end

/-! ### The relation -/
abbrev Prot := Nat → Nat → Prop
/-- How pointers and rows of a frame read. -/
structure Cx where
  om : Nat → Nat
  pt : Nat → Nat → Nat → Value → Prop
  ow : Nat → Nat → Value → Prop
  bp : Nat → Nat → Nat → Value → Prop

def RdF (cx : Cx) (S : Prot) (w : World) (R : Value → V → Prop) (v : Value) : V → Prop
  | .undef => True
  | .int k n => v = .int k n
  | .bool b => v = .bool b
  | .str s => v = .string ⟨s.toArray⟩
  | .nilErr => v = .nilIface
  | .ifc t k n => v = .iface t (.int k n)
  | .err => ∃ t x, v = .iface t x
  | .errq b => bif b then v = .nilIface else ∃ t x, v = .iface t x
  | .fn f caps => ∃ cs : List Value, v = .func (.func f) #[] cs.toArray ∧ All2 R cs caps
  | .ptr b g o => cx.pt b g o v
  | .optr j o => v = .pointer (some ⟨cx.om j, o, none⟩)
  | .bptr id u i => cx.bp id u i v
  | .own id u => cx.ow id u v
  | .dptr cs o => ∃ (g p : Nat) (vs : List Value), v = .pointer (some ⟨g, p + o, none⟩) ∧ All2 R vs cs ∧ ∀ (j : Nat) (x : Value), vs[j]? = some x → S g (p + j) ∧ w.cell? ⟨g, p + j, none⟩ = some x
  | .sl k xs => ∃ (a : Option Addr) (c : Nat), v = .slice a xs.length c ∧ xs.length ≤ c ∧
      ∀ (i : Nat) (x : El k), xs[i]? = some x → ∃ (g p : Nat) (vs : List Value), a = some ⟨g, p, none⟩ ∧ All2 R vs (enc k x) ∧
        ∀ (j : Nat) (y : Value), vs[j]? = some y → S g (p + i * k.size + j) ∧ w.cell? ⟨g, p + i * k.size + j, none⟩ = some y
  | .agg cs => ∃ vs : List Value, v = .agg vs.toArray ∧ All2 R vs cs
  | .tup cs => ∃ vs : List Value, v = .tuple vs.toArray ∧ All2 R vs cs
  | .emp b => ∃ (a : Option Addr) (c : Nat), v = .slice a 0 c ∧ a.isNone = b

theorem RdF.mono {cx : Cx} {S : Prot} {w : World} {R R' : Value → V → Prop} (h : ∀ v x, R v x → R' v x) {v : Value} {x : V} (k : RdF cx S w R v x) : RdF cx S w R' v x := by
  cases x <;> try exact k
  · obtain ⟨cs, e, q⟩ := k; exact ⟨cs, e, q.mono h⟩
  · obtain ⟨a, c, e, hc, q⟩ := k
    refine ⟨a, c, e, hc, fun i x hx => ?_⟩
    obtain ⟨g, p, vs, ha, hv, hr⟩ := q i x hx
    exact ⟨g, p, vs, ha, hv.mono h, hr⟩
  · obtain ⟨g, p, vs, e, q, r⟩ := k; exact ⟨g, p, vs, e, q.mono h, r⟩
  · obtain ⟨cs, e, q⟩ := k; exact ⟨cs, e, q.mono h⟩
  · obtain ⟨cs, e, q⟩ := k; exact ⟨cs, e, q.mono h⟩

def Rd (cx : Cx) (S : Prot) (w : World) : Nat → Value → V → Prop
  | 0 => fun _ _ => False
  | n + 1 => RdF cx S w (Rd cx S w n)
theorem Rd.succ {cx : Cx} {S : Prot} {w : World} : ∀ {n : Nat} {v : Value} {x : V}, Rd cx S w n v x → Rd cx S w (n + 1) v x
  | 0, _, _, h => h.elim
  | _ + 1, _, _, h => RdF.mono (fun _ _ k => Rd.succ k) h
theorem Rd.le {cx : Cx} {S : Prot} {w : World} {n m : Nat} (h : n ≤ m) {v : Value} {x : V} (k : Rd cx S w n v x) : Rd cx S w m v x := by
  induction h with
  | refl => exact k
  | step _ ih => exact ih.succ
/-- v reads as x. -/
def RD (cx : Cx) (S : Prot) (w : World) (v : Value) (x : V) : Prop := ∃ n, Rd cx S w n v x

theorem all2_max {cx : Cx} {S : Prot} {w : World} : ∀ {as : List Value} {bs : List V}, All2 (RD cx S w) as bs → ∃ n, All2 (Rd cx S w n) as bs
  | [], [], _ => ⟨0, trivial⟩
  | _ :: _, _ :: _, h => by
    obtain ⟨n, hn⟩ := h.1
    obtain ⟨m, hm⟩ := all2_max h.2
    exact ⟨max n m, hn.le (Nat.le_max_left _ _), hm.mono fun _ _ k => k.le (Nat.le_max_right _ _)⟩
theorem fin_max {P : Nat → Nat → Prop} (hm : ∀ i n m, n ≤ m → P i n → P i m) : ∀ (l : Nat), (∀ i, i < l → ∃ n, P i n) → ∃ n, ∀ i, i < l → P i n
  | 0, _ => ⟨0, fun _ h => by omega⟩
  | l + 1, h => by
    obtain ⟨n, hn⟩ := fin_max hm l fun i hi => h i (by omega)
    obtain ⟨m, hm'⟩ := h l (by omega)
    refine ⟨max n m, fun i hi => ?_⟩
    by_cases e : i < l
    · exact hm _ _ _ (Nat.le_max_left _ _) (hn i e)
    · obtain rfl : i = l := by omega
      exact hm _ _ _ (Nat.le_max_right _ _) hm'

theorem RD_iff {cx : Cx} {S : Prot} {w : World} {v : Value} {x : V} : RD cx S w v x ↔ RdF cx S w (RD cx S w) v x := by
  constructor
  · rintro ⟨n, h⟩
    cases n with
    | zero => exact h.elim
    | succ n => exact RdF.mono (fun _ _ k => ⟨n, k⟩) h
  · intro h
    cases x with
    | fn f caps => obtain ⟨cs, e, q⟩ := h; obtain ⟨n, hn⟩ := all2_max q; exact ⟨n + 1, cs, e, hn⟩
    | dptr cs o => obtain ⟨g, p, vs, e, q, r⟩ := h; obtain ⟨n, hn⟩ := all2_max q; exact ⟨n + 1, g, p, vs, e, hn, r⟩
    | agg cs => obtain ⟨vs, e, q⟩ := h; obtain ⟨n, hn⟩ := all2_max q; exact ⟨n + 1, vs, e, hn⟩
    | tup cs => obtain ⟨vs, e, q⟩ := h; obtain ⟨n, hn⟩ := all2_max q; exact ⟨n + 1, vs, e, hn⟩
    | sl k xs =>
      obtain ⟨a, c, e, hc, q⟩ := h
      obtain ⟨n, hn⟩ := fin_max (P := fun i n => ∀ (x : El k), xs[i]? = some x → ∃ (g p : Nat) (vs : List Value), a = some ⟨g, p, none⟩ ∧ All2 (Rd cx S w n) vs (enc k x) ∧
          ∀ (j : Nat) (y : Value), vs[j]? = some y → S g (p + i * k.size + j) ∧ w.cell? ⟨g, p + i * k.size + j, none⟩ = some y)
        (fun i n m hnm hp x hx => by obtain ⟨g, p, vs, ha, hv, hr⟩ := hp x hx; exact ⟨g, p, vs, ha, hv.mono fun _ _ k => k.le hnm, hr⟩) xs.length
        (fun i hi => by
          obtain ⟨g, p, vs, ha, hv, hr⟩ := q i xs[i] (by simp [hi])
          obtain ⟨n, hn⟩ := all2_max hv
          refine ⟨n, fun x hx => ⟨g, p, vs, ha, ?_, hr⟩⟩
          have : xs[i] = x := by simpa [hi] using hx
          exact this ▸ hn)
      refine ⟨n + 1, a, c, e, hc, fun i x hx => hn i ?_ x hx⟩
      exact (List.getElem?_eq_some_iff.1 hx).1
    | _ => exact ⟨1, h⟩

/-- What is protected stays, and stays as it is. -/
def Keeps (S : Prot) (w : World) (S' : Prot) (w' : World) : Prop := ∀ g o, S g o → S' g o ∧ w'.cell? ⟨g, o, none⟩ = w.cell? ⟨g, o, none⟩
structure Cx.le (a b : Cx) : Prop where
  om : a.om = b.om
  pt : ∀ x y z v, a.pt x y z v → b.pt x y z v
  ow : ∀ x y v, a.ow x y v → b.ow x y v
  bp : ∀ x y z v, a.bp x y z v → b.bp x y z v
theorem Cx.le_refl (a : Cx) : a.le a := ⟨rfl, fun _ _ _ _ h => h, fun _ _ _ h => h, fun _ _ _ _ h => h⟩
theorem Keeps.refl (S : Prot) (w : World) : Keeps S w S w := fun _ _ h => ⟨h, rfl⟩
theorem Keeps.trans {S S' S'' : Prot} {w w' w'' : World} (h : Keeps S w S' w') (k : Keeps S' w' S'' w'') : Keeps S w S'' w'' :=
  fun g o hs => ⟨(k g o (h g o hs).1).1, (k g o (h g o hs).1).2.trans (h g o hs).2⟩

theorem Rd.keep {cx cx' : Cx} {S S' : Prot} {w w' : World} (hc : cx.le cx') (hk : Keeps S w S' w') : ∀ {n : Nat} {v : Value} {x : V}, Rd cx S w n v x → Rd cx' S' w' n v x
  | 0, _, _, h => h.elim
  | n + 1, v, x, h => by
    have ih : ∀ v x, Rd cx S w n v x → Rd cx' S' w' n v x := fun _ _ k => Rd.keep hc hk k
    cases x with
    | fn f caps => obtain ⟨cs, e, q⟩ := h; exact ⟨cs, e, q.mono ih⟩
    | ptr b g o => exact hc.pt _ _ _ _ h
    | optr j o => have h' : v = .pointer (some ⟨cx.om j, o, none⟩) := h; rw [hc.om] at h'; exact h'
    | bptr i u o => exact hc.bp _ _ _ _ h
    | own i u => exact hc.ow _ _ _ h
    | dptr cs o =>
      obtain ⟨g, p, vs, e, q, r⟩ := h
      exact ⟨g, p, vs, e, q.mono ih, fun j x hx => by have := hk _ _ (r j x hx).1; exact ⟨this.1, this.2.trans (r j x hx).2⟩⟩
    | sl k xs =>
      obtain ⟨a, c, e, hcc, q⟩ := h
      refine ⟨a, c, e, hcc, fun i x hx => ?_⟩
      obtain ⟨g, p, vs, ha, hv, hr⟩ := q i x hx
      exact ⟨g, p, vs, ha, hv.mono ih, fun j y hy => by have := hk _ _ (hr j y hy).1; exact ⟨this.1, this.2.trans (hr j y hy).2⟩⟩
    | agg cs => obtain ⟨vs, e, q⟩ := h; exact ⟨vs, e, q.mono ih⟩
    | tup cs => obtain ⟨vs, e, q⟩ := h; exact ⟨vs, e, q.mono ih⟩
    | _ => exact h
theorem RD.keep {cx cx' : Cx} {S S' : Prot} {w w' : World} (hc : cx.le cx') (hk : Keeps S w S' w') {v : Value} {x : V} : RD cx S w v x → RD cx' S' w' v x :=
  fun ⟨n, h⟩ => ⟨n, h.keep hc hk⟩

/-- Data reads the same whatever the frame. -/
theorem RD.data {cx cx' : Cx} {S : Prot} {w : World} {v : Value} {x : V} (hd : isDataC x = true) (h : RD cx S w v x) : RD cx' S w v x := by
  -- by depth: all that a slice of data holds is data
  have key : ∀ (n : Nat) (v : Value) (x : V), isDataC x = true → Rd cx S w n v x → Rd cx' S w n v x := by
    intro n
    induction n with
    | zero => intro _ _ _ h; exact h.elim
    | succ n ih =>
      intro v x hd h
      cases x <;> first | exact h | (simp [isDataC] at hd; done) | skip
      rename_i k xs
      have hk : k ≠ .ptr := by rintro rfl; simp [isDataC] at hd
      obtain ⟨a, c, e, hcc, q⟩ := h
      refine ⟨a, c, e, hcc, fun i x hx => ?_⟩
      obtain ⟨g, p, vs, ha, hv, hr⟩ := q i x hx
      refine ⟨g, p, vs, ha, ?_, hr⟩
      have hall : ∀ y ∈ enc k x, isDataC y = true := by
        cases k <;> simp [enc, isDataC] at hk ⊢
      clear hr ha
      revert hall hv
      generalize enc k x = es
      intro hv hall
      induction vs generalizing es with
      | nil => cases es with
        | nil => trivial
        | cons _ _ => exact hv.elim
      | cons a as iha => cases es with
        | nil => exact hv.elim
        | cons b bs => exact ⟨ih _ _ (hall b (by simp)) hv.1, iha bs hv.2 fun y hy => hall y (by simp [hy])⟩
  obtain ⟨n, h⟩ := h
  exact ⟨n, key n v x hd h⟩

end Go.Ev
/-
  The invariant of a frame that the evaluator follows: its boxes, its rows, the caller's boxes, what is older than the call; and how each kind of step keeps it.
-/
namespace Go.Ev

/-- What a frame's names stand for. -/
structure Cc where
  bl : Nat → Nat
  rv : Nat → Value
  S : Prot

def cxOf (om : Nat → Nat) (s : St) (c : Cc) : Cx where
  om := om
  pt b g o v := (∃ a, v = .pointer a) ∧ g ≤ s.gen b ∧ (g = s.gen b → (s.box b).isSome = true → v = .pointer (some ⟨c.bl b, o, none⟩))
  ow id u v := (∃ a n m, v = .slice a n m) ∧ u ≤ s.ver id ∧ (u = s.ver id → (s.row id).isSome = true → v = c.rv id)
  bp id u i v := (∃ a, v = .pointer a) ∧ u ≤ s.ver id ∧ (u = s.ver id → ∀ r, s.row id = some r → i < r.xs.length ∧ ∃ g n m, c.rv id = .slice (some ⟨g, 0, none⟩) n m ∧ v = .pointer (some ⟨g, i, none⟩))

def blkOf : Value → Option Nat
  | .slice (some a) _ _ => some a.block
  | _ => none

def BoxOK (cx : Cx) (S : Prot) (w : World) (g : Nat) (cs : List V) : Prop :=
  ∃ (vs : List Value) (T : TypeId), w.heap[g]? = some (.cells vs.toArray T (0, 0)) ∧ All2 (RD cx S w) vs cs
def RowOK (cx : Cx) (S : Prot) (w : World) (B : Nat) (r : Row) (v : Value) : Prop :=
  (v = .slice none 0 0 ∧ r.xs = []) ∨
  ∃ (g cap : Nat) (cur : List Value) (T lo hi : Nat), v = .slice (some ⟨g, 0, none⟩) r.xs.length cap ∧ B ≤ g ∧ w.heap[g]? = some (.cells cur.toArray T (lo, hi)) ∧
    cur.length = cap * r.k.size ∧ r.xs.length ≤ cap ∧ (hi ≤ lo ∨ cap * r.k.size ≤ lo) ∧
    (∀ (i : Nat) (x : El r.k), r.xs[i]? = some x → ∃ vs, All2 (RD cx S w) vs (enc r.k x) ∧ ∀ (j : Nat) (y : Value), vs[j]? = some y → cur[i * r.k.size + j]? = some y) ∧
    (∀ o, S g o ↔ (r.k ≠ .byte ∧ o < r.xs.length * r.k.size))

theorem BoxOK.keep {cx cx' : Cx} {S S' : Prot} {w w' : World} {g : Nat} {cs : List V} (hc : cx.le cx') (hk : Keeps S w S' w') (hb : w'.heap[g]? = w.heap[g]?) (h : BoxOK cx S w g cs) : BoxOK cx' S' w' g cs := by
  obtain ⟨vs, T, hg, hv⟩ := h
  exact ⟨vs, T, hb.trans hg, hv.mono fun _ _ k => k.keep hc hk⟩
theorem RowOK.keep {cx cx' : Cx} {S S' : Prot} {w w' : World} {B : Nat} {r : Row} {v : Value} (hc : cx.le cx') (hk : Keeps S w S' w')
    (hb : ∀ g, blkOf v = some g → w'.heap[g]? = w.heap[g]?) (hS : ∀ g, blkOf v = some g → ∀ o, S' g o ↔ S g o) (h : RowOK cx S w B r v) : RowOK cx' S' w' B r v := by
  rcases h with h | ⟨g, cap, cur, T, lo, hi, rfl, hB, hg, hcur, hcap, hfr, hel, hpr⟩
  · exact .inl h
  · refine .inr ⟨g, cap, cur, T, lo, hi, rfl, hB, (hb g rfl).trans hg, hcur, hcap, hfr, fun i x hx => ?_, fun o => (hS g rfl o).trans (hpr o)⟩
    obtain ⟨vs, hv, hr⟩ := hel i x hx
    exact ⟨vs, hv.mono fun _ _ k => k.keep hc hk, hr⟩

structure Inv (om : Nat → Nat) (W0 : World) (S0 : Prot) (s : St) (c : Cc) (w : World) : Prop where
  box : ∀ b cs, s.box b = some cs → BoxOK (cxOf om s c) c.S w (c.bl b) cs
  boxB : ∀ b, (s.box b).isSome = true → W0.heap.size ≤ c.bl b
  boxS : ∀ b, (s.box b).isSome = true → ∀ o, ¬ c.S (c.bl b) o
  boxne : ∀ b b', (s.box b).isSome = true → (s.box b').isSome = true → c.bl b = c.bl b' → b = b'
  row : ∀ id r, s.row id = some r → RowOK (cxOf om s c) c.S w W0.heap.size r (c.rv id)
  rowne : ∀ i j, (s.row i).isSome = true → (s.row j).isSome = true → ∀ g, blkOf (c.rv i) = some g → blkOf (c.rv j) = some g → i = j
  rowbox : ∀ i b, (s.row i).isSome = true → (s.box b).isSome = true → blkOf (c.rv i) ≠ some (c.bl b)
  out : ∀ j cs, s.out[j]? = some cs → BoxOK (cxOf om s c) c.S w (om j) cs
  outB : ∀ j, j < s.out.length → om j < W0.heap.size
  outS : ∀ j, j < s.out.length → ∀ o, ¬ c.S (om j) o
  outne : ∀ i j, i < s.out.length → j < s.out.length → om i = om j → i = j
  old : ∀ g, g < W0.heap.size → (∀ j, j < s.out.length → g ≠ om j) → w.heap[g]? = W0.heap[g]?
  size : W0.heap.size ≤ w.heap.size
  os : w.os = W0.os
  tape : w.tape = W0.tape
  output : w.output = W0.output
  s0 : ∀ g o, S0 g o → c.S g o
  sold : ∀ g o, c.S g o → g < W0.heap.size → S0 g o
  slt : ∀ g o, c.S g o → g < w.heap.size

theorem heap_lt {w : World} {g : Nat} {o : Obj} (h : w.heap[g]? = some o) : g < w.heap.size := (Array.getElem?_eq_some_iff.1 h).1
theorem BoxOK.lt {cx : Cx} {S : Prot} {w : World} {g : Nat} {cs : List V} (h : BoxOK cx S w g cs) : g < w.heap.size := by
  obtain ⟨_, _, h, _⟩ := h; exact heap_lt h
theorem RowOK.lt {cx : Cx} {S : Prot} {w : World} {B : Nat} {r : Row} {v : Value} (h : RowOK cx S w B r v) {g : Nat} (hg : blkOf v = some g) : g < w.heap.size ∧ B ≤ g := by
  rcases h with ⟨rfl, _⟩ | ⟨g', cap, cur, T, lo, hi, rfl, hB, hh, _⟩
  · simp [blkOf] at hg
  · simp [blkOf] at hg; subst hg; exact ⟨heap_lt hh, hB⟩

/-- A change of the world: some blocks are touched, the others stand; new ones come. -/
structure Chg (t : Nat → Prop) (w w' : World) : Prop where
  blk : ∀ g, g < w.heap.size → ¬ t g → w'.heap[g]? = w.heap[g]?
  size : w.heap.size ≤ w'.heap.size
  os : w'.os = w.os
  tape : w'.tape = w.tape
  output : w'.output = w.output
theorem cell_of_blk {w w' : World} {g o : Nat} (h : w'.heap[g]? = w.heap[g]?) : w'.cell? ⟨g, o, none⟩ = w.cell? ⟨g, o, none⟩ := by simp [World.cell?, h]
theorem Chg.keeps {t : Nat → Prop} {w w' : World} (h : Chg t w w') {S S' : Prot} (hs : ∀ g o, S g o → S' g o) (hl : ∀ g o, S g o → g < w.heap.size) (ht : ∀ g o, S g o → ¬ t g) : Keeps S w S' w' :=
  fun g o k => ⟨hs g o k, cell_of_blk (h.blk g (hl g o k) (ht g o k))⟩

section
variable {om : Nat → Nat} {W0 : World} {S0 : Prot} {s : St} {c : Cc} {w : World}

/-- Only the world has changed, and not where anything stands. -/
theorem Inv.world (h : Inv om W0 S0 s c w) {w' : World} (hc : Chg (fun _ => False) w w') : Inv om W0 S0 s c w' ∧ Keeps c.S w c.S w' := by
  have hk : Keeps c.S w c.S w' := hc.keeps (fun _ _ k => k) h.slt (fun _ _ _ => id)
  have hb : ∀ g, g < w.heap.size → w'.heap[g]? = w.heap[g]? := fun g hg => hc.blk g hg id
  exact ⟨{ h with
    box := fun b cs e => (h.box b cs e).keep (Cx.le_refl _) hk (hb _ (h.box b cs e).lt)
    row := fun id r e => (h.row id r e).keep (Cx.le_refl _) hk (fun g hg => hb g ((h.row id r e).lt hg).1) (fun _ _ _ => Iff.rfl)
    out := fun j cs e => (h.out j cs e).keep (Cx.le_refl _) hk (hb _ (h.out j cs e).lt)
    old := fun g hg ho => (hb g (Nat.lt_of_lt_of_le hg h.size)).trans (h.old g hg ho)
    size := Nat.le_trans h.size hc.size
    os := hc.os.trans h.os, tape := hc.tape.trans h.tape, output := hc.output.trans h.output
    slt := fun g o k => Nat.lt_of_lt_of_le (h.slt g o k) hc.size }, hk⟩

/-- Data stays data in the frame's next state: what changes is told by name. -/
theorem cx_le {s' : St} {c' : Cc}
    (hg : ∀ b, s.gen b ≤ s'.gen b) (hb : ∀ b, s.gen b = s'.gen b → (s'.box b).isSome = true → (s.box b).isSome = true ∧ c'.bl b = c.bl b)
    (hv : ∀ i, s.ver i ≤ s'.ver i) (hr : ∀ i, s.ver i = s'.ver i → ∀ r', s'.row i = some r' → ∃ r, s.row i = some r ∧ r.xs.length ≤ r'.xs.length ∧ c'.rv i = c.rv i) :
    (cxOf om s c).le (cxOf om s' c') := by
  refine ⟨rfl, fun b g o v h => ?_, fun i u v h => ?_, fun i u j v h => ?_⟩
  · refine ⟨h.1, Nat.le_trans h.2.1 (hg b), fun e hs => ?_⟩
    have e' : s.gen b = s'.gen b := Nat.le_antisymm (hg b) (e ▸ h.2.1)
    have := hb b e' hs
    rw [this.2]
    exact h.2.2 (e.trans e'.symm) this.1
  · refine ⟨h.1, Nat.le_trans h.2.1 (hv i), fun e hs => ?_⟩
    have e' : s.ver i = s'.ver i := Nat.le_antisymm (hv i) (e ▸ h.2.1)
    obtain ⟨r', hr'⟩ := Option.isSome_iff_exists.1 hs
    obtain ⟨r, hr1, _, hr2⟩ := hr i e' r' hr'
    rw [hr2]
    exact h.2.2 (e.trans e'.symm) (by simp [hr1])
  · refine ⟨h.1, Nat.le_trans h.2.1 (hv i), fun e r' hr' => ?_⟩
    have e' : s.ver i = s'.ver i := Nat.le_antisymm (hv i) (e ▸ h.2.1)
    obtain ⟨r, hr1, hlen, hr2⟩ := hr i e' r' hr'
    obtain ⟨hj, g, n, m, h1, h2⟩ := h.2.2 (e.trans e'.symm) r hr1
    exact ⟨by omega, g, n, m, by rw [hr2]; exact h1, h2⟩

@[simp] theorem put_same {α : Type} (t : Nat) (x : α) (f : Nat → α) : put t x f t = x := by simp [put]
theorem put_other {α : Type} {t u : Nat} (x : α) (f : Nat → α) (h : u ≠ t) : put t x f u = f u := by
  have : Nat.beq u t = false := by
    cases e : Nat.beq u t
    · rfl
    · exact absurd (Nat.eq_of_beq_eq_true e) h
  simp [put, this]

/-- A new empty row, whose value is the nil slice. -/
theorem Inv.nilRow (h : Inv om W0 S0 s c w) (id : Nat) (k : K) {s' : St} {c' : Cc}
    (hs' : s' = { s with row := put id (some ⟨k, []⟩) s.row, ver := put id (s.ver id + 1) s.ver }) (hc' : c' = { c with rv := put id (.slice none 0 0) c.rv }) :
    Inv om W0 S0 s' c' w ∧ (cxOf om s c).le (cxOf om s' c') := by
  subst hs' hc'
  have hle : (cxOf om s c).le (cxOf om { s with row := put id (some ⟨k, []⟩) s.row, ver := put id (s.ver id + 1) s.ver } { c with rv := put id (.slice none 0 0) c.rv }) := by
    refine cx_le (fun _ => Nat.le_refl _) (fun b _ hs => ⟨hs, rfl⟩) (fun i => ?_) (fun i e r' hr' => ?_)
    · by_cases hi : i = id
      · subst hi; simp
      · simp [put_other _ _ hi]
    · by_cases hi : i = id
      · subst hi; simp at e
      · dsimp only at hr' ⊢
        rw [put_other _ _ hi] at hr' ⊢
        exact ⟨r', hr', Nat.le_refl _, rfl⟩
  have hk := Keeps.refl c.S w
  have hblk : ∀ i, i ≠ id → (put id (some (⟨k, []⟩ : Row)) s.row i).isSome = true → (s.row i).isSome = true := fun i hi hh => by rwa [put_other _ _ hi] at hh
  refine ⟨{ h with
    box := fun b cs e => (h.box b cs e).keep hle hk rfl
    row := fun i r e => ?_
    rowne := fun i j hi hj g hgi hgj => ?_
    rowbox := fun i b hi hb => ?_
    out := fun j cs e => (h.out j cs e).keep hle hk rfl }, hle⟩
  · by_cases hi : i = id
    · subst hi
      simp at e
      subst e
      exact .inl ⟨by simp, rfl⟩
    · have e' : s.row i = some r := by simpa [put_other _ _ hi] using e
      have := (h.row i r e').keep hle hk (fun _ _ => rfl) (fun _ _ _ => Iff.rfl)
      simpa [put_other _ _ hi] using this
  · dsimp only at hgi hgj hi hj
    by_cases h1 : i = id
    · subst h1; simp [blkOf] at hgi
    · by_cases h2 : j = id
      · subst h2; simp [blkOf] at hgj
      · rw [put_other _ _ h1] at hgi
        rw [put_other _ _ h2] at hgj
        exact h.rowne i j (hblk i h1 hi) (hblk j h2 hj) g hgi hgj
  · dsimp only at hi ⊢
    by_cases h1 : i = id
    · subst h1; simp [blkOf]
    · rw [put_other _ _ h1]
      exact h.rowbox i b (hblk i h1 hi) hb

/-- Several of them. -/
theorem Inv.nilRows : ∀ (l : List (Nat × Nat × Row)) {s : St} {c : Cc}, Inv om W0 S0 s c w → (∀ x ∈ l, x.2.1 = s.ver x.1 + 1 ∧ x.2.2.xs = []) → (l.map (·.1)).Nodup →
    ∃ c', Inv om W0 S0 (putRows l s) c' w ∧ (cxOf om s c).le (cxOf om (putRows l s) c') ∧ c'.S = c.S ∧ c'.bl = c.bl ∧ (∀ i, i ∉ l.map (·.1) → c'.rv i = c.rv i) ∧ ∀ x ∈ l, c'.rv x.1 = .slice none 0 0
  | [], s, c, h, _, _ => ⟨c, h, Cx.le_refl _, rfl, rfl, fun _ _ => rfl, fun _ hx => by cases hx⟩
  | (id, v, r) :: l, s, c, h, hx, hn => by
    have h0 := hx (id, v, r) (by simp)
    simp only at h0
    obtain ⟨k, xs⟩ := r
    obtain ⟨rfl, hxs⟩ := h0
    simp only at hxs
    subst hxs
    obtain ⟨i1, l1⟩ := h.nilRow id k rfl rfl
    simp only [List.map_cons, List.nodup_cons] at hn
    obtain ⟨c', i2, l2, e1, e2, e3, e4⟩ := Inv.nilRows l i1 (fun x hm => by
      have hne : x.1 ≠ id := fun e => hn.1 (e ▸ List.mem_map_of_mem hm)
      have := hx x (by simp [hm])
      exact ⟨by simpa [put_other _ _ hne] using this.1, this.2⟩) hn.2
    refine ⟨c', i2, ⟨l1.om.trans l2.om, fun _ _ _ _ k => l2.pt _ _ _ _ (l1.pt _ _ _ _ k), fun _ _ _ k => l2.ow _ _ _ (l1.ow _ _ _ k), fun _ _ _ _ k => l2.bp _ _ _ _ (l1.bp _ _ _ _ k)⟩, e1, e2, fun i hi => ?_, fun x hm => ?_⟩
    · simp only [List.map_cons, List.mem_cons, not_or] at hi
      rw [e3 i hi.2]
      exact put_other _ _ hi.1
    · rcases List.mem_cons.1 hm with rfl | hm
      · by_cases hl : id ∈ l.map (·.1)
        · exact absurd hl hn.1
        · rw [e3 id hl]; simp
      · exact e4 x hm

theorem Cx.le_trans {a b c : Cx} (h : a.le b) (k : b.le c) : a.le c :=
  ⟨h.om.trans k.om, fun _ _ _ _ q => k.pt _ _ _ _ (h.pt _ _ _ _ q), fun _ _ _ q => k.ow _ _ _ (h.ow _ _ _ q), fun _ _ _ _ q => k.bp _ _ _ _ (h.bp _ _ _ _ q)⟩

theorem heap_push (w : World) (o : Obj) (g : Nat) (h : g < w.heap.size) : (w.heap.push o)[g]? = w.heap[g]? := by
  rw [Array.getElem?_push, if_neg (by omega)]
theorem chg_alloc (w : World) (o : Obj) (t : Nat → Prop) : Chg t w (w.alloc o) :=
  ⟨fun g hg _ => heap_push w o g hg, by simp, rfl, rfl, rfl⟩

/-- A new box. -/
theorem Inv.newBox (h : Inv om W0 S0 s c w) (b : Nat) (T : TypeId) (vs : List Value) (cs : List V) (hv : All2 (RD (cxOf om s c) c.S w) vs cs) {s' : St} {c' : Cc}
    (hs' : s' = { s with box := put b (some cs) s.box, gen := put b (s.gen b + 1) s.gen }) (hc' : c' = { c with bl := put b w.heap.size c.bl }) :
    Inv om W0 S0 s' c' (w.alloc (.cells vs.toArray T)) ∧ (cxOf om s c).le (cxOf om s' c') ∧ Keeps c.S w c.S (w.alloc (.cells vs.toArray T)) := by
  have hle : (cxOf om s c).le (cxOf om s' c') := by
    subst hs' hc'
    refine cx_le (fun i => ?_) (fun i e hs => ?_) (fun _ => Nat.le_refl _) (fun i _ r' hr' => ⟨r', hr', Nat.le_refl _, rfl⟩)
    · by_cases hi : i = b
      · subst hi; simp
      · simp [put_other _ _ hi]
    · by_cases hi : i = b
      · subst hi; simp at e
      · dsimp only at hs ⊢
        rw [put_other _ _ hi] at hs ⊢
        exact ⟨hs, rfl⟩
  have hch := chg_alloc w (.cells vs.toArray T) (fun _ => False)
  have hk : Keeps c.S w c.S (w.alloc (.cells vs.toArray T)) := hch.keeps (fun _ _ k => k) h.slt (fun _ _ _ => id)
  have hold : ∀ g, g < w.heap.size → (w.alloc (.cells vs.toArray T)).heap[g]? = w.heap[g]? := fun g hg => heap_push w _ g hg
  have hcS : c'.S = c.S := by subst hc'; rfl
  have hblo : ∀ i, i ≠ b → c'.bl i = c.bl i := fun i hi => by subst hc'; exact put_other _ _ hi
  have hbln : c'.bl b = w.heap.size := by subst hc'; simp
  have hsome : ∀ i, i ≠ b → (s'.box i).isSome = true → (s.box i).isSome = true := fun i hi hh => by subst hs'; simpa [put_other _ _ hi] using hh
  have hlt : ∀ i, (s.box i).isSome = true → c.bl i < w.heap.size := fun i hi => by
    obtain ⟨x, hx⟩ := Option.isSome_iff_exists.1 hi
    exact (h.box i x hx).lt
  refine ⟨?_, hle, hk⟩
  exact {
    box := fun i x e => by
      rw [hcS]
      by_cases hi : i = b
      · subst hi
        have : cs = x := by subst hs'; simpa using e
        subst this
        rw [hbln]
        refine ⟨vs, T, heap_alloc_new w _, hv.mono fun _ _ k => k.keep hle hk⟩
      · have e' : s.box i = some x := by subst hs'; simpa [put_other _ _ hi] using e
        rw [hblo i hi]
        exact (h.box i x e').keep hle hk (hold _ (h.box i x e').lt)
    boxB := fun i e => by
      by_cases hi : i = b
      · subst hi; rw [hbln]; exact h.size
      · rw [hblo i hi]; exact h.boxB i (hsome i hi e)
    boxS := fun i e o => by
      rw [hcS]
      by_cases hi : i = b
      · subst hi; rw [hbln]; exact fun k => Nat.lt_irrefl _ (h.slt _ _ k)
      · rw [hblo i hi]; exact h.boxS i (hsome i hi e) o
    boxne := fun i j hi hj e => by
      by_cases h1 : i = b
      · by_cases h2 : j = b
        · exact h1.trans h2.symm
        · subst h1
          rw [hbln, hblo j h2] at e
          have := hlt j (hsome j h2 hj); omega
      · by_cases h2 : j = b
        · subst h2
          rw [hbln, hblo i h1] at e
          have := hlt i (hsome i h1 hi); omega
        · rw [hblo i h1, hblo j h2] at e
          exact h.boxne i j (hsome i h1 hi) (hsome j h2 hj) e
    row := fun i r e => by
      have e' : s.row i = some r := by subst hs'; exact e
      have hrv : c'.rv = c.rv := by subst hc'; rfl
      rw [hcS, hrv]
      exact (h.row i r e').keep hle hk (fun g hg => hold g ((h.row i r e').lt hg).1) (fun _ _ _ => Iff.rfl)
    rowne := fun i j hi hj g hgi hgj => by
      subst hs' hc'
      exact h.rowne i j hi hj g hgi hgj
    rowbox := fun i j hi hj => by
      have hrv : c'.rv = c.rv := by subst hc'; rfl
      have hi' : (s.row i).isSome = true := by subst hs'; exact hi
      rw [hrv]
      by_cases h2 : j = b
      · subst h2
        rw [hbln]
        intro e
        obtain ⟨r, hr⟩ := Option.isSome_iff_exists.1 hi'
        exact Nat.lt_irrefl _ ((h.row i r hr).lt e).1
      · rw [hblo j h2]; exact h.rowbox i j hi' (hsome j h2 hj)
    out := fun j x e => by
      have e' : s.out[j]? = some x := by subst hs'; exact e
      rw [hcS]
      exact (h.out j x e').keep hle hk (hold _ (h.out j x e').lt)
    outB := by subst hs'; exact h.outB
    outS := by rw [hcS]; subst hs'; exact h.outS
    outne := by subst hs'; exact h.outne
    old := fun g hg ho => by
      subst hs'
      exact (hold g (Nat.lt_of_lt_of_le hg h.size)).trans (h.old g hg ho)
    size := Nat.le_trans h.size hch.size
    os := h.os
    tape := h.tape
    output := h.output
    s0 := by rw [hcS]; exact h.s0
    sold := by rw [hcS]; exact h.sold
    slt := by rw [hcS]; exact fun g o k => Nat.lt_of_lt_of_le (h.slt g o k) hch.size }

end
end Go.Ev
/-
  More steps that keep a frame's invariant: a new row, a row that grows in place, a byte that is set, a box that is written.
-/
namespace Go.Ev
section
variable {om : Nat → Nat} {W0 : World} {S0 : Prot} {s : St} {c : Cc} {w : World}

/-- A row in a new block: of a literal, of a text's bytes, behind an append that moved. -/
theorem Inv.newRow (h : Inv om W0 S0 s c w) (id : Nat) (r : Row) {w' : World} (hch : Chg (fun _ => False) w w') (n cap : Nat) (cur : List Value) (T lo hi : Nat)
    (hn : w.heap.size ≤ n) (hg : w'.heap[n]? = some (.cells cur.toArray T (lo, hi))) (hcur : cur.length = cap * r.k.size) (hcap : r.xs.length ≤ cap) (hfr : hi ≤ lo ∨ cap * r.k.size ≤ lo)
    (hel : ∀ (i : Nat) (x : El r.k), r.xs[i]? = some x → ∃ vs, All2 (RD (cxOf om s c) c.S w) vs (enc r.k x) ∧ ∀ (j : Nat) (y : Value), vs[j]? = some y → cur[i * r.k.size + j]? = some y)
    {s' : St} {c' : Cc} (hs' : s' = { s with row := put id (some r) s.row, ver := put id (s.ver id + 1) s.ver })
    (hc' : c' = { c with rv := put id (.slice (some ⟨n, 0, none⟩) r.xs.length cap) c.rv, S := fun g o => c.S g o ∨ (g = n ∧ r.k ≠ .byte ∧ o < r.xs.length * r.k.size) }) :
    Inv om W0 S0 s' c' w' ∧ (cxOf om s c).le (cxOf om s' c') ∧ Keeps c.S w c'.S w' := by
  have hle : (cxOf om s c).le (cxOf om s' c') := by
    subst hs' hc'
    refine cx_le (fun _ => Nat.le_refl _) (fun b _ hs => ⟨hs, rfl⟩) (fun i => ?_) (fun i e r' hr' => ?_)
    · by_cases hi : i = id
      · subst hi; simp
      · simp [put_other _ _ hi]
    · by_cases hi : i = id
      · subst hi; simp at e
      · dsimp only at hr' ⊢
        rw [put_other _ _ hi] at hr' ⊢
        exact ⟨r', hr', Nat.le_refl _, rfl⟩
  have hSle : ∀ g o, c.S g o → c'.S g o := fun g o k => by subst hc'; exact .inl k
  have hSold : ∀ g o, g < w.heap.size → (c'.S g o ↔ c.S g o) := fun g o hlt => by
    subst hc'
    exact ⟨fun k => k.elim (fun k => k) fun k => by have := k.1; omega, .inl⟩
  have hk : Keeps c.S w c'.S w' := hch.keeps hSle h.slt (fun _ _ _ k => k)
  have hold : ∀ g, g < w.heap.size → w'.heap[g]? = w.heap[g]? := fun g hg => hch.blk g hg (fun k => k)
  have hbl : c'.bl = c.bl := by subst hc'; rfl
  have hbox : s'.box = s.box := by subst hs'; rfl
  have hout : s'.out = s.out := by subst hs'; rfl
  have hrvo : ∀ i, i ≠ id → c'.rv i = c.rv i := fun i hi => by subst hc'; exact put_other _ _ hi
  have hrvn : c'.rv id = .slice (some ⟨n, 0, none⟩) r.xs.length cap := by subst hc'; simp
  have hrowo : ∀ i, i ≠ id → s'.row i = s.row i := fun i hi => by subst hs'; exact put_other _ _ hi
  have hblt : ∀ i, (s.box i).isSome = true → c.bl i < w.heap.size := fun i hi => by
    obtain ⟨x, hx⟩ := Option.isSome_iff_exists.1 hi
    exact (h.box i x hx).lt
  have hrlt : ∀ i g, (s.row i).isSome = true → blkOf (c.rv i) = some g → g < w.heap.size := fun i g hi hg => by
    obtain ⟨x, hx⟩ := Option.isSome_iff_exists.1 hi
    exact ((h.row i x hx).lt hg).1
  have holt : ∀ j, j < s.out.length → om j < w.heap.size := fun j hj => Nat.lt_of_lt_of_le (h.outB j hj) h.size
  refine ⟨?_, hle, hk⟩
  exact {
    box := fun i x e => by
      rw [hbox] at e; rw [hbl]
      exact (h.box i x e).keep hle hk (hold _ (h.box i x e).lt)
    boxB := by rw [hbox, hbl]; exact h.boxB
    boxS := fun i e o => by
      rw [hbox] at e; rw [hbl, hSold _ _ (hblt i e)]; exact h.boxS i e o
    boxne := by rw [hbox, hbl]; exact h.boxne
    row := fun i x e => by
      by_cases hi : i = id
      · subst hi
        have : r = x := by subst hs'; simpa using e
        subst this
        rw [hrvn]
        refine .inr ⟨n, cap, cur, T, lo, hi, rfl, Nat.le_trans h.size hn, hg, hcur, hcap, hfr, fun i x hx => ?_, fun o => ?_⟩
        · obtain ⟨vs, hv, hr⟩ := hel i x hx
          exact ⟨vs, hv.mono fun _ _ k => k.keep hle hk, hr⟩
        · subst hc'
          exact ⟨fun k => k.elim (fun k => absurd (h.slt _ _ k) (by omega)) fun k => k.2, fun k => .inr ⟨rfl, k⟩⟩
      · rw [hrowo i hi] at e
        rw [hrvo i hi]
        exact (h.row i x e).keep hle hk (fun g hg => hold g ((h.row i x e).lt hg).1) (fun g hg o => hSold g o ((h.row i x e).lt hg).1)
    rowne := fun i j hi hj g hgi hgj => by
      by_cases h1 : i = id
      · by_cases h2 : j = id
        · exact h1.trans h2.symm
        · subst h1
          rw [hrvn] at hgi; rw [hrvo j h2] at hgj; rw [hrowo j h2] at hj
          simp [blkOf] at hgi
          have := hrlt j g hj hgj; omega
      · by_cases h2 : j = id
        · subst h2
          rw [hrvn] at hgj; rw [hrvo i h1] at hgi; rw [hrowo i h1] at hi
          simp [blkOf] at hgj
          have := hrlt i g hi hgi; omega
        · rw [hrvo i h1] at hgi; rw [hrvo j h2] at hgj; rw [hrowo i h1] at hi; rw [hrowo j h2] at hj
          exact h.rowne i j hi hj g hgi hgj
    rowbox := fun i j hi hj => by
      rw [hbox] at hj; rw [hbl]
      by_cases h1 : i = id
      · subst h1
        rw [hrvn]
        intro e
        simp [blkOf] at e
        have := hblt j hj; omega
      · rw [hrvo i h1]; rw [hrowo i h1] at hi; exact h.rowbox i j hi hj
    out := fun j x e => by
      rw [hout] at e
      exact (h.out j x e).keep hle hk (hold _ (h.out j x e).lt)
    outB := by rw [hout]; exact h.outB
    outS := fun j hj o => by
      rw [hout] at hj; rw [hSold _ _ (holt j hj)]; exact h.outS j hj o
    outne := by rw [hout]; exact h.outne
    old := fun g hg ho => by
      rw [hout] at ho
      exact (hold g (Nat.lt_of_lt_of_le hg h.size)).trans (h.old g hg ho)
    size := Nat.le_trans h.size hch.size
    os := hch.os.trans h.os
    tape := hch.tape.trans h.tape
    output := hch.output.trans h.output
    s0 := fun g o k => hSle g o (h.s0 g o k)
    sold := fun g o k hlt => h.sold g o ((hSold g o (Nat.lt_of_lt_of_le hlt h.size)).1 k) hlt
    slt := fun g o k => by
      subst hc'
      rcases k with k | ⟨rfl, _⟩
      · exact Nat.lt_of_lt_of_le (h.slt g o k) hch.size
      · exact heap_lt hg }

/-- A row's own block is written: it grows in place (its version goes up), or a byte of it is set (its length stays). -/
theorem Inv.rowAt (h : Inv om W0 S0 s c w) (id u : Nat) (r r' : Row) (hr : s.row id = some r) (hkk : r'.k = r.k) {w' : World} (g cap : Nat) (cur : List Value) (T lo hi : Nat)
    (hv : c.rv id = .slice (some ⟨g, 0, none⟩) r.xs.length cap)
    (hch : Chg (fun x => x = g) w w') (hg : w'.heap[g]? = some (.cells cur.toArray T (lo, hi))) (hcur : cur.length = cap * r'.k.size) (hcap : r'.xs.length ≤ cap) (hfr : hi ≤ lo ∨ cap * r'.k.size ≤ lo)
    (hsame : ∀ o, c.S g o → w'.cell? ⟨g, o, none⟩ = w.cell? ⟨g, o, none⟩) (hlen : r.xs.length ≤ r'.xs.length)
    (hel : ∀ (i : Nat) (x : El r'.k), r'.xs[i]? = some x → ∃ vs, All2 (RD (cxOf om s c) c.S w) vs (enc r'.k x) ∧ ∀ (j : Nat) (y : Value), vs[j]? = some y → cur[i * r'.k.size + j]? = some y)
    (hu : (u = s.ver id ∧ r'.xs.length = r.xs.length) ∨ u = s.ver id + 1)
    {s' : St} {c' : Cc} (hs' : s' = { s with row := put id (some r') s.row, ver := put id u s.ver })
    (hc' : c' = { c with rv := put id (.slice (some ⟨g, 0, none⟩) r'.xs.length cap) c.rv, S := fun x o => c.S x o ∨ (x = g ∧ r'.k ≠ .byte ∧ o < r'.xs.length * r'.k.size) }) :
    Inv om W0 S0 s' c' w' ∧ (cxOf om s c).le (cxOf om s' c') ∧ Keeps c.S w c'.S w' := by
  have hro := h.row id r hr
  have hblk : blkOf (c.rv id) = some g := by rw [hv]; rfl
  have hglt := hro.lt hblk
  have hpr : ∀ o, c.S g o ↔ (r.k ≠ .byte ∧ o < r.xs.length * r.k.size) := by
    rcases hro with ⟨e, _⟩ | ⟨g', _, _, _, _, _, e, _, _, _, _, _, _, hp⟩
    · rw [e] at hv; cases hv
    · rw [hv] at e
      simp only [Value.slice.injEq, Option.some.injEq, Addr.mk.injEq] at e
      obtain rfl := e.1.1
      exact hp
  have hle : (cxOf om s c).le (cxOf om s' c') := by
    subst hs' hc'
    refine cx_le (fun _ => Nat.le_refl _) (fun b _ hs => ⟨hs, rfl⟩) (fun i => ?_) (fun i e x hx => ?_)
    · by_cases hi : i = id
      · subst hi; simp; omega
      · simp [put_other _ _ hi]
    · by_cases hi : i = id
      · subst hi
        simp at e hx ⊢
        rcases hu with ⟨_, hl⟩ | hu
        · exact ⟨r, hr, by subst hx; omega, by rw [hv, hl]⟩
        · omega
      · dsimp only at hx ⊢
        rw [put_other _ _ hi] at hx ⊢
        exact ⟨x, hx, Nat.le_refl _, rfl⟩
  have hSle : ∀ x o, c.S x o → c'.S x o := fun x o k => by subst hc'; exact .inl k
  have hSold : ∀ x o, x ≠ g → (c'.S x o ↔ c.S x o) := fun x o hne => by
    subst hc'
    exact ⟨fun k => k.elim (fun k => k) fun k => absurd k.1 hne, .inl⟩
  have hk : Keeps c.S w c'.S w' := fun x o k => ⟨hSle x o k, by
    by_cases e : x = g
    · subst e; exact hsame o k
    · exact cell_of_blk (hch.blk x (h.slt x o k) e)⟩
  have hold : ∀ x, x < w.heap.size → x ≠ g → w'.heap[x]? = w.heap[x]? := fun x hx hne => hch.blk x hx hne
  have hbl : c'.bl = c.bl := by subst hc'; rfl
  have hbox : s'.box = s.box := by subst hs'; rfl
  have hout : s'.out = s.out := by subst hs'; rfl
  have hrvo : ∀ i, i ≠ id → c'.rv i = c.rv i := fun i hi => by subst hc'; exact put_other _ _ hi
  have hrvn : c'.rv id = .slice (some ⟨g, 0, none⟩) r'.xs.length cap := by subst hc'; simp
  have hrowo : ∀ i, i ≠ id → s'.row i = s.row i := fun i hi => by subst hs'; exact put_other _ _ hi
  have hids : (s.row id).isSome = true := by simp [hr]
  have hbne : ∀ i, (s.box i).isSome = true → c.bl i ≠ g := fun i hi e => h.rowbox id i hids hi (by rw [hblk, e])
  have hrne : ∀ i x, i ≠ id → (s.row i).isSome = true → blkOf (c.rv i) = some x → x ≠ g := fun i x hi hs hx e => hi (h.rowne i id hs hids x hx (by rw [hblk, e]))
  have hone : ∀ j, j < s.out.length → om j ≠ g := fun j hj e => by have := h.outB j hj; omega
  refine ⟨?_, hle, hk⟩
  exact {
    box := fun i x e => by
      rw [hbox] at e; rw [hbl]
      exact (h.box i x e).keep hle hk (hold _ (h.box i x e).lt (hbne i (by simp [e])))
    boxB := by rw [hbox, hbl]; exact h.boxB
    boxS := fun i e o => by
      rw [hbox] at e; rw [hbl, hSold _ _ (hbne i e)]; exact h.boxS i e o
    boxne := by rw [hbox, hbl]; exact h.boxne
    row := fun i x e => by
      by_cases hi : i = id
      · subst hi
        have : r' = x := by subst hs'; simpa using e
        subst this
        rw [hrvn]
        refine .inr ⟨g, cap, cur, T, lo, hi, rfl, hglt.2, hg, hcur, hcap, hfr, fun i x hx => ?_, fun o => ?_⟩
        · obtain ⟨vs, hv, hr⟩ := hel i x hx
          exact ⟨vs, hv.mono fun _ _ k => k.keep hle hk, hr⟩
        · subst hc'
          refine ⟨fun k => k.elim (fun k => ?_) fun k => k.2, fun k => .inr ⟨rfl, k⟩⟩
          obtain ⟨q1, q2⟩ := (hpr o).1 k
          exact ⟨fun e => q1 (hkk ▸ e), Nat.lt_of_lt_of_le q2 (by rw [show r'.k.size = r.k.size from congrArg K.size hkk]; exact Nat.mul_le_mul_right _ hlen)⟩
      · rw [hrowo i hi] at e
        rw [hrvo i hi]
        have hs : (s.row i).isSome = true := by simp [e]
        exact (h.row i x e).keep hle hk (fun y hy => hold y ((h.row i x e).lt hy).1 (hrne i y hi hs hy)) (fun y hy o => hSold y o (hrne i y hi hs hy))
    rowne := fun i j hi hj x hgi hgj => by
      by_cases h1 : i = id
      · by_cases h2 : j = id
        · exact h1.trans h2.symm
        · subst h1
          rw [hrvn] at hgi; rw [hrvo j h2] at hgj; rw [hrowo j h2] at hj
          simp [blkOf] at hgi
          exact absurd hgi.symm (hrne j x h2 hj hgj)
      · by_cases h2 : j = id
        · subst h2
          rw [hrvn] at hgj; rw [hrvo i h1] at hgi; rw [hrowo i h1] at hi
          simp [blkOf] at hgj
          exact absurd hgj.symm (hrne i x h1 hi hgi)
        · rw [hrvo i h1] at hgi; rw [hrvo j h2] at hgj; rw [hrowo i h1] at hi; rw [hrowo j h2] at hj
          exact h.rowne i j hi hj x hgi hgj
    rowbox := fun i j hi hj => by
      rw [hbox] at hj; rw [hbl]
      by_cases h1 : i = id
      · subst h1
        rw [hrvn]
        intro e
        simp [blkOf] at e
        exact hbne j hj e.symm
      · rw [hrvo i h1]; rw [hrowo i h1] at hi; exact h.rowbox i j hi hj
    out := fun j x e => by
      rw [hout] at e
      exact (h.out j x e).keep hle hk (hold _ (h.out j x e).lt (hone j (List.getElem?_eq_some_iff.1 e).1))
    outB := by rw [hout]; exact h.outB
    outS := fun j hj o => by
      rw [hout] at hj; rw [hSold _ _ (hone j hj)]; exact h.outS j hj o
    outne := by rw [hout]; exact h.outne
    old := fun x hx ho => by
      rw [hout] at ho
      exact (hold x (Nat.lt_of_lt_of_le hx h.size) (by have := hglt.2; omega)).trans (h.old x hx ho)
    size := Nat.le_trans h.size hch.size
    os := hch.os.trans h.os
    tape := hch.tape.trans h.tape
    output := hch.output.trans h.output
    s0 := fun x o k => hSle x o (h.s0 x o k)
    sold := fun x o k hlt => h.sold x o ((hSold x o (by have := hglt.2; omega)).1 k) hlt
    slt := fun x o k => by
      subst hc'
      rcases k with k | ⟨rfl, _⟩
      · exact Nat.lt_of_lt_of_le (h.slt x o k) hch.size
      · exact heap_lt hg }

/-- A box is written. -/
theorem Inv.setBox (h : Inv om W0 S0 s c w) (b : Nat) (old cs : List V) (hb : s.box b = some old) {w' : World} (hch : Chg (fun x => x = c.bl b) w w')
    (vs : List Value) (T : TypeId) (hg : w'.heap[c.bl b]? = some (.cells vs.toArray T (0, 0))) (hv : All2 (RD (cxOf om s c) c.S w) vs cs) {s' : St} (hs' : s' = { s with box := put b (some cs) s.box, gen := put b (s.gen b) s.gen }) :
    Inv om W0 S0 s' c w' ∧ (cxOf om s c).le (cxOf om s' c) ∧ Keeps c.S w c.S w' := by
  have hbs : (s.box b).isSome = true := by simp [hb]
  have hle : (cxOf om s c).le (cxOf om s' c) := by
    subst hs'
    refine cx_le (fun i => ?_) (fun i e hs => ?_) (fun _ => Nat.le_refl _) (fun i _ r' hr' => ⟨r', hr', Nat.le_refl _, rfl⟩)
    · by_cases hi : i = b
      · subst hi; simp
      · simp [put_other _ _ hi]
    · refine ⟨?_, rfl⟩
      by_cases hi : i = b
      · subst hi; exact hbs
      · simpa [put_other _ _ hi] using hs
  have hnS : ∀ o, ¬ c.S (c.bl b) o := h.boxS b hbs
  have hk : Keeps c.S w c.S w' := hch.keeps (fun _ _ k => k) h.slt (fun x o k e => hnS o (e ▸ k))
  have hold : ∀ x, x < w.heap.size → x ≠ c.bl b → w'.heap[x]? = w.heap[x]? := fun x hx hne => hch.blk x hx hne
  have hrow : s'.row = s.row := by subst hs'; rfl
  have hout : s'.out = s.out := by subst hs'; rfl
  have hsome : ∀ i, (s'.box i).isSome = true → (s.box i).isSome = true := fun i hi => by
    by_cases e : i = b
    · subst e; exact hbs
    · subst hs'; simpa [put_other _ _ e] using hi
  have hBb := h.boxB b hbs
  refine ⟨?_, hle, hk⟩
  exact {
    box := fun i x e => by
      by_cases hi : i = b
      · subst hi
        have : cs = x := by subst hs'; simpa using e
        subst this
        exact ⟨vs, T, hg, hv.mono fun _ _ k => k.keep hle hk⟩
      · have e' : s.box i = some x := by subst hs'; simpa [put_other _ _ hi] using e
        exact (h.box i x e').keep hle hk (hold _ (h.box i x e').lt fun q => hi (h.boxne i b (by simp [e']) hbs q))
    boxB := fun i e => h.boxB i (hsome i e)
    boxS := fun i e => h.boxS i (hsome i e)
    boxne := fun i j hi hj e => h.boxne i j (hsome i hi) (hsome j hj) e
    row := fun i r e => by
      rw [hrow] at e
      exact (h.row i r e).keep hle hk (fun g hg => hold g ((h.row i r e).lt hg).1 fun q => h.rowbox i b (by simp [e]) hbs (q ▸ hg)) (fun _ _ _ => Iff.rfl)
    rowne := by rw [hrow]; exact h.rowne
    rowbox := fun i j hi hj => by rw [hrow] at hi; exact h.rowbox i j hi (hsome j hj)
    out := fun j x e => by
      rw [hout] at e
      exact (h.out j x e).keep hle hk (hold _ (h.out j x e).lt fun q => by have := h.outB j (List.getElem?_eq_some_iff.1 e).1; omega)
    outB := by rw [hout]; exact h.outB
    outS := by rw [hout]; exact h.outS
    outne := by rw [hout]; exact h.outne
    old := fun g hg ho => by
      rw [hout] at ho
      exact (hold g (Nat.lt_of_lt_of_le hg h.size) (by omega)).trans (h.old g hg ho)
    size := Nat.le_trans h.size hch.size
    os := hch.os.trans h.os
    tape := hch.tape.trans h.tape
    output := hch.output.trans h.output
    s0 := h.s0
    sold := h.sold
    slt := fun g o k => Nat.lt_of_lt_of_le (h.slt g o k) hch.size }

/-- A caller's box is written. -/
theorem Inv.setOut (h : Inv om W0 S0 s c w) (b : Nat) (hb : b < s.out.length) (cs : List V) {w' : World} (hch : Chg (fun x => x = om b) w w')
    (vs : List Value) (T : TypeId) (hg : w'.heap[om b]? = some (.cells vs.toArray T (0, 0))) (hv : All2 (RD (cxOf om s c) c.S w) vs cs) {s' : St} (hs' : s' = { s with out := s.out.set b cs }) :
    Inv om W0 S0 s' c w' ∧ (cxOf om s c).le (cxOf om s' c) ∧ Keeps c.S w c.S w' := by
  have hle : (cxOf om s c).le (cxOf om s' c) := by
    subst hs'
    exact cx_le (fun _ => Nat.le_refl _) (fun i e hs => ⟨hs, rfl⟩) (fun _ => Nat.le_refl _) (fun i _ r' hr' => ⟨r', hr', Nat.le_refl _, rfl⟩)
  have hBb := h.outB b hb
  have hk : Keeps c.S w c.S w' := hch.keeps (fun _ _ k => k) h.slt (fun x o k e => h.outS b hb o (e ▸ k))
  have hold : ∀ x, x < w.heap.size → x ≠ om b → w'.heap[x]? = w.heap[x]? := fun x hx hne => hch.blk x hx hne
  have hrow : s'.row = s.row := by subst hs'; rfl
  have hbox : s'.box = s.box := by subst hs'; rfl
  have hlen : s'.out.length = s.out.length := by subst hs'; simp
  refine ⟨?_, hle, hk⟩
  exact {
    box := fun i x e => by
      rw [hbox] at e
      exact (h.box i x e).keep hle hk (hold _ (h.box i x e).lt fun q => by have := h.boxB i (by simp [e]); omega)
    boxB := by rw [hbox]; exact h.boxB
    boxS := by rw [hbox]; exact h.boxS
    boxne := by rw [hbox]; exact h.boxne
    row := fun i r e => by
      rw [hrow] at e
      exact (h.row i r e).keep hle hk (fun g hg => hold g ((h.row i r e).lt hg).1 fun q => by have := ((h.row i r e).lt hg).2; omega) (fun _ _ _ => Iff.rfl)
    rowne := by rw [hrow]; exact h.rowne
    rowbox := by rw [hrow, hbox]; exact h.rowbox
    out := fun j x e => by
      by_cases hj : j = b
      · subst hj
        have : cs = x := by subst hs'; simpa [hb] using e
        subst this
        exact ⟨vs, T, hg, hv.mono fun _ _ k => k.keep hle hk⟩
      · have e' : s.out[j]? = some x := by subst hs'; simpa [List.getElem?_set, Ne.symm hj] using e
        exact (h.out j x e').keep hle hk (hold _ (h.out j x e').lt fun q => hj (h.outne j b (List.getElem?_eq_some_iff.1 e').1 hb q))
    outB := by rw [hlen]; exact h.outB
    outS := by rw [hlen]; exact h.outS
    outne := by rw [hlen]; exact h.outne
    old := fun g hg ho => by
      rw [hlen] at ho
      exact (hold g (Nat.lt_of_lt_of_le hg h.size) (ho b hb)).trans (h.old g hg ho)
    size := Nat.le_trans h.size hch.size
    os := hch.os.trans h.os
    tape := hch.tape.trans h.tape
    output := hch.output.trans h.output
    s0 := h.s0
    sold := h.sold
    slt := fun g o k => Nat.lt_of_lt_of_le (h.slt g o k) hch.size }
end
end Go.Ev
