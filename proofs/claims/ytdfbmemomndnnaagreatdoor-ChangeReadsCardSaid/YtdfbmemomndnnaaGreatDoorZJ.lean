/-
  An oracle out of a table of calls, each with its answer; and one that asks one oracle after another.
-/
import Derived.Test.YtdfbmemomndnnaaGreatDoorZH
import Derived.Test.YtdfbmemomndnnaaGreatDoorZI
namespace Go.Ev

def veqC : V → V → Bool
  | .int k n, .int k' n' => decide (k = k') && decide (n = n')
  | .bool a, .bool b => a == b
  | .str a, .str b => a == b
  | .nilErr, .nilErr => true
  | .sl .ava [], .sl .ava [] => true
  | .sl .mod [], .sl .mod [] => true
  | .sl .str [], .sl .str [] => true
  | _, _ => false
theorem veqC_ok {a b : V} (h : veqC a b = true) : a = b := by
  unfold veqC at h
  split at h <;> first
    | rfl
    | (cases h; done)
    | (simp only [Bool.and_eq_true, decide_eq_true_eq] at h; rw [h.1, h.2])
    | (rw [eq_of_beq h])
def veqCs : List V → List V → Bool
  | [], [] => true
  | a :: r, b :: q => veqC a b && veqCs r q
  | _, _ => false
theorem veqCs_ok : ∀ {a b : List V}, veqCs a b = true → a = b
  | [], [], _ => rfl
  | a :: r, b :: q, h => by
    simp only [veqCs, Bool.and_eq_true] at h
    rw [veqC_ok h.1, veqCs_ok h.2]
  | [], _ :: _, h => by cases h
  | _ :: _, [], h => by cases h
def veq : V → V → Bool
  | .agg a, .agg b => veqCs a b
  | a, b => veqC a b
theorem veq_ok {a b : V} (h : veq a b = true) : a = b := by
  unfold veq at h
  split at h
  · rw [veqCs_ok h]
  · exact veqC_ok h
def veqs : List V → List V → Bool
  | [], [] => true
  | a :: r, b :: q => veq a b && veqs r q
  | _, _ => false
theorem veqs_ok : ∀ {a b : List V}, veqs a b = true → a = b
  | [], [], _ => rfl
  | a :: r, b :: q, h => by
    simp only [veqs, Bool.and_eq_true] at h
    rw [veq_ok h.1, veqs_ok h.2]
  | [], _ :: _, h => by cases h
  | _ :: _, [], h => by cases h

/-- Calls without outer boxes, and their answers. -/
def tbl : List (FuncId × List V × V) → Orc
  | [], _, _, _ => none
  | (g, xs, r) :: l, f, args, outs => bif Nat.beq f g && veqs args xs then (match outs with | [] => some (true, r, []) | _ => none) else tbl l f args outs
def orElse (C D : Orc) : Orc := fun f args outs => match C f args outs with
  | some r => some r
  | none => D f args outs
section
variable {P : Program} {T : Tab}
theorem tbl_ok : ∀ {l : List (FuncId × List V × V)}, (∀ x ∈ l, Answers P T x.1 x.2.1 [] x.2.2 []) → OrcOk P T (tbl l)
  | [], _, _, _, _, _, _, h => by cases h
  | (g, xs, r) :: l, hl, f, args, outs, r', outs', h => by
    simp only [tbl] at h
    cases hb : Nat.beq f g && veqs args xs with
    | false => rw [hb] at h; exact tbl_ok (fun x hx => hl x (by simp [hx])) f args outs r' outs' h
    | true =>
      rw [hb] at h
      simp only [Bool.and_eq_true] at hb
      obtain rfl := natbeq hb.1
      obtain rfl := veqs_ok hb.2
      simp only [cond_true] at h
      split at h
      · simp only [Option.some.injEq, Prod.mk.injEq, true_and] at h
        obtain ⟨rfl, rfl⟩ := h
        exact hl (f, args, r) List.mem_cons_self
      · cases h
theorem orElse_ok {C D : Orc} (h1 : OrcOk P T C) (h2 : OrcOk P T D) : OrcOk P T (orElse C D) := fun f args outs r outs' h => by
  unfold orElse at h
  split at h
  · rename_i q hq
    simp only [Option.some.injEq] at h
    subst h
    exact h1 f args outs _ _ hq
  · exact h2 f args outs r outs' h

/-- The program's own functions, so many calls deep. -/
noncomputable def deep (P : Program) (E : Env) (C : Orc) (rounds : Nat) : Nat → Orc
  | 0 => fun _ _ _ => none
  | n + 1 => orElse C fun f args outs => match P.funcs[f]? with
    | some fn => (evalBody E (deep P E C rounds n) f fn rounds args outs).map fun r => (true, r.1, r.2)
    | none => none
theorem deep_ok {E : Env} (hE : EnvOk P E) (hm : P.follows .mixedOrders = true) (hnm : P.funcs.toList.all (fun fn => !(fn.name == "runtime.NumGoroutine")) = true) {C : Orc} (hC : OrcOk P T C) (rounds : Nat) : ∀ n, OrcOk P T (deep P E C rounds n)
  | 0 => fun _ _ _ _ _ h => by cases h
  | n + 1 => orElse_ok hC fun f args outs r outs' h => by
    split at h
    · rename_i fn hf
      have := List.all_eq_true.1 hnm fn (Array.mem_toList_iff.2 (Array.mem_of_getElem? hf))
      cases he : evalBody E (deep P E C rounds n) f fn rounds args outs with
      | none => rw [he] at h; cases h
      | some q =>
        obtain ⟨r1, o1⟩ := q
        rw [he] at h
        simp only [Option.map_some, Option.some.injEq, Prod.mk.injEq, true_and] at h
        obtain ⟨rfl, rfl⟩ := h
        exact body_ok hE (deep_ok hE hm hnm hC rounds n) hm hf (by simpa using this) he
    · cases h
end
end Go.Ev
/-
  This program's own facts: the orders that it follows, its functions' names.
-/
namespace Go.Ev
open Go.Proofs
theorem mixedOk : Tryz.prog.follows .mixedOrders = true := by kernel_rfl
theorem namesOk : Tryz.prog.funcs.toList.all (fun fn => !(fn.name == "runtime.NumGoroutine")) = true := by kernel_rfl
/-- The functions over given ones. -/
noncomputable abbrev over (C : Orc) (n : Nat) : Orc := deep Tryz.prog E C 200 n
theorem over_ok {T : Tab} {C : Orc} (hC : OrcOk Tryz.prog T C) (n : Nat) : OrcOk Tryz.prog T (over C n) := deep_ok envOk mixedOk namesOk hC 200 n
end Go.Ev
/-
  slices.Clone, as this program has it three times.
-/
namespace Go.Ev
open Go.Proofs
def noOrc : Orc := fun _ _ _ => none
theorem noOrc_ok {P : Program} {T : Tab} : OrcOk P T noOrc := fun _ _ _ _ _ h => by cases h
theorem f40_at : Tryz.prog.funcs[40]? = some Tryz.f40 := by kernel_rfl
theorem f41_at : Tryz.prog.funcs[41]? = some Tryz.f41 := by kernel_rfl
theorem f42_at : Tryz.prog.funcs[42]? = some Tryz.f42 := by kernel_rfl
theorem clone40_emp : ∀ b, evalBody E noOrc 40 Tryz.f40 5 [.emp b] [] = some (.sl .ava [], []) := fun b => by cases b <;> kernel_rfl
theorem clone41_emp : ∀ b, evalBody E noOrc 41 Tryz.f41 5 [.emp b] [] = some (.sl .mod [], []) := fun b => by cases b <;> kernel_rfl
theorem clone42_emp : ∀ b, evalBody E noOrc 42 Tryz.f42 5 [.emp b] [] = some (.sl .str [], []) := fun b => by cases b <;> kernel_rfl
theorem clone40_cons (x : El .ava) (xs : List (El .ava)) : evalBody E noOrc 40 Tryz.f40 5 [.sl .ava (x :: xs)] [] = bif Nat.ble (0 + (x :: xs).length) rowLim then some (.sl .ava (x :: xs), []) else none := by kernel_rfl
theorem clone41_cons (x : El .mod) (xs : List (El .mod)) : evalBody E noOrc 41 Tryz.f41 5 [.sl .mod (x :: xs)] [] = bif Nat.ble (0 + (x :: xs).length) rowLim then some (.sl .mod (x :: xs), []) else none := by kernel_rfl
theorem clone42_cons (x : El .str) (xs : List (El .str)) : evalBody E noOrc 42 Tryz.f42 5 [.sl .str (x :: xs)] [] = bif Nat.ble (0 + (x :: xs).length) rowLim then some (.sl .str (x :: xs), []) else none := by kernel_rfl
theorem clone_ans {T : Tab} {f : FuncId} {fn : Func} {k : K} (hf : Tryz.prog.funcs[f]? = some fn) (h0 : ∀ b, evalBody E noOrc f fn 5 [.emp b] [] = some (.sl k [], []))
    (h1 : ∀ x xs, evalBody E noOrc f fn 5 [.sl k (x :: xs)] [] = bif Nat.ble (0 + (x :: xs).length) rowLim then some (.sl k (x :: xs), []) else none)
    (hnm : (fn.name == "runtime.NumGoroutine") = false) (xs : List (El k)) (hl : xs.length ≤ rowLim) : Answers Tryz.prog T f [.sl k xs] [] (.sl k xs) [] := by
  cases xs with
  | cons x xs =>
    refine body_ok (n := 5) envOk noOrc_ok mixedOk hf hnm ?_
    rw [h1, Nat.zero_add, Nat.ble_eq_true_of_le hl]; rfl
  | nil =>
    intro om S w vals hargs houts hod hS hne hlt htb
    cases vals with
    | nil => exact hargs.elim
    | cons v vs =>
      cases vs with
      | cons _ _ => exact hargs.2.elim
      | nil =>
        obtain ⟨a, c, hv, _, _⟩ := RD_iff.1 hargs.1
        have hb : Answers Tryz.prog T f [.emp a.isNone] [] (.sl k []) [] := body_ok (n := 5) envOk noOrc_ok mixedOk hf hnm (h0 _)
        exact hb om S w [v] ⟨RD_iff.2 ⟨a, c, hv, rfl⟩, trivial⟩ houts hod hS hne hlt htb
end Go.Ev
