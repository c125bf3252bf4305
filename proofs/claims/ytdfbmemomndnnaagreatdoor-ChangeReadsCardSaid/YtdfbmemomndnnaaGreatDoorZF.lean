/-
  An operation with what comes behind it is the operation, then what comes behind it.
-/
import Derived.Test.YtdfbmemomndnnaaGreatDoorZE
namespace Go.Ev
section
variable {R : Type} {E : Env} {C : Orc} {s : St} {r : R}
theorem of_bif0 {α : Type} {b : Bool} {x : Option α} {y : α} (h : (bif b then none else x) = some y) : b = false ∧ x = some y := by
  cases b
  · exact ⟨rfl, h⟩
  · cases h
theorem natIxK_ok {n : Int} {len : Nat} {k : Nat → Option R} (h : natIxK n len k = some r) : ∃ j, natIx n len = some j ∧ k j = some r := by
  unfold natIxK at h
  obtain ⟨h1, h⟩ := of_bif h
  obtain ⟨h2, h⟩ := of_bif h
  exact ⟨_, by unfold natIx; rw [h1, h2]; rfl, h⟩
theorem boundsK_ok {len : Nat} {lo hi : Option V} {k : Nat × Nat → Option R} (h : boundsK len lo hi k = some r) : ∃ p, bounds len lo hi = some p ∧ k p = some r := by
  have key : ∀ h', loK h' lo k = some r → ∃ p, ((match lo with
     | none => some 0
     | some (.int _ l) => bif decide (0 ≤ l) then (bif decide (l ≤ (h' : Int)) then some l.toNat else none) else none
     | some _ => none : Option Nat).bind fun l => some (l, h')) = some p ∧ k p = some r := fun h' hh => by
    unfold loK at hh
    split at hh
    · exact ⟨_, rfl, hh⟩
    · obtain ⟨h1, hh⟩ := of_bif hh
      obtain ⟨h2, hh⟩ := of_bif hh
      exact ⟨_, by simp only [h1, h2, cond_true, Option.bind_some], hh⟩
    · cases hh
  unfold boundsK at h
  unfold bounds
  split at h
  · exact key _ h
  · obtain ⟨h1, h⟩ := of_bif h
    obtain ⟨h2, h⟩ := of_bif h
    obtain ⟨p, hp, hk⟩ := key _ h
    exact ⟨p, by simp only [h1, h2, cond_true, Option.bind_some]; exact hp, hk⟩
  · cases h
theorem binK_ok {q : Nat} {op : BinOp} {x y : V} {k : V → Option R} (h : binK q op x y k = some r) : ∃ v, binEff q op x y = some v ∧ k v = some r := by
  unfold binK at h
  split at h
  · split at h
    · rename_i hk
      obtain ⟨h1, h⟩ := of_bif0 h
      subst hk
      exact ⟨_, by simp only [binEff, if_true, intOp, h1, cond_false], h⟩
    · cases h
  · split at h
    · rename_i hk
      obtain ⟨h1, h⟩ := of_bif0 h
      subst hk
      exact ⟨_, by simp only [binEff, if_true, intOp, h1, cond_false], h⟩
    · cases h
  · obtain ⟨h1, h⟩ := of_bif0 h
    exact ⟨_, by simp only [binEff, shiftOp, h1, cond_false], h⟩
  · obtain ⟨h1, h⟩ := of_bif0 h
    exact ⟨_, by simp only [binEff, shiftOp, h1, cond_false], h⟩
  · obtain ⟨h1, h⟩ := of_bif h
    exact ⟨_, by simp only [binEff, strOp, h1, cond_true], h⟩
  · exact of_bind h
theorem callK_ok {f : FuncId} {args : List V} {k : Eff → Option R} (h : callK C s f args k = some r) : ∃ e, callEff C s f args = some e ∧ k e = some r := by
  unfold callK at h
  obtain ⟨q, h1, h⟩ := of_bind h
  obtain ⟨os, h2, h⟩ := of_bind h
  obtain ⟨a, h3, h⟩ := of_bind h
  obtain ⟨h4, h⟩ := of_bif h
  exact ⟨_, by unfold callEff; rw [h1]; simp only [Option.bind_some]; rw [h2]; simp only [Option.bind_some]; rw [h3]; simp only [Option.bind_some, h4, cond_true], h⟩

theorem effK_eff {o : Oper} {k : Eff → Option R} (h : effK E C s o k = some r) : ∃ e, eff E C s o = some e ∧ k e = some r := by
  obtain ⟨d, op, ty, pos, af, g⟩ := o
  cases op with
  | binOp op t x y yt =>
    simp only [effK] at h
    cases h1 : isNilSl y with
    | true => rw [h1] at h; exact of_bind h
    | false =>
      cases h2 : isNilI x || isNilI y with
      | true => rw [h1, h2] at h; exact of_bind h
      | false =>
        rw [h1, h2] at h
        simp only [Bool.or_self, cond_false] at h
        obtain ⟨v, h3, h4⟩ := binK_ok h
        exact ⟨_, by simp only [eff, h1, h2, cond_false, h3, Option.bind_some, plain], h4⟩
  | slice t x lo hi mx =>
    cases mx with
    | some m => exact of_bind h
    | none =>
      simp only [effK] at h
      split at h
      · rename_i b hx
        obtain ⟨h1, h⟩ := of_bif h
        obtain ⟨p, h2, h3⟩ := boundsK_ok h
        exact ⟨_, by simp only [eff, hx, h1, cond_true, h2, Option.bind_some, plain], h3⟩
      · rename_i kk xs hx
        obtain ⟨h1, h⟩ := of_bif h
        obtain ⟨p, h2, h3⟩ := boundsK_ok h
        exact ⟨_, by simp only [eff, hx, h1, cond_true, h2, Option.bind_some, plain], h3⟩
      · cases h
  | indexAddr t x i =>
    simp only [effK] at h
    split at h
    · rename_i ki n hi
      split at h
      · rename_i kk xs hx
        obtain ⟨h1, h⟩ := of_bif h
        obtain ⟨p, h2, h3⟩ := natIxK_ok h
        exact ⟨_, by simp only [eff, hi, hx, h1, cond_true, h2, Option.bind_some, plain], h3⟩
      · rename_i id v hx
        obtain ⟨h1, h⟩ := of_bif h
        split at h
        · rename_i xs hr
          obtain ⟨h4, h⟩ := of_bif h
          obtain ⟨p, h2, h3⟩ := natIxK_ok h
          exact ⟨_, by simp only [eff, hi, hx, h1, hr, h4, cond_true, h2, Option.bind_some], h3⟩
        · rename_i kk xs hnb hr
          obtain ⟨h4, h⟩ := of_bif h
          obtain ⟨p, h2, h3⟩ := natIxK_ok h
          refine ⟨_, ?_, h3⟩
          simp only [eff, hi, hx, h1, cond_true]
          rw [hr]
          cases kk <;> first | exact absurd hr (hnb _) | exact absurd rfl (hnb _) | exact absurd HEq.rfl (hnb _ rfl) | (simp only [h4, cond_true, h2, Option.bind_some])
        · cases h
      · rename_i b g2 p hx
        obtain ⟨h1, h⟩ := of_bif h
        obtain ⟨m, h4, h⟩ := of_bind h
        obtain ⟨p, h2, h3⟩ := natIxK_ok h
        exact ⟨_, by simp only [eff, hi, hx, h1, h4, cond_true, h2, Option.bind_some], h3⟩
      · cases h
    · cases h
  | index t x i =>
    simp only [effK] at h
    split at h
    · rename_i ki n b hi hx
      obtain ⟨h1, h⟩ := of_bif h
      obtain ⟨p, h2, h3⟩ := natIxK_ok h
      exact ⟨_, by simp only [eff, hi, hx, h1, cond_true, h2, Option.bind_some, plain], h3⟩
    · cases h
  | call cl =>
    obtain ⟨callee, as, ts⟩ := cl
    cases callee with
    | value f =>
      simp only [effK] at h
      split at h
      · rename_i g2 caps hf
        obtain ⟨e, h1, h2⟩ := callK_ok h
        exact ⟨e, by simp only [eff, hf]; exact h1, h2⟩
      · cases h
    | builtin b =>
      cases b with
      | append =>
        simp only [effK] at h
        split at h
        · rename_i x y t t2 hal htl
          split at h
          · rename_i id v hx
            obtain ⟨h1, h⟩ := of_bif h
            split at h
            · rename_i kk xs hr
              obtain ⟨h2, h⟩ := of_bif h
              obtain ⟨ys, h3, h⟩ := of_bind h
              obtain ⟨h4, h⟩ := of_bif h
              exact ⟨_, by simp only [eff, hal, htl, hx, h1, hr, h2, h3, h4, cond_true, Option.bind_some], h⟩
            · cases h
          · cases h
        · cases h
      | _ => exact of_bind h
    | invoke r n => exact of_bind h
  | _ => exact of_bind h
end
end Go.Ev
/-
  One operation, whatever it is: what the evaluator says of it is what the model does; a region whose order is the text's.
-/
namespace Go.Ev

/-- What holds at each point of a frame. -/
structure Ok (T : Tab) (om : Nat → Nat) (W0 : World) (S0 : Prot) (nt no : Nat) (s : St) (c : Cc) (w : World) (a : Act) : Prop where
  inv : Inv om W0 S0 s c w
  sl : ∀ t, RD (cxOf om s c) c.S w (a.tmps.getD t Go.undef) (s.sl t)
  nt : a.tmps.size = nt
  df : a.defers = []
  od : ∀ cs ∈ s.out, cs.all isDataC = true
  ol : s.out.length = no
  tb : ∀ g b, T g b → S0 g 0 ∧ g < W0.heap.size ∧ W0.heap[g]? = some b

theorem putBoxes_sl : ∀ (l : List (Nat × Nat × List V)) (s : St), (putBoxes l s).sl = s.sl ∧ (putBoxes l s).out = s.out
  | [], _ => ⟨rfl, rfl⟩
  | (_, _, _) :: l, _ => putBoxes_sl l _
theorem app_sl (e : Eff) (s : St) : (app none e s).sl = s.sl := by
  obtain ⟨h1, _⟩ := putBoxes_sl e.box (putRows e.row s)
  obtain ⟨_, _, _, h2⟩ := gen_putRows e.row s
  cases ho : e.out <;> simp [app, putDst, putOut, ho, h1, h2]
theorem app_out {e : Eff} (s : St) : (app none e s).out = (match e.out with | some o => o | none => s.out) := by
  obtain ⟨_, h1⟩ := putBoxes_sl e.box (putRows e.row s)
  obtain ⟨_, _, h2, _⟩ := gen_putRows e.row s
  cases ho : e.out <;> simp [app, putDst, putOut, ho, h1, h2]
theorem app_eq (d : Option Tmp) (e : Eff) (s : St) : app d e s = putDst d e.v (app none e s) := rfl
theorem putDst_out (d : Option Tmp) (v : V) (s : St) : (putDst d v s).out = s.out := by cases d <;> rfl

section
variable {P : Program} {T : Tab} {E : Env} {C : Orc} {om : Nat → Nat} {W0 : World} {S0 : Prot} {nt no : Nat} {s : St} {c : Cc} {w : World} {a : Act}

theorem Inv.setSl (h : Inv om W0 S0 s c w) (f : Nat → V) : Inv om W0 S0 { s with sl := f } c w := by
  exact ⟨h.box, h.boxB, h.boxS, h.boxne, h.row, h.rowne, h.rowbox, h.out, h.outB, h.outS, h.outne, h.old, h.size, h.os, h.tape, h.output, h.s0, h.sold, h.slt⟩

theorem dstOk_lt {d : Tmp} (h : dstOk nt (some d) = true) : d < nt := by
  have := Nat.le_of_ble_eq_true h
  exact this

/-- A step's end: its value goes into its slot. -/
theorem Ok.step (hok : Ok T om W0 S0 nt no s c w a) {s1 : St} {c' : Cc} {w' : World} (hi : Inv om W0 S0 s1 c' w') (hl : (cxOf om s c).le (cxOf om s1 c')) (hk : Keeps c.S w c'.S w') (hsl : s1.sl = s.sl)
    (hod : ∀ cs ∈ s1.out, cs.all isDataC = true) (hol : s1.out.length = s.out.length) {d : Option Tmp} (hd : dstOk nt d = true) {v : Value} {x : V} (hv : RD (cxOf om s1 c') c'.S w' v x) :
    Ok T om W0 S0 nt no (putDst d x s1) c' w' (a.put d v) := by
  cases d with
  | none =>
    exact ⟨hi, fun t => by show RD _ _ _ _ (s1.sl t); rw [hsl]; exact (hok.sl t).keep hl hk, hok.nt, hok.df, hod, hol.trans hok.ol, hok.tb⟩
  | some d =>
    have hlt := dstOk_lt hd
    refine ⟨hi.setSl _, fun t => ?_, by simp [Act.put, hok.nt], hok.df, hod, hol.trans hok.ol, hok.tb⟩
    show RD (cxOf om s1 c') c'.S w' _ (put d x s1.sl t)
    by_cases ht : t = d
    · subst ht
      have hlt' : t < a.tmps.size := by rw [hok.nt]; exact hlt
      simpa [Act.put, hlt'] using hv
    · rw [put_other _ _ ht, hsl]
      have : (a.put (some d) v).tmps.getD t Go.undef = a.tmps.getD t Go.undef := by
        simp only [Act.put, Array.getD_eq_getD_getElem?]
        rw [Array.getElem?_setIfInBounds_ne (Ne.symm ht)]
      rw [this]
      exact (hok.sl t).keep hl hk

theorem Ok.skip (hok : Ok T om W0 S0 nt no s c w a) {d : Option Tmp} (hd : dstOk nt d = true) : Ok T om W0 S0 nt no (putDst d (.tup []) s) c w (a.put d Go.undef) :=
  hok.step hok.inv (Cx.le_refl _) (Keeps.refl _ _) rfl hok.od rfl hd (v := Go.undef) (RD_iff.2 ⟨[], rfl, trivial⟩)

/-- An operation that acts without a call of Go code. -/
theorem wp_of_good (hok : Ok T om W0 S0 nt no s c w a) {o : Oper} {e : Eff} (hd : dstOk nt o.dst = true) (hod : ∀ cs ∈ (app none e s).out, cs.all isDataC = true) (hol : (app none e s).out.length = s.out.length)
    (hg : Good P om W0 S0 s c w e (execOp a.eval o)) {K : Act → World → Prop} {Q : Exit → Act → World → Prop} (hK : ∀ c' w' a', Ok T om W0 S0 nt no (app o.dst e s) c' w' a' → K a' w') : o.wp P a w K Q := by
  obtain ⟨n, v, w', c', hrun, hn, hi, hl, hk, hv⟩ := hg
  have hfin : Ok T om W0 S0 nt no (app o.dst e s) c' w' (a.put o.dst v) := by
    rw [app_eq]
    exact hok.step hi hl hk (app_sl e s) hod hol hd hv
  unfold Oper.wp
  rw [hrun]
  rcases hn with rfl | ⟨rfl, rfl⟩
  · exact hK _ _ _ hfin
  · exact hK _ _ _ hfin

theorem setCells_data {cs new : List V} {o : Nat} (h : cs.all isDataC = true) (hn : new.all isDataC = true) : (setCells cs o new).all isDataC = true := by
  simp only [List.all_eq_true] at h hn ⊢
  intro x hx
  simp only [setCells, List.mem_append] at hx
  rcases hx with (hx | hx) | hx
  · exact h x (List.mem_of_mem_take hx)
  · exact hn x hx
  · exact h x (List.mem_of_mem_drop hx)
theorem still_out {e : Eff} (hok : Ok T om W0 S0 nt no s c w a) (ho : e.out = none) : (∀ cs ∈ (app none e s).out, cs.all isDataC = true) ∧ (app none e s).out.length = s.out.length := by
  rw [app_out, ho]; exact ⟨hok.od, rfl⟩
theorem plain_out {y : V} {e : Eff} (h : plain y = some e) : e.out = none := by
  simp only [plain, Option.some.injEq] at h; subst h; rfl

theorem store_out (hok : Ok T om W0 S0 nt no s c w a) {d : Option Tmp} {x y : Operand} {t ty : TypeId} {pos : String} {af : Array Edge} {g : Option (Nat × Bool)} {e : Eff} (he : eff E C s ⟨d, .store t x y, ty, pos, af, g⟩ = some e) :
    (∀ cs ∈ (app none e s).out, cs.all isDataC = true) ∧ (app none e s).out.length = s.out.length := by
  simp only [eff] at he
  split at he
  · obtain ⟨_, he⟩ := of_bif he
    obtain ⟨cs, _, he⟩ := of_bind he
    obtain ⟨_, he⟩ := of_bif he
    obtain ⟨_, he⟩ := of_bif he
    simp only [Option.some.injEq] at he
    subst he
    exact still_out hok rfl
  · rename_i j o _
    split at he
    · rename_i cs r hd
      obtain ⟨_, he⟩ := of_bif he
      obtain ⟨_, he⟩ := of_bif he
      obtain ⟨hda, he⟩ := of_bif he
      simp only [Option.some.injEq] at he
      subst he
      have hj : s.out[j]? = some cs := by
        have := congrArg (·[0]?) hd
        simpa [List.getElem?_drop] using this
      rw [app_out]
      refine ⟨fun x hx => ?_, by simp⟩
      simp only at hx
      rcases List.mem_or_eq_of_mem_set hx with hx | rfl
      · exact hok.od x hx
      · exact setCells_data (hok.od cs (List.mem_of_getElem? hj)) hda
    · cases he
  · split at he
    · obtain ⟨_, he⟩ := of_bif he
      split at he
      · obtain ⟨_, he⟩ := of_bif he
        simp only [Option.some.injEq] at he
        subst he
        exact still_out hok rfl
      · cases he
    · cases he
  · cases he

theorem argVs_ok (hE : EnvOk P E) (hs : ∀ t, RD (cxOf om s c) c.S w (a.tmps.getD t Go.undef) (s.sl t)) : ∀ (l : List Operand) (ts : List TypeId), All2 (RD (cxOf om s c) c.S w) (l.map a.eval) (argVs E s l ts)
  | [], ts => by cases ts <;> trivial
  | x :: l, [] => ⟨val_RD hs x, argVs_ok hE hs l []⟩
  | x :: l, t :: ts => by
    refine ⟨?_, argVs_ok hE hs l ts⟩
    simp only [argV]
    cases hn : isNilSl x with
    | false => exact val_RD hs x
    | true =>
      simp only [cond_true]
      rw [isNilSl_eval hn]
      split
      · exact ⟨1, trivial⟩
      · exact ⟨1, trivial⟩
      · exact RD_iff.2 ⟨none, 0, rfl, Nat.le_refl _, fun i x hx => by simp at hx⟩
      · exact ⟨1, trivial⟩

theorem wp_call (hE : EnvOk P E) (hC : OrcOk P T C) (hok : Ok T om W0 S0 nt no s c w a) {d : Option Tmp} {f : Operand} {as : Array Operand} {ts : Array TypeId} {ty : TypeId} {pos : String} {af : Array Edge} {g : Option (Nat × Bool)} {e : Eff}
    (he : eff E C s ⟨d, .call { callee := .value f, args := as, argTypes := ts }, ty, pos, af, g⟩ = some e) (hd : dstOk nt d = true)
    {K : Act → World → Prop} {Q : Exit → Act → World → Prop} (hK : ∀ c' w' a', Ok T om W0 S0 nt no (app d e s) c' w' a' → K a' w') : Oper.wp P ⟨d, .call { callee := .value f, args := as, argTypes := ts }, ty, pos, af, g⟩ a w K Q := by
  simp only [eff] at he
  have hf := val_RD hok.sl f
  split at he
  · rename_i fid caps hfv
    rw [hfv] at hf
    obtain ⟨cs, hev, hcs⟩ := RD_iff.1 hf
    have hargs : All2 (RD (cxOf om s c) c.S w) (as.toList.map a.eval ++ cs) (argVs E s as.toList ts.toList ++ caps) := (argVs_ok hE hok.sl as.toList ts.toList).append hcs
    have hdoes := good_call hC hok.inv hok.tb hok.od hargs he
    have hlen : (app none e s).out.length = s.out.length := by
      unfold callEff at he
      obtain ⟨⟨args', R⟩, hp, he⟩ := of_bind he
      obtain ⟨os, hg, he⟩ := of_bind he
      obtain ⟨⟨okb, r, os'⟩, hr, he⟩ := of_bind he
      obtain ⟨_, he⟩ := of_bif he
      simp only [Option.some.injEq] at he
      subst he
      rw [app_out]
      cases hq : refRo R with
      | false => rfl
      | true =>
        have : ∀ (R : List Ref) (os o : List (List V)), (refOuts R os o).length = o.length := by
          intro R
          induction R with
          | nil => intro os o; cases os <;> rfl
          | cons r R ih =>
            intro os o
            cases os with
            | nil => cases r <;> rfl
            | cons q os => cases r with
              | box b => exact ih os o
              | out j => exact (ih os (o.set j q)).trans List.length_set
        exact this _ _ _
    have hrun : (execOp a.eval ⟨d, .call { callee := .value f, args := as, argTypes := ts }, ty, pos, af, g⟩).run P w = (callFunc fid (as.toList.map a.eval ++ cs).toArray).run P w := by
      have harr : (as.map a.eval ++ cs.toArray) = (as.toList.map a.eval ++ cs).toArray := by
        apply Array.ext'; simp
      simp [execOp, resolve, invoke, hev, Deferred.ofValue, harr]
    have hfin : ∀ v w', (∃ c', Inv om W0 S0 (app none e s) c' w' ∧ (cxOf om s c).le (cxOf om (app none e s) c') ∧ Keeps c.S w c'.S w' ∧ RD (cxOf om (app none e s) c') c'.S w' v e.v ∧
      ∀ cs ∈ (app none e s).out, cs.all isDataC = true) → K (a.put d v) w' := fun v w' ⟨c', h1, h2, h3, h4, h5⟩ => by
      refine hK c' w' _ ?_
      rw [app_eq]
      exact hok.step h1 h2 h3 (app_sl e s) h5 hlen hd h4
    unfold Oper.wp
    rw [hrun]
    rcases hdoes with ⟨v, w', h1, h2⟩ | ⟨h1, h2⟩
    · rw [h1]; exact hfin v w' h2
    · rw [h1, Oper.upon_enter]
      exact Calls.mono h2 fun e' w' he' => by
        cases e' with
        | returned v => exact hfin v w' he'
        | panicked _ => exact he'.elim
        | outgrown => exact he'.elim
  · cases he

/-- ONE OPERATION. -/
theorem eff_ok (hE : EnvOk P E) (hC : OrcOk P T C) (hok : Ok T om W0 S0 nt no s c w a) {o : Oper} {e : Eff} (he : eff E C s o = some e) (hd : dstOk nt o.dst = true)
    {K : Act → World → Prop} {Q : Exit → Act → World → Prop} (hK : ∀ c' w' a', Ok T om W0 S0 nt no (app o.dst e s) c' w' a' → K a' w') : o.wp P a w K Q := by
  obtain ⟨d, op, ty, pos, af, g⟩ := o
  have hi := hok.inv
  have hs := hok.sl
  have use : e.out = none → Good P om W0 S0 s c w e (execOp a.eval ⟨d, op, ty, pos, af, g⟩) → Oper.wp P ⟨d, op, ty, pos, af, g⟩ a w K Q := fun ho hg =>
    wp_of_good hok hd (still_out hok ho).1 (still_out hok ho).2 hg hK
  cases op with
  | move x =>
    refine use ?_ ?_
    · simp only [eff] at he
      cases hn : isNilSl x <;> rw [hn] at he
      · exact plain_out he
      · obtain ⟨k, _, he⟩ := of_bind he; simp only [Option.some.injEq] at he; subst he; rfl
    · exact good_move (pos := pos) (af := af) (g := g) hi hs (by simpa only [eff] using he)
  | assign x =>
    refine use ?_ ?_
    · simp only [eff] at he
      cases hn : isNilSl x <;> rw [hn] at he
      · exact plain_out he
      · obtain ⟨k, _, he⟩ := of_bind he; simp only [Option.some.injEq] at he; subst he; rfl
    · exact good_move (pos := pos) (af := af) (g := g) hi hs (by simpa only [eff] using he)
  | pick x y z =>
    refine use ?_ (good_pick hi hs he)
    simp only [eff] at he
    split at he
    · exact plain_out he
    · cases he
  | alloc t =>
    refine use ?_ (good_alloc hE hi he)
    simp only [eff] at he
    obtain ⟨_, _, he⟩ := of_bind he
    simp only [Option.some.injEq] at he; subst he; rfl
  | box t x =>
    refine use ?_ (good_box hE hi hs he)
    simp only [eff] at he
    obtain ⟨_, he⟩ := of_bif he
    simp only [Option.some.injEq] at he; subst he; rfl
  | build t ps =>
    refine use ?_ (good_build hE hi hs he)
    simp only [eff] at he
    obtain ⟨_, _, he⟩ := of_bind he
    obtain ⟨_, _, he⟩ := of_bind he
    obtain ⟨_, _, he⟩ := of_bind he
    simp only [Option.some.injEq] at he; subst he; rfl
  | buildSlice t n ps =>
    refine use ?_ (good_buildSlice hE hi hs he)
    simp only [eff] at he
    obtain ⟨_, _, he⟩ := of_bind he
    obtain ⟨_, _, he⟩ := of_bind he
    obtain ⟨_, he⟩ := of_bif he
    obtain ⟨_, _, he⟩ := of_bind he
    simp only [Option.some.injEq] at he; subst he; rfl
  | load t x =>
    refine use ?_ (good_load hE hi hs he)
    simp only [eff] at he
    split at he
    · obtain ⟨_, he⟩ := of_bif he
      obtain ⟨_, _, he⟩ := of_bind he
      obtain ⟨_, _, he⟩ := of_bind he
      simp only [Option.some.injEq] at he; subst he; rfl
    · split at he
      · obtain ⟨_, _, he⟩ := of_bind he
        simp only [Option.some.injEq] at he; subst he; rfl
      · cases he
    · obtain ⟨_, _, he⟩ := of_bind he
      exact plain_out he
    · obtain ⟨_, he⟩ := of_bif he
      split at he
      · obtain ⟨_, he⟩ := of_bif he
        simp only [Option.some.injEq] at he; subst he; rfl
      · cases he
    · cases he
  | store t x y => exact wp_of_good hok hd (store_out hok he).1 (store_out hok he).2 (good_store hE hi hs he) hK
  | nilCheck x =>
    refine use ?_ (good_nilCheck hi hs he)
    simp only [eff] at he
    split at he
    · obtain ⟨_, he⟩ := of_bif he
      simp only [Option.some.injEq] at he; subst he; rfl
    · exact plain_out he
    · exact plain_out he
    · cases he
  | binOp op t x y yt =>
    refine use ?_ (good_binOp hE hi hs he)
    simp only [eff] at he
    obtain ⟨_, _, he⟩ := of_bind he
    exact plain_out he
  | unOp op t x =>
    refine use ?_ (good_unOp hi hs he)
    simp only [eff] at he
    obtain ⟨_, _, he⟩ := of_bind he
    exact plain_out he
  | convert src dst x =>
    refine use ?_ (good_convert hE hi hs he)
    simp only [eff] at he
    split at he
    · obtain ⟨_, _, he⟩ := of_bind he
      obtain ⟨_, _, he⟩ := of_bind he
      exact plain_out he
    · obtain ⟨_, he⟩ := of_bif he
      cases hd2 : E.str dst <;> rw [hd2] at he
      · simp only [cond_false] at he
        split at he
        · simp only [Option.some.injEq] at he; subst he; rfl
        · cases he
      · exact plain_out he
    · obtain ⟨_, he⟩ := of_bif he
      obtain ⟨_, he⟩ := of_bif he
      split at he
      · simp only [Option.some.injEq] at he; subst he; rfl
      · cases he
    · cases he
  | makeInterface t x =>
    refine use ?_ (good_makeInterface hE hi hs he)
    simp only [eff] at he
    split at he
    · obtain ⟨_, he⟩ := of_bif he
      exact plain_out he
    · cases he
  | makeFunc f x y =>
    cases f with
    | func f =>
      refine use ?_ (good_makeFunc hi hs he)
      simp only [eff] at he
      obtain ⟨_, he⟩ := of_bif he
      exact plain_out he
    | _ => simp [eff] at he
  | slice t x lo hi' mx =>
    cases mx with
    | some m => simp [eff] at he
    | none =>
      refine use ?_ (good_slice hE hi hs he)
      simp only [eff] at he
      split at he
      · obtain ⟨_, he⟩ := of_bif he
        obtain ⟨_, _, he⟩ := of_bind he
        exact plain_out he
      · obtain ⟨_, _, he⟩ := of_bind he
        obtain ⟨_, he⟩ := of_bif he
        exact plain_out he
      · cases he
  | fieldAddr t x f =>
    refine use ?_ (good_fieldAddr hE hi hs he)
    simp only [eff] at he
    obtain ⟨_, _, he⟩ := of_bind he
    split at he
    · obtain ⟨_, he⟩ := of_bif he
      simp only [Option.some.injEq] at he; subst he; rfl
    · exact plain_out he
    · exact plain_out he
    · cases he
  | indexAddr t x i =>
    refine use ?_ (good_indexAddr hE hi hs he)
    simp only [eff] at he
    split at he
    · split at he
      · obtain ⟨_, he⟩ := of_bif he
        obtain ⟨_, _, he⟩ := of_bind he
        exact plain_out he
      · obtain ⟨_, he⟩ := of_bif he
        split at he
        · obtain ⟨_, he⟩ := of_bif he
          obtain ⟨_, _, he⟩ := of_bind he
          simp only [Option.some.injEq] at he; subst he; rfl
        · obtain ⟨_, he⟩ := of_bif he
          obtain ⟨_, _, he⟩ := of_bind he
          simp only [Option.some.injEq] at he; subst he; rfl
        · cases he
      · obtain ⟨_, he⟩ := of_bif he
        obtain ⟨_, _, he⟩ := of_bind he
        obtain ⟨_, _, he⟩ := of_bind he
        simp only [Option.some.injEq] at he; subst he; rfl
      · cases he
    · cases he
  | index t x i =>
    refine use ?_ (good_index hE hi hs he)
    simp only [eff] at he
    split at he
    · obtain ⟨_, he⟩ := of_bif he
      obtain ⟨_, _, he⟩ := of_bind he
      exact plain_out he
    · cases he
  | extract x i =>
    refine use ?_ (good_extract hi hs he)
    simp only [eff] at he
    split at he
    · split at he
      · exact plain_out he
      · cases he
    · cases he
  | call cl =>
    obtain ⟨callee, as, ts⟩ := cl
    cases callee with
    | value f => exact wp_call hE hC hok he hd hK
    | builtin b =>
      cases b with
      | len =>
        refine use ?_ (good_len hE hi hs he)
        simp only [eff] at he
        split at he
        · split at he
          · obtain ⟨_, he⟩ := of_bif he
            exact plain_out he
          · obtain ⟨_, he⟩ := of_bif he
            exact plain_out he
          · obtain ⟨_, he⟩ := of_bif he
            split at he
            · obtain ⟨_, he⟩ := of_bif he
              simp only [Option.some.injEq] at he; subst he; rfl
            · cases he
          · cases he
        · cases he
      | append =>
        refine use ?_ (good_append hE hi hs he)
        simp only [eff] at he
        split at he
        · split at he
          · obtain ⟨_, he⟩ := of_bif he
            split at he
            · obtain ⟨_, he⟩ := of_bif he
              obtain ⟨_, _, he⟩ := of_bind he
              obtain ⟨_, he⟩ := of_bif he
              simp only [Option.some.injEq] at he; subst he; rfl
            · cases he
          · cases he
        · cases he
      | max =>
        refine use ?_ (good_max hi hs he)
        simp only [eff] at he
        split at he
        · split at he
          · exact plain_out he
          · cases he
        · cases he
      | min =>
        refine use ?_ (good_min hi hs he)
        simp only [eff] at he
        split at he
        · split at he
          · exact plain_out he
          · cases he
        · cases he
      | _ => simp [eff] at he
    | invoke r n => simp [eff] at he
  | _ => simp [eff] at he

theorem yielded_of {ops : Array Oper} {j g : Nat} {b : Bool} (hj : (ops.toList[j]?).bind (·.dst) = some g) (hok : Ok T om W0 S0 nt no s c w a) (hg : s.sl g = .bool b) : yielded ops a.tmps j = some b := by
  have h := hok.sl g
  rw [hg] at h
  have hv : a.tmps.getD g Go.undef = .bool b := RD_iff.1 h
  have hj' : (ops[j]?).bind (·.dst) = some g := by simpa using hj
  have ht : a.tmps[g]? = some (.bool b) := by
    rw [Array.getD_eq_getD_getElem?] at hv
    cases hq : a.tmps[g]? with
    | none => rw [hq] at hv; cases hv
    | some u => rw [hq] at hv; exact congrArg some hv
  simp [yielded, hj', ht]

theorem yielded_none {ops : Array Oper} {j g : Nat} (hj : (ops.toList[j]?).bind (·.dst) = some g) (hok : Ok T om W0 S0 nt no s c w a) (hg : s.sl g = .tup []) : yielded ops a.tmps j = none := by
  have h := hok.sl g
  rw [hg] at h
  obtain ⟨vs, hv, hall⟩ := RD_iff.1 h
  have hvs : vs = [] := by cases vs with | nil => rfl | cons _ _ => exact hall.elim
  subst hvs
  have hj' : (ops[j]?).bind (·.dst) = some g := by simpa using hj
  have ht : a.tmps[g]? = none ∨ a.tmps[g]? = some (.tuple #[]) := by
    rw [Array.getD_eq_getD_getElem?] at hv
    cases hq : a.tmps[g]? with
    | none => exact .inl rfl
    | some u => rw [hq] at hv; exact .inr (congrArg some hv)
  rcases ht with ht | ht <;> simp [yielded, hj', ht]

theorem put_refine {g : Nat} {b : Bool} (hg : s.sl g = .bool b) : { s with sl := put g (.bool b) s.sl } = s := by
  rw [← hg, put_self]

/-- A REGION IN THE TEXT's ORDER. -/
theorem opsK_ok (hE : EnvOk P E) (hC : OrcOk P T C) {R : Type} {k : St → Option R} {r : R} {Q : Exit → Act → World → Prop} {ops : Array Oper}
    (hk : ∀ s' c' w' a', Ok T om W0 S0 nt no s' c' w' a' → k s' = some r → Q .normal a' w') :
    ∀ (l : List Oper) (s : St) (c : Cc) (w : World) (a : Act), opsK E C nt ops.toList l s k = some r → Ok T om W0 S0 nt no s c w a → wpList P ops Q l a w
  | [], s, c, w, a, he, hok => hk s c w a hok he
  | o :: l, s, c, w, a, he, hok => by
    simp only [opsK] at he
    obtain ⟨hd, he⟩ := of_bif he
    refine wpList_step fun K hK => ?_
    have act : ∀ e, eff E C s o = some e → opsK E C nt ops.toList l (app o.dst e s) k = some r → o.wp P a w K Q := fun e h1 h2 =>
      eff_ok hE hC hok h1 hd fun c' w' a' hok' => hK _ _ (opsK_ok hE hC hk l _ c' w' a' h2 hok')
    have pass : opsK E C nt ops.toList l (skipped o s) k = some r → K (a.put o.dst Go.undef) w := fun h2 => hK _ _ (opsK_ok hE hC hk l _ c w _ h2 (hok.skip hd))
    cases hg : o.guard with
    | none =>
      rw [hg] at he
      simp only at he
      obtain ⟨e, h1, h2⟩ := effK_eff he
      rw [if_pos (by simp [Region.wanted, hg])]
      exact act e h1 h2
    | some jw =>
      obtain ⟨j, want⟩ := jw
      rw [hg] at he
      simp only at he
      cases hj : (ops.toList[j]?).bind (·.dst) with
      | none => rw [hj] at he; cases he
      | some g =>
        rw [hj] at he
        simp only at he
        cases hsg : s.sl g with
        | bool b =>
          rw [hsg] at he
          simp only at he
          have hy := yielded_of hj hok hsg
          have href := put_refine hsg
          cases b <;> cases want <;> simp only [cond_true, cond_false, href] at he
          · obtain ⟨e, h1, h2⟩ := effK_eff he
            rw [if_pos (by simp [Region.wanted, hg, hy])]
            exact act e h1 h2
          · rw [if_neg (by simp [Region.wanted, hg, hy])]
            exact pass he
          · rw [if_neg (by simp [Region.wanted, hg, hy])]
            exact pass he
          · obtain ⟨e, h1, h2⟩ := effK_eff he
            rw [if_pos (by simp [Region.wanted, hg, hy])]
            exact act e h1 h2
        | tup vs =>
          rw [hsg] at he
          cases vs with
          | cons _ _ => cases he
          | nil =>
            have hy := yielded_none hj hok hsg
            rw [if_neg (by simp [Region.wanted, hg, hy])]
            exact pass he
        | _ => rw [hsg] at he; cases he
end
end Go.Ev
/-
  At a loop's head a state is spelled anew: what lives on keeps its reading.
-/
namespace Go.Ev

theorem look_map {α : Type} (d : α) (f : Nat → α) : ∀ (l : List Nat) (t : Nat), look d (l.map fun t => (t, f t)) t = bif isIn t l then f t else d
  | [], t => rfl
  | u :: l, t => by
    simp only [List.map_cons, look, isIn]
    cases hb : Nat.beq t u with
    | true => simp [natbeq hb]
    | false => simp only [cond_false]; exact look_map d f l t

theorem map_get {α β : Type} (f : α → β) (ys : List α) (i : Nat) (x : β) (h : (ys.map f)[i]? = some x) : ∃ p, ys[i]? = some p ∧ f p = x := by
  rw [List.getElem?_map] at h
  cases hp : ys[i]? with
  | none => rw [hp] at h; cases h
  | some p => rw [hp] at h; simp only [Option.map_some, Option.some.injEq] at h; exact ⟨p, rfl, h⟩
theorem enc_data {k : K} (hk : k ≠ .ptr) (x : El k) : (enc k x).all isDataC = true := by
  cases k <;> first | rfl | exact absurd rfl hk

section
variable {T : Tab} {om : Nat → Nat} {W0 : World} {S0 : Prot} {nt no : Nat} {s : St} {c : Cc} {w : World} {a : Act}

theorem restrict_box (l : List Nat × List Nat × List Nat) {b : Nat} {cs : List V} (h : (restrict l s).box b = some cs) : ∃ cs0, s.box b = some cs0 ∧ cs = cs0.map (normC s l.2.1 l.2.2) := by
  have h' : look none (l.2.1.map fun b => (b, (s.box b).map (·.map (normC s l.2.1 l.2.2)))) b = some cs := h
  rw [look_map none (fun b => (s.box b).map (·.map (normC s l.2.1 l.2.2)))] at h'
  cases hi : isIn b l.2.1 with
  | false => rw [hi] at h'; cases h'
  | true =>
    rw [hi] at h'
    simp only [cond_true] at h'
    cases hb : s.box b with
    | none => rw [hb] at h'; cases h'
    | some cs0 => rw [hb] at h'; simp only [Option.map_some, Option.some.injEq] at h'; exact ⟨cs0, rfl, h'.symm⟩
theorem restrict_row (l : List Nat × List Nat × List Nat) {b : Nat} {r : Row} (h : (restrict l s).row b = some r) : ∃ r0, s.row b = some r0 ∧ r = normR s l.2.1 r0 := by
  have h' : look none (l.2.2.map fun b => (b, bif refd l s b then (s.row b).map (normR s l.2.1) else none)) b = some r := h
  rw [look_map none (fun b => bif refd l s b then (s.row b).map (normR s l.2.1) else none)] at h'
  cases hi : isIn b l.2.2 with
  | false => rw [hi] at h'; cases h'
  | true =>
    rw [hi] at h'
    simp only [cond_true] at h'
    cases hrf : refd l s b with
    | false => rw [hrf] at h'; cases h'
    | true =>
    rw [hrf] at h'
    simp only [cond_true] at h'
    cases hb : s.row b with
    | none => rw [hb] at h'; cases h'
    | some cs0 => rw [hb] at h'; simp only [Option.map_some, Option.some.injEq] at h'; exact ⟨cs0, rfl, h'.symm⟩

theorem normR_len (bs : List Nat) (r : Row) : (normR s bs r).xs.length = r.xs.length ∧ (normR s bs r).k = r.k := by
  obtain ⟨k, xs⟩ := r
  cases k <;> first | exact ⟨rfl, rfl⟩ | exact ⟨List.length_map _, rfl⟩

theorem normP_RD (l : List Nat × List Nat × List Nat) {v : Value} {x : V} (h : RD (cxOf om s c) c.S w v x) : RD (cxOf om (restrict l s) c) c.S w v (normP s l.2.1 l.2.2 x) := by
  have U : RD (cxOf om (restrict l s) c) c.S w v .undef := ⟨1, trivial⟩
  have D : ∀ y, RD (cxOf om s c) c.S w v y → RD (cxOf om (restrict l s) c) c.S w v (bif isDataC y then y else .undef) := fun y hy => by
    cases hd : isDataC y with
    | true => exact hy.data hd
    | false => exact U
  cases x with
  | ptr b g o =>
    simp only [normP]
    cases hb : isIn b l.2.1 && Nat.beq g (s.gen b) with
    | false => exact U
    | true =>
      simp only [Bool.and_eq_true] at hb
      have h' := RD_iff.1 h
      refine RD_iff.2 ⟨h'.1, Nat.le_refl 1, fun _ hs => ?_⟩
      obtain ⟨cs, hcs⟩ := Option.isSome_iff_exists.1 hs
      obtain ⟨cs0, h0, _⟩ := restrict_box l hcs
      exact h'.2.2 (natbeq hb.2) (by simp [h0])
  | own id u =>
    simp only [normP]
    cases hb : isIn id l.2.2 && Nat.beq u (s.ver id) with
    | false => exact U
    | true =>
      simp only [Bool.and_eq_true] at hb
      have h' := RD_iff.1 h
      refine RD_iff.2 ⟨h'.1, Nat.le_refl 0, fun _ hs => ?_⟩
      obtain ⟨r, hr⟩ := Option.isSome_iff_exists.1 hs
      obtain ⟨r0, h0, _⟩ := restrict_row l hr
      exact h'.2.2 (natbeq hb.2) (by simp [h0])
  | optr j o =>
    have h' : v = .pointer (some ⟨om j, o, none⟩) := RD_iff.1 h
    exact RD_iff.2 h'
  | dptr cs o =>
    simp only [normP]
    cases hd : cs.all isDataC with
    | false => exact U
    | true =>
      obtain ⟨g, p, vs, e, q, r⟩ := RD_iff.1 h
      exact RD_iff.2 ⟨g, p, vs, e, all2_data hd q, r⟩
  | tup vs =>
    simp only [normP]
    cases hd : vs.all isData with
    | false => exact U
    | true =>
      obtain ⟨us, e, q⟩ := RD_iff.1 h
      exact RD_iff.2 ⟨us, e, all2_data' hd q⟩
  | _ => exact D _ h
theorem normC_RD (l : List Nat × List Nat × List Nat) {v : Value} {x : V} (h : RD (cxOf om s c) c.S w v x) : RD (cxOf om (restrict l s) c) c.S w v (normC s l.2.1 l.2.2 x) := by
  cases x with
  | fn f caps =>
    obtain ⟨cs, e, q⟩ := RD_iff.1 h
    exact RD_iff.2 ⟨cs, e, q.mapR fun _ _ k => normP_RD l k⟩
  | _ => exact normP_RD l h
theorem normV_RD (l : List Nat × List Nat × List Nat) {v : Value} {x : V} (h : RD (cxOf om s c) c.S w v x) : RD (cxOf om (restrict l s) c) c.S w v (normV s l.2.1 l.2.2 x) := by
  cases x with
  | agg cs =>
    obtain ⟨vs, e, q⟩ := RD_iff.1 h
    exact RD_iff.2 ⟨vs, e, q.mapR fun _ _ k => normC_RD l k⟩
  | _ => exact normC_RD l h

theorem normR_ok (l : List Nat × List Nat × List Nat) {r : Row} {v : Value} (h : RowOK (cxOf om s c) c.S w W0.heap.size r v) : RowOK (cxOf om (restrict l s) c) c.S w W0.heap.size (normR s l.2.1 r) v := by
  obtain ⟨k, xs⟩ := r
  by_cases hk : k = .ptr
  · subst hk
    rcases h with ⟨e0, e1⟩ | ⟨g, cap, cur, T, lo, hi, e0, hB, hg, hcur, hcap, hfr, hel, hpr⟩
    · have e1 : xs = [] := e1
      subst e1
      exact .inl ⟨e0, rfl⟩
    · have hl : (normR s l.2.1 ⟨.ptr, xs⟩).xs.length = xs.length := (normR_len l.2.1 ⟨.ptr, xs⟩).1
      refine .inr ⟨g, cap, cur, T, lo, hi, by rw [hl]; exact e0, hB, hg, hcur, by rw [hl]; exact hcap, hfr, fun i x hx => ?_, fun o => ?_⟩
      · let f : Nat × Nat × Nat → Nat × Nat × Nat := fun p => bif isIn p.1 l.2.1 && Nat.beq p.2.1 (s.gen p.1) then (p.1, 1, p.2.2) else (p.1, 0, p.2.2)
        obtain ⟨p, hp, hx'⟩ := map_get (α := Nat × Nat × Nat) (β := Nat × Nat × Nat) f xs i x hx
        show ∃ vs, All2 (RD (cxOf om (restrict l s) c) c.S w) vs (enc .ptr x) ∧ _
        subst hx'
        obtain ⟨vs, hvs, hc⟩ := hel i p hp
        refine ⟨vs, ?_, hc⟩
        match vs, hvs with
        | [v], hvs =>
          refine ⟨?_, trivial⟩
          have h' := RD_iff.1 hvs.1
          have hb : RD (cxOf om (restrict l s) c) c.S w v (.ptr (f p).1 (f p).2.1 (f p).2.2) := by
            simp only [f]
            cases hb : isIn p.1 l.2.1 && Nat.beq p.2.1 (s.gen p.1) with
            | true =>
              simp only [Bool.and_eq_true] at hb
              refine RD_iff.2 ⟨h'.1, Nat.le_refl 1, fun _ hs => ?_⟩
              obtain ⟨cs, hcs⟩ := Option.isSome_iff_exists.1 hs
              obtain ⟨cs0, h0, _⟩ := restrict_box l hcs
              exact h'.2.2 (natbeq hb.2) (Option.isSome_iff_exists.2 ⟨cs0, h0⟩)
            | false => exact RD_iff.2 ⟨h'.1, Nat.zero_le 1, fun e => by cases e⟩
          exact hb
        | [], hvs => exact hvs.elim
        | _ :: _ :: _, hvs => exact hvs.2.elim
      · rw [hl]; exact hpr o
  · have hr : normR s l.2.1 ⟨k, xs⟩ = ⟨k, xs⟩ := by
      unfold normR
      split
      · rename_i heq
        cases heq
        exact absurd rfl hk
      · rfl
    rw [hr]
    rcases h with h | ⟨g, cap, cur, T, lo, hi, e0, hB, hg, hcur, hcap, hfr, hel, hpr⟩
    · exact .inl h
    · exact .inr ⟨g, cap, cur, T, lo, hi, e0, hB, hg, hcur, hcap, hfr, fun i x hx => by
        obtain ⟨vs, hvs, hc⟩ := hel i x hx
        exact ⟨vs, all2_data (enc_data hk x) hvs, hc⟩, hpr⟩

theorem restrict_ok (l : List Nat × List Nat × List Nat) (hok : Ok T om W0 S0 nt no s c w a) : Ok T om W0 S0 nt no (restrict l s) c w a := by
  have h := hok.inv
  have hb : ∀ b, ((restrict l s).box b).isSome = true → (s.box b).isSome = true := fun b hs => by
    obtain ⟨cs, hcs⟩ := Option.isSome_iff_exists.1 hs
    obtain ⟨cs0, h0, _⟩ := restrict_box l hcs
    simp [h0]
  have hr : ∀ b, ((restrict l s).row b).isSome = true → (s.row b).isSome = true := fun b hs => by
    obtain ⟨cs, hcs⟩ := Option.isSome_iff_exists.1 hs
    obtain ⟨cs0, h0, _⟩ := restrict_row l hcs
    simp [h0]
  refine ⟨{ h with
    box := fun b cs e => ?_
    boxB := fun b e => h.boxB b (hb b e)
    boxS := fun b e => h.boxS b (hb b e)
    boxne := fun b b' e e' => h.boxne b b' (hb b e) (hb b' e')
    row := fun i r e => ?_
    rowne := fun i j e e' => h.rowne i j (hr i e) (hr j e')
    rowbox := fun i b e e' => h.rowbox i b (hr i e) (hb b e')
    out := fun j cs e => ?_ }, fun t => ?_, hok.nt, hok.df, hok.od, hok.ol, hok.tb⟩
  · obtain ⟨cs0, h0, rfl⟩ := restrict_box l e
    obtain ⟨vs, T, hg, hv⟩ := h.box b cs0 h0
    exact ⟨vs, T, hg, hv.mapR fun _ _ k => normC_RD l k⟩
  · obtain ⟨r0, h0, rfl⟩ := restrict_row l e
    exact normR_ok l (h.row i r0 h0)
  · exact (h.out j cs e).data (hok.od cs (List.mem_of_getElem? e))
  · show RD _ _ _ _ (look .undef (l.1.map fun t => (t, normV s l.2.1 l.2.2 (s.sl t))) t)
    rw [look_map .undef (fun t => normV s l.2.1 l.2.2 (s.sl t))]
    cases isIn t l.1 with
    | false => exact ⟨1, trivial⟩
    | true => exact normV_RD l (hok.sl t)
end
end Go.Ev
/-
  What an operation does hangs on what it looks at alone.
-/
namespace Go.Ev

/-- The other state agrees at a row, at a box. -/
def SameRow (s s' : St) (i : Nat) : Prop := s'.row i = s.row i ∧ s'.ver i = s.ver i
def SameBox (s s' : St) (b : Nat) : Prop := s'.box b = s.box b ∧ s'.gen b = s.gen b
section
variable {E : Env} {C : Orc} {s s' : St}

theorem escC_frame {x : V} (h : ∀ i ∈ escC1 x, SameRow s s' i) : escC s' x = escC s x := by
  cases x with
  | own id v =>
    have := h id (by simp [escC1])
    simp only [escC, this.1, this.2]
  | _ => rfl
theorem map_escC_frame : ∀ {l : List V}, (∀ i ∈ l.flatMap escC1, SameRow s s' i) → l.map (escC s') = l.map (escC s)
  | [], _ => rfl
  | x :: l, h => by
    simp only [List.flatMap_cons, List.mem_append] at h
    simp only [List.map_cons, escC_frame fun i hi => h i (.inl hi), map_escC_frame fun i hi => h i (.inr hi)]
theorem esc_frame {x : V} (h : ∀ i ∈ esc1 x, SameRow s s' i) : esc s' x = esc s x := by
  cases x with
  | agg cs => simp only [esc]; rw [map_escC_frame h]
  | own id v =>
    show escC s' (.own id v) = escC s (.own id v)
    exact escC_frame h
  | _ => rfl

theorem zeroCells_frame : ∀ (zs : List Z) (base i : Nat), (∀ x ∈ (zeroCells s base zs i).2, SameRow s s' x.1) → zeroCells s' base zs i = zeroCells s base zs i
  | [], _, _, _ => rfl
  | z :: zs, base, i, h => by
    cases z with
    | sl k =>
      simp only [zeroCells] at h ⊢
      have h0 := h _ (List.mem_cons_self)
      have h1 := zeroCells_frame zs base (i + 1) fun x hx => h x (List.mem_cons_of_mem _ hx)
      simp only at h0
      rw [h1, h0.2]
    | _ =>
      simp only [zeroCells] at h ⊢
      rw [zeroCells_frame zs base (i + 1) h]
theorem fillParts_frame {t : TypeId} : ∀ (ps : List (Nat × Operand)) (cs : List V), (∀ p ∈ ps, val s' p.2 = val s p.2) → fillParts E s' t ps cs = fillParts E s t ps cs
  | [], _, _ => rfl
  | (i, x) :: ps, cs, h => by
    have h0 := h (i, x) (by simp)
    have hr := fun cs => fillParts_frame (t := t) ps cs fun p hp => h p (by simp [hp])
    simp only at h0
    simp only [fillParts, h0, hr]
theorem cellsOf_rows {x : V} : ∀ i ∈ (cellsOf x).flatMap escC1, i ∈ esc1 x := by
  intro i hi
  cases x <;> first | exact hi | simpa [cellsOf, escC1, esc1] using hi
theorem escRows_mem {x : V} (hx : ∀ f cs, x ≠ .fn f cs) : ∀ {l : List V}, x ∈ l → ∀ i ∈ esc1 x, i ∈ escRows l
  | [], h, _, _ => by cases h
  | y :: l, h, i, hi => by
    rcases List.mem_cons.1 h with rfl | h
    · cases x <;> first | exact absurd rfl (hx _ _) | exact List.mem_append_left _ hi
    · have := escRows_mem hx h i hi
      cases y <;> exact List.mem_append_right _ this
theorem escRows_fn {f : FuncId} {cs : List V} : ∀ {l : List V}, V.fn f cs ∈ l → ∀ i ∈ cs.flatMap esc1, i ∈ escRows l
  | [], h, _, _ => by cases h
  | y :: l, h, i, hi => by
    rcases List.mem_cons.1 h with rfl | h
    · exact List.mem_append_left _ hi
    · have := escRows_fn h i hi
      cases y <;> exact List.mem_append_right _ this
theorem litParts_frame : ∀ (ps : List (Nat × Operand)) (j : Nat), (∀ p ∈ ps, val s' p.2 = val s p.2) → (∀ p ∈ ps, ∀ i ∈ esc1 (val s p.2), SameRow s s' i) → litParts s' ps j = litParts s ps j
  | [], _, _, _ => rfl
  | (i, x) :: ps, j, h, hr => by
    have h0 := h (i, x) (by simp)
    have r0 := hr (i, x) (by simp)
    simp only at h0 r0
    have ih := fun j => litParts_frame ps j (fun p hp => h p (by simp [hp])) (fun p hp => hr p (by simp [hp]))
    simp only [litParts, h0, ih, map_escC_frame (fun i hi => r0 i (cellsOf_rows i hi))]

/-! #### calls -/
theorem pass1_mem {x y : V} {rs rs' : List Ref} (h : pass1 s x rs = some (y, rs')) : (∀ r ∈ rs, r ∈ rs') ∧ ∀ b g o, x = .ptr b g o → Ref.box b ∈ rs' := by
  cases x with
  | ptr b g o =>
    simp only [pass1] at h
    obtain ⟨_, h'⟩ := of_bif h
    clear h
    split at h'
    · rename_i i hi
      simp only [Option.some.injEq, Prod.mk.injEq] at h'
      obtain ⟨_, rfl⟩ := h'
      obtain ⟨j, _, hj⟩ := refIx_some _ _ _ _ hi
      exact ⟨fun r hr => hr, fun b' g' o' e => by cases e; exact List.mem_of_getElem? hj⟩
    · simp only [Option.some.injEq, Prod.mk.injEq] at h'
      obtain ⟨_, rfl⟩ := h'
      exact ⟨fun r hr => List.mem_append_left _ hr, fun b' g' o' e => by cases e; simp⟩
  | optr j o =>
    simp only [pass1] at h
    split at h
    · simp only [Option.some.injEq, Prod.mk.injEq] at h
      obtain ⟨_, rfl⟩ := h
      exact ⟨fun r hr => hr, fun _ _ _ e => by cases e⟩
    · simp only [Option.some.injEq, Prod.mk.injEq] at h
      obtain ⟨_, rfl⟩ := h
      exact ⟨fun r hr => List.mem_append_left _ hr, fun _ _ _ e => by cases e⟩
  | _ =>
    simp only [pass1] at h
    obtain ⟨_, h⟩ := of_bif h
    simp only [Option.some.injEq, Prod.mk.injEq] at h
    obtain ⟨_, rfl⟩ := h
    exact ⟨fun r hr => hr, fun _ _ _ e => by cases e⟩
theorem pass1_frame {x y : V} {rs rs' : List Ref} (h : pass1 s x rs = some (y, rs')) (hb : ∀ b, Ref.box b ∈ rs' → SameBox s s' b) (hr : ∀ i ∈ esc1 x, SameRow s s' i) : pass1 s' x rs = pass1 s x rs := by
  have hm := (pass1_mem h).2
  cases x with
  | ptr b g o => simp only [pass1, (hb b (hm b g o rfl)).2]
  | optr j o => rfl
  | _ => simp only [pass1, esc_frame hr]
theorem passCaps_frame : ∀ {xs ys : List V} {rs rs' : List Ref}, passCaps s xs rs = some (ys, rs') → (∀ b, Ref.box b ∈ rs' → SameBox s s' b) → (∀ i ∈ xs.flatMap esc1, SameRow s s' i) → passCaps s' xs rs = passCaps s xs rs ∧ ∀ r ∈ rs, r ∈ rs'
  | [], ys, rs, rs', h, _, _ => by
    simp only [passCaps, Option.some.injEq, Prod.mk.injEq] at h
    obtain ⟨_, rfl⟩ := h
    exact ⟨rfl, fun _ hr => hr⟩
  | x :: xs, ys, rs, rs', h, hb, hr => by
    have h0 := h
    simp only [passCaps] at h0
    obtain ⟨⟨y, r1⟩, h1, h0⟩ := of_bind h0
    obtain ⟨⟨y2, r2⟩, h2, h0⟩ := of_bind h0
    simp only [Option.some.injEq, Prod.mk.injEq] at h0
    obtain ⟨_, rfl⟩ := h0
    simp only [List.flatMap_cons, List.mem_append] at hr
    obtain ⟨f2, m2⟩ := passCaps_frame h2 hb fun i hi => hr i (.inr hi)
    have f1 := pass1_frame h1 (fun b hm => hb b (m2 _ hm)) fun i hi => hr i (.inl hi)
    refine ⟨?_, fun r hm => m2 _ ((pass1_mem h1).1 r hm)⟩
    simp only [passCaps, f1, h1, Option.bind_some]
    rw [f2]
theorem passArgs_frame : ∀ {xs ys : List V} {rs rs' : List Ref}, passArgs s xs rs = some (ys, rs') → (∀ b, Ref.box b ∈ rs' → SameBox s s' b) → (∀ i ∈ escRows xs, SameRow s s' i) → passArgs s' xs rs = passArgs s xs rs ∧ ∀ r ∈ rs, r ∈ rs'
  | [], ys, rs, rs', h, _, _ => by
    simp only [passArgs, Option.some.injEq, Prod.mk.injEq] at h
    obtain ⟨_, rfl⟩ := h
    exact ⟨rfl, fun _ hr => hr⟩
  | x :: xs, ys, rs, rs', h, hb, hr => by
    have h0 := h
    simp only [passArgs] at h0
    obtain ⟨⟨y, r1⟩, h1, h0⟩ := of_bind h0
    obtain ⟨⟨y2, r2⟩, h2, h0⟩ := of_bind h0
    simp only [Option.some.injEq, Prod.mk.injEq] at h0
    obtain ⟨_, rfl⟩ := h0
    have hrest : ∀ i ∈ escRows xs, SameRow s s' i := fun i hi => hr i (by cases x <;> exact List.mem_append_right _ hi)
    obtain ⟨f2, m2⟩ := passArgs_frame h2 hb hrest
    clear h h0
    cases x with
    | fn f caps =>
      replace h1 : ((passCaps s caps rs).bind fun p => some (V.fn f p.1, p.2)) = some (y, r1) := h1
      have h1' := h1
      obtain ⟨⟨q, rq⟩, hq, h1'⟩ := of_bind h1'
      simp only [Option.some.injEq, Prod.mk.injEq] at h1'
      obtain ⟨_, rfl⟩ := h1'
      obtain ⟨f1, m1⟩ := passCaps_frame hq (fun b hm => hb b (m2 _ hm)) fun i hi => hr i (List.mem_append_left _ hi)
      refine ⟨?_, fun r hm => m2 _ (m1 r hm)⟩
      simp only [passArgs, f1, h1, Option.bind_some]
      rw [f2]
    | _ =>
      replace h1 : pass1 s _ rs = some (y, r1) := h1
      have f1 := pass1_frame h1 (fun b hm => hb b (m2 _ hm)) fun i hi => hr i (List.mem_append_left _ hi)
      refine ⟨?_, fun r hm => m2 _ ((pass1_mem h1).1 r hm)⟩
      simp only [passArgs, f1, h1, Option.bind_some]
      rw [f2]
theorem getRefs_frame : ∀ {R : List Ref} {os : List (List V)}, getRefs s R = some os → (∀ b, Ref.box b ∈ R → SameBox s s' b) → (∀ b cs, Ref.box b ∈ R → s.box b = some cs → ∀ i ∈ cs.flatMap escC1, SameRow s s' i) → (∀ j, Ref.out j ∈ R → s'.out = s.out) → getRefs s' R = getRefs s R
  | [], _, _, _, _, _ => rfl
  | .box b :: R, os, h, hb, hr, ho => by
    simp only [getRefs] at h
    obtain ⟨cs, hcs, h⟩ := of_bind h
    obtain ⟨hd, h⟩ := of_bif h
    obtain ⟨q, hq, h⟩ := of_bind h
    have ih := getRefs_frame hq (fun b hm => hb b (by simp [hm])) (fun b cs hm => hr b cs (by simp [hm])) (fun j hm => ho j (by simp [hm]))
    simp only [getRefs, (hb b (by simp)).1, hcs, Option.bind_some, map_escC_frame (hr b cs (by simp) hcs), ih]
  | .out j :: R, os, h, hb, hr, ho => by
    simp only [getRefs] at h
    have e := ho j (by simp)
    split at h
    · rename_i cs r hd
      obtain ⟨q, hq, h⟩ := of_bind h
      have ih := getRefs_frame hq (fun b hm => hb b (by simp [hm])) (fun b cs hm => hr b cs (by simp [hm])) (fun j hm => ho j (by simp [hm]))
      simp only [getRefs, e, ih]
    · cases h
theorem refBs_mem : ∀ {R : List Ref} {b : Nat}, Ref.box b ∈ R → b ∈ refBs R
  | [], _, h => by cases h
  | .box c :: R, b, h => by
    simp only [List.mem_cons, Ref.box.injEq] at h
    rcases h with rfl | h
    · simp [refBs]
    · simp [refBs, refBs_mem h]
  | .out c :: R, b, h => by
    simp only [List.mem_cons, reduceCtorEq, false_or] at h
    show b ∈ refBs R
    exact refBs_mem h
theorem boxRows_mem : ∀ {l : List Nat} {b : Nat} {cs : List V}, b ∈ l → s.box b = some cs → ∀ i ∈ escRows cs, i ∈ boxRows s l
  | [], _, _, h, _, _, _ => by cases h
  | c :: l, b, cs, h, hb, i, hi => by
    simp only [boxRows, List.mem_append]
    rcases List.mem_cons.1 h with rfl | h
    · rw [hb]; exact .inl hi
    · exact .inr (boxRows_mem h hb i hi)
theorem boxRows_frame : ∀ {l : List Nat}, (∀ b ∈ l, SameBox s s' b) → boxRows s' l = boxRows s l
  | [], _ => rfl
  | b :: l, h => by simp only [boxRows, (h b (by simp)).1, boxRows_frame (l := l) fun c hc => h c (List.mem_cons_of_mem _ hc)]
theorem refBoxes_frame : ∀ {R : List Ref} {os : List (List V)}, (∀ b ∈ refBs R, SameBox s s' b) → refBoxes s' R os = refBoxes s R os
  | [], _, _ => by cases ‹List (List V)› <;> rfl
  | .box b :: R, [], _ => rfl
  | .out b :: R, [], _ => rfl
  | .box b :: R, _ :: os, h => by simp only [refBoxes, (h b (by simp [refBs])).2, refBoxes_frame (R := R) (os := os) fun c hc => h c (List.mem_cons_of_mem _ hc)]
  | .out b :: R, _ :: os, h => by simp only [refBoxes, refBoxes_frame (R := R) (os := os) fun c hc => h c hc]
theorem escC1_rows {cs : List V} : ∀ i ∈ cs.flatMap escC1, i ∈ escRows cs := by
  intro i hi
  obtain ⟨x, hx, hi⟩ := List.mem_flatMap.1 hi
  refine escRows_mem (x := x) (fun f cs e => ?_) hx i ?_
  · subst e; cases hi
  · cases x <;> first | exact hi | cases hi
theorem refRo_true : ∀ {R : List Ref} {j : Nat}, Ref.out j ∈ R → refRo R = true
  | [], _, h => by cases h
  | .out b :: R, _, _ => rfl
  | .box b :: R, j, h => by
    simp only [List.mem_cons, reduceCtorEq, false_or] at h
    show refRo R = true
    exact refRo_true h

theorem callEff_frame {f : FuncId} {args : List V} {e : Eff} (he : callEff C s f args = some e) (hb : ∀ b, b ∈ e.rb → SameBox s s' b) (hr : ∀ i, i ∈ e.rr → SameRow s s' i) (ho : e.ro = true → s'.out = s.out) : callEff C s' f args = some e := by
  unfold callEff at he ⊢
  obtain ⟨⟨args', R⟩, hp, he⟩ := of_bind he
  obtain ⟨os, hg, he⟩ := of_bind he
  obtain ⟨⟨okb, r, os'⟩, hc, he⟩ := of_bind he
  obtain ⟨hokb, he⟩ := of_bif he
  simp only at hokb
  subst hokb
  simp only [Option.some.injEq] at he
  subst he
  simp only at hg hc hb hr ho
  have hbR : ∀ b, Ref.box b ∈ R → SameBox s s' b := fun b hm => hb b (refBs_mem hm)
  obtain ⟨f1, _⟩ := passArgs_frame hp hbR fun i hi => hr i (List.mem_append_left _ hi)
  have f2 := getRefs_frame hg hbR (fun b cs hm hcs i hi => hr i (List.mem_append_right _ (boxRows_mem (refBs_mem hm) hcs i (escC1_rows i hi)))) (fun j hm => ho (refRo_true hm))
  rw [f1, hp]
  simp only [Option.bind_some]
  rw [f2, hg]
  simp only [Option.bind_some]
  rw [hc]
  simp only [Option.bind_some, cond_true]
  rw [boxRows_frame hb, refBoxes_frame hb]
  cases hq : refRo R with
  | false => rfl
  | true => rw [ho hq]

theorem argVs_frame : ∀ (l : List Operand) (ts : List TypeId), (∀ x ∈ l, val s' x = val s x) → argVs E s' l ts = argVs E s l ts
  | [], ts, _ => by cases ts <;> rfl
  | x :: l, [], h => by simp only [argVs, h x (by simp), argVs_frame l [] fun y hy => h y (by simp [hy])]
  | x :: l, t :: ts, h => by simp only [argVs, argV, h x (by simp), argVs_frame l ts fun y hy => h y (by simp [hy])]
end
end Go.Ev
