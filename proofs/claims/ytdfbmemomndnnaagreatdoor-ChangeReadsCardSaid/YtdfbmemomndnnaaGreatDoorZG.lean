/-
  What an operation does hangs on what it looks at alone: each kind of operation.
-/
import Derived.Test.YtdfbmemomndnnaaGreatDoorZF
namespace Go.Ev
section
variable {E : Env} {C : Orc} {s s' : St}

theorem mem_pair {x y : Operand} : x ∈ [x, y] ∧ y ∈ [x, y] := by simp

theorem appended_frame {k : K} {x : V} {r : List (El k) × List Nat} (h : appended s k x = some r) (hr : ∀ i ∈ r.2, SameRow s s' i) : appended s' k x = appended s k x := by
  cases x with
  | own id v =>
    have hid : id ∈ r.2 := by
      unfold appended at h
      simp only at h
      obtain ⟨_, h⟩ := of_bif h
      cases hq : s.row id with
      | none => rw [hq] at h; cases k <;> cases h
      | some q =>
        obtain ⟨k', xs⟩ := q
        rw [hq] at h
        cases k <;> cases k' <;> first | (cases h; done) | (simp only [Option.some.injEq] at h; rw [← h]; simp)
    have := hr id hid
    simp only [appended, this.1, this.2]
  | _ => rfl

/-- AN OPERATION's FRAME. -/
theorem eff_frame {o : Oper} {e : Eff} (he : eff E C s o = some e) (hv : ∀ x ∈ o.op.operands.toList, val s' x = val s x) (hb : ∀ b, b ∈ e.rb ∨ b ∈ e.wb → SameBox s s' b) (hr : ∀ i, i ∈ e.rr ∨ i ∈ e.wr → SameRow s s' i)
    (ho : e.ro = true ∨ e.out.isSome = true → s'.out = s.out) : eff E C s' o = some e := by
  obtain ⟨d, op, ty, pos, af, g⟩ := o
  cases op with
  | move x =>
    have hx := hv x (by simp [Op.operands])
    simp only [eff, hx] at he ⊢
    cases hn : isNilSl x <;> rw [hn] at he <;> simp only [cond_true, cond_false] at he ⊢
    · exact he
    · obtain ⟨k, hk, he⟩ := of_bind he
      simp only [Option.some.injEq] at he
      subst he
      rw [hk, (hr (d.getD 0) (.inr (by simp [Eff.wr]))).2]; rfl
  | assign x =>
    have hx := hv x (by simp [Op.operands])
    simp only [eff, hx] at he ⊢
    cases hn : isNilSl x <;> rw [hn] at he <;> simp only [cond_true, cond_false] at he ⊢
    · exact he
    · obtain ⟨k, hk, he⟩ := of_bind he
      simp only [Option.some.injEq] at he
      subst he
      rw [hk, (hr (d.getD 0) (.inr (by simp [Eff.wr]))).2]; rfl
  | pick x y z =>
    have h1 := hv x (by simp [Op.operands])
    have h2 := hv y (by simp [Op.operands])
    have h3 := hv z (by simp [Op.operands])
    simp only [eff, h1, h2, h3] at he ⊢
    exact he
  | alloc t =>
    simp only [eff] at he ⊢
    obtain ⟨zs, hz, he⟩ := of_bind he
    simp only [Option.some.injEq] at he
    subst he
    have hz' := zeroCells_frame (s := s) (s' := s') zs (nilBase (d.getD 0)) 0 fun x hx => hr x.1 (.inr (List.mem_map_of_mem hx))
    rw [hz]
    simp only [Option.bind_some, hz', (hb (d.getD 0) (.inr (by simp [Eff.wb]))).2]
  | box t x =>
    have hx := hv x (by simp [Op.operands])
    simp only [eff, hx] at he ⊢
    obtain ⟨hf, he⟩ := of_bif he
    simp only [Option.some.injEq] at he
    subst he
    rw [hf, (hb (d.getD 0) (.inr (by simp [Eff.wb]))).2]; rfl
  | build t ps =>
    simp only [eff] at he ⊢
    obtain ⟨p0, h0, he⟩ := of_bind he
    obtain ⟨zs, hz, he⟩ := of_bind he
    obtain ⟨cs, hc, he⟩ := of_bind he
    simp only [Option.some.injEq] at he
    subst he
    have hz' := zeroCells_frame (s := s) (s' := s') zs (nilBase (d.getD 0)) 0 fun x hx => hr x.1 (.inr (List.mem_map_of_mem hx))
    have hfp := fillParts_frame (E := E) (s := s) (s' := s') (t := t) ps.toList (zeroCells s (nilBase (d.getD 0)) zs 0).1 fun p hp => hv p.2 (by simp only [Op.operands]; exact List.mem_map_of_mem hp)
    rw [h0, hz]
    simp only [Option.bind_some, hz', hfp, hc]
  | buildSlice t n ps =>
    simp only [eff] at he ⊢
    obtain ⟨k, hk, he⟩ := of_bind he
    obtain ⟨cs, hc, he⟩ := of_bind he
    obtain ⟨hn, he⟩ := of_bif he
    obtain ⟨xs, hx, he⟩ := of_bind he
    simp only [Option.some.injEq] at he
    subst he
    have hvp : ∀ p ∈ ps.toList, val s' p.2 = val s p.2 := fun p hp => hv p.2 (by simp only [Op.operands]; exact List.mem_map_of_mem hp)
    have hlp := litParts_frame (s := s) (s' := s') ps.toList 0 hvp (fun p hp i hi => by
      refine hr i (.inl (List.mem_cons_of_mem _ (escRows_mem (x := val s p.2) (fun f cs' e => ?_) (List.mem_map_of_mem (f := fun p => val s p.2) hp) i hi)))
      rw [e] at hi; cases hi)
    have hmap : ps.toList.map (fun p => val s' p.2) = ps.toList.map (fun p => val s p.2) := List.map_congr_left hvp
    rw [hk]
    have ha : alt s' (d.getD 0) = alt s (d.getD 0) := by unfold alt; rw [(hr (d.getD 0) (.inl (by simp))).1]
    simp only [Option.bind_some, hlp, hc, hn, cond_true, hx, ha, (hr (alt s (d.getD 0)) (.inr (by simp [Eff.wr]))).2, hmap]
  | load t x =>
    have hx := hv x (by simp [Op.operands])
    simp only [eff, hx] at he ⊢
    cases hvx : val s x with
    | ptr b gn o =>
      rw [hvx] at he
      simp only at he ⊢
      obtain ⟨h1, he⟩ := of_bif he
      obtain ⟨cs, h2, he⟩ := of_bind he
      obtain ⟨y, h3, he⟩ := of_bind he
      simp only [Option.some.injEq] at he
      subst he
      have := hb b (.inl (by simp))
      rw [this.1, this.2, h1, h2]
      simp only [Option.bind_some, h3, cond_true]
    | optr j o =>
      rw [hvx] at he
      simp only at he ⊢
      have hro : e.ro = true := by
        split at he
        · obtain ⟨y, h3, he⟩ := of_bind he
          simp only [Option.some.injEq] at he
          subst he; rfl
        · cases he
      rw [ho (.inl hro)]; exact he
    | bptr id u i =>
      rw [hvx] at he
      simp only at he ⊢
      obtain ⟨h1, he⟩ := of_bif he
      have hid : id ∈ e.rr := by
        split at he
        · obtain ⟨_, he⟩ := of_bif he
          simp only [Option.some.injEq] at he
          subst he; simp
        · cases he
      have := hr id (.inl hid)
      rw [this.1, this.2, h1]; exact he
    | _ => rw [hvx] at he; exact he
  | store t x y =>
    have hx := hv x (by simp [Op.operands])
    have hy := hv y (by simp [Op.operands])
    simp only [eff, hx, hy] at he ⊢
    cases hvx : val s x with
    | ptr b gn o =>
      rw [hvx] at he
      simp only at he ⊢
      obtain ⟨h1, he⟩ := of_bif he
      obtain ⟨cs, h2, he⟩ := of_bind he
      have hid : b ∈ e.rb := by
        obtain ⟨_, he⟩ := of_bif he
        obtain ⟨_, he⟩ := of_bif he
        simp only [Option.some.injEq] at he
        subst he; simp
      have := hb b (.inl hid)
      rw [this.1, this.2, h1, h2]; exact he
    | optr j o =>
      rw [hvx] at he
      simp only at he ⊢
      have hro : e.ro = true := by
        split at he
        · obtain ⟨_, he⟩ := of_bif he
          obtain ⟨_, he⟩ := of_bif he
          obtain ⟨_, he⟩ := of_bif he
          simp only [Option.some.injEq] at he
          subst he; rfl
        · cases he
      rw [ho (.inl hro)]; exact he
    | bptr id u i =>
      rw [hvx] at he
      simp only at he ⊢
      split at he
      · obtain ⟨h1, he⟩ := of_bif he
        have hid : id ∈ e.rr := by
          split at he
          · obtain ⟨_, he⟩ := of_bif he
            simp only [Option.some.injEq] at he
            subst he; simp
          · cases he
        have := hr id (.inl hid)
        rw [this.1, this.2, h1]; exact he
      · cases he
    | _ => rw [hvx] at he; exact he
  | nilCheck x =>
    have hx := hv x (by simp [Op.operands])
    simp only [eff, hx] at he ⊢
    cases hvx : val s x with
    | ptr b gn o =>
      rw [hvx] at he
      simp only at he ⊢
      obtain ⟨h1, he⟩ := of_bif he
      simp only [Option.some.injEq] at he
      subst he
      have := hb b (.inl (by simp))
      rw [this.1, this.2, h1]; rfl
    | _ => rw [hvx] at he; exact he
  | binOp op t x y yt =>
    have hx := hv x (by simp [Op.operands])
    have hy := hv y (by simp [Op.operands])
    simp only [eff, hx, hy] at he ⊢
    exact he
  | unOp op t x =>
    have hx := hv x (by simp [Op.operands])
    simp only [eff, hx] at he ⊢
    exact he
  | convert src dst x =>
    have hx := hv x (by simp [Op.operands])
    simp only [eff, hx] at he ⊢
    cases hvx : val s x with
    | str b =>
      rw [hvx] at he
      simp only at he ⊢
      obtain ⟨h1, he⟩ := of_bif he
      rw [h1]
      cases hd2 : E.str dst <;> rw [hd2] at he <;> simp only [cond_true, cond_false] at he ⊢
      · split at he
        · rename_i hk
          simp only [Option.some.injEq] at he
          subst he
          have hver := (hr (d.getD 0) (.inr (by simp [Eff.wr]))).2
          simp only [hver]
        · cases he
      · exact he
    | own id u =>
      rw [hvx] at he
      simp only at he ⊢
      obtain ⟨h1, he⟩ := of_bif he
      obtain ⟨h2, he⟩ := of_bif he
      have hid : id ∈ e.rr := by
        split at he
        · simp only [Option.some.injEq] at he
          subst he; simp
        · cases he
      have := hr id (.inl hid)
      rw [this.1, this.2, h1, h2]; exact he
    | _ => rw [hvx] at he; exact he
  | makeInterface t x =>
    have hx := hv x (by simp [Op.operands])
    simp only [eff, hx] at he ⊢
    exact he
  | makeFunc f x y =>
    cases f with
    | func f =>
      have hmap : y.toList.map (val s') = y.toList.map (val s) := List.map_congr_left fun z hz => hv z (by simp [Op.operands] at hz ⊢; exact .inr hz)
      simp only [eff, hmap] at he ⊢
      exact he
    | _ => simp [eff] at he
  | slice t x lo hi mx =>
    cases mx with
    | some m => simp [eff] at he
    | none =>
      have hx := hv x (by simp [Op.operands])
      have h1 : lo.map (val s') = lo.map (val s) := by
        cases lo with
        | none => rfl
        | some l => simp only [Option.map_some]; rw [hv l (by simp [Op.operands])]
      have h2 : hi.map (val s') = hi.map (val s) := by
        cases hi with
        | none => rfl
        | some l => simp only [Option.map_some]; rw [hv l (by simp [Op.operands])]
      simp only [eff, hx, h1, h2] at he ⊢
      exact he
  | fieldAddr t x f =>
    have hx := hv x (by simp [Op.operands])
    simp only [eff, hx] at he ⊢
    obtain ⟨o, hf, he⟩ := of_bind he
    rw [hf]
    simp only [Option.bind_some]
    cases hvx : val s x with
    | ptr b gn o =>
      rw [hvx] at he
      simp only at he ⊢
      obtain ⟨h1, he⟩ := of_bif he
      simp only [Option.some.injEq] at he
      subst he
      have := hb b (.inl (by simp))
      rw [this.1, this.2, h1]; rfl
    | _ => rw [hvx] at he; exact he
  | indexAddr t x i =>
    have hx := hv x (by simp [Op.operands])
    have hi := hv i (by simp [Op.operands])
    simp only [eff, hx, hi] at he ⊢
    cases hvi : val s i with
    | int ki n =>
      rw [hvi] at he
      simp only at he ⊢
      cases hvx : val s x with
      | ptr b gn o =>
        rw [hvx] at he
        simp only at he ⊢
        obtain ⟨h1, he⟩ := of_bif he
        have hid : b ∈ e.rb := by
          obtain ⟨_, _, he⟩ := of_bind he
          obtain ⟨_, _, he⟩ := of_bind he
          simp only [Option.some.injEq] at he
          subst he; simp
        have := hb b (.inl hid)
        rw [this.1, this.2, h1]; exact he
      | own id u =>
        rw [hvx] at he
        simp only at he ⊢
        obtain ⟨h1, he⟩ := of_bif he
        have hid : id ∈ e.rr := by
          split at he
          · obtain ⟨_, he⟩ := of_bif he
            obtain ⟨_, _, he⟩ := of_bind he
            simp only [Option.some.injEq] at he
            subst he; simp
          · obtain ⟨_, he⟩ := of_bif he
            obtain ⟨_, _, he⟩ := of_bind he
            simp only [Option.some.injEq] at he
            subst he; simp
          · cases he
        have := hr id (.inl hid)
        rw [this.1, this.2, h1]; exact he
      | _ => rw [hvx] at he; exact he
    | _ => rw [hvi] at he; exact he
  | index t x i =>
    have hx := hv x (by simp [Op.operands])
    have hi := hv i (by simp [Op.operands])
    simp only [eff, hx, hi] at he ⊢
    exact he
  | extract x i =>
    have hx := hv x (by simp [Op.operands])
    simp only [eff, hx] at he ⊢
    exact he
  | call cl =>
    obtain ⟨callee, as, ts⟩ := cl
    have has : ∀ x ∈ as.toList, val s' x = val s x := fun x hx => hv x (by simp [Op.operands, Call.operands] at hx ⊢; exact .inr hx)
    cases callee with
    | value f =>
      have hf := hv f (by simp [Op.operands, Call.operands])
      simp only [eff, hf, argVs_frame (E := E) as.toList ts.toList has] at he ⊢
      cases hvf : val s f with
      | fn g2 caps =>
        rw [hvf] at he
        simp only at he ⊢
        exact callEff_frame he (fun b hm => hb b (.inl hm)) (fun i hm => hr i (.inl hm)) (fun h => ho (.inl h))
      | _ => rw [hvf] at he; cases he
    | builtin b =>
      cases b with
      | len =>
        simp only [eff] at he ⊢
        cases hal : as.toList with
        | nil => rw [hal] at he; cases he
        | cons x r =>
          cases r with
          | nil =>
            rw [hal] at he has
            have hx := has x (by simp)
            cases htl : ts.toList with
            | nil => rw [htl] at he; cases he
            | cons t q =>
              cases q with
              | nil =>
                rw [htl] at he
                simp only [hx] at he ⊢
                cases hvx : val s x with
                | own id u =>
                  rw [hvx] at he
                  simp only at he ⊢
                  obtain ⟨h1, he⟩ := of_bif he
                  have hid : id ∈ e.rr := by
                    split at he
                    · obtain ⟨_, he⟩ := of_bif he
                      simp only [Option.some.injEq] at he
                      subst he; simp
                    · cases he
                  have := hr id (.inl hid)
                  rw [this.1, this.2, h1]; exact he
                | _ => rw [hvx] at he; exact he
              | cons _ _ => rw [htl] at he; cases he
          | cons _ _ => rw [hal] at he; cases he
      | append =>
        simp only [eff] at he ⊢
        split at he
        · rename_i x y t t2 hal htl
          rw [hal] at has
          have hx := has x (by simp)
          have hy := has y (by simp)
          rw [hx]
          split at he
          · rename_i id u hvx
            obtain ⟨h1, he⟩ := of_bif he
            split at he
            · rename_i k xs hrow
              obtain ⟨h2, he⟩ := of_bif he
              obtain ⟨ys, h3, he⟩ := of_bind he
              obtain ⟨h4, he⟩ := of_bif he
              simp only [Option.some.injEq] at he
              subst he
              have := hr id (.inl (by simp))
              have hap := appended_frame h3 (s' := s') fun i hi => hr i (.inl (by simp [hi]))
              rw [this.1, this.2, h1, hrow, hy]
              simp only [cond_true, h2, hap, h3, Option.bind_some, h4]
            · cases he
          · cases he
        · cases he
      | max =>
        have hmap : as.toList.map (val s') = as.toList.map (val s) := List.map_congr_left has
        simp only [eff, hmap] at he ⊢
        exact he
      | min =>
        have hmap : as.toList.map (val s') = as.toList.map (val s) := List.map_congr_left has
        simp only [eff, hmap] at he ⊢
        exact he
      | _ => simp [eff] at he
    | invoke r n => simp [eff] at he
  | _ => simp [eff] at he
end
end Go.Ev
/-
  A region that draws its order: where the evaluator has seen that the order plays no part, every order ends alike.
-/
namespace Go.Ev

theorem isIn_mem : ∀ {l : List Nat} {n : Nat}, isIn n l = true ↔ n ∈ l
  | [], n => by simp [isIn]
  | a :: l, n => by
    simp only [isIn, List.mem_cons]
    cases h : Nat.beq n a with
    | true => simp [natbeq h]
    | false => simp [natbeq_false h, isIn_mem (l := l)]
theorem isIn_not {l : List Nat} {n : Nat} (h : isIn n l = false) : n ∉ l := fun hm => by
  rw [isIn_mem.2 hm] at h; cases h
theorem disj_spec : ∀ {l m : List Nat}, disj l m = true → ∀ x ∈ l, x ∉ m
  | [], _, _, _, h => by cases h
  | a :: l, m, h, x, hx => by
    simp only [disj] at h
    cases ha : isIn a m with
    | true => rw [ha] at h; cases h
    | false =>
      rw [ha] at h
      rcases List.mem_cons.1 hx with rfl | hx
      · exact isIn_not ha
      · exact disj_spec h x hx
theorem noSlot_spec {d : Option Tmp} {l : List Nat} (h : noSlot d l = true) : ∀ t, d = some t → t ∉ l := fun t e => by
  subst e
  simp only [noSlot, Bool.not_eq_true'] at h
  exact isIn_not h

/-! #### what an effect leaves alone -/
theorem putBoxes_congr : ∀ (l : List (Nat × Nat × List V)) (s s' : St) (b : Nat), (b ∈ l.map (·.1) ∨ SameBox s s' b) → SameBox (putBoxes l s) (putBoxes l s') b
  | [], s, s', b, h => h.resolve_left (by simp)
  | (x, g, cs) :: l, s, s', b, h => by
    refine putBoxes_congr l _ _ b ?_
    by_cases hb : b = x
    · subst hb; exact .inr ⟨by simp, by simp⟩
    · rcases h with h | h
      · exact .inl (by simpa [hb] using h)
      · exact .inr ⟨by simpa [put_other _ _ hb] using h.1, by simpa [put_other _ _ hb] using h.2⟩
theorem putBoxes_other : ∀ (l : List (Nat × Nat × List V)) (s : St) (b : Nat), b ∉ l.map (·.1) → SameBox s (putBoxes l s) b
  | [], _, _, _ => ⟨rfl, rfl⟩
  | (x, g, cs) :: l, s, b, h => by
    simp only [List.map_cons, List.mem_cons, not_or] at h
    have := putBoxes_other l { s with box := put x (some cs) s.box, gen := put x g s.gen } b h.2
    exact ⟨this.1.trans (put_other _ _ h.1), this.2.trans (put_other _ _ h.1)⟩
theorem putBoxes_rows : ∀ (l : List (Nat × Nat × List V)) (s : St), (putBoxes l s).row = s.row ∧ (putBoxes l s).ver = s.ver
  | [], _ => ⟨rfl, rfl⟩
  | (_, _, _) :: l, _ => putBoxes_rows l _
theorem putRows_congr : ∀ (l : List (Nat × Nat × Row)) (s s' : St) (b : Nat), (b ∈ l.map (·.1) ∨ SameRow s s' b) → SameRow (putRows l s) (putRows l s') b
  | [], s, s', b, h => h.resolve_left (by simp)
  | (x, g, cs) :: l, s, s', b, h => by
    refine putRows_congr l _ _ b ?_
    by_cases hb : b = x
    · subst hb; exact .inr ⟨by simp, by simp⟩
    · rcases h with h | h
      · exact .inl (by simpa [hb] using h)
      · exact .inr ⟨by simpa [put_other _ _ hb] using h.1, by simpa [put_other _ _ hb] using h.2⟩
theorem putRows_other : ∀ (l : List (Nat × Nat × Row)) (s : St) (b : Nat), b ∉ l.map (·.1) → SameRow s (putRows l s) b
  | [], _, _, _ => ⟨rfl, rfl⟩
  | (x, g, cs) :: l, s, b, h => by
    simp only [List.map_cons, List.mem_cons, not_or] at h
    have := putRows_other l { s with row := put x (some cs) s.row, ver := put x g s.ver } b h.2
    exact ⟨this.1.trans (put_other _ _ h.1), this.2.trans (put_other _ _ h.1)⟩

theorem app_parts (d : Option Tmp) (e : Eff) (s : St) : (app d e s).box = (putBoxes e.box (putRows e.row s)).box ∧ (app d e s).gen = (putBoxes e.box (putRows e.row s)).gen ∧
    (app d e s).row = (putRows e.row s).row ∧ (app d e s).ver = (putRows e.row s).ver ∧ (app d e s).out = (match e.out with | some o => o | none => s.out) ∧
    (app d e s).sl = (match d with | some t => put t e.v s.sl | none => s.sl) := by
  obtain ⟨h1, h2⟩ := putBoxes_rows e.box (putRows e.row s)
  obtain ⟨_, h3⟩ := putBoxes_sl e.box (putRows e.row s)
  obtain ⟨_, _, h4, h5⟩ := gen_putRows e.row s
  have h6 := app_sl e s
  have h7 := app_out (e := e) s
  cases d with
  | none =>
    refine ⟨?_, ?_, ?_, ?_, h7, h6⟩ <;> cases ho : e.out <;> simp [app, putDst, putOut, ho, h1, h2]
  | some t =>
    rw [app_eq]
    refine ⟨?_, ?_, ?_, ?_, h7, ?_⟩
    · cases ho : e.out <;> simp [app, putDst, putOut, ho]
    · cases ho : e.out <;> simp [app, putDst, putOut, ho]
    · cases ho : e.out <;> simp [app, putDst, putOut, ho, h1]
    · cases ho : e.out <;> simp [app, putDst, putOut, ho, h2]
    · show put t e.v (app none e s).sl = _
      rw [h6]

theorem app_box_other {d : Option Tmp} {e : Eff} {s : St} {b : Nat} (h : b ∉ e.wb) : SameBox s (app d e s) b := by
  obtain ⟨p1, p2, _⟩ := app_parts d e s
  obtain ⟨g1, g2, _, _⟩ := gen_putRows e.row s
  have := putBoxes_other e.box (putRows e.row s) b h
  exact ⟨by rw [p1, this.1, g2], by rw [p2, this.2, g1]⟩
theorem app_row_other {d : Option Tmp} {e : Eff} {s : St} {b : Nat} (h : b ∉ e.wr) : SameRow s (app d e s) b := by
  obtain ⟨_, _, p1, p2, _⟩ := app_parts d e s
  have := putRows_other e.row s b h
  exact ⟨by rw [p1, this.1], by rw [p2, this.2]⟩
theorem app_box_congr {d : Option Tmp} {e : Eff} {s s' : St} {b : Nat} (h : b ∈ e.wb ∨ SameBox s s' b) : SameBox (app d e s) (app d e s') b := by
  obtain ⟨p1, p2, _⟩ := app_parts d e s
  obtain ⟨q1, q2, _⟩ := app_parts d e s'
  obtain ⟨g1, g2, _, _⟩ := gen_putRows e.row s
  obtain ⟨g1', g2', _, _⟩ := gen_putRows e.row s'
  have := putBoxes_congr e.box (putRows e.row s) (putRows e.row s') b (h.imp id fun k => ⟨by rw [g2', g2]; exact k.1, by rw [g1', g1]; exact k.2⟩)
  exact ⟨by rw [p1, q1]; exact this.1, by rw [p2, q2]; exact this.2⟩
theorem app_row_congr {d : Option Tmp} {e : Eff} {s s' : St} {b : Nat} (h : b ∈ e.wr ∨ SameRow s s' b) : SameRow (app d e s) (app d e s') b := by
  obtain ⟨_, _, p1, p2, _⟩ := app_parts d e s
  obtain ⟨_, _, q1, q2, _⟩ := app_parts d e s'
  have := putRows_congr e.row s s' b h
  exact ⟨by rw [p1, q1]; exact this.1, by rw [p2, q2]; exact this.2⟩
theorem app_sl_other {d : Option Tmp} {e : Eff} {s : St} {t : Nat} (h : d ≠ some t) : (app d e s).sl t = s.sl t := by
  obtain ⟨_, _, _, _, _, p⟩ := app_parts d e s
  rw [p]
  cases d with
  | none => rfl
  | some u => exact put_other _ _ fun q => h (by rw [q])
theorem app_out_none {d : Option Tmp} {e : Eff} {s : St} (h : e.out = none) : (app d e s).out = s.out := by
  obtain ⟨_, _, _, _, p, _⟩ := app_parts d e s
  rw [p, h]

theorem St.ext' {a b : St} (h1 : a.sl = b.sl) (h2 : ∀ i, SameBox a b i) (h3 : ∀ i, SameRow a b i) (h4 : a.out = b.out) : a = b := by
  obtain ⟨_, _, _, _, _, _⟩ := a
  obtain ⟨_, _, _, _, _, _⟩ := b
  simp only [St.mk.injEq]
  exact ⟨h1, funext fun i => (h2 i).1.symm, funext fun i => (h2 i).2.symm, funext fun i => (h3 i).1.symm, funext fun i => (h3 i).2.symm, h4⟩

/-- Two effects that do not meet. -/
theorem app_comm {d1 d2 : Option Tmp} {e1 e2 : Eff} {s : St} (hd : ∀ t, d1 = some t → d2 ≠ some t) (hb : ∀ b ∈ e1.wb, b ∉ e2.wb) (hr : ∀ b ∈ e1.wr, b ∉ e2.wr) (ho : e1.out = none ∨ e2.out = none) :
    app d2 e2 (app d1 e1 s) = app d1 e1 (app d2 e2 s) := by
  refine St.ext' (funext fun t => ?_) (fun i => ?_) (fun i => ?_) ?_
  · by_cases h1 : d1 = some t
    · have h2 := hd t h1
      rw [app_sl_other h2]
      obtain ⟨_, _, _, _, _, p⟩ := app_parts d1 e1 s
      obtain ⟨_, _, _, _, _, q⟩ := app_parts d1 e1 (app d2 e2 s)
      rw [p, q, h1]; simp
    · rw [app_sl_other h1]
      by_cases h2 : d2 = some t
      · obtain ⟨_, _, _, _, _, p⟩ := app_parts d2 e2 s
        obtain ⟨_, _, _, _, _, q⟩ := app_parts d2 e2 (app d1 e1 s)
        rw [p, q, h2]; simp
      · rw [app_sl_other h2, app_sl_other h2, app_sl_other h1]
  · by_cases h2 : i ∈ e2.wb
    · have h1 : i ∉ e1.wb := fun h => hb i h h2
      have a := app_box_congr (d := d2) (s := app d1 e1 s) (s' := s) (.inl h2)
      have b := app_box_other (d := d1) (s := app d2 e2 s) h1
      exact ⟨b.1.trans a.1, b.2.trans a.2⟩
    · have a := app_box_other (d := d2) (s := app d1 e1 s) h2
      have b := app_box_congr (d := d1) (e := e1) (s := s) (s' := app d2 e2 s) (.inr (app_box_other h2))
      exact ⟨b.1.trans a.1.symm, b.2.trans a.2.symm⟩
  · by_cases h2 : i ∈ e2.wr
    · have h1 : i ∉ e1.wr := fun h => hr i h h2
      have a := app_row_congr (d := d2) (s := app d1 e1 s) (s' := s) (.inl h2)
      have b := app_row_other (d := d1) (s := app d2 e2 s) h1
      exact ⟨b.1.trans a.1, b.2.trans a.2⟩
    · have a := app_row_other (d := d2) (s := app d1 e1 s) h2
      have b := app_row_congr (d := d1) (e := e1) (s := s) (s' := app d2 e2 s) (.inr (app_row_other h2))
      exact ⟨b.1.trans a.1.symm, b.2.trans a.2.symm⟩
  · obtain ⟨_, _, _, _, p1, _⟩ := app_parts d1 e1 s
    obtain ⟨_, _, _, _, p2, _⟩ := app_parts d2 e2 s
    obtain ⟨_, _, _, _, q1, _⟩ := app_parts d1 e1 (app d2 e2 s)
    obtain ⟨_, _, _, _, q2, _⟩ := app_parts d2 e2 (app d1 e1 s)
    rw [q1, q2, p1, p2]
    rcases ho with h | h <;> rw [h] <;> (first | (cases e1.out <;> rfl) | (cases e2.out <;> rfl))

section
variable {P : Program} {T : Tab} {E : Env} {C : Orc} {om : Nat → Nat} {W0 : World} {S0 : Prot} {nt no : Nat} {ops : Array Oper}

/-- An operation at a state: it does e, or it is passed over. -/
def Acts (E : Env) (C : Orc) (ops : Array Oper) (o : Oper) (s : St) (e : Eff) : Prop :=
  match o.guard with
  | none => eff E C s o = some e
  | some (j, want) => ∃ g, (ops.toList[j]?).bind (·.dst) = some g ∧ ((∃ b, s.sl g = .bool b ∧ (if b = want then eff E C s o = some e else e = { v := .tup [] })) ∨ (s.sl g = .tup [] ∧ e = { v := .tup [] }))

theorem acts_frame {o : Oper} {s s' : St} {e : Eff} (h : Acts E C ops o s e) (hv : ∀ t ∈ slotsOf ops.toList o, s'.sl t = s.sl t) (hb : ∀ b, b ∈ e.rb ∨ b ∈ e.wb → SameBox s s' b) (hr : ∀ i, i ∈ e.rr ∨ i ∈ e.wr → SameRow s s' i)
    (ho : e.ro = true ∨ e.out.isSome = true → s'.out = s.out) : Acts E C ops o s' e := by
  have hval : ∀ x ∈ o.op.operands.toList, val s' x = val s x := fun x hx => by
    cases x with
    | tmp t => exact hv t (List.mem_append_left _ (List.mem_filterMap.2 ⟨.tmp t, hx, rfl⟩))
    | _ => rfl
  unfold Acts at h ⊢
  cases hg : o.guard with
  | none => rw [hg] at h; exact eff_frame h hval hb hr ho
  | some jw =>
    obtain ⟨j, want⟩ := jw
    rw [hg] at h
    obtain ⟨g, h1, h⟩ := h
    have hgs : s'.sl g = s.sl g := hv g (by
      refine List.mem_append_right _ ?_
      rw [hg]
      simp only
      rw [h1]; simp)
    rcases h with ⟨b, h2, h3⟩ | ⟨h2, h3⟩
    · refine ⟨g, h1, .inl ⟨b, hgs.trans h2, ?_⟩⟩
      split at h3
      · rename_i e1; rw [if_pos e1]; exact eff_frame h3 hval hb hr ho
      · rename_i e1; rw [if_neg e1]; exact h3
    · exact ⟨g, h1, .inr ⟨hgs.trans h2, h3⟩⟩

/-- Two operations that do not meet may change places. -/
theorem acts_swap {o1 o2 : Oper} {s : St} {e1 e2 : Eff} (hi : indep ⟨o1.dst, slotsOf ops.toList o1, e1⟩ ⟨o2.dst, slotsOf ops.toList o2, e2⟩ = true) (h1 : Acts E C ops o1 s e1) (h2 : Acts E C ops o2 (app o1.dst e1 s) e2) :
    Acts E C ops o2 s e2 ∧ Acts E C ops o1 (app o2.dst e2 s) e1 ∧ app o2.dst e2 (app o1.dst e1 s) = app o1.dst e1 (app o2.dst e2 s) := by
  simp only [indep, Bool.and_eq_true, Bool.not_eq_true', Bool.and_eq_false_iff, Bool.or_eq_false_iff] at hi
  obtain ⟨⟨⟨⟨⟨⟨⟨i1, i2⟩, i3⟩, i4⟩, i5⟩, i6⟩, i7⟩, i8⟩ := hi
  have i1 := noSlot_spec i1
  have i2 := noSlot_spec i2
  have i3 := disj_spec i3
  have i4 := disj_spec i4
  have i5 := disj_spec i5
  have i6 := disj_spec i6
  simp only [List.mem_append, Option.mem_toList, not_or] at i1 i3 i5
  refine ⟨acts_frame h2 (fun t ht => ?_) (fun b hb => ?_) (fun b hb => ?_) (fun ho => ?_), acts_frame h1 (fun t ht => ?_) (fun b hb => ?_) (fun b hb => ?_) (fun ho => ?_), app_comm (fun t e => (i1 t e).1) (fun b hb => (i3 b hb).2) (fun b hb => (i5 b hb).2) ?_⟩
  · exact (app_sl_other fun e => (i1 t e).2 ht).symm
  · have := app_box_other (d := o1.dst) (s := s) (e := e1) (b := b) fun hm => hb.elim (i3 b hm).1 (i3 b hm).2
    exact ⟨this.1.symm, this.2.symm⟩
  · have := app_row_other (d := o1.dst) (s := s) (e := e1) (b := b) fun hm => hb.elim (i5 b hm).1 (i5 b hm).2
    exact ⟨this.1.symm, this.2.symm⟩
  · refine (app_out_none ?_).symm
    rcases i7 with h | h
    · simpa using h
    · rcases ho with k | k
      · rw [h.1] at k; cases k
      · rw [h.2] at k; cases k
  · exact app_sl_other fun e => i2 t e ht
  · exact app_box_other fun hm => hb.elim (fun k => i4 b hm k) (fun k => (i3 b k).2 hm)
  · exact app_row_other fun hm => hb.elim (fun k => i6 b hm k) (fun k => (i5 b k).2 hm)
  · refine app_out_none ?_
    rcases ho with k | k
    · rcases i8 with h | h
      · simpa using h
      · rw [h] at k; cases k
    · rcases i7 with h | h
      · rw [h] at k; cases k
      · simpa using h.2
  · rcases i7 with h | h
    · exact .inl (by simpa using h)
    · exact .inr (by simpa using h.2)

structure Ent where
  i : Nat
  o : Oper
  ps : List Nat
  e : Eff
def Ent.free (ops : Array Oper) (p q : Ent) : Prop := p.i ∈ q.ps ∨ indep ⟨p.o.dst, slotsOf ops.toList p.o, p.e⟩ ⟨q.o.dst, slotsOf ops.toList q.o, q.e⟩ = true
def Runs (E : Env) (C : Orc) (nt : Nat) (ops : Array Oper) : List Ent → St → St → Prop
  | [], s, s' => s = s'
  | q :: l, s, s' => Acts E C ops q.o s q.e ∧ dstOk nt q.o.dst = true ∧ Runs E C nt ops l (app q.o.dst q.e s) s'

theorem runs_front : ∀ (pre : List Ent) (q : Ent) (post : List Ent) (s s' : St), Runs E C nt ops (pre ++ q :: post) s s' → (∀ p ∈ pre, indep ⟨p.o.dst, slotsOf ops.toList p.o, p.e⟩ ⟨q.o.dst, slotsOf ops.toList q.o, q.e⟩ = true) →
    Runs E C nt ops (q :: (pre ++ post)) s s'
  | [], q, post, s, s', h, _ => h
  | p :: pre, q, post, s, s', h, hi => by
    obtain ⟨h1, hd, h2⟩ := h
    obtain ⟨k1, kd, k2⟩ := runs_front pre q post _ s' h2 fun x hx => hi x (by simp [hx])
    obtain ⟨a1, a2, a3⟩ := acts_swap (hi p (by simp)) h1 k1
    exact ⟨a1, kd, a2, hd, by rw [← a3]; exact k2⟩

/-- A set of operations with all that comes ahead of each. -/
def ClosedSet (ops : Array Oper) (D : Nat → Prop) : Prop := ∀ j, D j → ∀ o, ops[j]? = some o → ∀ e ∈ o.after.toList, Region.binds .any e = true → D e.on
def PsOk (ops : Array Oper) (i : Nat) (ps : List Nat) : Prop := ∀ D, ClosedSet ops D → (∀ o, ops[i]? = some o → ∀ e ∈ o.after.toList, Region.binds .any e = true → D e.on) → ∀ p ∈ ps, D p

theorem psAt_ok {D : Nat → Prop} (hD : ClosedSet ops D) : ∀ (tr : List (Nat × List Nat × Tr)), (∀ x ∈ tr, PsOk ops x.1 x.2.1) → ∀ j, D j → ∀ p ∈ psAt j tr, D p
  | [], _, _, _, _, h => by cases h
  | (i, ps, t) :: tr, ht, j, hj, p, hp => by
    simp only [psAt] at hp
    cases hb : Nat.beq j i with
    | true =>
      rw [hb] at hp
      have e := natbeq hb
      subst e
      exact ht (j, ps, t) (by simp) D hD (fun o ho e he hbd => hD j hj o ho e he hbd) p hp
    | false =>
      rw [hb] at hp
      exact psAt_ok hD tr (fun x hx => ht x (by simp [hx])) j hj p hp
theorem mem_uni {p : Nat} : ∀ (a l : List Nat), p ∈ uni a l → p ∈ a ∨ p ∈ l
  | [], _, h => .inr h
  | x :: a, l, h => by
    simp only [uni] at h
    cases hb : isIn x l with
    | true => rw [hb] at h; exact (mem_uni a l h).imp (List.mem_cons_of_mem _) id
    | false =>
      rw [hb] at h
      simp only [cond_false, List.mem_cons] at h ⊢
      rcases h with rfl | h
      · exact .inl (.inl rfl)
      · exact (mem_uni a l h).imp .inr id
theorem predsOf_ok {D : Nat → Prop} (hD : ClosedSet ops D) {tr : List (Nat × List Nat × Tr)} (ht : ∀ x ∈ tr, PsOk ops x.1 x.2.1) : ∀ (l : List Edge), (∀ e ∈ l, Region.binds .any e = true → D e.on) → ∀ p ∈ predsOf tr l, D p
  | [], _, _, h => by cases h
  | e :: l, hl, p, hp => by
    have ih := predsOf_ok hD ht l fun x hx => hl x (by simp [hx])
    simp only [predsOf] at hp
    cases hb : Region.binds .any e with
    | false => rw [hb] at hp; exact ih p hp
    | true =>
      rw [hb] at hp
      have hp : p ∈ e.on :: psAt e.on tr ∨ p ∈ predsOf tr l := mem_uni _ _ hp
      simp only [List.mem_cons, or_assoc] at hp
      have h0 := hl e (by simp) hb
      rcases hp with rfl | hp | hp
      · exact h0
      · exact psAt_ok hD tr ht _ h0 p hp
      · exact ih p hp

def trOf (ops : Array Oper) (q : Ent) : Nat × List Nat × Tr := (q.i, q.ps, ⟨q.o.dst, slotsOf ops.toList q.o, q.e⟩)
theorem freeOf_ok {q : Ent} : ∀ (l : List Ent), freeOf q.ps ⟨q.o.dst, slotsOf ops.toList q.o, q.e⟩ (l.map (trOf ops)) = true → ∀ p ∈ l, p.free ops q
  | [], _, _, h => by cases h
  | x :: l, h, p, hp => by
    simp only [List.map_cons, trOf, freeOf, Bool.and_eq_true, Bool.or_eq_true] at h
    rcases List.mem_cons.1 hp with rfl | hp
    · exact h.1.imp (fun k => isIn_mem.1 k) id
    · exact freeOf_ok l h.2 p hp
theorem edgesOk_ok {i : Nat} : ∀ (l : List Edge), edgesOk i l = true → ∀ e ∈ l, Region.binds .any e = true → e.on < i
  | [], _, _, h, _ => by cases h
  | x :: l, h, e, he, hb => by
    simp only [edgesOk, Bool.and_eq_true, Bool.or_eq_true, Bool.not_eq_true'] at h
    rcases List.mem_cons.1 he with rfl | he
    · rcases h.1 with k | k
      · rw [hb] at k; cases k
      · exact Nat.le_of_ble_eq_true k
    · exact edgesOk_ok l h.2 e he hb

/-- What the evaluator has seen of a region that draws. -/
theorem opsD_runs {R : Type} {k : St → Option R} {r : R} : ∀ (l : List Oper) (i : Nat) (s : St) (seen : List Ent), opsD E C nt ops.toList i l s (seen.map (trOf ops)) k = some r → (∀ j, l[j]? = ops.toList[i + j]?) →
    (∀ x ∈ seen, PsOk ops x.i x.ps) → ∃ (L : List Ent) (s' : St), Runs E C nt ops L s s' ∧ k s' = some r ∧ L.Pairwise (Ent.free ops) ∧ (∀ q ∈ L, ∀ p ∈ seen, p.free ops q) ∧
      L.length = l.length ∧ (∀ j q, L[j]? = some q → q.i = i + j ∧ l[j]? = some q.o) ∧ (∀ q ∈ L, PsOk ops q.i q.ps ∧ edgesOk q.i q.o.after.toList = true)
  | [], i, s, seen, h, _, _ => ⟨[], s, rfl, h, List.Pairwise.nil, (fun q hq => by cases hq), rfl, (fun j q hq => by simp at hq), (fun q hq => by cases hq)⟩
  | o :: l, i, s, seen, h, hl, hseen => by
    simp only [opsD] at h
    obtain ⟨hde, h⟩ := of_bif h
    simp only [Bool.and_eq_true] at hde
    have hoi : ops[i]? = some o := by have := hl 0; simpa using this.symm
    have hps : PsOk ops i (predsOf (seen.map (trOf ops)) o.after.toList) := fun D hD hdir => predsOf_ok hD (fun x hx => by
      obtain ⟨y, hy, rfl⟩ := List.mem_map.1 hx
      exact hseen y hy) _ (hdir o hoi)
    have go : ∀ e, Acts E C ops o s e → (bif freeOf (predsOf (seen.map (trOf ops)) o.after.toList) ⟨o.dst, slotsOf ops.toList o, e⟩ (seen.map (trOf ops)) then opsD E C nt ops.toList (i + 1) l (app o.dst e s) ((i, predsOf (seen.map (trOf ops)) o.after.toList, ⟨o.dst, slotsOf ops.toList o, e⟩) :: seen.map (trOf ops)) k else none) = some r →
        ∃ (L : List Ent) (s' : St), Runs E C nt ops L s s' ∧ k s' = some r ∧ L.Pairwise (Ent.free ops) ∧ (∀ q ∈ L, ∀ p ∈ seen, p.free ops q) ∧
      L.length = (o :: l).length ∧ (∀ j q, L[j]? = some q → q.i = i + j ∧ (o :: l)[j]? = some q.o) ∧ (∀ q ∈ L, PsOk ops q.i q.ps ∧ edgesOk q.i q.o.after.toList = true) := fun e ha h => by
      obtain ⟨hf, h⟩ := of_bif h
      let q : Ent := ⟨i, o, predsOf (seen.map (trOf ops)) o.after.toList, e⟩
      obtain ⟨L, s', h1, h2, h3, h4, h5, h6, h7⟩ := opsD_runs l (i + 1) (app o.dst e s) (q :: seen) h (fun j => by have := hl (j + 1); simpa [Nat.add_assoc, Nat.add_comm 1 j] using this) (fun x hx => by
        rcases List.mem_cons.1 hx with rfl | hx
        · exact hps
        · exact hseen x hx)
      refine ⟨q :: L, s', ⟨ha, hde.1, h1⟩, h2, List.pairwise_cons.2 ⟨fun x hx => h4 x hx q (by simp), h3⟩, fun x hx p hp => ?_, by simp [h5], fun j x hx => ?_, fun x hx => ?_⟩
      · rcases List.mem_cons.1 hx with rfl | hx
        · exact freeOf_ok seen hf p hp
        · exact h4 x hx p (by simp [hp])
      · cases j with
        | zero => simp only [List.getElem?_cons_zero, Option.some.injEq] at hx; subst hx; exact ⟨rfl, rfl⟩
        | succ j =>
          have := h6 j x (by simpa using hx)
          exact ⟨by rw [this.1]; omega, by simpa using this.2⟩
      · rcases List.mem_cons.1 hx with rfl | hx
        · exact ⟨hps, hde.2⟩
        · exact h7 x hx
    cases hg : o.guard with
    | none =>
      rw [hg] at h
      simp only at h
      obtain ⟨e, he, h⟩ := effK_eff h
      exact go e (by unfold Acts; rw [hg]; exact he) h
    | some jw =>
      obtain ⟨j, want⟩ := jw
      rw [hg] at h
      simp only at h
      cases hj : (ops.toList[j]?).bind (·.dst) with
      | none => rw [hj] at h; cases h
      | some g =>
        rw [hj] at h
        simp only at h
        cases hsg : s.sl g with
        | bool b =>
          rw [hsg] at h
          simp only at h
          have href := put_refine hsg
          have mk : ∀ e, (if b = want then eff E C s o = some e else e = { v := .tup [] }) → Acts E C ops o s e := fun e he => by
            unfold Acts; rw [hg]; exact ⟨g, hj, .inl ⟨b, hsg, he⟩⟩
          cases b <;> cases want <;> simp only [cond_true, cond_false, href] at h
          · obtain ⟨e, he, h⟩ := effK_eff h
            exact go e (mk e (by simpa using he)) h
          · exact go _ (mk _ (by simp)) h
          · exact go _ (mk _ (by simp)) h
          · obtain ⟨e, he, h⟩ := effK_eff h
            exact go e (mk e (by simpa using he)) h
        | tup vs =>
          rw [hsg] at h
          cases vs with
          | cons _ _ => cases h
          | nil => exact go _ (by unfold Acts; rw [hg]; exact ⟨g, hj, .inr ⟨hsg, rfl⟩⟩) h
        | _ => rw [hsg] at h; cases h
end
end Go.Ev
