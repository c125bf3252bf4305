/-
  Code and functions: what the evaluator says is what the model does.
-/
import Derived.Test.YtdfbmemomndnnaaGreatDoorZG
import Derived.Orders
namespace Go.Ev
section
variable {P : Program} {T : Tab} {E : Env} {C : Orc} {om : Nat → Nat} {W0 : World} {S0 : Prot} {nt no : Nat} {ops : Array Oper}

theorem ready_mem {listed : Array Bool} {i : Nat} (h : i ∈ Region.ready .any ops listed) : i < ops.size ∧ listed.getD i true = false ∧ ∀ o, ops[i]? = some o → ∀ e ∈ o.after.toList, Region.binds .any e = true → listed.getD e.on false = true := by
  simp only [Region.ready, List.mem_filter, List.mem_range, Bool.and_eq_true, Bool.not_eq_true'] at h
  refine ⟨h.1, h.2.1, fun o ho e he hb => ?_⟩
  have h2 := h.2.2
  rw [ho] at h2
  simp only [Option.map_some, Option.getD_some, Array.all_eq_true_iff_forall_mem] at h2
  have := h2 e (Array.mem_toList_iff.1 he)
  simpa [hb] using this
theorem mem_ready {listed : Array Bool} {i : Nat} {o : Oper} (ho : ops[i]? = some o) (hu : listed.getD i true = false) (h : ∀ e ∈ o.after.toList, Region.binds .any e = true → listed.getD e.on false = true) : i ∈ Region.ready .any ops listed := by
  simp only [Region.ready, List.mem_filter, List.mem_range, Bool.and_eq_true, Bool.not_eq_true']
  refine ⟨(Array.getElem?_eq_some_iff.1 ho).1, hu, ?_⟩
  rw [ho]
  simp only [Option.map_some, Option.getD_some, Array.all_eq_true_iff_forall_mem]
  intro e he
  cases hb : Region.binds .any e with
  | false => rfl
  | true => simpa using h e (Array.mem_toList_iff.2 he) hb

theorem getD_listed {listed : Array Bool} {i : Nat} (hi : i < listed.size) (d : Bool) : listed.getD i d = listed.getD i true := by
  simp [Array.getD_eq_getD_getElem?, hi]

/-- EVERY ORDER. -/
theorem any_ok (hE : EnvOk P E) (hC : OrcOk P T C) {s' : St} {Q : Exit → Act → World → Prop} (hk : ∀ c' w' a', Ok T om W0 S0 nt no s' c' w' a' → Q .normal a' w') :
    ∀ (fuel : Nat) (listed : Array Bool) (L : List Ent) (s : St) (c : Cc) (w : World) (a : Act), L.length = fuel → listed.size = ops.size → (∀ i, i < ops.size → (listed.getD i true = false ↔ i ∈ L.map (·.i))) → (∀ q ∈ L, ops[q.i]? = some q.o) → (L.map (·.i)).Pairwise (· < ·) →
      ClosedSet ops (fun j => listed.getD j false = true) → Runs E C nt ops L s s' → L.Pairwise (Ent.free ops) → (∀ q ∈ L, PsOk ops q.i q.ps ∧ edgesOk q.i q.o.after.toList = true) → Ok T om W0 S0 nt no s c w a → wpAny P .any ops Q fuel listed a w
  | 0, listed, L, s, c, w, a, hlen, hsz, hun, hops, hsort, hcl, hruns, hfree, hps, hok => by
    have hL : L = [] := List.length_eq_zero_iff.1 hlen
    subst hL
    have hruns : s = s' := hruns
    subst hruns
    refine ⟨?_, hk c w a hok⟩
    cases hr : Region.ready .any ops listed with
    | nil => rfl
    | cons i r =>
      have := ready_mem (ops := ops) (listed := listed) (i := i) (by rw [hr]; simp)
      have := (hun i this.1).1 this.2.1
      simp at this
  | fuel + 1, listed, L, s, c, w, a, hlen, hsz, hun, hops, hsort, hcl, hruns, hfree, hps, hok => by
    refine ⟨fun hr => ?_, fun i hi => ?_⟩
    · -- the first in the text is ready
      cases L with
      | nil => simp at hlen
      | cons q l =>
        exfalso
        have ho := hops q (by simp)
        have hlt := (Array.getElem?_eq_some_iff.1 ho).1
        have hm : q.i ∈ Region.ready .any ops listed := mem_ready ho ((hun q.i hlt).2 (by simp)) fun e he hb => by
          have hlt2 := edgesOk_ok _ (hps q (by simp)).2 e he hb
          have : listed.getD e.on true ≠ false := fun hf => by
            have hm := (hun e.on (by omega)).1 hf
            simp only [List.map_cons, List.mem_cons] at hm
            rcases hm with hm | hm
            · omega
            · simp only [List.map_cons, List.pairwise_cons] at hsort
              have := hsort.1 _ hm; omega
          rw [getD_listed (by omega)]
          simpa using this
        rw [hr] at hm; cases hm
    · obtain ⟨hlt, hul, hdir⟩ := ready_mem hi
      have hmem := (hun i hlt).1 hul
      obtain ⟨q, hq, hqi⟩ := List.mem_map.1 hmem
      subst hqi
      have ho := hops q hq
      obtain ⟨pre, post, rfl⟩ := List.append_of_mem hq
      have hD : ∀ p ∈ q.ps, listed.getD p false = true := (hps q hq).1 _ hcl (fun o ho' e he hb => hdir o ho' e he hb)
      have hfront := runs_front pre q post s s' hruns fun p hp => by
        have hf : p.free ops q := (List.pairwise_append.1 hfree).2.2 p hp q (by simp)
        refine hf.resolve_left fun hin => ?_
        have hpl : p.i < ops.size := (Array.getElem?_eq_some_iff.1 (hops p (by simp [hp]))).1
        have h1 := (hun p.i hpl).2 (by simp only [List.map_append, List.mem_append, List.map_cons]; exact .inl (List.mem_map_of_mem hp))
        have h2 := hD _ hin
        rw [getD_listed (by omega), h1] at h2
        cases h2
      obtain ⟨hact, hd, hrest⟩ := hfront
      have hsort' : (pre.map (·.i) ++ q.i :: post.map (·.i)).Pairwise (· < ·) := by simpa using hsort
      have hnm : q.i ∉ (pre ++ post).map (·.i) := by
        intro hm
        simp only [List.map_append, List.mem_append] at hm
        obtain ⟨_, s2, s3⟩ := List.pairwise_append.1 hsort'
        rcases hm with hm | hm
        · have := s3 _ hm q.i (by simp); omega
        · have := (List.pairwise_cons.1 s2).1 _ hm; omega
      have ih := fun c' w' a' (hok' : Ok T om W0 S0 nt no (app q.o.dst q.e s) c' w' a') => any_ok hE hC hk fuel (listed.setIfInBounds q.i true) (pre ++ post) (app q.o.dst q.e s) c' w' a' (by simp at hlen ⊢; omega) (by simpa using hsz)
        (fun j hj => by
          by_cases hji : j = q.i
          · subst hji
            have : (listed.setIfInBounds q.i true).getD q.i true = true := by simp [Array.getD_eq_getD_getElem?, hsz, hlt]
            rw [this]
            exact ⟨fun h => (by cases h), fun h => absurd h hnm⟩
          · have : (listed.setIfInBounds q.i true).getD j true = listed.getD j true := by
              simp only [Array.getD_eq_getD_getElem?]; rw [Array.getElem?_setIfInBounds_ne (Ne.symm hji)]
            rw [this, hun j hj]
            simp only [List.map_append, List.mem_append, List.map_cons, List.mem_cons]
            constructor
            · rintro (h | h | h)
              · exact .inl h
              · exact absurd h hji
              · exact .inr h
            · rintro (h | h)
              · exact .inl h
              · exact .inr (.inr h))
        (fun x hx => hops x (by simp only [List.mem_append, List.mem_cons] at hx ⊢; exact hx.elim .inl fun h => .inr (.inr h)))
        (by
          have := (List.sublist_append_of_sublist_right (l₁ := pre) (List.sublist_cons_self q post)).map (fun x : Ent => x.i)
          refine List.Pairwise.sublist ?_ hsort
          exact (List.Sublist.append_left (List.sublist_cons_self q post) pre).map _)
        (fun j hj o ho' e he hb => by
          have mono : ∀ x, listed.getD x false = true → (listed.setIfInBounds q.i true).getD x false = true := fun x hx => by
            by_cases hxi : q.i = x
            · subst hxi; simp [Array.getD_eq_getD_getElem?, hsz, hlt]
            · simp only [Array.getD_eq_getD_getElem?] at hx ⊢; rw [Array.getElem?_setIfInBounds_ne hxi]; exact hx
          by_cases hji : q.i = j
          · subst hji
            exact mono _ (hdir o ho' e he hb)
          · refine mono _ (hcl j ?_ o ho' e he hb)
            simp only [Array.getD_eq_getD_getElem?] at hj ⊢
            rw [Array.getElem?_setIfInBounds_ne hji] at hj
            exact hj)
        hrest (List.Pairwise.sublist (List.Sublist.append_left (List.sublist_cons_self q post) pre) hfree)
        (fun x hx => hps x (by simp only [List.mem_append, List.mem_cons] at hx ⊢; exact hx.elim .inl fun h => .inr (.inr h))) hok'
      unfold wpOp
      rw [ho]
      simp only
      have act : eff E C s q.o = some q.e → q.o.wp P a w (wpAny P .any ops Q fuel (listed.setIfInBounds q.i true)) Q := fun he => eff_ok hE hC hok he hd fun c' w' a' hok' => ih c' w' a' hok'
      unfold Acts at hact
      cases hg : q.o.guard with
      | none =>
        rw [hg] at hact
        rw [if_pos (by simp [Region.wanted, hg])]
        exact .inl (act hact)
      | some jw =>
        obtain ⟨j, want⟩ := jw
        rw [hg] at hact
        obtain ⟨g, h1, hact⟩ := hact
        rcases hact with ⟨b, h2, h3⟩ | ⟨h2, h3⟩
        · have hy := yielded_of h1 hok h2
          by_cases hbw : b = want
          · rw [if_pos hbw] at h3
            rw [if_pos (by simp [Region.wanted, hg, hy, hbw])]
            exact .inl (act h3)
          · rw [if_neg hbw] at h3
            rw [if_neg (by simp [Region.wanted, hg, hy, hbw])]
            refine ih c w _ ?_
            rw [h3]
            exact hok.skip hd
        · have hy := yielded_none h1 hok h2
          rw [if_neg (by simp [Region.wanted, hg, hy])]
          refine ih c w _ ?_
          rw [h3]
          exact hok.skip hd

theorem Ok.drew {s : St} {c : Cc} {w : World} {a : Act} (h : Ok T om W0 S0 nt no s c w a) : Ok T om W0 S0 nt no s c { w with drawn := w.drawn + 1 } a := by
  obtain ⟨h1, h2⟩ := h.inv.world (w' := { w with drawn := w.drawn + 1 }) ⟨fun _ _ _ => rfl, Nat.le_refl _, rfl, rfl, rfl⟩
  exact ⟨h1, fun t => (h.sl t).keep (Cx.le_refl _) h2, h.nt, h.df, h.od, h.ol, h.tb⟩

theorem opsD_ok (hE : EnvOk P E) (hC : OrcOk P T C) (hm : P.follows .mixedOrders = true) {R : Type} {k : St → Option R} {r : R} {Q : Exit → Act → World → Prop} {id : Nat} {s : St} {c : Cc} {w : World} {a : Act}
    (he : opsD E C nt ops.toList 0 ops.toList s [] k = some r) (hok : Ok T om W0 S0 nt no s c w a) (hk : ∀ s' c' w' a', Ok T om W0 S0 nt no s' c' w' a' → k s' = some r → Q .normal a' w') : (Code.region id ops true).wp P Q a w := by
  obtain ⟨L, s', h1, h2, h3, _, h5, h6, h7⟩ := opsD_runs ops.toList 0 s [] he (by simp) (fun x hx => by cases hx)
  refine wp_region_any hm (any_ok hE hC (s' := s') (fun c' w' a' hok' => hk s' c' w' a' hok' h2) ops.size _ L s c _ a (by simpa using h5) (by simp) (fun i hi => ?_) (fun q hq => ?_) ?_ (fun j hj => ?_) h1 h3 h7 hok.drew)
  · have : (Array.replicate ops.size false).getD i true = false := by simp [Array.getD_eq_getD_getElem?, hi]
    rw [this]
    refine ⟨fun _ => ?_, fun _ => rfl⟩
    have hlt : i < L.length := by rw [h5]; simpa using hi
    have := (h6 i L[i] (by simp [hlt])).1
    rw [Nat.zero_add] at this
    exact this ▸ List.mem_map_of_mem (List.getElem_mem hlt)
  · obtain ⟨j, hj⟩ := List.mem_iff_getElem?.1 hq
    have := h6 j q hj
    rw [this.1, Nat.zero_add]
    simpa using this.2
  · rw [List.pairwise_iff_getElem]
    intro i j hi hj hij
    simp only [List.length_map] at hi hj
    simp only [List.getElem_map]
    have a1 := (h6 i L[i] (by simp [hi])).1
    have a2 := (h6 j L[j] (by simp [hj])).1
    omega
  · exfalso
    simp only [Array.getD_eq_getD_getElem?, Array.getElem?_replicate] at hj
    split at hj <;> cases hj

/-! #### code -/
def toExit : X → Exit
  | .normal => .normal
  | .ret => .ret
  | .exit i => .exit i

theorem codeK_ok (hE : EnvOk P E) (hC : OrcOk P T C) (hm : P.follows .mixedOrders = true) {R : Type} {r : R} {F : FuncId} {n : Nat} : ∀ (code : Code) (k : X → St → Option R) (Q : Exit → Act → World → Prop)
    (_ : ∀ e s' c' w' a', Ok T om W0 S0 nt no s' c' w' a' → k e s' = some r → Q (toExit e) a' w') (s : St) (c : Cc) (w : World) (a : Act), codeK E C nt F n code s k = some r → Ok T om W0 S0 nt no s c w a → code.wp P Q a w
  | .skip, k, Q, hk, s, c, w, a, he, hok => wp_skip (hk .normal s c w a hok he)
  | .region id ops draw, k, Q, hk, s, c, w, a, he, hok => by
    simp only [codeK] at he
    cases draw with
    | false => exact wp_region_list (opsK_ok hE hC (fun s' c' w' a' h1 h2 => hk .normal s' c' w' a' h1 h2) ops.toList s c w a he hok)
    | true => exact opsD_ok hE hC hm he hok (fun s' c' w' a' h1 h2 => hk .normal s' c' w' a' h1 h2)
  | .seq x y, k, Q, hk, s, c, w, a, he, hok => by
    simp only [codeK] at he
    refine wp_seq (codeK_ok hE hC hm x _ _ (fun e s' c' w' a' hok' he' => ?_) s c w a he hok)
    cases e with
    | normal => exact codeK_ok hE hC hm y k Q hk s' c' w' a' he' hok'
    | ret => exact hk .ret s' c' w' a' hok' he'
    | exit i => exact hk (.exit i) s' c' w' a' hok' he'
  | .cond (.tmp t) x y, k, Q, hk, s, c, w, a, he, hok => by
    simp only [codeK] at he
    cases ht : s.sl t with
    | bool b =>
      rw [ht] at he
      simp only at he
      have href := put_refine ht
      have hv := hok.sl t
      rw [ht] at hv
      have hv : a.tmps.getD t Go.undef = .bool b := RD_iff.1 hv
      cases b <;> simp only [cond_true, cond_false, href] at he
      · exact wp_cond_false hv (codeK_ok hE hC hm y k Q hk s c w a he hok)
      · exact wp_cond_true hv (codeK_ok hE hC hm x k Q hk s c w a he hok)
    | _ => rw [ht] at he; cases he
  | .block id x, k, Q, hk, s, c, w, a, he, hok => by
    simp only [codeK] at he
    refine wp_block (codeK_ok hE hC hm x _ _ (fun e s' c' w' a' hok' he' => ?_) s c w a he hok)
    cases e with
    | normal => exact hk .normal s' c' w' a' hok' he'
    | ret => exact hk .ret s' c' w' a' hok' he'
    | exit i =>
      simp only at he'
      cases hb : Nat.beq i id with
      | true =>
        rw [hb] at he'
        show Exit.inBlock id Q (.exit i) a' w'
        simp only [Exit.inBlock, natbeq hb, if_true]
        exact hk .normal s' c' w' a' hok' he'
      | false =>
        rw [hb] at he'
        show Exit.inBlock id Q (.exit i) a' w'
        simp only [Exit.inBlock, natbeq_false hb, if_false]
        exact hk (.exit i) s' c' w' a' hok' he'
  | .loop x, k, Q, hk, s, c, w, a, he, hok => by
    simp only [codeK] at he
    have key : ∀ (m : Nat) (s : St) (c : Cc) (w : World) (a : Act), iter (codeK E C nt F n x) (restrict (E.live F ((firstReg x).getD 0))) m s k = some r → Ok T om W0 S0 nt no s c w a → Code.rounds P x Q m a w := by
      intro m
      induction m with
      | zero => intro s c w a h _; cases h
      | succ m ih =>
        intro s c w a h hok
        simp only [iter] at h
        rw [rounds_succ]
        refine codeK_ok hE hC hm x _ _ (fun e s' c' w' a' hok' he' => ?_) s c w a h hok
        cases e with
        | normal => exact ih _ c' w' a' he' (restrict_ok _ hok')
        | ret => exact hk .ret s' c' w' a' hok' he'
        | exit i => exact hk (.exit i) s' c' w' a' hok' he'
    exact wp_loop_rounds n (key n _ c w a he (restrict_ok _ hok))
  | .exit id, k, Q, hk, s, c, w, a, he, hok => wp_exit (hk (.exit id) s c w a hok he)
  | .ret, k, Q, hk, s, c, w, a, he, hok => wp_ret (hk .ret s c w a hok he)
  | .cond (.const _) _ _, _, _, _, _, _, _, _, he, _ => by cases he
  | .cond (.global _) _ _, _, _, _, _, _, _, _, he, _ => by cases he
  | .cond (.func _) _ _, _, _, _, _, _, _, _, he, _ => by cases he
  | .rangeFunc _ _ _ _, _, _, _, _, _, _, _, he, _ => by cases he
  | .scope _, _, _, _, _, _, _, _, he, _ => by cases he
  | .goto _, _, _, _, _, _, _, _, he, _ => by cases he
  | .label _, _, _, _, _, _, _, _, he, _ => by cases he
end
end Go.Ev
/-
  Functions: what the evaluator says of a body is what a call does.
-/
namespace Go.Ev
section
variable {P : Program} {T : Tab} {E : Env} {C : Orc} {om : Nat → Nat} {W0 : World} {S0 : Prot} {nt no : Nat}

theorem resV_ok (hE : EnvOk P E) {s : St} {c : Cc} {w : World} {a : Act} (hok : Ok T om W0 S0 nt no s c w a) : ∀ (l : List ResultVar) (vs : List V), resV E s l = some vs → vs.all isData = true ∧ ∃ us : List Value,
    (l.mapM fun | .tmp t => pure (a.tmps.getD t Go.undef) | .cell x t => do loadVar t (← asAddr (a.tmps.getD x Go.undef)) : Sem (List Value)).run P w = .ok us w ∧ All2 (RD (cxOf om s c) c.S w) us vs
  | [], vs, h => by
    simp only [resV, Option.some.injEq] at h
    subst h
    exact ⟨rfl, [], rfl, trivial⟩
  | .tmp t :: l, vs, h => by
    simp only [resV] at h
    obtain ⟨hd, h⟩ := of_bif h
    obtain ⟨q, hq, h⟩ := of_bind h
    simp only [Option.some.injEq] at h
    subst h
    obtain ⟨h1, us, h2, h3⟩ := resV_ok hE hok l q hq
    refine ⟨by simp [hd, h1], a.tmps.getD t Go.undef :: us, ?_, esc_RD hok.inv (hok.sl t), h3⟩
    simp only [List.mapM_cons, Sem.run_bind, Sem.run_pure, Result.andThen_ok, h2]
  | .cell x t :: l, vs, h => by
    simp only [resV] at h
    split at h
    · rename_i b g o hx
      obtain ⟨hg, h⟩ := of_bif h
      obtain ⟨cs, hb, h⟩ := of_bind h
      obtain ⟨y, hy, h⟩ := of_bind h
      obtain ⟨k, hk, hy⟩ := of_bind hy
      obtain ⟨hd, h⟩ := of_bif h
      obtain ⟨q, hq, h⟩ := of_bind h
      simp only [Option.some.injEq] at h
      subst h
      obtain ⟨h1, us, h2, h3⟩ := resV_ok hE hok l q hq
      have hp := hok.sl x
      rw [hx] at hp
      have hp := (RD_iff.1 hp).2.2 (natbeq hg) (by simp [hb])
      obtain ⟨vs, T, hgg, hcs⟩ := hok.inv.box b cs hb
      obtain ⟨v, hv1, hv2⟩ := run_load hE hk hcs (p := 0) (cellsAt_block hgg) hy
      rw [Nat.zero_add] at hv1
      refine ⟨by simp [hd, h1], v :: us, ?_, esc_RD hok.inv hv2, h3⟩
      have hadr : (asAddr (a.tmps.getD x Go.undef)).run P w = .ok ⟨c.bl b, o, none⟩ w := by rw [hp]; rfl
      simp only [List.mapM_cons, Sem.run_bind, hadr, hv1, Sem.run_pure, Result.andThen_ok, h2]
    · cases h

theorem finish_ok (hE : EnvOk P E) {s : St} {c : Cc} {w : World} {a : Act} (hok : Ok T om W0 S0 nt no s c w a) {fn : Func} {r : V} {outs' : List (List V)} (h : finish E fn s = some (r, outs')) :
    dataR r = true ∧ outs' = s.out ∧ ∃ v, (results fn a.tmps).run P w = .ok v w ∧ RD (cxOf om s c) c.S w v r := by
  simp only [finish] at h
  obtain ⟨vs, hvs, h⟩ := of_bind h
  simp only [Option.some.injEq, Prod.mk.injEq] at h
  obtain ⟨rfl, rfl⟩ := h
  obtain ⟨hd, us, h1, h2⟩ := resV_ok hE hok _ vs hvs
  have hl := h2.len
  have hrun : (results fn a.tmps).run P w = .ok (if h : us.toArray.size = 1 then us.toArray[0] else .tuple us.toArray) w := by
    unfold results
    rw [Array.mapM_eq_mapM_toList]
    simp only [Sem.run_bind, Sem.run_map]
    erw [h1]
    rfl
  clear h1 h hvs
  match us, vs, h2, hl, hd, hrun with
  | [u], [x], h2, _, hd, hrun =>
    have hx : isData x = true := by simpa using hd
    refine ⟨?_, rfl, u, hrun, h2.1⟩
    cases x <;> first | exact hx | (simp [isData, isDataC] at hx; done)
  | [], [], h2, _, _, hrun => exact ⟨rfl, rfl, .tuple #[], hrun, RD_iff.2 ⟨[], rfl, trivial⟩⟩
  | u :: u' :: us, x :: x' :: vs, h2, _, hd, hrun =>
    refine ⟨hd, rfl, .tuple (u :: u' :: us).toArray, ?_, RD_iff.2 ⟨_, rfl, h2⟩⟩
    rw [hrun, dif_neg (by simp)]
  | [_], _ :: _ :: _, _, hl, _, _ => simp at hl
  | _ :: _ :: _, [_], _, hl, _, _ => simp at hl
  | [], _ :: _, _, hl, _, _ => simp at hl
  | _ :: _, [], _, hl, _, _ => simp at hl

/-- A FUNCTION. -/
theorem body_ok (hE : EnvOk P E) (hC : OrcOk P T C) (hm : P.follows .mixedOrders = true) {f : FuncId} {fn : Func} (hf : P.funcs[f]? = some fn) (hnm : (fn.name == "runtime.NumGoroutine") = false) {n : Nat} {args : List V} {outs : List (List V)} {r : V} {outs' : List (List V)}
    (he : evalBody E C f fn n args outs = some (r, outs')) : Answers P T f args outs r outs' := by
  intro om S w vals hargs houts hod hS hne hlt htb
  unfold evalBody at he
  cases hb : fn.body with
  | none => rw [hb] at he; cases he
  | some code =>
    rw [hb] at he
    simp only at he
    obtain ⟨hnt, he⟩ := of_bif he
    have hnt := Nat.le_of_ble_eq_true hnt
    have hal := hargs.len
    have hrun : (callFunc f vals.toArray).run P w = .ok (.enter f vals.toArray) w := by
      simp only [callFunc, Sem.run_bind, run_program, Result.andThen_ok, hf, hnm, hb]
      rfl
    refine .inr ⟨hrun, ?_⟩
    refine calls_of_wp hf hb ?_
    let c0 : Cc := { bl := fun _ => 0, rv := fun _ => Go.undef, S := S }
    have hle : (argCx om).le (cxOf om (start args outs) c0) := ⟨rfl, fun _ _ _ _ h => h.elim, fun _ _ _ h => h.elim, fun _ _ _ _ h => h.elim⟩
    have h0 : Ok T om w S fn.ntmps outs.length (start args outs) c0 w { tmps := vals.toArray ++ Array.replicate (fn.ntmps - vals.toArray.size) Go.undef, defers := [] } := by
      refine ⟨⟨(fun _ _ h => by cases h), (fun _ h => by cases h), (fun _ h => by cases h), (fun _ _ h => by cases h), (fun _ _ h => by cases h), (fun _ _ h => by cases h), (fun _ _ h => by cases h), ?_, ?_, hS, hne, fun _ _ _ => rfl, Nat.le_refl _, rfl, rfl, rfl, fun _ _ h => h, fun _ _ h _ => h, hlt⟩, fun t => ?_, ?_, rfl, hod, rfl, fun g b hg => ⟨(htb g b hg).1, hlt g 0 (htb g b hg).1, (htb g b hg).2⟩⟩
      · intro j cs hj
        exact (houts j cs hj).keep hle (Keeps.refl _ _) rfl
      · intro j hj
        have hj' : j < outs.length := hj
        have := houts j outs[j] (List.getElem?_eq_getElem hj')
        exact this.lt
      · show RD _ _ _ _ (args.getD t .undef)
        by_cases ht : t < args.length
        · have h1 : args[t]? = some (args.getD t .undef) := getD_some args t .undef ht
          obtain ⟨v, hv1, hv2⟩ := hargs.get t _ h1
          have : (vals.toArray ++ Array.replicate (fn.ntmps - vals.toArray.size) Go.undef).getD t Go.undef = v := by
            rw [Array.getD_eq_getD_getElem?, Array.getElem?_append_left (by simp; omega)]
            simp [hv1]
          show RD (cxOf om (start args outs) c0) S w ((vals.toArray ++ Array.replicate (fn.ntmps - vals.toArray.size) Go.undef).getD t Go.undef) _
          rw [this]
          exact hv2.keep hle (Keeps.refl _ _)
        · rw [List.getD_eq_getElem?_getD, List.getElem?_eq_none (by omega)]
          exact ⟨1, trivial⟩
      · simp; omega
    have fin : ∀ s' c' w' a', Ok T om w S fn.ntmps outs.length s' c' w' a' → finish E fn s' = some (r, outs') → a'.defers = [] ∧ ∃ v, (results fn a'.tmps).run P w' = .ok v w' ∧ ∃ S', After om S w outs r outs' S' v w' := fun s' c' w' a' hok h => by
      obtain ⟨hd, ho, v, hv1, hv2⟩ := finish_ok hE hok h
      subst ho
      refine ⟨hok.df, v, hv1, c'.S, ⟨hok.inv.s0, fun g o h hl => hok.inv.sold g o h hl, hok.inv.slt, ⟨fun g hg ht => hok.inv.old g hg fun j hj e => ht ⟨j, hok.ol ▸ hj, e⟩, hok.inv.size, hok.inv.os, hok.inv.tape, hok.inv.output⟩, hok.ol, fun j cs hj => (hok.inv.out j cs hj).data (hok.od cs (List.mem_of_getElem? hj)), hok.od, hv2.dataR hd, hd⟩⟩
    refine codeK_ok hE hC hm code _ _ (fun e s' c' w' a' hok h => ?_) (start args outs) c0 w _ he h0
    cases e with
    | normal => exact fin s' c' w' a' hok h
    | ret => exact fin s' c' w' a' hok h
    | exit i => cases h
end
end Go.Ev
