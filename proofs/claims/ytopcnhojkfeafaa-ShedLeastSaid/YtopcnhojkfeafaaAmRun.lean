/- AM: functions, and runs: what the machine comes to is what a call of the function comes to. -/
import Derived.Test.YtopcnhojkfeafaaAmFun
set_option linter.unusedSimpArgs false
set_option linter.unusedVariables false
namespace Go.Proofs.Ytopcnhojkfeafaa.Am
open Go.RowKit

section
variable {P : Program} {w : World} {Γ : Env} {M : Mem} {tm : List V} {bs : Nat} {A : Pg} {cl : Cl}

theorem getD_append_none (M : Mem) (k n : Nat) : (M ++ List.replicate k none).getD n none = M.getD n none := by
  simp only [List.getD_eq_getElem?_getD]
  rcases Nat.lt_or_ge n M.length with c | c
  · rw [List.getElem?_append_left c]
  · rw [List.getElem?_append_right c, List.getElem?_eq_none c, List.getElem?_replicate]
    split <;> rfl

/-! ### Results -/

def resF (tmps : Array Value) : ResultVar → Sem Value
  | .tmp t => pure (tmps.getD t undef)
  | .cell a t => do loadVar t (← asAddr (tmps.getD a undef))

theorem results_eq (fn : Func) (tmps : Array Value) : results fn tmps = (do let vs ← fn.results.mapM (resF tmps); pure (if h : vs.size = 1 then vs[0] else .tuple vs)) := by
  rfl

theorem res1_sound (hS : Sim w Γ M) {a : Act} (hT : Tm w Γ tm a) {rv : ResultVar} {rv' : RV} {v : V} (hok : okR P rv rv' = true) (h : evRV (tm, M) rv' = some v) : ∃ y, (resF a.tmps rv).run P w = .ok y w ∧ RV1 w Γ v y := by
  cases rv with
  | tmp t =>
    cases rv' with
    | cell a g k => simp [okR] at hok
    | tmp t' =>
      simp only [okR, beq_iff_eq] at hok
      subst hok
      have hv := hT.get t
      simp only [evRV] at h
      refine ⟨_, rfl, ?_⟩
      split at h
      · rename_i c hc
        simp only [Option.some.injEq] at h; subst h
        rw [hc] at hv; exact hv
      · rename_i cs hc
        simp only [Option.some.injEq] at h; subst h
        rw [hc] at hv; exact hv
      · simp at h
  | cell t ty =>
    cases rv' with
    | tmp t' => simp [okR] at hok
    | cell t' g k =>
      simp only [okR, Bool.and_eq_true, beq_iff_eq] at hok
      obtain ⟨rfl, hok⟩ := hok
      split at hok
      · rename_i g' k' hg hk
        simp only [Bool.and_eq_true, beq_iff_eq] at hok
        obtain ⟨rfl, rfl⟩ := hok
        simp only [evRV] at h
        split at h
        · rename_i cs hc
          obtain ⟨b, off, ys, hxe, hlen, hRL, hcell⟩ := cellsAt_sound hS (hT.get t) hc
          refine ⟨if g then .agg ys.toArray else ys.getD 0 undef, ?_, ?_⟩
          · have hl := run_loadCells_list (P := P) w ⟨b, off, none⟩ ys (fun j y hy => by rw [add_at]; exact hcell j y hy)
            have hyl : ys.length = if g then k' else 1 := by rw [← hRL.length, hlen]
            simp only [resF, hxe, asAddr, loadVar, Sem.run_bind, Sem.run_pure, Result.andThen_ok, run_isAgg hg]
            cases g with
            | true =>
              simp only [if_true] at hyl ⊢
              rw [← hyl] at hk
              simp only [Sem.run_bind, run_sizeOf hk, Result.andThen_ok, hl, Sem.run_pure]
            | false =>
              simp only [Bool.false_eq_true, if_false] at hyl ⊢
              match ys, hyl, hcell with
              | [y], _, hcell =>
                have h0 := hcell 0 y rfl
                simp only [Nat.add_zero] at h0
                simp only [run_load, h0, Result.andThen_ok, Sem.run_pure]
                rfl
          · have := RVal.of_mk hRL h
            unfold mkV at h
            split at h
            · simp only [Option.some.injEq] at h; subst h; exact this
            · split at h
              · simp only [Option.some.injEq] at h; subst h; exact this
              · simp at h
        · simp at h
      · cases hok

theorem resL_sound (hS : Sim w Γ M) {a : Act} (hT : Tm w Γ tm a) : ∀ {rvs : List ResultVar} {rvs' : List RV} {vs : List V}, okRs P rvs rvs' = true → rvs'.mapM (evRV (tm, M)) = some vs → ∃ ys, (rvs.mapM (resF a.tmps)).run P w = .ok ys w ∧ RVs w Γ vs ys
  | [], rvs', vs, hok, h => by
    cases rvs' with
    | cons _ _ => simp [okRs] at hok
    | nil => rw [mapM_nil_some h]; exact ⟨[], rfl, trivial⟩
  | rv :: rvs, rvs', vs, hok, h => by
    cases rvs' with
    | nil => simp [okRs] at hok
    | cons rv' rvs' =>
      simp only [okRs, Bool.and_eq_true] at hok
      obtain ⟨v, vs2, h1, h2, rfl⟩ := mapM_cons_some h
      obtain ⟨y, k1, k2⟩ := res1_sound hS hT hok.1 h1
      obtain ⟨ys, k3, k4⟩ := resL_sound hS hT hok.2 h2
      refine ⟨y :: ys, ?_, k2, k4⟩
      simp only [List.mapM_cons, Sem.run_bind, k1, Result.andThen_ok, k3, Sem.run_pure]

theorem results_sound (hS : Sim w Γ M) {a : Act} (hT : Tm w Γ tm a) {fn : Func} {rvs' : List RV} {r : V} (hok : okRs P fn.results.toList rvs' = true) (h : evRes rvs' (tm, M) = some r) : ∃ x, (results fn a.tmps).run P w = .ok x w ∧ RVal w Γ r x := by
  unfold evRes at h
  have key : ∀ vs, rvs'.mapM (evRV (tm, M)) = some vs → ∃ ys : List Value, (results fn a.tmps).run P w = .ok (if h : ys.toArray.size = 1 then ys.toArray[0] else .tuple ys.toArray) w ∧ RVs w Γ vs ys := by
    intro vs hv
    obtain ⟨ys, h1, h2⟩ := resL_sound hS hT hok hv
    refine ⟨ys, ?_, h2⟩
    rw [results_eq, Sem.run_bind, Array.mapM_eq_mapM_toList, Sem.run_map, h1]
    rfl
  split at h
  · rename_i v hv
    simp only [Option.some.injEq] at h; subst h
    obtain ⟨ys, h1, h2⟩ := key _ hv
    match ys, h2 with
    | [y], h2 => exact ⟨y, h1, RVal.of_RV1 h2.1⟩
    | [], h2 => exact h2.elim
    | _ :: _ :: _, h2 => exact h2.2.elim
  · rename_i vs hne hv
    simp only [Option.some.injEq] at h; subst h
    obtain ⟨ys, h1, h2⟩ := key _ hv
    have hl : ys.length ≠ 1 := by
      intro hl
      match ys, hl, h2 with
      | [y], _, h2 =>
        match vs, h2 with
        | [v], _ => exact hne v rfl
        | [], h2 => exact h2
        | _ :: _ :: _, h2 => exact h2.2
    refine ⟨_, h1, ?_⟩
    rw [dif_neg (by simpa using hl)]
    exact ⟨ys, rfl, h2⟩
  · simp at h

/-! ### Functions -/

theorem start_tm {vs : List V} {ys : List Value} (h : RAll w Γ vs ys) (n : Nat) : Tm w Γ (startTm n vs) { tmps := ys.toArray ++ Array.replicate (n - ys.toArray.size) undef, defers := [] } := by
  have hl : vs.length = ys.length := by
    clear n
    induction vs generalizing ys with
    | nil => cases ys with | nil => rfl | cons y ys => exact h.elim
    | cons v vs ih =>
      cases ys with
      | nil => exact h.elim
      | cons y ys => simp only [List.length_cons]; rw [ih h.2]
  have hg : ∀ t, t < vs.length → RVal w Γ (vs.getD t .none) (ys.getD t undef) := by
    clear hl n
    induction vs generalizing ys with
    | nil => intro t ht; simp at ht
    | cons v vs ih =>
      intro t ht
      cases ys with
      | nil => exact h.elim
      | cons y ys =>
        cases t with
        | zero => exact h.1
        | succ t => simpa using ih h.2 t (by simpa using ht)
  refine ⟨by simp [startTm, hl], fun t ht => ?_⟩
  rcases Nat.lt_or_ge t vs.length with c | c
  · have := hg t c
    have e1 : (startTm n vs).getD t .none = vs.getD t .none := by
      simp [startTm, List.getD_eq_getElem?_getD, List.getElem?_append_left c]
    have e2 : (ys.toArray ++ Array.replicate (n - ys.toArray.size) undef).getD t undef = ys.getD t undef := by
      rw [Array.getD_eq_getD_getElem?, Array.getElem?_append_left (by simp; omega)]
      simp [List.getD_eq_getElem?_getD]
    rw [e1]
    show RVal w Γ _ ((ys.toArray ++ Array.replicate (n - ys.toArray.size) undef).getD t undef)
    rw [e2]; exact this
  · have e1 : (startTm n vs).getD t .none = .none := by
      simp only [startTm, List.getD_eq_getElem?_getD, List.getElem?_append_right c, List.getElem?_replicate]
      split <;> rfl
    have e2 : (ys.toArray ++ Array.replicate (n - ys.toArray.size) undef).getD t undef = undef := by
      rw [Array.getD_eq_getD_getElem?, Array.getElem?_append_right (by simp; omega)]
      simp only [Array.getElem?_replicate]
      split <;> rfl
    rw [e1]
    show RVal w Γ _ ((ys.toArray ++ Array.replicate (n - ys.toArray.size) undef).getD t undef)
    rw [e2]; rfl

theorem okF_some {f : Nat} {af : AF} (h : okF P f af = true) : ∃ fn c, P.funcs[f]? = some fn ∧ fn.body = some c ∧ fn.ntmps = af.ntmps ∧ okRs P fn.results.toList af.results = true ∧ okC P c af.body = true ∧ (fn.name == "runtime.NumGoroutine") = false := by
  unfold okF at h
  split at h
  · rename_i fn hfn
    simp only [Bool.and_eq_true, beq_iff_eq, bne_iff_ne, ne_eq] at h
    obtain ⟨⟨⟨h1, h2⟩, h3⟩, h4⟩ := h
    split at h4
    · rename_i c hc
      exact ⟨fn, c, hfn, hc, h1, h2, h4, by simpa using h3⟩
    · cases h4
  · cases h

theorem body_sound (hm : P.follows .mixedOrders = true) (hcl : SoundCl P A cl) (hh : HoldCl A cl) (n : Nat) {f : Nat} {af : AF} (hok : okF P f af = true) {vs : List V} {e : Ex} {s : St} {r : V} (hev : evC A cl M.length n af.body (startTm af.ntmps vs, M ++ List.replicate af.nblk none) = some (e, s)) (hne : ∀ id, e ≠ .exit id)
    (hr : evRes af.results s = some r) {ys : List Value} (hS : Sim w Γ M) (hA : RAll w Γ vs ys) {R : Ending → World → Prop} (hR : ∀ w' Γ' x, Sim w' Γ' s.2 → Ext All w Γ M w' Γ' s.2 → RVal w' Γ' r x → R (.returned x) w') : Calls P f ys.toArray w R := by
  obtain ⟨fn, c, h1, h2, h3, h4, h5, h6⟩ := okF_some hok
  refine calls_of_wp h1 h2 ?_
  rw [h3]
  have hS' : Sim w Γ (M ++ List.replicate af.nblk none) := hS.congr (getD_append_none M af.nblk)
  refine evC_sound hm hcl hh n (D := All) (w0 := w) (Γ0 := Γ) (M0 := M ++ List.replicate af.nblk none) (ds := []) af.body c h5 hev (fun a w' Γ' s1 e1 t1 d1 => ?_) hS' (Ext.refl _ _ _ _) (start_tm hA af.ntmps) rfl
  obtain ⟨x, k1, k2⟩ := results_sound (tm := s.1) (M := s.2) s1 t1 h4 hr
  have e2 : Ext All w Γ M w' Γ' s.2 := e1.congr (fun n => (getD_append_none M af.nblk n).symm) (fun _ => rfl)
  cases e with
  | normal => exact ⟨d1, x, k1, hR w' Γ' x s1 e2 k2⟩
  | ret => exact ⟨d1, x, k1, hR w' Γ' x s1 e2 k2⟩
  | exit id => exact absurd rfl (hne id)

/-- What is asked of what stands for a function without its code being read. -/
structure PrimOK (P : Program) (A : Pg) (f : Nat) (p : List V → Mem → Option (V × Mem)) : Prop where
  fn : FnOK P f
  hold : A.md f = .state → ∀ vs M r M', p vs M = some (r, M') → M.length ≤ M'.length ∧ ∀ n, Idle M n → M'[n]? = M[n]?
  state : A.md f = .state → ∀ vs M r M', p vs M = some (r, M') → StateOK P f vs M r M'
  pure : A.md f ≠ .state → ∀ vs r M', p vs [] = some (r, M') → PureOK P f vs r

structure PgOK (P : Program) (A : Pg) : Prop where
  draws : P.follows .mixedOrders = true
  code : ∀ f af, A.code f = some af → okF P f af = true
  prim : ∀ f p, A.prim f = some p → PrimOK P A f p

theorem idle_append {n k : Nat} (h : Idle M n) : Idle (M ++ List.replicate k none) n ∧ n < M.length ∧ (M ++ List.replicate k none)[n]? = M[n]? := by
  have hn : n < M.length := by rcases h with h | ⟨g, h⟩ | h <;> exact (List.getElem?_eq_some_iff.1 h).1
  have e : (M ++ List.replicate k none)[n]? = M[n]? := List.getElem?_append_left hn
  refine ⟨?_, hn, e⟩
  unfold Idle
  rw [e]; exact h

theorem evF_hold (hP : PgOK P A) (hh : HoldCl A cl) (n : Nat) : HoldCl A (evF A (fun bs => evC A cl bs n)) := by
  intro f vs M r M' hmd h
  unfold evF at h
  split at h
  · rename_i p hp
    exact (hP.prim f p hp).hold hmd vs M r M' h
  · split at h
    · simp at h
    · rename_i af haf
      split at h
      · simp at h
      · rename_i e s hne hev
        have hH := evC_hold (bs := M.length) hh n af.body (Hold.refl M.length (M ++ List.replicate af.nblk none)) hev
        split at h
        · rename_i r0 hr0
          unfold evRet at h
          rw [hmd] at h
          simp only at h
          simp only [Option.some.injEq, Prod.mk.injEq] at h
          obtain ⟨_, rfl⟩ := h
          have hl := hH.len
          simp only [List.length_append, List.length_replicate] at hl
          refine ⟨by omega, fun m hi => ?_⟩
          obtain ⟨k1, k2, k3⟩ := idle_append (k := af.nblk) hi
          exact (hH.idle m k2 k1).trans k3
        · simp at h
      · simp at h

theorem sim_lend {F : Nat → Prop} (hF : ∀ b, F b → b < w.heap.size) : Sim w (Env.lend F w) [] :=
  ⟨fun n B h => (by simp at h), fun n n' B B' b o k tc o' k' tc' h => (by simp at h), fun n g h => absurd rfl h, fun n _ g => rfl, fun n B h => (by simp at h), Nat.le_refl _, hF⟩

theorem not_owned_nil {b : Nat} : ¬ Owned Γ [] b := by
  rintro ⟨n, B, o, k, tc, h, _⟩
  simp at h

theorem evF_sound (hP : PgOK P A) (hcl : SoundCl P A cl) (hh : HoldCl A cl) (n : Nat) : SoundCl P A (evF A (fun bs => evC A cl bs n)) := by
  have hfn : ∀ f af, A.code f = some af → FnOK P f := fun f af h => by
    obtain ⟨fn, c, h1, h2, h3, h4, h5, h6⟩ := okF_some (hP.code f af h)
    exact ⟨fn, c, h1, h6, h2⟩
  refine ⟨fun f vs M r M' h => ?_, fun f vs M r M' h hmd => ?_, fun f vs r M' h hmd => ?_⟩
  · unfold evF at h
    split at h
    · rename_i p hp
      exact (hP.prim f p hp).fn
    · split at h
      · simp at h
      · rename_i af haf
        exact hfn f af haf
  · unfold evF at h
    split at h
    · rename_i p hp
      exact (hP.prim f p hp).state hmd vs M r M' h
    · split at h
      · simp at h
      · rename_i af haf
        split at h
        · simp at h
        · rename_i e s hne hev
          split at h
          · rename_i r0 hr0
            intro w Γ ys hS hA
            refine body_sound hP.draws hcl hh n (hP.code f af haf) hev (fun id e => hne id e) hr0 hS hA (fun w' Γ' x s1 e1 r1 => ?_)
            unfold evRet at h
            rw [hmd] at h
            simp only at h
            simp only [Option.some.injEq, Prod.mk.injEq] at h
            obtain ⟨rfl, rfl⟩ := h
            exact ⟨x, Γ', rfl, s1, e1, r1⟩
          · simp at h
        · simp at h
  · unfold evF at h
    split at h
    · rename_i p hp
      exact (hP.prim f p hp).pure hmd vs r M' h
    · split at h
      · simp at h
      · rename_i af haf
        split at h
        · simp at h
        · rename_i e s hne hev
          split at h
          · rename_i r0 hr0
            intro w F ys hF hA
            refine body_sound hP.draws hcl hh n (hP.code f af haf) hev (fun id e => hne id e) hr0 (sim_lend hF) hA (fun w' Γ' x s1 e1 r1 => ?_)
            have hx : nodupB (topsV s.2 r0) = true ∧ expV s.2 (topsV s.2 r0) r0 = some r := by
              unfold evRet at h
              split at h
              · rename_i hq; exact absurd hq hmd
              · split at h
                · rename_i hd
                  obtain ⟨r', h1, h2⟩ := Option.map_eq_some_iff.1 h
                  simp only [Prod.mk.injEq] at h2
                  obtain ⟨rfl, _⟩ := h2
                  exact ⟨hd, h1⟩
                · simp at h
            obtain ⟨B, x1, g1⟩ := expV_sound s1 hx.1 hx.2 r1
            have hnew : ∀ b, Owned Γ' s.2 b → w.heap.size ≤ b := fun b hb => by
              rcases e1.own b hb with c | c
              · exact absurd c not_owned_nil
              · exact c
            refine ⟨x, B, rfl, e1.os, e1.tape, e1.output, e1.size, fun b hb => e1.fr b hb not_owned_nil, fun b hb => ?_, g1.2, x1.mono (fun b hb => ?_)⟩
            · obtain ⟨m, _, hm⟩ := g1.1 b hb
              exact ⟨hnew b hm.owned, (hm.lt s1).1⟩
            · rcases hb with hb | ⟨m, hm, ho⟩
              · rcases e1.Fnew b hb with c | c | c
                · exact .inl c
                · exact absurd c not_owned_nil
                · refine .inr ⟨c, s1.Fb b hb, fun hB => ?_⟩
                  obtain ⟨m, _, hm⟩ := g1.1 b hB
                  exact (hm.lt s1).2.2 hb
              · refine .inr ⟨hnew b ho.owned, (ho.lt s1).1, fun hB => ?_⟩
                obtain ⟨m', h1, h2⟩ := g1.1 b hB
                have := h2.inj s1 ho
                subst this
                exact hm h1
          · simp at h
        · simp at h

theorem runF_sound (hP : PgOK P A) : ∀ n, SoundCl P A (runF A n) ∧ HoldCl A (runF A n)
  | 0 => ⟨⟨fun _ _ _ _ _ h => by simp [runF] at h, fun _ _ _ _ _ h => by simp [runF] at h, fun _ _ _ _ h => by simp [runF] at h⟩, fun _ _ _ _ _ _ h => by simp [runF] at h⟩
  | n + 1 => by
    obtain ⟨h1, h2⟩ := runF_sound hP n
    exact ⟨evF_sound hP h1 h2 n, evF_hold hP h2 n⟩

end
end Go.Proofs.Ytopcnhojkfeafaa.Am
