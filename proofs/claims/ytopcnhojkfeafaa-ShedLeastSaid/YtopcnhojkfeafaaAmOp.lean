/- AM: that what an instruction comes to is what Go's operation comes to: helpers; operands; loads and stores. -/
import Derived.Test.YtopcnhojkfeafaaAmRel
import Derived.Test.YtopcnhojkfeafaaAmTr
import Derived.Laws.Sem
import Derived.Laws.Cells
import Derived.Laws.CopyRow
import Derived.Laws.Entries
set_option linter.unusedSimpArgs false
set_option linter.unusedVariables false
namespace Go.Proofs.Ytopcnhojkfeafaa.Am
open Go.RowKit

theorem oneC_eq (x : Value) : x.oneCell' = oneC x := by cases x <;> rfl

theorem RL.length {w : World} {Γ : Env} : ∀ {cs : List C} {ys : List Value}, RL w Γ cs ys → cs.length = ys.length
  | [], [], _ => rfl
  | _ :: cs, _ :: ys, h => by simp [RL.length h.2]
  | [], _ :: _, h => h.elim
  | _ :: _, [], h => h.elim

theorem RL.get {w : World} {Γ : Env} : ∀ {cs : List C} {ys : List Value}, RL w Γ cs ys → ∀ j, j < cs.length → R w Γ (cs.getD j .undef) (ys.getD j undef)
  | [], [], _, j, h => by simp at h
  | _ :: cs, _ :: ys, h, 0, _ => h.1
  | _ :: cs, _ :: ys, h, j + 1, hj => by simpa using RL.get h.2 j (by simpa using hj)
  | [], _ :: _, h, _, _ => h.elim
  | _ :: _, [], h, _, _ => h.elim

theorem RL.mk {w : World} {Γ : Env} : ∀ {cs : List C} {ys : List Value}, cs.length = ys.length → (∀ j, j < cs.length → R w Γ (cs.getD j .undef) (ys.getD j undef)) → RL w Γ cs ys
  | [], [], _, _ => trivial
  | _ :: cs, _ :: ys, h, k => ⟨k 0 (by simp), RL.mk (by simpa using h) fun j hj => by simpa using k (j + 1) (by simpa using hj)⟩
  | [], _ :: _, h, _ => by simp at h
  | _ :: _, [], h, _ => by simp at h

theorem RL.one {w : World} {Γ : Env} : ∀ {cs : List C} {ys : List Value}, RL w Γ cs ys → ∀ v ∈ ys, v.oneCell' = true
  | [], [], _, v, h => by simp at h
  | _ :: cs, y :: ys, h, v, hv => by
    rcases List.mem_cons.1 hv with rfl | hv
    · rw [oneC_eq]; exact h.1.one
    · exact RL.one h.2 v hv
  | [], _ :: _, h, _, _ => h.elim
  | _ :: _, [], h, _, _ => h.elim

theorem cells_one {x : Value} (h : oneC x = true) : x.cells = #[x] := by cases x <;> first | rfl | simp [oneC] at h

theorem RV1.cells {w : World} {Γ : Env} {v : V} {x : Value} {cs : List C} (h : RV1 w Γ v x) (hc : v.cells = some cs) : RL w Γ cs x.cells.toList := by
  cases v with
  | c c =>
    simp only [V.cells, Option.some.injEq] at hc
    subst hc
    rw [cells_one (R.one h)]
    exact ⟨h, trivial⟩
  | agg ds =>
    simp only [V.cells, Option.some.injEq] at hc
    subst hc
    obtain ⟨ys, rfl, h⟩ := h
    exact h
  | tup vs => simp [V.cells] at hc
  | none => simp [V.cells] at hc
  | any => simp [V.cells] at hc

theorem RVal.cells {w : World} {Γ : Env} {v : V} {x : Value} {cs : List C} (h : RVal w Γ v x) (hc : v.cells = some cs) : RL w Γ cs x.cells.toList := by
  cases v with
  | tup vs => simp [V.cells] at hc
  | c c => exact RV1.cells (v := .c c) h hc
  | agg ds => exact RV1.cells (v := .agg ds) h hc
  | none => simp [V.cells] at hc
  | any => simp [V.cells] at hc

theorem RVal.of_mk {w : World} {Γ : Env} {g : Bool} {cs : List C} {ys : List Value} {v : V} (h : RL w Γ cs ys) (hv : mkV g cs = some v) : RVal w Γ v (if g then .agg ys.toArray else ys.getD 0 undef) := by
  cases g with
  | true =>
    simp only [mkV, if_true, Option.some.injEq] at hv
    subst hv
    exact ⟨ys, rfl, h⟩
  | false =>
    simp only [mkV, Bool.false_eq_true, if_false] at hv
    match cs, ys, h, hv with
    | [c], [y], h, hv =>
      simp only [Option.some.injEq] at hv
      subst hv
      exact h.1
    | [], [], _, hv => simp at hv
    | _ :: _ :: _, _, _, hv => simp at hv

theorem zOf_R {w : World} {Γ : Env} {v : Value} {z : Z} (h : zOf v = some z) : R w Γ (ofZ z) v := by
  unfold zOf at h
  split at h <;> first
    | (simp only [Option.some.injEq] at h; subst h; first | exact .im (.int _ _ _) | exact .im (.bool _ _) | exact .im (.nilptr _) | exact .im (.nilsl _))
    | (split at h
       · rename_i f a b hs
         simp only [Option.some.injEq] at h
         subst h
         have e1 := Array.eq_empty_of_size_eq_zero hs.1
         have e2 := Array.eq_empty_of_size_eq_zero hs.2
         subst e1; subst e2
         exact .im (.func _ _)
       · simp at h)
    | simp at h

theorem mapM_cons {α β : Type} (f : α → Option β) (a : α) (as : List α) : (a :: as).mapM f = (f a).bind fun b => (as.mapM f).bind fun bs => some (b :: bs) := by
  rw [List.mapM_cons]; rfl

theorem mapM_cons_some {α β : Type} {f : α → Option β} {a : α} {as : List α} {r : List β} (h : (a :: as).mapM f = some r) : ∃ b bs, f a = some b ∧ as.mapM f = some bs ∧ r = b :: bs := by
  rw [mapM_cons] at h
  cases hf : f a with
  | none => simp [hf] at h
  | some b =>
    cases hs : as.mapM f with
    | none => simp [hf, hs] at h
    | some bs =>
      simp [hf, hs] at h
      exact ⟨b, bs, rfl, rfl, h.symm⟩

theorem mapM_nil_some {α β : Type} {f : α → Option β} {r : List β} (h : ([] : List α).mapM f = some r) : r = [] := by
  simp at h; exact h

theorem zOf_RL {w : World} {Γ : Env} : ∀ {vs : List Value} {zs : List Z}, vs.mapM zOf = some zs → RL w Γ (zs.map ofZ) vs
  | [], zs, h => by rw [mapM_nil_some h]; trivial
  | v :: vs, zs, h => by
    obtain ⟨b, bs, h1, h2, rfl⟩ := mapM_cons_some h
    exact ⟨zOf_R h1, zOf_RL h2⟩

theorem evX_R {w : World} {Γ : Env} {tm : List V} {a : Act} (hT : Tm w Γ tm a) {x : Operand} {x' : X} (h : xOf x = some x') : RVal w Γ (evX tm x') (a.eval x) := by
  cases x with
  | tmp t =>
    simp only [xOf, Option.some.injEq] at h
    subst h
    exact hT.get t
  | const v =>
    simp only [xOf] at h
    split at h
    · rename_i cs
      cases hz : cs.toList.mapM zOf with
      | none => simp [hz] at h
      | some zs =>
        simp only [hz, Option.map_some, Option.some.injEq] at h
        subst h
        exact ⟨cs.toList, by simp [Act.eval], zOf_RL hz⟩
    · cases hz : zOf v with
      | none => simp [hz] at h
      | some z =>
        simp only [hz, Option.map_some, Option.some.injEq] at h
        subst h
        exact zOf_R hz
  | global g => simp [xOf] at h
  | func f =>
    simp only [xOf, Option.some.injEq] at h
    subst h
    exact R.im (.func _ _)

def RAll (w : World) (Γ : Env) : List V → List Value → Prop
  | [], [] => True
  | v :: vs, y :: ys => RVal w Γ v y ∧ RAll w Γ vs ys
  | _, _ => False

theorem RAll.of_map {w : World} {Γ : Env} {tm : List V} {a : Act} (hT : Tm w Γ tm a) : ∀ {xs : List Operand} {ys : List X}, xs.mapM xOf = some ys → RAll w Γ (ys.map (evX tm)) (xs.map a.eval)
  | [], ys, h => by rw [mapM_nil_some h]; trivial
  | x :: xs, ys, h => by
    obtain ⟨b, bs, h1, h2, rfl⟩ := mapM_cons_some h
    exact ⟨evX_R hT h1, RAll.of_map hT h2⟩

/-! ### What an instruction's soundness says -/

def OpOK (P : Program) (o : Oper) (a : Act) (w : World) (Γ : Env) (M : Mem) (v : V) (M' : Mem) : Prop :=
  ∀ (K : Act → World → Prop) (Q : Exit → Act → World → Prop), (∀ x w' Γ', Sim w' Γ' M' → Ext All w Γ M w' Γ' M' → RVal w' Γ' v x → K (a.put o.dst x) w') → o.wp P a w K Q

theorem OpOK.value {P : Program} {o : Oper} {a : Act} {w w' : World} {Γ Γ' : Env} {M M' : Mem} {v : V} {x : Value} (hr : (execOp a.eval o).run P w = .ok (.value x) w') (hS : Sim w' Γ' M')
    (he : Ext All w Γ M w' Γ' M') (hv : RVal w' Γ' v x) : OpOK P o a w Γ M v M' := by
  intro K Q hK
  unfold Oper.wp
  rw [hr]
  exact hK x w' Γ' hS he hv

theorem OpOK.same {P : Program} {o : Oper} {a : Act} {w : World} {Γ : Env} {M : Mem} {v : V} {x : Value} (hS : Sim w Γ M) (hr : (execOp a.eval o).run P w = .ok (.value x) w) (hv : RVal w Γ v x) : OpOK P o a w Γ M v M :=
  .value hr hS (Ext.refl _ _ _ _) hv

theorem OpOK.skip {P : Program} {o : Oper} {a : Act} {w w' : World} {Γ Γ' : Env} {M M' : Mem} (hr : (execOp a.eval o).run P w = .ok .skip w') (hS : Sim w' Γ' M')
    (he : Ext All w Γ M w' Γ' M') : OpOK P o a w Γ M .none M' := by
  intro K Q hK
  unfold Oper.wp
  rw [hr]
  exact hK undef w' Γ' hS he rfl

/-! ### Addresses -/

theorem add_at (b o j : Nat) : (⟨b, o, none⟩ : Addr).add j = ⟨b, o + j, none⟩ := by
  unfold Addr.add; split <;> simp_all

theorem rowAt_some {M : Mem} {n k g : Nat} {xs : List (List C)} (h : rowAt M n = some (k, g, xs)) : M.getD n none = some (.row k g xs) := by
  unfold rowAt at h
  split at h
  · rename_i k' g' xs' hM
    simp only [Option.some.injEq, Prod.mk.injEq] at h
    obtain ⟨rfl, rfl, rfl⟩ := h
    exact hM
  · simp at h

theorem getD_getElem {xs : List (List C)} {i : Nat} {cs : List C} (h : xs[i]? = some cs) : xs.getD i [] = cs := by simp [List.getD_eq_getElem?_getD, h]

/-- Where an address's cells lie. -/
theorem cellsAt_sound {w : World} {Γ : Env} {M : Mem} (hS : Sim w Γ M) {v : V} {x : Value} (hv : RVal w Γ v x) {k : Nat} {cs : List C} (h : cellsAt M v k = some cs) :
    ∃ b o ys, x = .pointer (some ⟨b, o, none⟩) ∧ cs.length = k ∧ RL w Γ cs ys ∧ ∀ j y, ys[j]? = some y → w.cell? ⟨b, o + j, none⟩ = some y := by
  unfold cellsAt at h
  split at h
  · rename_i n g idx off
    split at h
    · rename_i k0 g' xs hrow
      split at h
      · rename_i hg; subst hg
        split at h
        · rename_i cs0 hx
          split at h
          · rename_i hle
            simp only [Option.some.injEq] at h
            subst h
            have hM := rowAt_some hrow
            have hidx : idx < xs.length := (List.getElem?_eq_some_iff.1 hx).1
            cases (show R w Γ _ _ from hv) with
            | im h => cases h
            | ptr n g idx off b o k tc hbe =>
              rcases hS.blk n _ hM with ⟨h1, h2⟩ | ⟨b', o', tc', arr, E, h1, h2, h3, h4, h5, h6, h7, h8⟩
              · rw [h1] at hbe; cases hbe
              · rw [h1] at hbe; injection hbe with e1 e2 e3 e4; subst e1; subst e2; subst e3; subst e4
                have hlen : cs0.length = k0 := by rw [← getD_getElem hx]; exact h7 idx hidx
                refine ⟨b', o' + (idx * k0 + off), (List.range k).map fun j => arr.getD (o' + (idx * k0 + (off + j))) undef, rfl, by simp; omega, RL.mk (by simp; omega) fun j hj => ?_, fun j y hy => ?_⟩
                · have hj' : j < k := by simp at hj; omega
                  obtain ⟨u, hu, hr⟩ := h8 idx (off + j) hidx (by omega)
                  have e1 : ((cs0.drop off).take k).getD j .undef = at2 xs idx (off + j) := by
                    simp only [at2, getD_getElem hx, List.getD_eq_getElem?_getD, List.getElem?_take, hj', if_true, List.getElem?_drop]
                  have e2 : ((List.range k).map fun j => arr.getD (o' + (idx * k0 + (off + j))) undef).getD j undef = u := by
                    simp [List.getD_eq_getElem?_getD, hj', Array.getD_eq_getD_getElem?, hu]
                  rw [e1, e2]
                  exact hr
                · have hj' : j < k := by
                    have := (List.getElem?_eq_some_iff.1 hy).1; simpa using this
                  obtain ⟨u, hu, hr⟩ := h8 idx (off + j) hidx (by omega)
                  have e2 : y = u := by
                    simp [hj', Array.getD_eq_getD_getElem?, hu] at hy
                    exact hy.symm
                  rw [e2, cell_eq h5, ← hu]
                  congr 1
                  omega
          · simp at h
        · simp at h
      · simp at h
    · simp at h
  · rename_i cs0 off
    split at h
    · rename_i hle
      simp only [Option.some.injEq] at h
      subst h
      cases (show R w Γ _ _ from hv) with
      | im h => cases h
      | iptr cs off b o f hb hf hr =>
        refine ⟨b, o + off, (List.range k).map fun j => f (off + j), rfl, by simp; omega, RL.mk (by simp; omega) fun j hj => ?_, fun j y hy => ?_⟩
        · have hj' : j < k := by simp at hj; omega
          have e1 : ((cs0.drop off).take k).getD j .undef = cs0.getD (off + j) .undef := by
            simp only [List.getD_eq_getElem?_getD, List.getElem?_take, hj', if_true, List.getElem?_drop]
          have e2 : ((List.range k).map fun j => f (off + j)).getD j undef = f (off + j) := by
            simp [List.getD_eq_getElem?_getD, hj']
          rw [e1, e2]
          exact .im (hr _ (by omega))
        · have hj' : j < k := by
            have := (List.getElem?_eq_some_iff.1 hy).1; simpa using this
          have e2 : y = f (off + j) := by
            simp [hj'] at hy
            exact hy.symm
          rw [e2, ← hf _ (by omega)]
          congr 2
          omega
    · simp at h
  · simp at h

theorem run_isAgg {P : Program} {t : TypeId} {g : Bool} (h : aggT P t = some g) (w : World) : (isAgg t).run P w = .ok g w := by
  unfold aggT at h
  split at h <;> first
    | (rename_i hu; simp only [Option.some.injEq] at h; subst h; simp [isAgg, run_underlying hu]; done)
    | (rename_i d h1 h2 hu
       simp only [Option.some.injEq] at h; subst h
       simp only [isAgg, Sem.run_bind, run_underlying hu, Result.andThen_ok]
       cases d <;> first | rfl | exact absurd hu (h1 _) | exact absurd hu (h2 _ _))
    | simp at h

theorem run_sizeOf {P : Program} {t : TypeId} {k : Nat} (h : sizeT P t = some k) (w : World) : (sizeOf t).run P w = .ok k w := by
  unfold sizeT at h
  split at h
  · rename_i i hi
    simp only [Option.some.injEq] at h; subst h
    simp [sizeOf, typeInfo, hi]
  · simp at h

theorem load_sound {P : Program} {o : Oper} {a : Act} {w : World} {Γ : Env} {M : Mem} {tm : List V} (hS : Sim w Γ M) (hT : Tm w Γ tm a) {t : TypeId} {x : Operand} {x' : X} {g : Bool} {k : Nat} {cs : List C} {v : V}
    (hop : o.op = .load t x) (hg : aggT P t = some g) (hk : sizeT P t = some k) (hx : xOf x = some x') (hc : cellsAt M (evX tm x') (if g then k else 1) = some cs) (hv : mkV g cs = some v) : OpOK P o a w Γ M v M := by
  obtain ⟨b, off, ys, hxe, hlen, hRL, hcell⟩ := cellsAt_sound hS (evX_R hT hx) hc
  refine OpOK.same hS (x := if g then .agg ys.toArray else ys.getD 0 undef) ?_ (RVal.of_mk hRL hv)
  have hl := run_loadCells_list (P := P) w ⟨b, off, none⟩ ys (fun j y hy => by rw [add_at]; exact hcell j y hy)
  have hyl : ys.length = if g then k else 1 := by rw [← hRL.length, hlen]
  simp only [execOp, hop, Instr.loadAt, hxe, Instr.sureAddr, loadVar, Sem.run_bind, Sem.run_pure, Result.andThen_ok, run_isAgg hg]
  cases g with
  | true =>
    simp only [if_true] at hyl ⊢
    rw [← hyl] at hk
    simp only [Sem.run_bind, run_sizeOf hk, Result.andThen_ok, hl, Sem.run_pure]
  | false =>
    simp only [Bool.false_eq_true, if_false] at hyl ⊢
    match ys, hyl, hcell with
    | [y], _, hcell =>
      have h0 := hcell 0 y rfl
      simp only [Nat.add_zero] at h0
      simp only [run_load, h0, Result.andThen_ok, Sem.run_pure]
      rfl

end Go.Proofs.Ytopcnhojkfeafaa.Am
