/- AM: shed's functions: what is right, as the code asks it. -/
import Derived.Test.YtopcnhojkfeafaaAmShB
import Derived.Test.YtopcnhojkfeafaaAmGen
set_option linter.unusedSimpArgs false
set_option linter.unusedVariables false
set_option maxRecDepth 100000
namespace Go.Proofs.Ytopcnhojkfeafaa.Am.Sh
open Am.Gen

theorem encP_still (l : List Wa) : ∀ cs ∈ l.map encP, cs.all still = true := by
  intro cs h
  obtain ⟨x, _, rfl⟩ := List.mem_map.1 h
  rfl
theorem encP_flat (l : List Wa) : ∀ cs ∈ l.map encP, cs.all flat = true := by
  intro cs h
  obtain ⟨x, _, rfl⟩ := List.mem_map.1 h
  rfl

theorem hasU_take {l : List Wa} {i : Nat} {x : Wa} (h : l[i]? = some x) (u : Int) : hasU (l.take (i + 1)) u = (hasU (l.take i) u || decide (x.1 = u)) := by
  rw [take_succ h]; simp [hasU]

theorem entPut_vals {k : Int} {v : V} (p : V → Prop) (hv : p v) : ∀ {es : List (Int × V)}, (∀ e ∈ es, p e.2) → ∀ e ∈ entPut k v es, p e.2
  | [], _, e, he => by
    simp only [entPut, List.mem_singleton] at he
    subst he; exact hv
  | x :: es, h, e, he => by
    simp only [entPut] at he
    split at he
    · rcases List.mem_cons.1 he with rfl | he
      · exact hv
      · exact h e (List.mem_cons_of_mem _ he)
    · rcases List.mem_cons.1 he with rfl | he
      · exact h _ List.mem_cons_self
      · exact entPut_vals p hv (fun x hx => h x (List.mem_cons_of_mem _ hx)) e he

theorem ocheck_run {l : List Wa} {c : C} (hc : Sl 2 (l.map encP) c) (f : Int) (hl : l.length ≤ 100000) : run sh 97 [.c (.int .i64 f), .c c] [] = some (.c (.int .i64 (chk f l)), []) := by
  refine run_of_W (af := c97) rfl rfl rfl (by simp [c97]) ?_
  by_cases f1 : f < 2
  · simp [c97, c97r0, c97r1, c97r2, sh_md, shMd, f1, chk]
  by_cases f2 : 64 < f
  · simp [c97, c97r0, c97r1, c97r2, sh_md, shMd, f1, f2, chk]
  have ec : chk f l = chkL f [] l := by unfold chk; rw [if_neg (by omega)]
  rw [ec]
  simp [c97, c97r0, c97r1, c97r3, c97r4, sh_md, shMd, f1, f2, hc.len]
  refine W_loop (σ := Nat × List (Int × V)) (fun x => (mk 57 [(0, .c (.int .i64 f)), (5, .c (.mref 0 0)), (20, .c c), (21, .c (.int .i64 l.length)), (22, .c (.int .i64 x.1))], [some (.map 0 (ents x.2)), none, none])) (fun x => x.1 ≤ l.length ∧ chkL f (l.take x.1) (l.drop x.1) = chkL f [] l ∧ (∀ u, entAt u x.2 = if hasU (l.take x.1) u then some (.agg []) else none) ∧ ∀ e ∈ x.2, e.2 = .agg []) (fun x => l.length - x.1) (0, []) ?_ ?_ ?_
  · simp [c97l0a, hc.still, ents, keepB]
  · simp [entAt, hasU]
  · rintro ⟨i, es⟩ ⟨hi, hr, he, hv⟩
    simp only at hi hr he hv
    by_cases h : i < l.length
    · have h' : (i : Int) < (l.length : Int) := by omega
      obtain ⟨x, hx⟩ : ∃ x, l[i]? = some x := ⟨_, List.getElem?_eq_getElem h⟩
      have w1 : IntKind.i64.wrap ((i : Int) + 1) = (i : Int) + 1 := by rw [wrap_i64] <;> omega
      rw [drop_cons hx] at hr
      obtain ⟨ka, kb, ri⟩ := kind_run x.1
      have kk : ∀ E M, keepB E M (.map 0 (ents es)) = some (.map 0 (ents es)) := fun E M => keepB_map _ _ _ _ (fun e h => by rw [hv e h]; rfl)
      cases u1 : isU x.1 with
      | false =>
        rw [u1] at ri
        have e : chkL f [] l = 20 := by rw [← hr]; simp [chkL, u1]
        simp [-getElem?_pos, c97l0, c97l0a, c97r5, c97r6, c97r7, c97r8, c97r9, sh_md, shMd, hc.len, hc.ixs, h, h', hx, encP, ri, e, kk]
      | true =>
        rw [u1] at ri
        by_cases s1 : x.2 < 1
        · have e : chkL f [] l = 21 := by rw [← hr]; simp [chkL, u1, s1]
          simp [-getElem?_pos, c97l0, c97l0a, c97r5, c97r6, c97r7, c97r8, c97r10, c97r11, sh_md, shMd, hc.len, hc.ixs, h, h', hx, encP, ri, e, kk, s1]
        by_cases s2 : f < x.2
        · have e : chkL f [] l = 21 := by rw [← hr]; simp [chkL, u1, s1, s2]
          simp [-getElem?_pos, c97l0, c97l0a, c97r5, c97r6, c97r7, c97r8, c97r10, c97r11, sh_md, shMd, hc.len, hc.ixs, h, h', hx, encP, ri, e, kk, s1, s2]
        have e0 : chkL f [] l = if hasU (l.take i) x.1 then 11 else chkL f (l.take (i + 1)) (l.drop (i + 1)) := by
          rw [← hr, take_succ hx]; simp [chkL, u1, s1, s2]
        have ex := he x.1
        cases hh : hasU (l.take i) x.1 with
        | true =>
          rw [hh] at e0 ex
          simp only [if_true] at e0 ex
          simp [-getElem?_pos, c97l0, c97l0a, c97r5, c97r6, c97r7, c97r8, c97r10, c97r12, c97r13, c97r14, sh_md, shMd, hc.len, hc.ixs, h, h', hx, encP, ri, e0, kk, s1, s2, ex, splice]
        | false =>
          rw [hh] at e0 ex
          simp only [Bool.false_eq_true, if_false] at e0 ex
          have kk2 : ∀ E M, keepB E M (.map 0 (ents (entPut x.1 (.agg []) es))) = some (.map 0 (ents (entPut x.1 (.agg []) es))) := fun E M => keepB_map _ _ _ _ (fun e h => by rw [entPut_vals (· = .agg []) rfl hv e h]; rfl)
          simp [-getElem?_pos, c97l0, c97l0a, c97r5, c97r6, c97r7, c97r8, c97r10, c97r12, c97r13, c97r15, c97r16, sh_md, shMd, hc.len, hc.ixs, h, h', hx, encP, ri, kk, kk2, s1, s2, ex, splice, w1, hc.still]
          refine ⟨i + 1, entPut x.1 (.agg []) es, ⟨by omega, e0.symm, fun u => ?_, fun a b hb => entPut_vals (· = .agg []) rfl hv _ hb⟩, by omega, by simp, rfl⟩
          rw [entAt_put, hasU_take hx, he u]
          by_cases hu : u = x.1
          · subst hu; simp
          · simp [hu, Ne.symm hu]
    · have h' : ¬ (i : Int) < (l.length : Int) := by omega
      rw [List.drop_of_length_le (by omega)] at hr
      have e : chkL f [] l = 0 := by rw [← hr]; simp [chkL]
      have kk : ∀ E M, keepB E M (.map 0 (ents es)) = some (.map 0 (ents es)) := fun E M => keepB_map _ _ _ _ (fun e h => by rw [hv e h]; rfl)
      simp [-getElem?_pos, c97l0, c97l0a, c97r5, c97r17, sh_md, shMd, hc.len, h, h', e, kk]

theorem why_run {l : List Wa} {c : C} (hc : Sl 2 (l.map encP) c) (f : Int) (hl : l.length ≤ 100000) : run sh 48 [.c (.int .i64 f), .c c] [] = some (.c (.int .i64 (if chk f l = 0 ∧ 64 < l.length then 4 else chk f l)), []) := by
  have r := rcheck_run hc f hl
  refine run_of_W (af := c48) rfl rfl rfl (by simp [c48]) ?_
  by_cases h : chk f l = 0
  · by_cases h2 : 64 < l.length
    · have h2' : (64 : Int) < (l.length : Int) := by omega
      simp [c48, c48r0, c48r1, c48r2, c48r3, sh_md, shMd, r, hc.still, hc.len, h, h2, h2']
    · have h2' : ¬ (64 : Int) < (l.length : Int) := by omega
      simp [c48, c48r0, c48r1, c48r2, c48r4, sh_md, shMd, r, hc.still, hc.len, h, h2, h2']
  · simp [c48, c48r0, c48r1, c48r2, c48r4, sh_md, shMd, r, hc.still, hc.len, h]

theorem check_run {l : List Wa} {c : C} (hc : Sl 2 (l.map encP) c) (f : Int) (hl : l.length ≤ 100000) : run sh 49 [.c (.int .i64 f), .c c] [] = some (.c (.int .i64 (if chk f l = 0 ∧ 64 < l.length then 4 else chk f l)), []) := by
  have r := ocheck_run hc f hl
  refine run_of_W (af := c49) rfl rfl rfl (by simp [c49]) ?_
  by_cases h : chk f l = 0
  · by_cases h2 : 64 < l.length
    · have h2' : (64 : Int) < (l.length : Int) := by omega
      simp [c49, c49r0, c49r1, c49r2, c49r4, c49r5, sh_md, shMd, r, hc.still, hc.len, h, h2, h2']
    · have h2' : ¬ (64 : Int) < (l.length : Int) := by omega
      simp [c49, c49r0, c49r1, c49r2, c49r4, c49r6, sh_md, shMd, r, hc.still, hc.len, h, h2, h2']
  · simp [c49, c49r0, c49r1, c49r2, c49r3, sh_md, shMd, r, hc.still, hc.len, h]

theorem total_run {l : List Wa} {c : C} (hc : Sl 2 (l.map encP) c) (hs : Sh64 l) (hl : l.length ≤ 100000) : run sh 129 [.c c] [] = some (.tup [.c (.int .i64 (sumW l)), .c (.int .i64 0)], []) := by
  refine run_of_W (af := c129) rfl rfl rfl (by simp [c129]) ?_
  simp [c129, c129r0, c129r1, c129r2, hc.len]
  refine W_loop (σ := Nat) (fun i => (mk 28 [(4, .c (.int .i64 (sumW (l.take i)))), (9, .c c), (10, .c (.int .i64 l.length)), (11, .c (.int .i64 i))], [none])) (fun i => i ≤ l.length) (fun i => l.length - i) 0 ?_ (by simp) ?_
  · simp [c129l0a, sumW, hc.still]
  · intro i hi
    by_cases h : i < l.length
    · have h' : (i : Int) < (l.length : Int) := by omega
      obtain ⟨x, hx⟩ : ∃ x, l[i]? = some x := ⟨_, List.getElem?_eq_getElem h⟩
      have w1 : IntKind.i64.wrap ((i : Int) + 1) = (i : Int) + 1 := by rw [wrap_i64] <;> omega
      have hb0 := sumW_bound (l := l.take i) (hs.sub fun y hy => List.mem_of_mem_take hy)
      have hx1 := hs x (List.mem_of_getElem? hx)
      simp only [List.length_take] at hb0
      have ra := add_run (sumW (l.take i)) x.2 (by omega) (by omega) (by omega)
      simp [-getElem?_pos, c129l0, c129l0a, c129r3, c129r4, c129r5, c129r6, c129r8, c129r9, sh_md, shMd, hc.len, hc.ixs, h, h', hx, encP, w1, ra, hc.still]
      refine ⟨i + 1, by omega, by omega, ?_⟩
      rw [take_succ hx, sumW_append]; simp [sumW]
    · have h' : ¬ (i : Int) < (l.length : Int) := by omega
      have e : l.take i = l := List.take_of_length_le (by omega)
      simp [-getElem?_pos, c129l0, c129l0a, c129r3, c129r10, sh_md, shMd, hc.len, h, h', e]

end Go.Proofs.Ytopcnhojkfeafaa.Am.Sh
