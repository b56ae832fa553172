/- AM: shed's functions: the reference's choices. -/
import Derived.Test.YtopcnhojkfeafaaAmShC
set_option linter.unusedSimpArgs false
set_option linter.unusedVariables false
set_option maxRecDepth 100000
namespace Go.Proofs.Ytopcnhojkfeafaa.Am.Sh
open Am.Gen

def encI (x : Int) : List C := [.int .i64 x]
theorem encI_still (l : List Int) : ∀ cs ∈ l.map encI, cs.all still = true := by
  intro cs h
  obtain ⟨x, _, rfl⟩ := List.mem_map.1 h
  rfl
theorem encI_flat (l : List Int) : ∀ cs ∈ l.map encI, cs.all flat = true := by
  intro cs h
  obtain ⟨x, _, rfl⟩ := List.mem_map.1 h
  rfl
theorem keepI (E N : Mem) (l : List Int) : (l.map encI).mapM (fun (cs : List C) => cs.mapM (keepC E N)) = some (l.map encI) := mapM_still _ (fun c hc => keepC_still E N c hc) (encI_still l)
theorem keepP (E N : Mem) (l : List Wa) : (l.map encP).mapM (fun (cs : List C) => cs.mapM (keepC E N)) = some (l.map encP) := mapM_still _ (fun c hc => keepC_still E N c hc) (encP_still l)

theorem same_run {a b : List Int} {c d : C} (ha : Sl 1 (a.map encI) c) (hb : Sl 1 (b.map encI) d) (hl : a.length ≤ 100000) : run sh 52 [.c c, .c d] [] = some (.c (.bool (decide (a = b))), []) := by
  refine run_of_W (af := c52) rfl rfl rfl (by simp [c52]) ?_
  generalize hdec : decide (a = b) = r
  by_cases hlen : a.length = b.length
  · have hlen' : (a.length : Int) = (b.length : Int) := by omega
    simp [c52, c52r0, c52r1, c52r3, ha.len, hb.len, hlen, hlen']
    refine W_loop (σ := Nat) (fun i => (mk 26 [(0, .c c), (1, .c d), (5, .c (.int .i64 i))], [])) (fun i => i ≤ a.length ∧ a.take i = b.take i) (fun i => a.length - i) 0 ?_ (by simp) ?_
    · simp [c52l0a]
    · rintro i ⟨hi, hr⟩
      by_cases h : i < a.length
      · have h' : (i : Int) < (a.length : Int) := by omega
        have g : i < b.length := by omega
        have g' : (i : Int) < (b.length : Int) := by omega
        obtain ⟨x, hx⟩ : ∃ x, a[i]? = some x := ⟨_, List.getElem?_eq_getElem h⟩
        obtain ⟨y, hy⟩ : ∃ y, b[i]? = some y := ⟨_, List.getElem?_eq_getElem g⟩
        have w1 : IntKind.i64.wrap ((i : Int) + 1) = (i : Int) + 1 := by rw [wrap_i64] <;> omega
        by_cases e : x = y
        · simp [-getElem?_pos, c52l0, c52l0a, c52r4, c52r5, c52r7, sh_md, shMd, ha.len, hb.len, ha.ixs, hb.ixs, h, h', g, g', hx, hy, encI, w1, e]
          exact ⟨i + 1, ⟨by omega, by rw [take_succ hx, take_succ hy, hr, e]⟩, by omega, by simp⟩
        · have ne : r = false := by
            rw [← hdec, decide_eq_false_iff_not]
            rintro rfl
            rw [hx] at hy
            exact e (by simpa using hy)
          simp [-getElem?_pos, c52l0, c52l0a, c52r4, c52r5, c52r6, sh_md, shMd, ha.len, hb.len, ha.ixs, hb.ixs, h, h', g, g', hx, hy, encI, w1, e, ne]
      · have h' : ¬ (i : Int) < (a.length : Int) := by omega
        have e : r = true := by
          rw [List.take_of_length_le (by omega), List.take_of_length_le (by omega)] at hr
          rw [← hdec, hr]; simp
        simp [-getElem?_pos, c52l0, c52l0a, c52r4, c52r8, sh_md, shMd, ha.len, h, h', e]
  · have hlen' : ¬ (a.length : Int) = (b.length : Int) := by omega
    have ne : r = false := by rw [← hdec, decide_eq_false_iff_not]; exact fun e => hlen (by rw [e])
    simp [c52, c52r0, c52r1, c52r2, sh_md, shMd, ha.len, hb.len, hlen, hlen', ne]

/-- Numbers from one on of which something is told. -/
def ups (h : Int → Bool) (i : Nat) : List Int := ((List.range i).map fun n : Nat => (n : Int) + 1).filter h

theorem ups_succ (h : Int → Bool) (i : Nat) : ups h (i + 1) = ups h i ++ if h ((i : Int) + 1) then [(i : Int) + 1] else [] := by
  unfold ups
  rw [List.range_succ, List.map_append, List.filter_append]
  congr 1
  simp [List.filter_cons]

theorem ups_len (h : Int → Bool) (i : Nat) : (ups h i).length ≤ i := by
  have := List.length_filter_le h ((List.range i).map fun n : Nat => (n : Int) + 1)
  simpa [ups] using this

theorem units_run {l : List Wa} {c : C} (hc : Sl 2 (l.map encP) c) (hl : l.length ≤ 100000) : run sh 53 [.c c] [] = some (.c (.fresh 1 ((ups (hasU l) 1040).map encI)), []) := by
  refine run_of_W (af := c53) rfl rfl rfl (by simp [c53]) ?_
  simp [c53, c53r0, c53r1, c53r2, fillSl]
  refine W_loop (σ := Nat) (fun i => (mk 18 [(0, .c c), (3, .c (.own 0 (ups (hasU l) i).length 1 0 (ups (hasU l) i).length)), (4, .c (.int .i64 ((i : Int) + 1)))], [some (.row 1 (ups (hasU l) i).length ((ups (hasU l) i).map encI)), none, none, none])) (fun i => i ≤ 1040) (fun i => 1040 - i) 0 ?_ (by simp) ?_
  · simp [c53l0a, ups, hc.still]
  · intro i hi
    by_cases h : i < 1040
    · have h' : (i : Int) + 1 ≤ 1040 := by omega
      have w1 : IntKind.i64.wrap ((i : Int) + 1 + 1) = (i : Int) + 1 + 1 := by rw [wrap_i64] <;> omega
      have hr := has_run hc ((i : Int) + 1) hl
      have hb : (ups (hasU l) i).length ≤ 16777215 := by have := ups_len (hasU l) i; omega
      have e := ups_succ (hasU l) i
      cases hh : hasU l ((i : Int) + 1) with
      | false =>
        rw [hh] at hr e
        simp only [Bool.false_eq_true, if_false, List.append_nil] at e
        simp [-getElem?_pos, -List.mapM_map, c53l0, c53l0a, c53r3, c53r4, c53r6, sh_md, shMd, h, h', w1, hc.still, keepI, hr]
        exact ⟨i + 1, by omega, by omega, by rw [e]; simp, by rw [e]; exact ⟨rfl, rfl⟩⟩
      | true =>
        rw [hh] at hr e
        simp only [if_true] at e
        simp [-getElem?_pos, -List.mapM_map, c53l0, c53l0a, c53r3, c53r4, c53r5, c53r6, sh_md, shMd, h, h', w1, hc.still, keepI, hr, hb, fillSl]
        exact ⟨i + 1, by omega, by omega, by rw [e]; simp, by rw [e]; simp [encI]⟩
    · have h' : ¬ (i : Int) + 1 ≤ 1040 := by omega
      obtain rfl : i = 1040 := by omega
      simp [-getElem?_pos, -List.mapM_map, c53l0, c53l0a, c53r3, c53r7, sh_md, shMd, hc.still, keepI]
      have e1 := expC_own (l := [0]) (M := [some (.row 1 (ups (hasU l) 1040).length ((ups (hasU l) 1040).map encI)), none, none, none]) (n := 0) (g := (ups (hasU l) 1040).length) (k := 1) (len := (ups (hasU l) 1040).length) rfl (by simp) (encI_flat _)
      rw [List.take_of_length_le (by simp)] at e1
      simp [retE, nodupB, topsV, topsV1, topsP, topsC, expV, expV1, expP, e1]

/-- The wants of units, in the order of the list. -/
def chosenR (us : List Int) : List Wa → List Wa
  | [] => []
  | x :: l => (us.filter fun u => decide (u = x.1)).map (fun _ => x) ++ chosenR us l

theorem chosenR_append (us : List Int) : ∀ l m, chosenR us (l ++ m) = chosenR us l ++ chosenR us m
  | [], m => rfl
  | x :: l, m => by simp [chosenR, chosenR_append us l m]

theorem chosenR_len (us : List Int) : ∀ l, (chosenR us l).length ≤ us.length * l.length
  | [] => by simp [chosenR]
  | x :: l => by
    have h1 := chosenR_len us l
    have h2 := List.length_filter_le (fun u => decide (u = x.1)) us
    simp only [chosenR, List.length_append, List.length_map, List.length_cons, Nat.mul_add]
    omega

theorem chosenR_take {us : List Int} {l : List Wa} {i : Nat} {x : Wa} (h : l[i]? = some x) : chosenR us (l.take (i + 1)) = chosenR us (l.take i) ++ (us.filter fun u => decide (u = x.1)).map (fun _ => x) := by
  rw [take_succ h, chosenR_append]; simp [chosenR]

theorem filter_take {us : List Int} {k : Nat} {y : Int} (h : us[k]? = some y) (u : Int) (x : Wa) : ((us.take (k + 1)).filter fun v => decide (v = u)).map (fun _ => x) = ((us.take k).filter fun v => decide (v = u)).map (fun _ => x) ++ if y = u then [x] else [] := by
  rw [take_succ h, List.filter_append, List.map_append]
  congr 1
  by_cases e : y = u <;> simp [e]

theorem chosen_run {l : List Wa} {us : List Int} {c d : C} (hc : Sl 2 (l.map encP) c) (hd : Sl 1 (us.map encI) d) (hl : l.length ≤ 100) (hu : us.length ≤ 1100) : run sh 54 [.c c, .c d] [] = some (.c (.fresh 2 ((chosenR us l).map encP)), []) := by
  refine run_of_W (af := c54) rfl rfl rfl (by simp [c54]) ?_
  simp [c54, c54r0, c54r1, c54r2]
  refine W_loop (σ := Nat) (fun i => (mk 38 [(0, .c c), (1, .c d), (5, .c (.own 0 (chosenR us (l.take i)).length 2 0 (chosenR us (l.take i)).length)), (6, .c (.int .i64 i))], [some (.row 2 (chosenR us (l.take i)).length ((chosenR us (l.take i)).map encP)), none, none, none])) (fun i => i ≤ l.length) (fun i => l.length - i) 0 ?_ (by simp) ?_
  · simp [c54l0a, chosenR, hc.still, hd.still]
  · intro i hi
    by_cases h : i < l.length
    · have h' : (i : Int) < (l.length : Int) := by omega
      obtain ⟨x, hx⟩ : ∃ x, l[i]? = some x := ⟨_, List.getElem?_eq_getElem h⟩
      have w1 : IntKind.i64.wrap ((i : Int) + 1) = (i : Int) + 1 := by rw [wrap_i64] <;> omega
      have hbi : (chosenR us (l.take i)).length ≤ 1100 * 100 := by
        have h1 := chosenR_len us (l.take i)
        have h2 : us.length * (l.take i).length ≤ 1100 * 100 := Nat.mul_le_mul hu (by simp; omega)
        omega
      simp [-getElem?_pos, -List.mapM_map, c54l0, c54l0a, c54r3, c54r4, sh_md, shMd, hc.len, h, h']
      obtain ⟨O, hO⟩ : ∃ O : Nat → List Wa, ∀ k, O k = chosenR us (l.take i) ++ ((us.take k).filter fun v => decide (v = x.1)).map (fun _ => x) := ⟨_, fun _ => rfl⟩
      refine W_loop (σ := Nat) (fun k => (mk 38 [(0, .c c), (1, .c d), (5, .c (.own 0 (O k).length 2 0 (O k).length)), (6, .c (.int .i64 i)), (7, .c (.int .i64 k))], [some (.row 2 (O k).length ((O k).map encP)), none, none, none])) (fun k => k ≤ us.length) (fun k => us.length - k) 0 ?_ (by simp) ?_
      · simp [c54l1a, hc.still, hd.still, hO, -List.mapM_map, keepP]
      · intro k hk
        by_cases g : k < us.length
        · have g' : (k : Int) < (us.length : Int) := by omega
          obtain ⟨y, hy⟩ : ∃ y, us[k]? = some y := ⟨_, List.getElem?_eq_getElem g⟩
          have w2 : IntKind.i64.wrap ((k : Int) + 1) = (k : Int) + 1 := by rw [wrap_i64] <;> omega
          have hob : (O k).length ≤ 16777215 := by
            rw [hO]
            have := List.length_filter_le (fun v => decide (v = x.1)) (us.take k)
            simp only [List.length_append, List.length_map, List.length_take] at this ⊢
            omega
          have hk1 : O (k + 1) = O k ++ if y = x.1 then [x] else [] := by rw [hO, hO, filter_take hy, List.append_assoc]
          by_cases e : y = x.1
          · rw [if_pos e] at hk1
            simp [-getElem?_pos, -List.mapM_map, c54l1, c54l1a, c54r5, c54r6, c54r7, c54r8, sh_md, shMd, hc.len, hc.ixs, hd.len, hd.ixs, h, h', g, g', hx, hy, encP, encI, e, w2, hob, hc.still, hd.still, keepP, fillSl]
            exact ⟨k + 1, by omega, by omega, by rw [hk1]; simp, by rw [hk1]; simp [encP]⟩
          · rw [if_neg e, List.append_nil] at hk1
            simp [-getElem?_pos, -List.mapM_map, c54l1, c54l1a, c54r5, c54r6, c54r8, sh_md, shMd, hc.len, hc.ixs, hd.len, hd.ixs, h, h', g, g', hx, hy, encP, encI, e, w2, hob, hc.still, hd.still, keepP, fillSl]
            exact ⟨k + 1, by omega, by omega, by rw [hk1]; simp, by rw [hk1]; simp [encP]⟩
        · have g' : ¬ (k : Int) < (us.length : Int) := by omega
          have hus : us.take k = us := List.take_of_length_le (by omega)
          have hk1 : O k = chosenR us (l.take (i + 1)) := by rw [hO, chosenR_take hx, hus]
          simp [-getElem?_pos, -List.mapM_map, c54l1, c54l1a, c54l0a, c54r5, c54r9, sh_md, shMd, hd.len, g, g', w1, hc.still, hd.still, keepP]
          exact ⟨i + 1, by omega, by omega, by rw [hk1]; simp, by rw [hk1]; simp⟩
    · have h' : ¬ (i : Int) < (l.length : Int) := by omega
      have e : l.take i = l := List.take_of_length_le (by omega)
      simp [-getElem?_pos, -List.mapM_map, c54l0, c54l0a, c54r3, c54r10, sh_md, shMd, hc.len, h, h', e, hc.still, hd.still, keepP]
      have e1 := expC_own (l := [0]) (M := [some (.row 2 (chosenR us l).length ((chosenR us l).map encP)), none, none, none]) (n := 0) (g := (chosenR us l).length) (k := 2) (len := (chosenR us l).length) rfl (by simp) (encP_flat _)
      rw [List.take_of_length_le (by simp)] at e1
      simp [retE, nodupB, topsV, topsV1, topsP, topsC, expV, expV1, expP, e1]

/-- Of two sets of units, from a unit on: the first that parts them is the one's. -/
def fd (p q : Int → Bool) : Nat → Int → Bool
  | 0, _ => false
  | n + 1, u => if p u = q u then fd p q n (u + 1) else p u

def betterW (a b : List Wa) : Bool :=
  if sumW a ≠ sumW b then decide (sumW a < sumW b) else if a.length ≠ b.length then decide (a.length < b.length) else fd (hasU a) (hasU b) 1040 1

theorem better_run {a b : List Wa} {c d : C} (ha : Sl 2 (a.map encP) c) (hb : Sl 2 (b.map encP) d) (la : a.length ≤ 1000) (lb : b.length ≤ 1000) (sa : Sh64 a) (sb : Sh64 b) : run sh 135 [.c c, .c d] [] = some (.c (.bool (betterW a b)), []) := by
  have s1 := sum_run ha sa (by omega)
  have s2 := sum_run hb sb (by omega)
  refine run_of_W (af := c135) rfl rfl rfl (by simp [c135]) ?_
  by_cases h1 : sumW a = sumW b
  · by_cases h2 : a.length = b.length
    · have h2' : (a.length : Int) = (b.length : Int) := by omega
      have er : betterW a b = fd (hasU a) (hasU b) 1040 1 := by unfold betterW; simp [h1, h2]
      generalize betterW a b = r at er ⊢
      simp [-getElem?_pos, c135, c135r0, c135r1, c135r3, c135r5, sh_md, shMd, ha.still, hb.still, ha.len, hb.len, s1, s2, h1, h2, h2']
      refine W_loop (σ := Nat) (fun i => (mk 40 [(0, .c c), (1, .c d), (5, .c (.int .i64 ((i : Int) + 1)))], [])) (fun i => i ≤ 1040 ∧ fd (hasU a) (hasU b) (1040 - i) ((i : Int) + 1) = r) (fun i => 1040 - i) 0 ?_ (by simp [er]) ?_
      · simp [c135l0a]
      · rintro i ⟨hi, hr⟩
        by_cases h : i < 1040
        · have h' : (i : Int) + 1 ≤ 1040 := by omega
          have w1 : IntKind.i64.wrap ((i : Int) + 1 + 1) = (i : Int) + 1 + 1 := by rw [wrap_i64] <;> omega
          have r1 := has_run ha ((i : Int) + 1) (by omega)
          have r2 := has_run hb ((i : Int) + 1) (by omega)
          rw [show 1040 - i = (1040 - (i + 1)) + 1 by omega] at hr
          simp only [fd] at hr
          by_cases e : hasU a ((i : Int) + 1) = hasU b ((i : Int) + 1)
          · rw [if_pos e] at hr
            simp [-getElem?_pos, c135l0, c135l0a, c135r6, c135r7, c135r9, sh_md, shMd, h, h', w1, r1, r2, e, ha.still, hb.still]
            exact ⟨i + 1, ⟨by omega, by simpa using hr⟩, by omega, by simp⟩
          · rw [if_neg e] at hr
            subst hr
            have e2 : (hasU a ((i : Int) + 1) != hasU b ((i : Int) + 1)) = true := by simpa using e
            simp [-getElem?_pos, c135l0, c135l0a, c135r6, c135r7, c135r8, sh_md, shMd, h, h', w1, r1, r2, e2, ha.still, hb.still]
        · have h' : ¬ (i : Int) + 1 ≤ 1040 := by omega
          obtain rfl : i = 1040 := by omega
          simp [fd] at hr
          subst hr
          simp [-getElem?_pos, c135l0, c135l0a, c135r6, c135r10, sh_md, shMd]
    · have h2' : ¬ (a.length : Int) = (b.length : Int) := by omega
      have er : betterW a b = decide (a.length < b.length) := by unfold betterW; simp [h1, h2]
      rw [er]
      simp [-getElem?_pos, c135, c135r0, c135r1, c135r3, c135r4, sh_md, shMd, ha.still, hb.still, ha.len, hb.len, s1, s2, h1, h2, h2']
  · have er : betterW a b = decide (sumW a < sumW b) := by unfold betterW; simp [h1]
    rw [er]
    simp [-getElem?_pos, c135, c135r0, c135r1, c135r2, sh_md, shMd, ha.still, hb.still, ha.len, hb.len, s1, s2, h1]

end Go.Proofs.Ytopcnhojkfeafaa.Am.Sh
