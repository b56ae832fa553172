/- AM: ShedLeast, as the machine runs it. -/
import Derived.Test.YtopcnhojkfeafaaAmShJ
set_option linter.unusedSimpArgs false
set_option linter.unusedVariables false
set_option maxRecDepth 100000
namespace Go.Proofs.Ytopcnhojkfeafaa.Am.Sh
open Am.Gen

def mnE (M : Mem) : List V → Option (V × Mem)
  | .c (.int k n) :: vs => (minL k n vs).map fun m => (.c (.int k m), M)
  | _ => none
theorem evI_mn {A : Pg} {cl : Cl} {bs : Nat} {tm : List V} {M : Mem} {xs : List X} : evI A cl bs tm M (.mn xs) = mnE M (xs.map (evX tm)) := rfl
theorem mnE_two (M : Mem) (k : IntKind) (a b : Int) : mnE M [.c (.int k a), .c (.int k b)] = some (.c (.int k (if b < a then b else a)), M) := by simp [mnE, minL]

theorem mem_sel {p : Int → Bool} {l : List Wa} {x : Wa} : x ∈ sel p l ↔ x ∈ l ∧ p x.1 = true := by simp [sel]

/-- A choice but for one of its wants. -/
theorem sel_less (p : Int → Bool) : ∀ {l : List Wa}, (l.map (·.1)).Nodup → ∀ {x : Wa}, x ∈ sel p l → sumW (sel (fun u => p u && decide (u ≠ x.1)) l) = sumW (sel p l) - x.2
  | [], _, x, h => by simp [sel] at h
  | y :: l, hnd, x, h => by
    simp only [List.map_cons, List.nodup_cons] at hnd
    obtain ⟨hx, hp⟩ := mem_sel.1 h
    rcases List.mem_cons.1 hx with rfl | hx
    · have e : sel (fun u => p u && decide (u ≠ x.1)) l = sel p l := sel_congr fun y hy => by
        have : y.1 ≠ x.1 := fun e => hnd.1 (e ▸ List.mem_map_of_mem (f := (·.1)) hy)
        simp [this]
      have e1 : sel (fun u => p u && decide (u ≠ x.1)) (x :: l) = sel (fun u => p u && decide (u ≠ x.1)) l := by simp [sel]
      have e2 : sel p (x :: l) = x :: sel p l := by simp [sel, hp]
      rw [e1, e, e2]
      simp only [sumW]; omega
    · have ih := sel_less p hnd.2 (mem_sel.2 ⟨hx, hp⟩)
      have hne : y.1 ≠ x.1 := fun e => hnd.1 (by rw [e]; exact List.mem_map_of_mem (f := (·.1)) hx)
      cases hy : p y.1 with
      | true =>
        have e1 : sel (fun u => p u && decide (u ≠ x.1)) (y :: l) = y :: sel (fun u => p u && decide (u ≠ x.1)) l := by simp [sel, hy, hne]
        have e2 : sel p (y :: l) = y :: sel p l := by simp [sel, hy]
        rw [e1, e2]
        simp only [sumW, ih]; omega
      | false =>
        have e1 : sel (fun u => p u && decide (u ≠ x.1)) (y :: l) = sel (fun u => p u && decide (u ≠ x.1)) l := by simp [sel, hy]
        have e2 : sel p (y :: l) = sel p l := by simp [sel, hy]
        rw [e1, e2]; exact ih

theorem filter_one {us : List Int} (h : us.Nodup) (u : Int) : us.filter (fun v => decide (v = u)) = if u ∈ us then [u] else [] := by
  induction us with
  | nil => simp
  | cons v us ih =>
    rw [List.nodup_cons] at h
    by_cases e : v = u
    · subst e
      have : v ∉ us := h.1
      simp [ih h.2, this]
    · have e' : ¬ u = v := fun h => e h.symm
      simp [e, e', ih h.2]

theorem chosenR_sel {us : List Int} (h : us.Nodup) {p : Int → Bool} : ∀ {l : List Wa}, (∀ x ∈ l, x.1 ∈ us ↔ p x.1 = true) → chosenR us l = sel p l
  | [], _ => rfl
  | x :: l, hl => by
    have ih := chosenR_sel h (l := l) (fun y hy => hl y (List.mem_cons_of_mem _ hy))
    have hx := hl x List.mem_cons_self
    simp only [chosenR, filter_one h, ih]
    cases hp : p x.1 with
    | true => simp [hx.2 hp, sel, hp]
    | false =>
      have : x.1 ∉ us := fun hh => by rw [hx.1 hh] at hp; cases hp
      simp [this, sel, hp]

theorem least_run {l : List Wa} {c : C} (hc : SlF 2 (l.map encP) c) (f need : Int) : run sh 10 [.c (.int .i64 f), .c (.int .i64 need), .c c] [] = some (.c (.bool true), []) := by
  have aw := awake_run
  refine run_of_W (af := c10) rfl rfl rfl (by simp [c10]) ?_
  -- the first 64
  obtain ⟨k, hk⟩ : ∃ k, k = min l.length 64 := ⟨_, rfl⟩
  have ek : (if (64 : Int) < (l.length : Int) then (64 : Int) else (l.length : Int)) = (k : Int) := by split <;> omega
  obtain ⟨d, hd, hsl⟩ : ∃ d, SlF 2 ((l.take 64).map encP) d ∧ (lenV (.c c) = some l.length ∧ evSlc (.c c) 2 0 k = some (.c d)) := by
    rcases hc with rfl | ⟨rfl, e⟩
    · refine ⟨.imm false 2 ((l.take 64).map encP), .inl rfl, by simp [lenV], ?_⟩
      rw [evSlc_imm, if_pos ⟨Nat.zero_le _, by simp; omega⟩]
      rw [List.drop_zero, ← List.map_take]
      congr 4
      apply List.ext_getElem?
      intro i
      simp only [List.getElem?_take]
      by_cases h : i < k
      · have : i < 64 := by omega
        simp [h, this]
      · by_cases h2 : i < 64
        · have : l[i]? = none := List.getElem?_eq_none (by omega)
          simp [h, h2, this]
        · simp [h, h2]
    · have hl0 : l = [] := by simpa using e
      subst hl0
      simp only [List.length_nil, Nat.zero_min] at hk
      subst hk
      exact ⟨.nilsl, .inr ⟨rfl, rfl⟩, rfl, rfl⟩
  obtain ⟨h1, h2⟩ := hsl
  have hll : (l.take 64).length ≤ 64 := by simp; omega
  generalize l.take 64 = m at *
  by_cases hW : whyC f need m = 0
  · obtain ⟨h0, _, g2, g3⟩ := whyC_ok hW
    obtain ⟨k1, k2, k3⟩ := chk_ok h0
    obtain ⟨s, cn, ms, p, F, hrun⟩ := choose_good hd.sl hW
    have r46 := Choose_ok f need s _ hd.sl.still hrun
    have hperm := isort_perm m
    have hLn : ((isort m).map (·.1)).Nodup := (hperm.map _).nodup_iff.2 k2
    have hon : ((sel p (isort m)).map (·.1)).Nodup := hLn.sublist ((sel_sub p (isort m)).map _)
    have hmem : ∀ x ∈ m, x.1 ∈ (sel p (isort m)).map (·.1) ↔ p x.1 = true := fun x hx => by
      constructor
      · intro h
        obtain ⟨y, hy, e⟩ := List.mem_map.1 h
        rw [← e]; exact (mem_sel.1 hy).2
      · intro h
        exact List.mem_map_of_mem (mem_sel.2 ⟨hperm.mem_iff.2 hx, h⟩)
    have hch := chosenR_sel hon hmem
    have holen : ((sel p (isort m)).map (·.1)).length = (sel p m).length := by
      rw [List.length_map]; exact (sel_perm hperm p).length_eq
    have hchl : (sel p m).length ≤ 64 := by
      have := (sel_sub p m).length_le
      omega
    generalize ((sel p (isort m)).map (·.1)) = out at *
    have r54 := chosen_run (us := out) hd.sl (d := .imm true 1 (out.map encI)) (.inl ⟨true, rfl⟩) (by omega) (by omega)
    rw [hch] at r54
    have hcs : Sh64 (sel p m) := k1.sub fun x hx => (mem_sel.1 hx).1
    have rsum := sum_run (l := sel p m) (imm_sl true _) hcs (by omega)
    rw [F.sum] at rsum
    have key : ∀ x ∈ sel p m, ¬ (need ≤ (s : Int) - x.2) := fun x hx hn => by
      have e := sel_less p k2 hx
      rw [F.sum] at e
      have := F.least (fun u => p u && decide (u ≠ x.1)) (by rw [e]; exact hn)
      rw [e] at this
      have := (hcs x hx).1
      omega
    have hz : need = 0 → (sel p m).length = 0 := fun h => by
      have ef : sel (fun _ => false) m = [] := List.filter_eq_nil_iff.2 (by simp)
      have h5 := F.least (fun _ => false) (by rw [h, ef]; simp [sumW])
      rw [ef] at h5
      simp only [sumW] at h5
      have hs0 : sumW (sel p m) = 0 := by rw [F.sum]; omega
      cases hh : sel p m with
      | nil => rfl
      | cons x t =>
        exfalso
        rw [hh] at hs0 hcs
        have b1 := hcs x List.mem_cons_self
        have b2 := sumW_bound (l := t) (fun y hy => hcs y (List.mem_cons_of_mem _ hy))
        simp only [sumW] at hs0
        omega
    have hge := F.ge
    generalize hC : sel p m = ch at *
    have lv0 := Gen.lendV_own (M := [some (.row 1 0 (out.map encI)), none]) (n := 0) (g := 0) (k := 1) (len := out.length) rfl (by simp) (encI_still _)
    have lv1 := Gen.lendV_own (M := [some (.row 1 0 (out.map encI)), some (.row 2 0 (ch.map encP))]) (n := 1) (g := 0) (k := 2) (len := ch.length) rfl (by simp) (encP_still _)
    have n1 : ¬ (s : Int) < need := by omega
    have n2 : ((ch.length : Int) = (out.length : Int)) = True := by simp [holen]
    have n3 : (ch.length = out.length) = True := by simp [holen]
    have n4 : ¬ (need = 0 ∧ 0 < ch.length) := fun h => by have := hz h.1; omega
    have fin : ∀ Q0 : Ex → St → Prop, Q0 = (fun e s => (∀ (id : Nat), ¬ e = .exit id) ∧ ((evRV s (.tmp 6)).bind fun v => retE (.pure false) v s.2) = some (.c (.bool true), [])) →
        W sh 0 (.loop c10l0a c10l0) [K.blk 0, K.seq (AC.keep [] ((AC.region c10r13).seq AC.ret))] (mk 75 [(1, .c (.int .i64 need)), (9, .c (.own 1 0 2 0 ch.length)), (10, .c (.int .i64 s)), (11, .c (.int .i64 0))], [some (.row 1 0 (out.map encI)), some (.row 2 0 (ch.map encP))]) Q0 := by
      rintro Q0 rfl
      refine W_loop (σ := Nat) (fun i => (mk 75 [(1, .c (.int .i64 need)), (9, .c (.own 1 0 2 0 ch.length)), (10, .c (.int .i64 s)), (11, .c (.int .i64 i))], [some (.row 1 0 (out.map encI)), some (.row 2 0 (ch.map encP))])) (fun i => i ≤ ch.length) (fun i => ch.length - i) 0 ?_ (by simp) ?_
      · simp [c10l0a]
      · intro i hi
        by_cases h : i < ch.length
        · have h' : (i : Int) < (ch.length : Int) := by omega
          obtain ⟨x, hx⟩ : ∃ x, ch[i]? = some x := ⟨_, List.getElem?_eq_getElem h⟩
          have hxm := List.mem_of_getElem? hx
          have w1 : IntKind.i64.wrap ((i : Int) + 1) = (i : Int) + 1 := by rw [wrap_i64] <;> omega
          have hx1 := hcs x hxm
          have hsb := F.le
          have hmb := sumW_bound k1
          have w2 : IntKind.i64.wrap ((s : Int) - x.2) = (s : Int) - x.2 := by rw [wrap_i64] <;> omega
          have hk := key x hxm
          simp [-getElem?_pos, -List.mapM_map, c10l0, c10l0a, c10r9, c10r10, c10r12, sh_md, shMd, h, h', hx, encP, w1, w2, hk, ldB_row]
          exact ⟨i + 1, by omega, by omega, by simp⟩
        · have h' : ¬ (i : Int) < (ch.length : Int) := by omega
          simp [-getElem?_pos, -List.mapM_map, c10l0, c10l0a, c10r9, c10r13, sh_md, shMd, h, h', aw]
    by_cases hn0 : need = 0
    · have hc0 : ch.length = 0 := hz hn0
      have n5 : ¬ (0 : Int) < (ch.length : Int) := by omega
      have n6 : ¬ 0 < ch.length := by omega
      have n7 : ¬ (s : Int) < 0 := by omega
      simp only [hn0] at r46 fin
      simp [-getElem?_pos, -List.mapM_map, -List.length_eq_zero_iff, c10, c10r0, c10r1, c10r2, c10r4, c10r5, c10r6, c10r8, sh_md, shMd, hc.sl.len, hc.sl.still, hd.sl.still, evI_mn, mnE_two, ek, h1, h2, aw, r46, lv0, r54, lv1, rsum, n1, n2, n3, hn0, n5, n6, n7]
      exact fin _ rfl
    · simp [-getElem?_pos, -List.mapM_map, c10, c10r0, c10r1, c10r2, c10r4, c10r5, c10r6, c10r8, sh_md, shMd, hc.sl.len, hc.sl.still, hd.sl.still, evI_mn, mnE_two, ek, h1, h2, aw, r46, lv0, r54, lv1, rsum, n1, n2, n3, hn0]
      exact fin _ rfl
  · have r95 := choose_fail hd.sl f need (by omega) (fun h => (chk_ok h).1) hW
    have r46 := Choose_fail f need _ hd.sl.still r95
    simp [-getElem?_pos, -List.mapM_map, c10, c10r0, c10r1, c10r2, c10r3, sh_md, shMd, hc.sl.len, hc.sl.still, hd.sl.still, evI_mn, mnE_two, ek, h1, h2, aw, r46, hW]

end Go.Proofs.Ytopcnhojkfeafaa.Am.Sh
