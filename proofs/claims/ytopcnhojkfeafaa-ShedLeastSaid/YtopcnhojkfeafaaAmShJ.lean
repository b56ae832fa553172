/- AM: ShedChooses, as the machine runs it. -/
import Derived.Test.YtopcnhojkfeafaaAmShS
import Derived.Test.YtopcnhojkfeafaaAmShH
import Derived.Test.YtopcnhojkfeafaaAmShE
set_option linter.unusedSimpArgs false
set_option linter.unusedVariables false
set_option maxRecDepth 100000
namespace Go.Proofs.Ytopcnhojkfeafaa.Am.Sh
open Am.Gen

theorem chkL_ok (f : Int) : ∀ (l seen : List Wa), chkL f seen l = 0 → (seen.map (·.1)).Nodup → (∀ x ∈ l, isU x.1 = true ∧ 1 ≤ x.2 ∧ x.2 ≤ f) ∧ ((seen ++ l).map (·.1)).Nodup
  | [], seen, _, hn => ⟨fun x h => by simp at h, by simpa using hn⟩
  | x :: l, seen, h, hn => by
    unfold chkL at h
    split at h
    · cases h
    · rename_i h1
      split at h
      · cases h
      · rename_i h2
        split at h
        · cases h
        · rename_i h3
          have hn2 : ((seen ++ [x]).map (·.1)).Nodup := by
            rw [List.map_append, List.nodup_append]
            refine ⟨hn, by simp, fun a ha b hb e => ?_⟩
            simp only [List.map_cons, List.map_nil, List.mem_singleton] at hb
            subst e; subst hb
            obtain ⟨y, hy, e⟩ := List.mem_map.1 ha
            exact h3 (by simp only [hasU, List.any_eq_true, decide_eq_true_eq]; exact ⟨y, hy, e⟩)
          obtain ⟨k1, k2⟩ := chkL_ok f l (seen ++ [x]) h hn2
          refine ⟨fun y hy => ?_, by simpa using k2⟩
          rcases List.mem_cons.1 hy with rfl | hy
          · refine ⟨?_, by omega, by omega⟩
            cases hh : isU y.1 with
            | true => rfl
            | false => exact absurd hh h1
          · exact k1 y hy

theorem chk_ok {f : Int} {l : List Wa} (h : chk f l = 0) : Sh64 l ∧ (l.map (·.1)).Nodup ∧ ∀ x ∈ l, 1 ≤ x.1 ∧ x.1 ≤ 1040 := by
  unfold chk at h
  split at h
  · cases h
  · rename_i hf
    obtain ⟨h1, h2⟩ := chkL_ok f l [] h (by simp)
    refine ⟨fun x hx => ?_, by simpa using h2, fun x hx => ?_⟩
    · have := h1 x hx; omega
    · have := (h1 x hx).1
      simp only [isU, decide_eq_true_eq] at this
      omega

theorem whyC_ok {f need : Int} {l : List Wa} (h : whyC f need l = 0) : chk f l = 0 ∧ l.length ≤ 64 ∧ 0 ≤ need ∧ need ≤ sumW l := by
  unfold whyC at h
  split at h
  · rename_i h0
    split at h
    · cases h
    · split at h
      · cases h
      · split at h
        · cases h
        · exact ⟨h0, by omega, by omega, by omega⟩
  · rename_i h0; exact absurd h h0

theorem choose_good {l : List Wa} {c : C} (hc : Sl 2 (l.map encP) c) {f need : Int} (h : whyC f need l = 0) : ∃ s cn m p, Found l need s cn m p ∧
    run sh 95 [.c (.int .i64 f), .c (.int .i64 need), .c c] [] = some (.tup [.c (.fresh 1 (((sel p (isort l)).map (·.1)).map encI)), .c (.int .i64 s), .c (.int .i64 0)], []) := by
  obtain ⟨h0, h1, h2, h3⟩ := whyC_ok h
  obtain ⟨k1, k2, k3⟩ := chk_ok h0
  obtain ⟨n, rfl⟩ : ∃ n : Nat, need = n := ⟨need.toNat, by omega⟩
  obtain ⟨s, cn, m, p, F⟩ := found k1 k2 h1 n h3
  refine ⟨s, cn, m, p, F, ?_⟩
  cases l with
  | nil =>
    have hle := F.le
    simp only [sumW] at h3 hle
    have hn0 : n = 0 := by omega
    have hs0 : s = 0 := by omega
    subst hn0; subst hs0
    have := choose_empty hc f h0
    simpa [sel, isort] using this
  | cons x l =>
    obtain ⟨t, rfl⟩ : ∃ t, c = .imm t 2 ((x :: l).map encP) := by
      rcases hc with ⟨t, rfl⟩ | ⟨_, e⟩
      · exact ⟨t, rfl⟩
      · simp at e
    have := choose_ok (x0 := x) (l0 := l) rfl (t := t) f n s cn m h1 k1 k2 h0 (by have := F.ge; omega) F.le F.at' F.lt (fun u u1 u2 => F.none u (by omega) u2)
    rw [F.out] at this
    exact this

theorem chooses_run {l : List Wa} {c : C} (hc : SlF 2 (l.map encP) c) (f need : Int) : run sh 9 [.c (.int .i64 f), .c (.int .i64 need), .c c] [] = some (.c (.bool true), []) := by
  have aw := awake_run
  refine run_of_W (af := c9) rfl rfl rfl (by simp [c9]) ?_
  by_cases hlen : 80 < l.length
  · have hlen' : (80 : Int) < (l.length : Int) := by omega
    simp [-getElem?_pos, c9, c9r0, c9r1, c9r2, sh_md, shMd, hc.sl.len, hlen, hlen', aw]
  have hlen' : ¬ (80 : Int) < (l.length : Int) := by omega
  have rw1 := why_run hc.sl f (by omega)
  have rc1 := check_run hc.sl f (by omega)
  by_cases hW : whyC f need l = 0
  · obtain ⟨h0, h1, h2, h3⟩ := whyC_ok hW
    obtain ⟨k1, k2, k3⟩ := chk_ok h0
    obtain ⟨s, cn, m, p, F, hrun⟩ := choose_good hc.sl hW
    have r46 := Choose_ok f need s _ hc.sl.still hrun
    have r47 := Cost_ok f need s _ hc.sl.still hrun
    rw [h0, if_neg (by omega)] at rw1 rc1
    have rs := sum_run hc.sl k1 (by omega)
    have n1 : ¬ need < 0 := by omega
    have n2 : ¬ sumW l < need := by omega
    by_cases h9 : 9 < l.length
    · have h9' : (9 : Int) < (l.length : Int) := by omega
      simp [-getElem?_pos, -List.mapM_map, c9, c9r0, c9r1, c9r3, c9r4, c9r5, c9r6, c9r8, c9r10, c9r12, c9r14, c9r15, sh_md, shMd, hc.sl.len, hc.sl.still, hlen, hlen', aw, r46, r47, rw1, rc1, rs, n1, n2, h9, h9']
    · have h9' : ¬ (9 : Int) < (l.length : Int) := by omega
      have r51 := choose_run hc need k1 (by omega)
      obtain ⟨b1, b2, b3, b4⟩ := found_best k1 k2 h1 k3 h3 F
      have hup := ups_sel k2 k3 b3 b4
      have hx64 : Sh64 (bestW need l []).1 := k1.sub b4
      have hxl := (bestW_sub need l []).1
      simp only [List.length_nil, Nat.zero_add] at hxl
      rw [b1] at r51
      generalize (bestW need l []).1 = x at *
      have r53 := units_run (l := x) (imm_sl false x) (by omega)
      rw [hup] at r53
      generalize ((sel p (isort l)).map (·.1)) = out at *
      have rsx := sum_run (imm_sl false x) hx64 (by omega)
      rw [b2] at rsx
      have hol : out.length ≤ 100000 := by
        rw [← hup]
        have := ups_len (hasU x) 1040
        omega
      have same := same_run (a := out) (b := out) (c := .imm true 1 (out.map encI)) (d := .imm true 1 (out.map encI)) (.inl ⟨true, rfl⟩) (.inl ⟨true, rfl⟩) hol
      rw [decide_eq_true rfl] at same
      have lv0 := Gen.lendV_own (M := [some (.row 1 0 (out.map encI)), none, some (.row 1 0 (out.map encI))]) (n := 0) (g := 0) (k := 1) (len := out.length) rfl (by simp) (encI_still _)
      have lv2 := Gen.lendV_own (M := [some (.row 1 0 (out.map encI)), none, some (.row 1 0 (out.map encI))]) (n := 2) (g := 0) (k := 1) (len := out.length) rfl (by simp) (encI_still _)
      simp [-getElem?_pos, -List.mapM_map, c9, c9r0, c9r1, c9r3, c9r4, c9r5, c9r6, c9r8, c9r10, c9r12, c9r14, c9r16, c9r17, sh_md, shMd, hc.sl.len, hc.sl.still, hlen, hlen', aw, r46, r47, rw1, rc1, rs, n1, n2, h9, h9', r51, r53, lv0, lv2, same, rsx]
  · have r95 := choose_fail hc.sl f need (by omega) (fun h => (chk_ok h).1) hW
    have r46 := Choose_fail f need _ hc.sl.still r95
    have r47 := Cost_fail f need _ hc.sl.still r95
    by_cases h0 : chk f l = 0
    · obtain ⟨k1, k2, k3⟩ := chk_ok h0
      have rs := sum_run hc.sl k1 (by omega)
      by_cases h1 : 64 < l.length
      · have e : whyC f need l = 4 := by unfold whyC; rw [if_pos h0, if_pos h1]
        rw [e] at r46 r47
        rw [if_pos ⟨h0, h1⟩] at rw1 rc1
        simp [-getElem?_pos, -List.mapM_map, c9, c9r0, c9r1, c9r3, c9r4, c9r5, c9r6, c9r8, c9r10, c9r12, c9r13, sh_md, shMd, hc.sl.len, hc.sl.still, hlen, hlen', aw, r46, r47, rw1, rc1]
      · rw [h0, if_neg (fun x => h1 x.2)] at rw1 rc1
        by_cases h2 : need < 0
        · have e : whyC f need l = 1 := by unfold whyC; rw [if_pos h0, if_neg h1, if_pos h2]
          rw [e] at r46 r47
          simp [-getElem?_pos, -List.mapM_map, c9, c9r0, c9r1, c9r3, c9r4, c9r5, c9r6, c9r8, c9r9, c9r10, c9r12, c9r13, sh_md, shMd, hc.sl.len, hc.sl.still, hlen, hlen', aw, r46, r47, rw1, rc1, h2]
        · have h3 : sumW l < need := by
            refine Int.not_le.1 fun h3 => hW ?_
            unfold whyC; rw [if_pos h0, if_neg h1, if_neg h2, if_neg (by omega)]
          have e : whyC f need l = 12 := by unfold whyC; rw [if_pos h0, if_neg h1, if_neg h2, if_pos h3]
          rw [e] at r46 r47
          simp [-getElem?_pos, -List.mapM_map, c9, c9r0, c9r1, c9r3, c9r4, c9r5, c9r6, c9r8, c9r10, c9r11, c9r12, c9r13, sh_md, shMd, hc.sl.len, hc.sl.still, hlen, hlen', aw, r46, r47, rw1, rc1, h2, rs, h3]
    · have e : whyC f need l = chk f l := by unfold whyC; rw [if_neg h0]
      rw [e] at r46 r47
      rw [if_neg (fun x => h0 x.1)] at rw1 rc1
      simp [-getElem?_pos, -List.mapM_map, c9, c9r0, c9r1, c9r3, c9r4, c9r5, c9r6, c9r8, c9r10, c9r12, c9r13, sh_md, shMd, hc.sl.len, hc.sl.still, hlen, hlen', aw, r46, r47, rw1, rc1, h0]

end Go.Proofs.Ytopcnhojkfeafaa.Am.Sh
