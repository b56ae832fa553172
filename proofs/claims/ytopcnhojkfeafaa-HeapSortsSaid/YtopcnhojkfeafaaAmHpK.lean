/- HeapPlays: the law's run. -/
import Derived.Test.YtopcnhojkfeafaaAmHpJ
set_option linter.unusedSimpArgs false
set_option linter.unusedVariables false
set_option maxRecDepth 100000
namespace Go.Proofs.Ytopcnhojkfeafaa.Am.Hp
open Go.RowKit

theorem awakeF : runF hp 100 13 [] [] = some (.c (.bool true), []) := by kernel_rfl
theorem awake_run : run hp 13 [] [] = some (.c (.bool true), []) := run_some.2 ⟨100, awakeF⟩

/-- A new heap. -/
def HS.new (n : Nat) : HS := { keys := List.replicate n (0, 0), place := List.replicate n 0, row := [], len := 0, gn := 0, ga := 0, gb := 0, gc := 0 }

theorem new_rel {n : Nat} (h : n ≤ 1024) : Rel (HS.new n) [] n := by
  refine ⟨⟨⟨by simp [HS.new], by simp [HS.new], by simp [HS.new, h], by simp [HS.new], fun i hi => absurd hi (by simp [HS.new])⟩, fun i hi => absurd hi (by simp [HS.new]), fun a ha => .inl ?_⟩, fun j _ hj => absurd hj (by simp [HS.new]), by simp [HS.new], fun a => ?_, rfl, by simp, fun x hx => by simp at hx, by simp [HS.new], rfl⟩
  · have : a < n := by simpa [HS.new] using ha
    simp [HS.new, List.getElem?_replicate, this]
  · have : ¬ 0 < (HS.new n).place[a]?.getD 0 := by
      simp only [HS.new, List.getElem?_replicate]
      split <;> simp
    simp only [HS.K, if_neg this]
    rfl

theorem new_mem (n : Nat) : (HS.new n).mem hP none9 = [some (.row 2 0 (List.replicate n [.int .u64 0, .int .u64 0])), some (.row 1 0 (List.replicate n [.int .i64 0])), some (.row 3 0 [[.own 0 0 2 0 n, .own 1 0 1 0 n, .own 4 0 1 0 0]]), none, some (.row 1 0 []), none, none, none, none] := by
  simp [HS.mem, put4, hP, none9, HS.X, HS.Y, HS.Z, HS.W, HS.new, List.map_replicate, encK, encI]

theorem plays_run {n : Int} {acts : List ActI} {lc : C} (hlc : Sl 4 (acts.map encA) lc) (hu : ∀ a ∈ acts, U64 a.2.2.1 ∧ U64 a.2.2.2) (ask : Int) : run hp 3 [.c (.int .i64 n), .c lc, .c (.int .i64 ask)] [] = some (.c (.bool true), []) := by
  refine run_of_W (af := c3) rfl rfl rfl (by simp [c3]) ?_
  by_cases hn : 1 ≤ n ∧ n ≤ 1024
  · obtain ⟨n, rfl⟩ : ∃ m : Nat, n = m := ⟨n.toNat, by omega⟩
    have n1 : ¬ (n : Int) < 1 := by omega
    have n2 : ¬ (1024 : Int) < n := by omega
    have nr := new_run (n := n) (by omega) (by omega)
    simp [-getElem?_pos, c3, c3r0, c3r1, c3r2, c3r4, c3r6, c3r7, hp_md, hpMd, nr, n1, n2]
    have hnm := new_mem n
    have hpt : (HS.new n).ptr hP = .ptr 2 0 0 0 := rfl
    refine W_loop (σ := HS × List Item × C × Nat) (fun x => (mk 217 [(0, .c (.int .i64 n)), (1, .c lc), (2, .c (.int .i64 ask)), (7, .c (x.1.ptr hP)), (9, .c x.2.2.1), (10, .c (.int .i64 x.2.2.2))], x.1.mem hP none9)) (fun x => Rel x.1 x.2.1 n ∧ x.2.1.length ≤ x.2.2.2 ∧ x.2.2.2 ≤ 60 ∧ Sl 3 (x.2.1.map encW) x.2.2.1) (fun x => 60 - x.2.2.2) (HS.new n, [], .nilsl, 0) ?_ ?_ ?_
    · simp only [hnm, hpt]
      have r1 : ∀ E N : Mem, (List.replicate n [C.int .u64 0, C.int .u64 0]).mapM (fun (cs : List C) => cs.mapM (keepC E N)) = some (List.replicate n [C.int .u64 0, C.int .u64 0]) := fun E N => mapM_still _ (fun c hc => keepC_still E N c hc) (fun cs hc => by rw [List.eq_of_mem_replicate hc]; rfl)
      have r2 : ∀ E N : Mem, (List.replicate n [C.int .i64 0]).mapM (fun (cs : List C) => cs.mapM (keepC E N)) = some (List.replicate n [C.int .i64 0]) := fun E N => mapM_still _ (fun c hc => keepC_still E N c hc) (fun cs hc => by rw [List.eq_of_mem_replicate hc]; rfl)
      simp [-getElem?_pos, c3l0a, hlc.still, r1, r2]
    · exact ⟨new_rel (by omega), by simp, by simp, .inr ⟨rfl, rfl⟩⟩
    · rintro ⟨s, w, c, i⟩ ⟨hR, hw, hi, hc⟩
      simp only at hR hw hi hc
      have hgoes : ∀ (N : St → Prop), (∀ s' w' c', Rel s' w' n → w'.length ≤ i + 1 → Sl 3 (w'.map encW) c' → N (mk 217 [(0, .c (.int .i64 n)), (1, .c lc), (2, .c (.int .i64 ask)), (7, .c (s'.ptr hP)), (9, .c c'), (10, .c (.int .i64 ((i : Int) + 1)))], s'.mem hP none9)) → Goes n lc ask i N := fun N h s' w' c' h1 h2 h3 => h s' w' c' h1 h2 h3
      by_cases hlt : i < acts.length ∧ i < 60
      · obtain ⟨⟨kind, aid, num, den⟩, hx⟩ : ∃ a, acts[i]? = some a := ⟨_, List.getElem?_eq_getElem hlt.1⟩
        have hux := hu _ (List.mem_of_getElem? hx)
        simp only at hux
        have hN : Goes n lc ask i (fun s' => ∃ y : HS × List Item × C × Nat, (Rel y.1 y.2.1 n ∧ y.2.1.length ≤ y.2.2.2 ∧ y.2.2.2 ≤ 60 ∧ Sl 3 (y.2.1.map encW) y.2.2.1) ∧ 60 - y.2.2.2 < 60 - i ∧ s' = (mk 217 [(0, .c (.int .i64 n)), (1, .c lc), (2, .c (.int .i64 ask)), (7, .c (y.1.ptr hP)), (9, .c y.2.2.1), (10, .c (.int .i64 y.2.2.2))], y.1.mem hP none9)) := by
          intro s' w' c' h1 h2 h3
          exact ⟨(s', w', c', i + 1), ⟨h1, h2, by simp only; omega, h3⟩, by simp only; omega, by simp⟩
        by_cases h0 : kind = 0 ∨ kind = 1
        · exact body_put (by omega) (by omega) hlc hx hR hw hlt.2 hc hN h0 hux
        · by_cases h2 : kind = 2
          · subst h2
            exact body_rem hlc hx hR hw hlt.2 hc hN
          · by_cases h3 : kind = 3
            · subst h3
              exact body_pop hlc hx hR hw hlt.2 hc hN
            · exact body_other hlc hx hR hw hlt.2 hc hN ⟨fun c => h0 (.inl c), fun c => h0 (.inr c), h2, h3⟩
      · by_cases h1 : i < acts.length
        · have h6 : ¬ (i : Int) < 60 := by omega
          have h' : (i : Int) < (acts.length : Int) := by omega
          simp [-getElem?_pos, c3l0, c3r8, hlc.len, h', h1, h6, c3l0a, c3r38, hp_md, hpMd, awake_run, keep_round (M := none9) rfl]
        · have h' : ¬ (i : Int) < (acts.length : Int) := by omega
          simp [-getElem?_pos, c3l0, c3r8, hlc.len, h', h1, c3l0a, c3r38, hp_md, hpMd, awake_run, keep_round (M := none9) rfl]
  · have nb := new_bad hn
    by_cases n1 : n < 1
    · simp [-getElem?_pos, c3, c3r0, c3r1, c3r2, c3r3, hp_md, hpMd, nb, awake_run, n1]
    · have n2 : 1024 < n := by omega
      simp [-getElem?_pos, c3, c3r0, c3r1, c3r2, c3r3, hp_md, hpMd, nb, awake_run, n1, n2]

end Go.Proofs.Ytopcnhojkfeafaa.Am.Hp
