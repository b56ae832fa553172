/- HeapSorts: whatever the input: the law's call returns true, and its argument reads as it did. No condition. -/
import Derived.Test.YtopcnhojkfeafaaRows
import Derived.Test.YtopcnhojkfeafaaHeapPlays
import Derived.Test.YtopcnhojkfeafaaAmHpL
set_option linter.unusedVariables false
set_option maxRecDepth 100000
namespace Go.Proofs.Ytopcnhojkfeafaa.Am.Hp
open Go.ChangeShapes Go.WideShapes Go.ChangeAt Go.RowKit

theorem heapSorts_args {css : List (List C)} (h : ArgsT Try.prog 5 [22] css) : ∃ n M', runF hp n 4 (argVs Try.prog [22] css) [] = some (.c (.bool true), M') := by
  obtain ⟨c0, rfl, h1⟩ := args1 h
  obtain ⟨xs, c, rfl, hc, _, hx⟩ := typed_slice Try.underlying22 h1
  obtain ⟨acts, rfl, hu⟩ := rows_of (fun r hr => act_of (d := 2) (hx r hr))
  have k4 : Try.prog.cellsOf 31 = 4 := by kernel_rfl
  rw [k4] at hc
  simp only [argVs, argV_c (aggF_slice Try.underlying22)]
  obtain ⟨m, hm⟩ := run_some.1 (sorts_run hc hu)
  exact ⟨m, _, hm⟩

theorem heapSorts_lifted (os : Os) (started : os.Started) (H : Type) (enc : TypeId × Value → H) :
    ReturnsInHanded {} Try.checked os 4 .any (Rows.heapSortsSpec.pre6 enc Try.prog Try.f4 Rows.heapSortsRow.domain false) (Rows.heapSortsSpec.post enc Try.prog Try.f4 false true false false) := by
  refine returnsInHanded_of_change (C := Try.checked) own started (by kernel_rfl) Try.func4
    (ChangeSpec.witness6 (enc := enc) (C := Try.checked) false ⟨#[], #[.slice none 0 0], []⟩ 8 (by kernel_rfl) (by kernel_rfl) (by kernel_rfl) (by kernel_rfl)) ?_
  intro W base args ds gs before hval0 hW hcnd _
  have hp4 : Try.f4.params.toList = [22] := by rw [Try.params4]
  refine law_contract (D := 5) (tb := 4) hp_ok laidOut rfl (fun ds h => ?_) (by rw [hp4]; kernel_rfl) (by rw [hp4]; kernel_rfl) rfl Try.underlying4 (by simp [hp, hpMd]) (fun css h => ?_) args ds gs before hval0 hW
  · rw [Try.params4] at h
    match ds, h with
    | [_], _ => rfl
  · rw [hp4] at h ⊢
    exact heapSorts_args h

theorem heapSorts_over : Rows.heapSortsRow.holds Try.pinned (OpenSpec.ofChange Rows.heapSortsSpec) :=
  OpenClaim.holds_of_wide 4 Try.f4 rfl rfl rfl rfl rfl rfl rfl ⟨rfl, rfl, rfl, rfl, rfl⟩ rfl rfl rfl rfl rfl (by kernel_rfl) Try.func4 (by kernel_rfl)
    (of_decide_eq_true (by kernel_rfl)) (by unfold Func.isWrapper; first | (rw [if_pos (by decide +kernel)]; kernel_rfl) | (rw [if_neg (by decide +kernel)]; exact ⟨rfl, rfl⟩))
    (fun os started H enc _ => heapSorts_lifted os started H enc)

end Go.Proofs.Ytopcnhojkfeafaa.Am.Hp
namespace Go.Proofs.Ytopcnhojkfeafaa
theorem heapSorts_holds : Rows.HeapSortsSaid := Am.Hp.heapSorts_over
#print axioms heapSorts_holds
end Go.Proofs.Ytopcnhojkfeafaa
