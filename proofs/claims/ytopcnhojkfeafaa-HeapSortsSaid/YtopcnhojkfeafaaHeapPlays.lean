/- HeapPlays: whatever the input: the law's call returns true, and each argument reads as it did. No condition. -/
import Derived.Test.YtopcnhojkfeafaaRows
import Derived.Test.YtopcnhojkfeafaaAmArg
import Derived.Test.YtopcnhojkfeafaaAmHpK
set_option linter.unusedVariables false
set_option maxRecDepth 100000
namespace Go.Proofs.Ytopcnhojkfeafaa.Am.Hp
open Go.ChangeShapes Go.WideShapes Go.ChangeAt Go.RowKit

theorem hp_code {f : Nat} {af : AF} (h : hp.code f = some af) : okF Try.prog f af = true := by
  simp only [hp, hpCode] at h
  split at h
  · injection h with h; subst h; exact ok3
  · injection h with h; subst h; exact ok4
  · injection h with h; subst h; exact ok12
  · injection h with h; subst h; exact ok13
  · injection h with h; subst h; exact ok14
  · injection h with h; subst h; exact ok15
  · injection h with h; subst h; exact ok16
  · injection h with h; subst h; exact ok17
  · injection h with h; subst h; exact ok18
  · injection h with h; subst h; exact ok19
  · injection h with h; subst h; exact ok20
  · injection h with h; subst h; exact ok21
  · injection h with h; subst h; exact ok22
  · injection h with h; subst h; exact ok23
  · injection h with h; subst h; exact ok24
  · injection h with h; subst h; exact ok61
  · injection h with h; subst h; exact ok62
  · injection h with h; subst h; exact ok63
  · injection h with h; subst h; exact ok64
  · injection h with h; subst h; exact ok65
  · injection h with h; subst h; exact ok66
  · injection h with h; subst h; exact ok105
  · injection h with h; subst h; exact ok106
  · injection h with h; subst h; exact ok107
  · injection h with h; subst h; exact ok139
  · injection h with h; subst h; exact ok154
  · cases h

theorem hp_ok : PgOK Try.prog hp := ⟨by kernel_rfl, fun f af h => hp_code h, fun f p h => by cases h⟩

theorem own : ownKnob Try.prog.godebug = none := by kernel_rfl
theorem laidOut : laidOutB Try.prog = true := by kernel_rfl

theorem act_of {r : List C} {d : Nat} (h : Typed Try.prog (d + 2) 31 r) : ∃ a : ActI, r = encA a ∧ U64 a.2.2.1 ∧ U64 a.2.2.2 := by
  obtain ⟨ps, rfl, h2, h3⟩ := typed_struct Try.underlying31 h
  match ps, h2 with
  | [p0, p1, p2, p3], _ =>
    obtain ⟨a, rfl, ha⟩ := typed_int Try.underlying3 (h3 0 _ p0 rfl rfl)
    obtain ⟨b, rfl, hb⟩ := typed_int Try.underlying3 (h3 1 _ p1 rfl rfl)
    obtain ⟨c, rfl, hc⟩ := typed_int Try.underlying29 (h3 2 _ p2 rfl rfl)
    obtain ⟨e, rfl, he⟩ := typed_int Try.underlying29 (h3 3 _ p3 rfl rfl)
    obtain ⟨c', rfl, hc'⟩ := wf_u64 hc
    obtain ⟨e', rfl, he'⟩ := wf_u64 he
    exact ⟨(a, b, c', e'), rfl, by simp only [U64]; omega, by simp only [U64]; omega⟩

theorem heapPlays_args {css : List (List C)} (h : ArgsT Try.prog 5 [3, 22, 3] css) : ∃ n M', runF hp n 3 (argVs Try.prog [3, 22, 3] css) [] = some (.c (.bool true), M') := by
  obtain ⟨c0, c1, c2, rfl, h0, h1, h2⟩ := args3 h
  obtain ⟨n, rfl, _⟩ := typed_int Try.underlying3 h0
  obtain ⟨xs, c, rfl, hc, _, hx⟩ := typed_slice Try.underlying22 h1
  obtain ⟨ask, rfl, _⟩ := typed_int Try.underlying3 h2
  obtain ⟨acts, rfl, hu⟩ := rows_of (fun r hr => act_of (d := 2) (hx r hr))
  have k4 : Try.prog.cellsOf 31 = 4 := by kernel_rfl
  rw [k4] at hc
  simp only [argVs, argV_c (aggF_int Try.underlying3), argV_c (aggF_slice Try.underlying22)]
  obtain ⟨m, hm⟩ := run_some.1 (plays_run hc hu ask (n := n))
  exact ⟨m, _, hm⟩

theorem heapPlays_lifted (os : Os) (started : os.Started) (H : Type) (enc : TypeId × Value → H) :
    ReturnsInHanded {} Try.checked os 3 .any (Rows.heapPlaysSpec.pre6 enc Try.prog Try.f3 Rows.heapPlaysRow.domain false) (Rows.heapPlaysSpec.post enc Try.prog Try.f3 false true false false) := by
  refine returnsInHanded_of_change (C := Try.checked) own started (by kernel_rfl) Try.func3
    (ChangeSpec.witness6 (enc := enc) (C := Try.checked) false ⟨#[], #[.int .i64 0, .slice none 0 0, .int .i64 0], []⟩ 8 (by kernel_rfl) (by kernel_rfl) (by kernel_rfl) (by kernel_rfl)) ?_
  intro W base args ds gs before hval0 hW hcnd _
  have hp3 : Try.f3.params.toList = [3, 22, 3] := by rw [Try.params3]
  refine law_contract (D := 5) (tb := 4) hp_ok laidOut rfl (fun ds h => ?_) (by rw [hp3]; kernel_rfl) (by rw [hp3]; kernel_rfl) rfl Try.underlying4 (by simp [hp, hpMd]) (fun css h => ?_) args ds gs before hval0 hW
  · rw [Try.params3] at h
    match ds, h with
    | [_, _, _], _ => rfl
  · rw [hp3] at h ⊢
    exact heapPlays_args h

theorem heapPlays_over : Rows.heapPlaysRow.holds Try.pinned (OpenSpec.ofChange Rows.heapPlaysSpec) :=
  OpenClaim.holds_of_wide 3 Try.f3 rfl rfl rfl rfl rfl rfl rfl ⟨rfl, rfl, rfl, rfl, rfl⟩ rfl rfl rfl rfl rfl (by kernel_rfl) Try.func3 (by kernel_rfl)
    (of_decide_eq_true (by kernel_rfl)) (by unfold Func.isWrapper; first | (rw [if_pos (by decide +kernel)]; kernel_rfl) | (rw [if_neg (by decide +kernel)]; exact ⟨rfl, rfl⟩))
    (fun os started H enc _ => heapPlays_lifted os started H enc)

end Go.Proofs.Ytopcnhojkfeafaa.Am.Hp
namespace Go.Proofs.Ytopcnhojkfeafaa
theorem heapPlays_holds : Rows.HeapPlaysSaid := Am.Hp.heapPlays_over
#print axioms heapPlays_holds
end Go.Proofs.Ytopcnhojkfeafaa
