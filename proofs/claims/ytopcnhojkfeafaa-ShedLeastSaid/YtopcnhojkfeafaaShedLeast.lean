/- ShedLeast: whatever the input: the law's call returns true, and each argument reads as it did. No condition. -/
import Derived.Test.YtopcnhojkfeafaaRows
import Derived.Test.YtopcnhojkfeafaaAmArg
import Derived.Test.YtopcnhojkfeafaaAmSrtC
import Derived.Test.YtopcnhojkfeafaaAmClo
import Derived.Test.YtopcnhojkfeafaaAmShK
set_option linter.unusedVariables false
set_option maxRecDepth 100000
namespace Go.Proofs.Ytopcnhojkfeafaa.Am.Sh
open Go.ChangeShapes Go.WideShapes Go.ChangeAt Go.RowKit

theorem sh_code {f : Nat} {af : AF} (h : sh.code f = some af) : okF Try.prog f af = true := by
  simp only [sh, shCode] at h
  split at h
  · injection h with h; subst h; exact ok108
  · injection h with h; subst h; exact ok134
  · injection h with h; subst h; exact ok149
  · injection h with h; subst h; exact ok96
  · injection h with h; subst h; exact ok97
  · injection h with h; subst h; exact ok48
  · injection h with h; subst h; exact ok49
  · injection h with h; subst h; exact ok50
  · injection h with h; subst h; exact ok129
  · injection h with h; subst h; exact ok147
  · injection h with h; subst h; exact ok175
  · injection h with h; subst h; exact ok124
  · injection h with h; subst h; exact ok168
  · injection h with h; subst h; exact ok167
  · injection h with h; subst h; exact ok152
  · injection h with h; subst h; exact ok133
  · injection h with h; subst h; exact ok132
  · injection h with h; subst h; exact ok95
  · injection h with h; subst h; exact ok46
  · injection h with h; subst h; exact ok47
  · injection h with h; subst h; exact ok52
  · injection h with h; subst h; exact ok53
  · injection h with h; subst h; exact ok54
  · injection h with h; subst h; exact ok99
  · injection h with h; subst h; exact ok135
  · injection h with h; subst h; exact ok98
  · injection h with h; subst h; exact ok51
  · injection h with h; subst h; exact ok45
  · injection h with h; subst h; exact ok9
  · injection h with h; subst h; exact ok10
  · cases h

theorem sh_prims (f : Nat) (p : List V → Mem → Option (V × Mem)) (h : sh.prim f = some p) : PrimOK Try.prog sh f p := by
  simp only [sh, shPrim] at h
  split at h
  · injection h with h; subst h; exact clone_prim rfl
  · injection h with h; subst h; exact sort_prim rfl
  · cases h

theorem sh_ok : PgOK Try.prog sh := ⟨by kernel_rfl, fun f af h => sh_code h, sh_prims⟩

theorem own : ownKnob Try.prog.godebug = none := by kernel_rfl
theorem laidOut : laidOutB Try.prog = true := by kernel_rfl

theorem want_of {r : List C} {d : Nat} (h : Typed Try.prog (d + 2) 62 r) : ∃ a : Wa, r = encP a ∧ True := by
  obtain ⟨ps, rfl, h2, h3⟩ := typed_struct Try.underlying62 h
  match ps, h2 with
  | [p0, p1], _ =>
    obtain ⟨a, rfl, ha⟩ := typed_int Try.underlying3 (h3 0 _ p0 rfl rfl)
    obtain ⟨b, rfl, hb⟩ := typed_int Try.underlying3 (h3 1 _ p1 rfl rfl)
    exact ⟨(a, b), rfl, trivial⟩

theorem slF_of {d : Nat} {cs : List C} (h : Typed Try.prog (d + 3) 80 cs) : ∃ (l : List Wa) (c : C), cs = [c] ∧ SlF 2 (l.map encP) c ∧ l.length ≤ maxLen := by
  have h' := h
  simp only [Typed, Try.underlying80] at h'
  obtain ⟨xs, c, rfl, hc, hml, hx⟩ := typed_slice Try.underlying80 h
  obtain ⟨l, rfl, _⟩ := rows_of (fun r hr => want_of (d := d) (hx r hr))
  refine ⟨l, c, rfl, ?_, by simpa using hml⟩
  have k2 : Try.prog.cellsOf 62 = 2 := by kernel_rfl
  rw [k2] at hc
  rcases h' with h' | ⟨xs, h', _⟩
  · injection h' with h'
    rcases hc with ⟨t, rfl⟩ | ⟨rfl, e⟩
    · cases h'
    · exact .inr ⟨rfl, e⟩
  · injection h' with h'
    rcases hc with ⟨t, rfl⟩ | ⟨rfl, e⟩
    · injection h' with e1 e2 e3
      subst e1
      exact .inl rfl
    · exact .inr ⟨rfl, e⟩

theorem shedLeast_args {css : List (List C)} (h : ArgsT Try.prog 5 [3, 3, 80] css) : ∃ n M', runF sh n 10 (argVs Try.prog [3, 3, 80] css) [] = some (.c (.bool true), M') := by
  obtain ⟨c0, c1, c2, rfl, h0, h1, h2⟩ := args3 h
  obtain ⟨f, rfl, _⟩ := typed_int Try.underlying3 h0
  obtain ⟨need, rfl, _⟩ := typed_int Try.underlying3 h1
  obtain ⟨l, c, rfl, hc, hlm⟩ := slF_of h2
  simp only [argVs, argV_c (aggF_int Try.underlying3), argV_c (aggF_slice Try.underlying80)]
  obtain ⟨m, hm⟩ := run_some.1 (least_run hc f need)
  exact ⟨m, _, hm⟩

theorem shedLeast_lifted (os : Os) (started : os.Started) (H : Type) (enc : TypeId × Value → H) :
    ReturnsInHanded {} Try.checked os 10 .any (Rows.shedLeastSpec.pre6 enc Try.prog Try.f10 Rows.shedLeastRow.domain false) (Rows.shedLeastSpec.post enc Try.prog Try.f10 false true false false) := by
  refine returnsInHanded_of_change (C := Try.checked) own started (by kernel_rfl) Try.func10
    (ChangeSpec.witness6 (enc := enc) (C := Try.checked) false ⟨#[], #[.int .i64 0, .int .i64 0, .slice none 0 0], []⟩ 8 (by kernel_rfl) (by kernel_rfl) (by kernel_rfl) (by kernel_rfl)) ?_
  intro W base args ds gs before hval0 hW hcnd _
  have hp3 : Try.f10.params.toList = [3, 3, 80] := by rw [Try.params10]
  refine law_contract (D := 5) (tb := 4) sh_ok laidOut rfl (fun ds h => ?_) (by rw [hp3]; kernel_rfl) (by rw [hp3]; kernel_rfl) rfl Try.underlying4 (by simp [sh, shMd]) (fun css h => ?_) args ds gs before hval0 hW
  · rw [Try.params10] at h
    match ds, h with
    | [_, _, _], _ => rfl
  · rw [hp3] at h ⊢
    exact shedLeast_args h

theorem shedLeast_over : Rows.shedLeastRow.holds Try.pinned (OpenSpec.ofChange Rows.shedLeastSpec) :=
  OpenClaim.holds_of_wide 10 Try.f10 rfl rfl rfl rfl rfl rfl rfl ⟨rfl, rfl, rfl, rfl, rfl⟩ rfl rfl rfl rfl rfl (by kernel_rfl) Try.func10 (by kernel_rfl)
    (of_decide_eq_true (by kernel_rfl)) (by unfold Func.isWrapper; first | (rw [if_pos (by decide +kernel)]; kernel_rfl) | (rw [if_neg (by decide +kernel)]; exact ⟨rfl, rfl⟩))
    (fun os started H enc _ => shedLeast_lifted os started H enc)

end Go.Proofs.Ytopcnhojkfeafaa.Am.Sh
namespace Go.Proofs.Ytopcnhojkfeafaa
theorem shedLeast_holds : Rows.ShedLeastSaid := Am.Sh.shedLeast_over
#print axioms shedLeast_holds
end Go.Proofs.Ytopcnhojkfeafaa
