/- AM: what is read of arguments, type by type. -/
import Derived.Test.YtopcnhojkfeafaaAmRow
import Derived.Test.YtopcnhojkfeafaaAmWv
set_option linter.unusedSimpArgs false
set_option linter.unusedVariables false
namespace Go.Proofs.Ytopcnhojkfeafaa.Am

section
variable {P : Program} {t : TypeId} {d : Nat} {cs : List C}
theorem typed_int {k : IntKind} (hu : P.underlying t = some (.int k)) (h : Typed P (d + 1) t cs) : ∃ n, cs = [.int k n] ∧ (Lit.int k n).wf = true := by
  simpa only [Typed, hu] using h
theorem typed_bool (hu : P.underlying t = some .bool) (h : Typed P (d + 1) t cs) : ∃ b, cs = [.bool b] := by
  simpa only [Typed, hu] using h
theorem typed_slice {e : TypeId} (hu : P.underlying t = some (.slice e)) (h : Typed P (d + 1) t cs) : ∃ xs c, cs = [c] ∧ Sl (P.cellsOf e) xs c ∧ xs.length ≤ maxLen ∧ ∀ r ∈ xs, Typed P d e r := by
  simp only [Typed, hu] at h
  rcases h with rfl | ⟨xs, rfl, h1, h2⟩
  · exact ⟨[], _, rfl, .inr ⟨rfl, rfl⟩, by simp, fun r hr => by simp at hr⟩
  · exact ⟨xs, _, rfl, .inl ⟨false, rfl⟩, h1, fun r hr => (h2 r hr).2⟩
theorem typed_struct {fs : Array Field} (hu : P.underlying t = some (.struct fs)) (h : Typed P (d + 1) t cs) : ∃ ps : List (List C), cs = ps.flatten ∧ ps.length = fs.size ∧ ∀ (i : Nat) (f : Field) (p : List C), fs[i]? = some f → ps[i]? = some p → Typed P d f.type p := by
  simp only [Typed, hu] at h
  obtain ⟨ps, h1, h2, h3⟩ := h
  exact ⟨ps, h1, h2, fun i f p hf hp => (h3 i f p hf hp).2⟩
end

theorem args1 {P : Program} {D : Nat} {t0 : TypeId} {css : List (List C)} (h : ArgsT P D [t0] css) : ∃ c0, css = [c0] ∧ Typed P D t0 c0 := by
  match css, h with
  | [c0], ⟨h0, _⟩ => exact ⟨c0, rfl, h0⟩
theorem args2 {P : Program} {D : Nat} {t0 t1 : TypeId} {css : List (List C)} (h : ArgsT P D [t0, t1] css) : ∃ c0 c1, css = [c0, c1] ∧ Typed P D t0 c0 ∧ Typed P D t1 c1 := by
  match css, h with
  | [c0, c1], ⟨h0, h1, _⟩ => exact ⟨c0, c1, rfl, h0, h1⟩
theorem args3 {P : Program} {D : Nat} {t0 t1 t2 : TypeId} {css : List (List C)} (h : ArgsT P D [t0, t1, t2] css) : ∃ c0 c1 c2, css = [c0, c1, c2] ∧ Typed P D t0 c0 ∧ Typed P D t1 c1 ∧ Typed P D t2 c2 := by
  match css, h with
  | [c0, c1, c2], ⟨h0, h1, h2, _⟩ => exact ⟨c0, c1, c2, rfl, h0, h1, h2⟩
theorem argV_c {P : Program} {t : TypeId} {c : C} (h : aggT P t = some false) : argV P t [c] = .c c := by simp [argV, h]
theorem argV_agg {P : Program} {t : TypeId} {cs : List C} (h : aggT P t = some true) : argV P t cs = .agg cs := by simp [argV, h]
theorem aggF_int {P : Program} {t : TypeId} {k : IntKind} (h : P.underlying t = some (.int k)) : aggT P t = some false := by simp [aggT, h]
theorem aggF_slice {P : Program} {t e : TypeId} (h : P.underlying t = some (.slice e)) : aggT P t = some false := by simp [aggT, h]
theorem aggF_struct {P : Program} {t : TypeId} {fs : Array Field} (h : P.underlying t = some (.struct fs)) : aggT P t = some true := by simp [aggT, h]

theorem rows_of {α : Type} {enc : α → List C} {p : α → Prop} : ∀ {xs : List (List C)}, (∀ r ∈ xs, ∃ a, r = enc a ∧ p a) → ∃ l : List α, xs = l.map enc ∧ ∀ a ∈ l, p a
  | [], _ => ⟨[], rfl, fun a h => by simp at h⟩
  | r :: xs, h => by
    obtain ⟨a, h1, h2⟩ := h r List.mem_cons_self
    obtain ⟨l, h3, h4⟩ := rows_of (fun r hr => h r (List.mem_cons_of_mem _ hr))
    refine ⟨a :: l, by rw [h1, h3]; rfl, fun b hb => ?_⟩
    rcases List.mem_cons.1 hb with rfl | hb
    · exact h2
    · exact h4 b hb

end Go.Proofs.Ytopcnhojkfeafaa.Am
