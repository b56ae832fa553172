/- Shed: the plain law: the reference's best choice is the table's. -/
import Derived.Test.YtopcnhojkfeafaaAmShQ
import Derived.Test.YtopcnhojkfeafaaAmShG
set_option linter.unusedSimpArgs false
set_option linter.unusedVariables false
namespace Go.Proofs.Ytopcnhojkfeafaa.Am.Sh

def num (P : Int → Bool) : Nat → Int → Nat
  | 0, _ => 0
  | n + 1, u => (if P u then 2 ^ n else 0) + num P n (u + 1)

theorem num_lt (P : Int → Bool) : ∀ n u, num P n u < 2 ^ n
  | 0, u => by simp [num]
  | n + 1, u => by
    have := num_lt P n (u + 1)
    simp only [num, Nat.pow_succ]
    split <;> omega

theorem fd_num (P Q : Int → Bool) : ∀ n u, fd P Q n u = decide (num Q n u < num P n u)
  | 0, u => by simp [fd, num]
  | n + 1, u => by
    have h1 := num_lt P n (u + 1)
    have h2 := num_lt Q n (u + 1)
    simp only [fd, num, fd_num P Q n (u + 1)]
    rcases Bool.eq_false_or_eq_true (P u) with hp | hp <;> rcases Bool.eq_false_or_eq_true (Q u) with hq | hq <;> simp [hp, hq] <;> omega

abbrev numW (a : List Wa) : Nat := num (hasU a) 1040 1

theorem better_iff (a b : List Wa) : betterW a b = true ↔ sumW a < sumW b ∨ sumW a = sumW b ∧ (a.length < b.length ∨ a.length = b.length ∧ numW b < numW a) := by
  unfold betterW
  by_cases h1 : sumW a = sumW b
  · by_cases h2 : a.length = b.length
    · simp [h1, h2, fd_num]
    · simp [h1, h2]
  · simp [h1]

theorem bestW_spec (need : Int) : ∀ (r ch : List Wa), (∃ t, t.Sublist r ∧ (bestW need r ch).1 = ch ++ t) ∧ ((bestW need r ch).2 = true → need ≤ sumW (bestW need r ch).1) ∧
    ∀ t, t.Sublist r → need ≤ sumW (ch ++ t) → (bestW need r ch).2 = true ∧ betterW (ch ++ t) (bestW need r ch).1 = false
  | [], ch => by
    refine ⟨⟨[], List.Sublist.refl _, by simp [bestW]⟩, fun h => by simpa [bestW] using h, fun t ht hn => ?_⟩
    have : t = [] := List.sublist_nil.1 ht
    subst this
    rw [List.append_nil] at hn ⊢
    refine ⟨by simpa [bestW] using hn, ?_⟩
    cases h : betterW ch (bestW need [] ch).1 with
    | false => rfl
    | true =>
      have := (better_iff _ _).1 h
      simp only [bestW] at this
      omega
  | x :: r, ch => by
    obtain ⟨⟨ta, a1, a2⟩, a3, a4⟩ := bestW_spec need r ch
    obtain ⟨⟨tb, b1, b2⟩, b3, b4⟩ := bestW_spec need r (ch ++ [x])
    unfold bestW
    generalize bestW need r ch = A at *
    generalize bestW need r (ch ++ [x]) = B at *
    have split : ∀ t, t.Sublist (x :: r) → (t.Sublist r) ∨ ∃ t', t'.Sublist r ∧ ch ++ t = (ch ++ [x]) ++ t' := fun t ht => by
      cases ht with
      | cons _ h => exact .inl h
      | cons_cons _ h => exact .inr ⟨_, h, by simp⟩
    by_cases hc : A.2 = false ∨ (B.2 = true ∧ betterW B.1 A.1 = true)
    · rw [if_pos hc]
      refine ⟨⟨x :: tb, b1.cons_cons x, by rw [b2]; simp⟩, b3, fun t ht hn => ?_⟩
      rcases split t ht with h | ⟨t', h, e⟩
      · obtain ⟨k1, k2⟩ := a4 t h hn
        rcases hc with hc | ⟨hc1, hc2⟩
        · rw [hc] at k1; cases k1
        · refine ⟨hc1, ?_⟩
          cases hh : betterW (ch ++ t) B.1 with
          | false => rfl
          | true =>
            have p1 := (better_iff _ _).1 hh
            have p2 := (better_iff _ _).1 hc2
            have p3 : ¬ (betterW (ch ++ t) A.1 = true) := by rw [k2]; simp
            exact absurd ((better_iff _ _).2 (by omega)) p3
      · rw [e] at hn ⊢
        exact b4 t' h hn
    · rw [if_neg hc]
      refine ⟨⟨ta, a1.cons x, a2⟩, a3, fun t ht hn => ?_⟩
      have hA : A.2 = true := by
        cases h : A.2 with
        | true => rfl
        | false => exact absurd (.inl h) hc
      rcases split t ht with h | ⟨t', h, e⟩
      · exact a4 t h hn
      · rw [e] at hn ⊢
        obtain ⟨k1, k2⟩ := b4 t' h hn
        refine ⟨hA, ?_⟩
        have hB : ¬ (betterW B.1 A.1 = true) := fun h => hc (.inr ⟨k1, h⟩)
        cases hh : betterW (ch ++ [x] ++ t') A.1 with
        | false => rfl
        | true =>
          have p1 := (better_iff _ _).1 hh
          have p2 : ¬ (betterW (ch ++ [x] ++ t') B.1 = true) := by rw [k2]; simp
          rw [better_iff] at hB p2
          omega

theorem sumW_perm {a b : List Wa} (h : a.Perm b) : sumW a = sumW b := by
  induction h with
  | nil => rfl
  | cons x _ ih => simp only [sumW, ih]
  | swap x y l => simp only [sumW]; omega
  | trans _ _ ih1 ih2 => rw [ih1, ih2]

theorem sel_perm {a b : List Wa} (h : a.Perm b) (p : Int → Bool) : (sel p a).Perm (sel p b) := h.filter _

theorem hasU_iff (l : List Wa) (u : Int) : hasU l u = true ↔ ∃ x ∈ l, x.1 = u := by simp [hasU]

/-- A part of a list whose units are not twice there is told by its units. -/
theorem sub_sel : ∀ {t l : List Wa}, t.Sublist l → (l.map (·.1)).Nodup → t = sel (hasU t) l
  | _, _, .slnil, _ => rfl
  | t, _, .cons (l₂ := l) x h, hnd => by
    simp only [List.map_cons, List.nodup_cons] at hnd
    have ih := sub_sel h hnd.2
    have hx : hasU t x.1 = false := by
      cases hh : hasU t x.1 with
      | false => rfl
      | true =>
        obtain ⟨y, hy, e⟩ := (hasU_iff _ _).1 hh
        exact absurd (e ▸ List.mem_map_of_mem (f := (·.1)) (h.subset hy)) hnd.1
    have : sel (hasU t) (x :: l) = sel (hasU t) l := by simp [sel, hx]
    rw [this]; exact ih
  | _, _, .cons_cons (l₁ := t) (l₂ := l) x h, hnd => by
    simp only [List.map_cons, List.nodup_cons] at hnd
    have ih := sub_sel h hnd.2
    have hx : hasU (x :: t) x.1 = true := (hasU_iff _ _).2 ⟨x, List.mem_cons_self, rfl⟩
    have e : sel (hasU (x :: t)) l = sel (hasU t) l := sel_congr fun y hy => by
      have hne : x.1 ≠ y.1 := fun e => hnd.1 (e ▸ List.mem_map_of_mem (f := (·.1)) hy)
      simp [hasU, hne]
    have : sel (hasU (x :: t)) (x :: l) = x :: sel (hasU (x :: t)) l := by simp [sel, hx]
    rw [this, e, ← ih]

theorem sel_sub (p : Int → Bool) (l : List Wa) : (sel p l).Sublist l := List.filter_sublist

theorem hasU_sel {p : Int → Bool} {l : List Wa} {x : Wa} (hx : x ∈ l) : hasU (sel p l) x.1 = p x.1 := by
  cases hp : p x.1 with
  | true => exact (hasU_iff _ _).2 ⟨x, by simp [sel, hx, hp], rfl⟩
  | false =>
    cases h : hasU (sel p l) x.1 with
    | false => rfl
    | true =>
      obtain ⟨y, hy, e⟩ := (hasU_iff _ _).1 h
      have := (List.mem_filter.1 hy).2
      rw [e, hp] at this
      cases this

end Go.Proofs.Ytopcnhojkfeafaa.Am.Sh
