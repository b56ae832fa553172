/- Shed: the plain law: the table's entries. -/
import Derived.Test.YtopcnhojkfeafaaAmShP
set_option linter.unusedSimpArgs false
set_option linter.unusedVariables false
namespace Go.Proofs.Ytopcnhojkfeafaa.Am.Sh

/-- What an entry says of a list's choices of a sum. -/
def SpecB (l : List Wa) (s : Nat) : Bo → Prop
  | none => ∀ p, sumW (sel p l) ≠ s
  | some (c, m) => (∃ p, sumW (sel p l) = s ∧ (sel p l).length = c ∧ mkL p l 0 = m) ∧ ∀ p, sumW (sel p l) = s → c < (sel p l).length ∨ c = (sel p l).length ∧ mkL p l 0 ≤ m

theorem sel_append (p : Int → Bool) (l : List Wa) (w : Wa) : sel p (l ++ [w]) = sel p l ++ if p w.1 then [w] else [] := by
  unfold sel
  rw [List.filter_append]
  congr 1
  cases h : p w.1 <;> simp [h]

theorem sel_sum_nonneg {l : List Wa} (hs : ∀ x ∈ l, 1 ≤ x.2) (p : Int → Bool) : 0 ≤ sumW (sel p l) := by
  have key : ∀ {m : List Wa}, (∀ x ∈ m, 1 ≤ x.2) → 0 ≤ sumW m := by
    intro m
    induction m with
    | nil => intro _; simp [sumW]
    | cons x m ih =>
      intro h
      have h1 := h x List.mem_cons_self
      have h2 := ih (fun y hy => h y (List.mem_cons_of_mem _ hy))
      simp only [sumW]; omega
  exact key fun x hx => hs x ((List.mem_filter.1 hx).1)

theorem specB_step {l : List Wa} {w : Wa} {old : Nat → Bo} (hs : ∀ x ∈ l, 1 ≤ x.2) (hw : 1 ≤ w.2) (hl : l.length < 64) (hnew : ∀ x ∈ l, x.1 ≠ w.1) (ho : ∀ s, SpecB l s (old s)) (s : Nat) : SpecB (l ++ [w]) s (stepB l.length w old s) := by
  -- what a choice is, with it and without
  have off : ∀ p : Int → Bool, p w.1 = false → sel p (l ++ [w]) = sel p l ∧ mkL p (l ++ [w]) 0 = mkL p l 0 := fun p hp => by
    rw [sel_append, mkL_append, hp]; simp
  have hbit : ∀ p : Int → Bool, mkL p l 0 ||| 2 ^ (63 - l.length) = mkL p l 0 + 2 ^ (63 - l.length) := fun p => by
    -- the low bits are none
    have key : ∀ (l : List Wa) (k j : Nat), k + l.length ≤ 64 → j < 64 - (k + l.length) → (mkL p l k).testBit j = false := by
      intro l
      induction l with
      | nil => intro k j _ _; simp [mkL]
      | cons x l ih =>
        intro k j hk hj
        simp only [List.length_cons] at hk hj
        simp only [mkL, Nat.testBit_or]
        rw [ih (k + 1) j (by omega) (by omega)]
        have : ¬ (63 - k = j) := by omega
        split <;> simp [Nat.testBit_two_pow, this]
    have hb := key l 0 (63 - l.length) (by omega) (by omega)
    generalize mkL p l 0 = m at hb ⊢
    generalize 63 - l.length = t at hb ⊢
    have hq : m / 2 ^ t % 2 = 0 := by
      rw [Nat.testBit_eq_decide_div_mod_eq] at hb
      simp at hb
      omega
    have hm : m = 2 ^ t * (m / 2 ^ t) + m % 2 ^ t := (Nat.div_add_mod m (2 ^ t)).symm
    have hr : m % 2 ^ t < 2 ^ t := Nat.mod_lt _ (Nat.two_pow_pos t)
    generalize m / 2 ^ t = q at *
    generalize m % 2 ^ t = r at *
    subst hm
    have e1 : 2 ^ t * q + r + 2 ^ t = 2 ^ t * (q + 1) + r := by rw [Nat.mul_add]; omega
    have e2 : q + 1 = q ||| 1 := by
      have := Nat.two_pow_add_eq_or_of_lt (i := 1) (b := 1) (by omega) (q / 2)
      rw [show 2 ^ 1 * (q / 2) = q by omega] at this
      exact this
    rw [e1, e2]
    apply Nat.eq_of_testBit_eq
    intro i
    rw [Nat.testBit_or, Nat.testBit_two_pow_mul_add _ hr, Nat.testBit_two_pow_mul_add _ hr, Nat.testBit_or, Nat.testBit_two_pow]
    by_cases c : i < t
    · have : ¬ t = i := by omega
      simp [c, this]
    · rw [if_neg c, if_neg c]
      congr 1
      rw [show (1 : Nat) = 2 ^ 0 from rfl, Nat.testBit_two_pow]
      simp
      omega
  have on : ∀ p : Int → Bool, p w.1 = true → sumW (sel p (l ++ [w])) = sumW (sel p l) + w.2 ∧ (sel p (l ++ [w])).length = (sel p l).length + 1 ∧ mkL p (l ++ [w]) 0 = mkL p l 0 + 2 ^ (63 - l.length) := fun p hp => by
    rw [sel_append, mkL_append, hp, sumW_append]
    simp only [if_true, sumW, List.length_append, List.length_cons, List.length_nil, Nat.zero_add]
    exact ⟨by omega, trivial, hbit p⟩
  -- a choice made with it, or without
  have mk : ∀ (p : Int → Bool) (b : Bool), ∃ q : Int → Bool, q w.1 = b ∧ sel q l = sel p l ∧ mkL q l 0 = mkL p l 0 := fun p b => by
    have e : ∀ x ∈ l, (fun u => if u = w.1 then b else p u) x.1 = p x.1 := fun x hx => by simp [hnew x hx]
    exact ⟨fun u => if u = w.1 then b else p u, by simp, sel_congr e, mkL_congr e⟩
  have sn := sel_sum_nonneg hs
  have os := ho s
  -- one that has it wants room
  unfold stepB
  by_cases hws : w.2.toNat ≤ s
  · rw [if_pos hws]
    have oq := ho (s - w.2.toNat)
    have eqs : ((s - w.2.toNat : Nat) : Int) = (s : Int) - w.2 := by omega
    cases hq : old (s - w.2.toNat) with
    | none =>
      rw [hq] at oq
      simp only [SpecB, eqs] at oq
      have nq : ∀ p : Int → Bool, sumW (sel p (l ++ [w])) = s → p w.1 = false := fun p hp => by
        cases h : p w.1 with
        | false => rfl
        | true =>
          have := (on p h).1
          exact absurd (show sumW (sel p l) = (s : Int) - w.2 by omega) (oq p)
      simp only
      cases hos : old s with
      | none =>
        rw [hos] at os
        intro p hp
        have h := nq p hp
        rw [(off p h).1] at hp
        exact os p hp
      | some cm =>
        obtain ⟨c, m⟩ := cm
        rw [hos] at os
        obtain ⟨⟨p, h1, h2, h3⟩, h4⟩ := os
        refine ⟨?_, fun p hp => ?_⟩
        · obtain ⟨q, q1, q2, q3⟩ := mk p false
          have := off q q1
          exact ⟨q, by rw [this.1, q2]; exact h1, by rw [this.1, q2]; exact h2, by rw [this.2, q3]; exact h3⟩
        · have h := off p (nq p hp)
          rw [h.1] at hp
          rw [h.1, h.2]
          exact h4 p hp
    | some cm =>
      obtain ⟨c, m⟩ := cm
      rw [hq] at oq
      simp only [SpecB, eqs] at oq
      obtain ⟨⟨p0, a1, a2, a3⟩, a4⟩ := oq
      simp only
      have em : m ||| 2 ^ (63 - l.length) = m + 2 ^ (63 - l.length) := by rw [← a3]; exact hbit p0
      rw [em]
      have onq : ∀ p : Int → Bool, p w.1 = true → sumW (sel p (l ++ [w])) = s → c + 1 < (sel p (l ++ [w])).length ∨ c + 1 = (sel p (l ++ [w])).length ∧ mkL p (l ++ [w]) 0 ≤ m + 2 ^ (63 - l.length) := fun p h hp => by
        obtain ⟨b1, b2, b3⟩ := on p h
        have := a4 p (by omega)
        rw [b2, b3]
        omega
      have wit : ∃ p, sumW (sel p (l ++ [w])) = s ∧ (sel p (l ++ [w])).length = c + 1 ∧ mkL p (l ++ [w]) 0 = m + 2 ^ (63 - l.length) := by
        obtain ⟨q, q1, q2, q3⟩ := mk p0 true
        obtain ⟨b1, b2, b3⟩ := on q q1
        exact ⟨q, by rw [b1, q2]; omega, by rw [b2, q2]; omega, by rw [b3, q3]; omega⟩
      cases hos : old s with
      | none =>
        rw [hos] at os
        simp only [betB, if_true]
        refine ⟨wit, fun p hp => ?_⟩
        cases h : p w.1 with
        | true => exact onq p h hp
        | false =>
          rw [(off p h).1] at hp
          exact absurd hp (os p)
      | some cm' =>
        obtain ⟨c', m'⟩ := cm'
        rw [hos] at os
        obtain ⟨⟨p1, b1, b2, b3⟩, b4⟩ := os
        have offq : ∀ p : Int → Bool, p w.1 = false → sumW (sel p (l ++ [w])) = s → c' < (sel p (l ++ [w])).length ∨ c' = (sel p (l ++ [w])).length ∧ mkL p (l ++ [w]) 0 ≤ m' := fun p h hp => by
          have hh := off p h
          rw [hh.1] at hp
          rw [hh.1, hh.2]
          exact b4 p hp
        by_cases hbet : c + 1 < c' ∨ c + 1 = c' ∧ m' < m + 2 ^ (63 - l.length)
        · simp only [betB, decide_eq_true hbet, if_true]
          refine ⟨wit, fun p hp => ?_⟩
          cases h : p w.1 with
          | true => exact onq p h hp
          | false => have := offq p h hp; omega
        · simp only [betB, decide_eq_false hbet, Bool.false_eq_true, if_false]
          refine ⟨?_, fun p hp => ?_⟩
          · obtain ⟨q, q1, q2, q3⟩ := mk p1 false
            have := off q q1
            exact ⟨q, by rw [this.1, q2]; exact b1, by rw [this.1, q2]; exact b2, by rw [this.2, q3]; exact b3⟩
          · cases h : p w.1 with
            | true => have := onq p h hp; omega
            | false => exact offq p h hp
  · rw [if_neg hws]
    have nq : ∀ p : Int → Bool, sumW (sel p (l ++ [w])) = s → p w.1 = false := fun p hp => by
      cases h : p w.1 with
      | false => rfl
      | true =>
        have := (on p h).1
        have := sn p
        omega
    cases hos : old s with
    | none =>
      rw [hos] at os
      intro p hp
      have h := nq p hp
      rw [(off p h).1] at hp
      exact os p hp
    | some cm =>
      obtain ⟨c, m⟩ := cm
      rw [hos] at os
      obtain ⟨⟨p, h1, h2, h3⟩, h4⟩ := os
      refine ⟨?_, fun p hp => ?_⟩
      · obtain ⟨q, q1, q2, q3⟩ := mk p false
        have := off q q1
        exact ⟨q, by rw [this.1, q2]; exact h1, by rw [this.1, q2]; exact h2, by rw [this.2, q3]; exact h3⟩
      · have h := off p (nq p hp)
        rw [h.1] at hp
        rw [h.1, h.2]
        exact h4 p hp

theorem dp_spec {L : List Wa} (hs : ∀ x ∈ L, 1 ≤ x.2) (hnd : (L.map (·.1)).Nodup) (hl : L.length ≤ 64) : ∀ i, i ≤ L.length → ∀ s, SpecB (L.take i) s (dp L i s)
  | 0, _, s => by
    simp only [List.take_zero, dp]
    split
    · rename_i h
      subst h
      exact ⟨⟨fun _ => false, rfl, rfl, rfl⟩, fun p hp => by simp [sel, mkL]⟩
    · rename_i h
      intro p hp
      simp only [sel, List.filter_nil, sumW] at hp
      omega
  | i + 1, hi, s => by
    have hlt : i < L.length := by omega
    obtain ⟨w, hw⟩ : ∃ w, L[i]? = some w := ⟨_, List.getElem?_eq_getElem hlt⟩
    have ih := dp_spec hs hnd hl i (by omega)
    have e : dp L (i + 1) s = stepB i w (dp L i) s := by simp only [dp, hw]
    rw [e, take_succ hw]
    have hlen : (L.take i).length = i := by simp; omega
    have := specB_step (l := L.take i) (w := w) (old := dp L i) (fun x hx => hs x (List.mem_of_mem_take hx)) (hs w (List.mem_of_getElem? hw)) (by omega) (fun x hx he => ?_) ih s
    · rw [hlen] at this; exact this
    · obtain ⟨j, hj, ej⟩ := List.getElem_of_mem hx
      simp only [List.length_take] at hj
      have hjL : j < L.length := by omega
      simp only [List.getElem_take] at ej
      have hw' : L[i] = w := by simpa [List.getElem?_eq_getElem hlt] using hw
      have h1 : (L.map (·.1))[j]'(by simpa using hjL) = (L.map (·.1))[i]'(by simpa using hlt) := by simp [ej, hw', he]
      exact List.pairwise_iff_getElem.1 hnd j i (by simpa using hjL) (by simpa using hlt) (by omega) h1

end Go.Proofs.Ytopcnhojkfeafaa.Am.Sh
