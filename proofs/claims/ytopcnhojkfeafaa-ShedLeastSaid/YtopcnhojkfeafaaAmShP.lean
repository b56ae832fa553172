/- Shed: the plain law: what the best choices of each sum are; which choice is best of all. -/
import Derived.Test.YtopcnhojkfeafaaAmShF
set_option linter.unusedSimpArgs false
set_option linter.unusedVariables false
namespace Go.Proofs.Ytopcnhojkfeafaa.Am.Sh

/-- The wants of some units. -/
def sel (p : Int → Bool) (l : List Wa) : List Wa := l.filter fun x => p x.1

/-- Those units' places, the first the highest bit. -/
def mkL (p : Int → Bool) : List Wa → Nat → Nat
  | [], _ => 0
  | x :: l, k => (if p x.1 then 2 ^ (63 - k) else 0) ||| mkL p l (k + 1)

theorem mkL_append (p : Int → Bool) (w : Wa) : ∀ (l : List Wa) (k : Nat), mkL p (l ++ [w]) k = mkL p l k ||| (if p w.1 then 2 ^ (63 - (k + l.length)) else 0)
  | [], k => by simp [mkL]
  | x :: l, k => by
    simp only [List.cons_append, mkL, mkL_append p w l (k + 1), List.length_cons, Nat.or_assoc]
    rw [show k + 1 + l.length = k + (l.length + 1) by omega]

theorem mkL_congr {p q : Int → Bool} : ∀ {l : List Wa} {k : Nat}, (∀ x ∈ l, p x.1 = q x.1) → mkL p l k = mkL q l k
  | [], k, _ => rfl
  | x :: l, k, h => by
    simp only [mkL]
    rw [h x List.mem_cons_self, mkL_congr (fun y hy => h y (List.mem_cons_of_mem _ hy))]

theorem sel_congr {p q : Int → Bool} {l : List Wa} (h : ∀ x ∈ l, p x.1 = q x.1) : sel p l = sel q l := List.filter_congr h

theorem mkL_lt (p : Int → Bool) : ∀ (l : List Wa) (k : Nat), k + l.length ≤ 64 → mkL p l k < 2 ^ (64 - k)
  | [], k, h => by simp only [mkL]; exact Nat.two_pow_pos _
  | x :: l, k, h => by
    simp only [List.length_cons] at h
    have ih := mkL_lt p l (k + 1) (by omega)
    simp only [mkL]
    have e : 64 - k = (63 - k) + 1 := by omega
    have h1 : 2 ^ (63 - k) < 2 ^ (64 - k) := Nat.pow_lt_pow_right (by omega) (by omega)
    have h2 : 2 ^ (64 - (k + 1)) ≤ 2 ^ (64 - k) := Nat.pow_le_pow_right (by omega) (by omega)
    refine Nat.or_lt_two_pow ?_ (by omega)
    split
    · exact h1
    · exact Nat.two_pow_pos _

theorem mkL_bit (p : Int → Bool) : ∀ (l : List Wa) (k i : Nat) (x : Wa), k + l.length ≤ 64 → l[i]? = some x → (mkL p l k).testBit (63 - (k + i)) = p x.1
  | [], k, i, x, _, h => by simp at h
  | y :: l, k, 0, x, hk, h => by
    simp only [List.getElem?_cons_zero, Option.some.injEq] at h
    subst h
    simp only [List.length_cons] at hk
    have hlt := mkL_lt p l (k + 1) (by omega)
    simp only [mkL, Nat.testBit_or, Nat.add_zero]
    have e : (mkL p l (k + 1)).testBit (63 - k) = false := Nat.testBit_lt_two_pow (by rw [show 63 - k = 64 - (k + 1) by omega]; exact hlt)
    rw [e]
    cases p y.1 <;> simp [Nat.testBit_two_pow]
  | y :: l, k, i + 1, x, hk, h => by
    simp only [List.getElem?_cons_succ] at h
    simp only [List.length_cons] at hk
    have hi := lt_some h
    have ih := mkL_bit p l (k + 1) i x (by omega) h
    simp only [mkL, Nat.testBit_or]
    rw [show 63 - (k + (i + 1)) = 63 - (k + 1 + i) by omega, ih]
    have hne : ¬ (63 - k = 63 - (k + 1 + i)) := by omega
    split
    · simp [Nat.testBit_two_pow, hne]
    · simp

theorem or_add {a b j : Nat} (hb : b < 2 ^ j) : 2 ^ j ||| b = 2 ^ j + b := by
  have := Nat.two_pow_add_eq_or_of_lt (i := j) hb 1
  rw [Nat.mul_one] at this
  exact this.symm

/-- Units from a unit on, all in order. -/
def Up (u : Int) : List Wa → Prop
  | [] => True
  | x :: l => u ≤ x.1 ∧ Up (x.1 + 1) l

theorem Up.mono {u v : Int} (h : u ≤ v) : ∀ {l : List Wa}, Up v l → Up u l
  | [], _ => trivial
  | x :: l, hl => ⟨Int.le_trans h hl.1, hl.2⟩

theorem Up.mem {u : Int} : ∀ {l : List Wa}, Up u l → ∀ x ∈ l, u ≤ x.1
  | [], _, x, h => by simp at h
  | y :: l, hl, x, h => by
    rcases List.mem_cons.1 h with rfl | h
    · exact hl.1
    · have := Up.mem hl.2 x h
      have := hl.1
      omega

/-- Where two choices part, and the first of them has not what parts them, its number is less. -/
theorem fd_mask {P H : Int → Bool} : ∀ (n : Nat) (u : Int) (L : List Wa) (k : Nat), k + L.length ≤ 64 → Up u L → (∀ x ∈ L, x.1 < u + n) → (∀ v, u ≤ v → P v = true ∨ H v = true → ∃ x ∈ L, x.1 = v) →
    fd P H n u = false → (∃ x ∈ L, P x.1 ≠ H x.1) → mkL P L k < mkL H L k
  | 0, u, L, k, _, hU, hlt, _, _, ⟨x, hx, _⟩ => by
    have h1 := hU.mem x hx
    have h2 := hlt x hx
    omega
  | n + 1, u, L, k, hk, hU, hlt, hsup, hf, hd => by
    simp only [fd] at hf
    cases L with
    | nil => obtain ⟨x, hx, _⟩ := hd; simp at hx
    | cons x L =>
      simp only [List.length_cons] at hk
      have hP := mkL_lt P L (k + 1) (by omega)
      have hH := mkL_lt H L (k + 1) (by omega)
      rw [show 64 - (k + 1) = 63 - k by omega] at hP hH
      by_cases hxu : x.1 = u
      · have hsup' : ∀ v, u + 1 ≤ v → P v = true ∨ H v = true → ∃ y ∈ L, y.1 = v := fun v hv h => by
          obtain ⟨y, hy, e⟩ := hsup v (by omega) h
          rcases List.mem_cons.1 hy with rfl | hy
          · omega
          · exact ⟨y, hy, e⟩
        have hU' : Up (u + 1) L := by rw [← hxu]; exact hU.2
        split at hf
        · rename_i e
          rw [← hxu] at e
          have hd' : ∃ y ∈ L, P y.1 ≠ H y.1 := by
            obtain ⟨y, hy, hne⟩ := hd
            rcases List.mem_cons.1 hy with rfl | hy
            · exact absurd e hne
            · exact ⟨y, hy, hne⟩
          have ih := fd_mask n (u + 1) L (k + 1) (by omega) hU' (fun y hy => by have := hlt y (List.mem_cons_of_mem _ hy); push_cast at this; omega) hsup' hf hd'
          simp only [mkL, e]
          cases H x.1 with
          | false => simpa using ih
          | true =>
            simp only [if_true]
            rw [or_add (a := 0) hP, or_add (a := 0) hH]
            omega
        · rename_i e
          have hHu : H u = true := by
            cases hh : H u with
            | true => rfl
            | false => rw [hf, hh] at e; exact absurd rfl e
          simp only [mkL, hxu, hf, hHu, if_true]
          rw [or_add (a := 0) hH]
          simp
          omega
      · have hux := hU.1
        have hU' : Up (u + 1) (x :: L) := ⟨by omega, hU.2⟩
        have nu : ∀ y ∈ x :: L, y.1 ≠ u := fun y hy e => by have := hU'.mem y hy; omega
        have pu : P u = false := by
          cases hh : P u with
          | false => rfl
          | true => obtain ⟨y, hy, e⟩ := hsup u (Int.le_refl _) (.inl hh); exact absurd e (nu y hy)
        have hu : H u = false := by
          cases hh : H u with
          | false => rfl
          | true => obtain ⟨y, hy, e⟩ := hsup u (Int.le_refl _) (.inr hh); exact absurd e (nu y hy)
        rw [pu, hu, if_pos rfl] at hf
        exact fd_mask n (u + 1) (x :: L) k (by simpa using hk) hU' (fun y hy => by have := hlt y hy; push_cast at this; omega) (fun v hv h => hsup v (by omega) h) hf hd

end Go.Proofs.Ytopcnhojkfeafaa.Am.Sh
