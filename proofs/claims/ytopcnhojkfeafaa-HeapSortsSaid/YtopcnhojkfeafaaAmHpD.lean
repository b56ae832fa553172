/- The heap's law in plain numbers: order restored by bringing up and bringing down. -/
import Derived.Test.YtopcnhojkfeafaaAmHpC
set_option linter.unusedSimpArgs false
set_option linter.unusedVariables false
namespace Go.Proofs.Ytopcnhojkfeafaa.Am.Hp

/-! ### The order of keys -/

theorem cmpI_lt {a b c d : Int} : cmpI a b c d < 0 ↔ a * d < c * b := by
  unfold cmpI
  (repeat' split) <;> omega
theorem cmpI_eq {a b c d : Int} : cmpI a b c d = 0 ↔ a * d = c * b := by
  unfold cmpI
  (repeat' split) <;> omega

theorem lt3_iff {a b : Int} {ka kb : Int × Int} : lt3 a b ka kb = true ↔ ka.1 * kb.2 < kb.1 * ka.2 ∨ ka.1 * kb.2 = kb.1 * ka.2 ∧ a < b := by
  unfold lt3
  rw [decide_eq_true_eq, cmpI_lt, cmpI_eq]

theorem lt3_asym {a b : Int} {ka kb : Int × Int} (h : lt3 a b ka kb = true) : lt3 b a kb ka = false := by
  rw [← Bool.not_eq_true, lt3_iff]
  rw [lt3_iff] at h
  omega

/-- A fraction is no more than a second, and that no more than a third. -/
theorem frac_trans {a b c d e f : Int} (hb : 0 < b) (hd : 0 < d) (hf : 0 < f) (h1 : a * d ≤ c * b) (h2 : c * f ≤ e * d) : a * f ≤ e * b := by
  have k1 : a * d * f ≤ c * b * f := Int.mul_le_mul_of_nonneg_right h1 (by omega)
  have k2 : c * f * b ≤ e * d * b := Int.mul_le_mul_of_nonneg_right h2 (by omega)
  have e1 : c * b * f = c * f * b := Int.mul_right_comm c b f
  have e2 : a * d * f = a * f * d := Int.mul_right_comm a d f
  have e3 : e * d * b = e * b * d := Int.mul_right_comm e d b
  exact Int.le_of_mul_le_mul_right (by omega) hd

theorem lt3_false {a b : Int} {ka kb : Int × Int} : lt3 a b ka kb = false ↔ kb.1 * ka.2 ≤ ka.1 * kb.2 ∧ (kb.1 * ka.2 = ka.1 * kb.2 → b ≤ a) := by
  rw [← Bool.not_eq_true, lt3_iff]
  omega

theorem lt3_trans {a b c : Int} {ka kb kc : Int × Int} (ha : 0 < ka.2) (hb : 0 < kb.2) (hc : 0 < kc.2) (h1 : lt3 b a kb ka = false) (h2 : lt3 c b kc kb = false) : lt3 c a kc ka = false := by
  rw [lt3_false] at *
  obtain ⟨h1, e1⟩ := h1
  obtain ⟨h2, e2⟩ := h2
  have h3 := frac_trans ha hb hc h1 h2
  refine ⟨h3, fun e => ?_⟩
  have h4 := frac_trans hb hc ha h2 (Int.le_of_eq e.symm)
  have h5 := frac_trans hc ha hb (Int.le_of_eq e.symm) h1
  have f1 := e1 (by omega)
  have f2 := e2 (by omega)
  omega

/-! ### Places -/

def HS.lt (s : HS) (a b : Nat) : Bool := lt3 a b (s.key a) (s.key b)
theorem ahead_lt (s : HS) (i j : Nat) : s.ahead i j = s.lt (s.at i) (s.at j) := rfl

theorem at_swp {s : HS} (h : HV s) {i j : Nat} (hi : i < s.len) (hj : j < s.len) (m : Nat) : (s.swp i j).at m = if m = j then s.at i else if m = i then s.at j else s.at m := by
  have l := h.hl
  simp only [HS.at, HS.swp, HS.swap]
  by_cases e : m = j
  · subst e
    rw [if_pos rfl]
    simp [-Int.ofNat_toNat, List.getElem?_set, show m < s.row.length by omega]
  · rw [if_neg e]
    by_cases e2 : m = i
    · subst e2
      rw [if_pos rfl]
      simp [-Int.ofNat_toNat, List.getElem?_set, Ne.symm e, show m < s.row.length by omega]
    · rw [if_neg e2]
      simp [List.getElem?_set, Ne.symm e, Ne.symm e2]
theorem key_swp (s : HS) (i j : Nat) : (s.swp i j).key = s.key := rfl
theorem lt_swp (s : HS) (i j : Nat) : (s.swp i j).lt = s.lt := rfl
theorem len_swp (s : HS) (i j : Nat) : (s.swp i j).len = s.len := rfl

theorem HV.lt_trans {s : HS} (h : HV s) {i j k : Nat} (hi : i < s.len) (hj : j < s.len) (hk : k < s.len) (h1 : s.ahead j i = false) (h2 : s.ahead k j = false) : s.ahead k i = false :=
  lt3_trans (h.at hi).2.2.2.2.2 (h.at hj).2.2.2.2.2 (h.at hk).2.2.2.2.2 h1 h2

/-- The order holds, but at one place. -/
structure Near (s : HS) (i : Nat) : Prop where
  o : ∀ j, 0 < j → j < s.len → j ≠ i → (j - 1) / 2 ≠ i → s.ahead j ((j - 1) / 2) = false
  g : ∀ j, 0 < j → j < s.len → (j - 1) / 2 = i → 0 < i → s.ahead j ((i - 1) / 2) = false

/-- A place is not ahead of the one above. -/
def Under (s : HS) (i : Nat) : Prop := 0 < i → s.ahead i ((i - 1) / 2) = false

def Ord (s : HS) : Prop := ∀ j, 0 < j → j < s.len → s.ahead j ((j - 1) / 2) = false

theorem ahead_swp {s : HS} (h : HV s) {i j : Nat} (hi : i < s.len) (hj : j < s.len) (m q : Nat) : (s.swp i j).ahead m q = s.lt (if m = j then s.at i else if m = i then s.at j else s.at m) (if q = j then s.at i else if q = i then s.at j else s.at q) := by
  rw [ahead_lt, at_swp h hi hj, at_swp h hi hj, lt_swp]

theorem Near.up {s : HS} (h : HV s) {i : Nat} (hi : i < s.len) (h0 : 0 < i) (hN : Near s i) (ha : s.ahead i ((i - 1) / 2) = true) : Near (s.swp i ((i - 1) / 2)) ((i - 1) / 2) := by
  have hq : (i - 1) / 2 < s.len := by omega
  refine ⟨fun j j0 jl ji jp => ?_, fun j j0 jl jp q0 => ?_⟩
  · rw [len_swp] at jl
    have e1 : j ≠ i := fun e => jp (by rw [e])
    rw [ahead_swp h hi hq, if_neg ji, if_neg e1, if_neg jp]
    split
    · rename_i e
      exact hN.g j j0 jl e h0
    · rename_i e
      exact hN.o j j0 jl e1 e
  · rw [len_swp] at jl
    have hpp : ((i - 1) / 2 - 1) / 2 < s.len := by omega
    have k1 : s.ahead ((i - 1) / 2) (((i - 1) / 2 - 1) / 2) = false := hN.o _ q0 hq (by omega) (by omega)
    rw [ahead_swp h hi hq, if_neg (show ((i - 1) / 2 - 1) / 2 ≠ (i - 1) / 2 by omega), if_neg (show ((i - 1) / 2 - 1) / 2 ≠ i by omega), if_neg (show j ≠ (i - 1) / 2 by omega)]
    split
    · exact k1
    · rename_i e
      have k2 := hN.o j j0 jl e (by omega)
      rw [jp] at k2
      exact h.lt_trans hpp hq jl k1 k2

theorem Near.down {s : HS} (h : HV s) {i l : Nat} (hi : i < s.len) (hl : l < s.len) (hp : (l - 1) / 2 = i) (l0 : 0 < l) (hN : Near s i) (ha : s.ahead l i = true) (hs : ∀ j, 0 < j → j < s.len → (j - 1) / 2 = i → s.ahead j l = false) :
    Near (s.swp i l) l ∧ Under (s.swp i l) l := by
  have il : i ≠ l := by omega
  refine ⟨⟨fun j j0 jl ji jp => ?_, fun j j0 jl jp q0 => ?_⟩, fun _ => ?_⟩
  · rw [len_swp] at jl
    rw [ahead_swp h hi hl, if_neg ji, if_neg jp]
    by_cases e : j = i
    · rw [if_pos e, if_neg (show (j - 1) / 2 ≠ i by omega)]
      subst e
      exact hN.g l l0 hl hp j0
    · rw [if_neg e]
      split
      · rename_i e2
        exact hs j j0 jl e2
      · rename_i e2
        exact hN.o j j0 jl e e2
  · rw [len_swp] at jl
    rw [ahead_swp h hi hl, hp, if_neg (show j ≠ l by omega), if_neg (show j ≠ i by omega), if_neg il, if_pos rfl]
    have := hN.o j j0 jl (by omega) (by omega)
    rw [jp] at this
    exact this
  · rw [ahead_swp h hi hl, hp, if_pos rfl, if_neg il, if_pos rfl]
    exact lt3_asym ha

theorem Near.ord {s : HS} {i : Nat} (hN : Near s i) (hu : Under s i) (hc : ∀ j, 0 < j → j < s.len → (j - 1) / 2 = i → s.ahead j i = false) : Ord s := by
  intro j j0 jl
  by_cases e : j = i
  · subst e; exact hu j0
  · by_cases e2 : (j - 1) / 2 = i
    · have := hc j j0 jl e2
      rw [e2]; exact this
    · exact hN.o j j0 jl e e2

/-- The least of a place and those below it. -/
theorem least_spec {s : HS} (h : HV s) {i : Nat} (hi : i < s.len) : (s.least i 2 = i ∧ ∀ j, 0 < j → j < s.len → (j - 1) / 2 = i → s.ahead j i = false) ∨
    (0 < s.least i 2 ∧ (s.least i 2 - 1) / 2 = i ∧ s.ahead (s.least i 2) i = true ∧ ∀ j, 0 < j → j < s.len → (j - 1) / 2 = i → s.ahead j (s.least i 2) = false) := by
  have irr : ∀ j, s.ahead j j = false := fun j => by
    cases e : s.ahead j j with
    | false => rfl
    | true => have := lt3_asym e; rw [← e]; exact this
  have two : ∀ j, 0 < j → (j - 1) / 2 = i → j = 2 * i + 1 ∨ j = 2 * i + 2 := fun j h0 h1 => by omega
  have d1 : s.least i 1 = if 2 * i + 1 < s.len ∧ s.ahead (2 * i + 1) i = true then 2 * i + 1 else i := rfl
  have d2 : s.least i 2 = if 2 * i + 2 < s.len ∧ s.ahead (2 * i + 2) (s.least i 1) = true then 2 * i + 2 else s.least i 1 := rfl
  by_cases c1 : 2 * i + 1 < s.len ∧ s.ahead (2 * i + 1) i = true
  · rw [if_pos c1] at d1
    rw [d1] at d2
    right
    by_cases c2 : 2 * i + 2 < s.len ∧ s.ahead (2 * i + 2) (2 * i + 1) = true
    · rw [if_pos c2] at d2
      rw [d2]
      refine ⟨by omega, by omega, ?_, fun j j0 jl jp => ?_⟩
      · cases e : s.ahead (2 * i + 2) i with
        | true => rfl
        | false =>
          have k : s.ahead i (2 * i + 1) = false := lt3_asym c1.2
          have := h.lt_trans c1.1 hi c2.1 k e
          rw [c2.2] at this; cases this
      · rcases two j j0 jp with rfl | rfl
        · exact lt3_asym c2.2
        · exact irr _
    · rw [if_neg c2] at d2
      rw [d2]
      refine ⟨by omega, by omega, c1.2, fun j j0 jl jp => ?_⟩
      rcases two j j0 jp with rfl | rfl
      · exact irr _
      · cases e : s.ahead (2 * i + 2) (2 * i + 1) with
        | false => rfl
        | true => exact absurd ⟨jl, e⟩ c2
  · rw [if_neg c1] at d1
    rw [d1] at d2
    by_cases c2 : 2 * i + 2 < s.len ∧ s.ahead (2 * i + 2) i = true
    · right
      rw [if_pos c2] at d2
      rw [d2]
      refine ⟨by omega, by omega, c2.2, fun j j0 jl jp => ?_⟩
      rcases two j j0 jp with rfl | rfl
      · cases e : s.ahead (2 * i + 1) i with
        | true => exact absurd ⟨jl, e⟩ c1
        | false => exact h.lt_trans c2.1 hi jl (lt3_asym c2.2) e
      · exact irr _
    · left
      rw [if_neg c2] at d2
      refine ⟨d2, fun j j0 jl jp => ?_⟩
      rcases two j j0 jp with rfl | rfl
      · cases e : s.ahead (2 * i + 1) i with
        | true => exact absurd ⟨jl, e⟩ c1
        | false => rfl
      · cases e : s.ahead (2 * i + 2) i with
        | true => exact absurd ⟨jl, e⟩ c2
        | false => rfl

/-! ### Who has a key -/

/-- Each id stands where its place says. -/
structure HP (s : HS) : Prop extends HV s where
  pl : ∀ i, i < s.len → s.place[s.at i]? = some ((i : Int) + 1)
  pz : ∀ a, a < s.place.length → s.place[a]? = some 0 ∨ ∃ i, i < s.len ∧ s.at i = a

theorem HP.inj {s : HS} (h : HP s) {i j : Nat} (hi : i < s.len) (hj : j < s.len) (e : s.at i = s.at j) : i = j := by
  have h1 := h.pl i hi
  have h2 := h.pl j hj
  rw [e, h2] at h1
  simp only [Option.some.injEq] at h1
  omega

/-- An id's key, if it has one. -/
def HS.K (s : HS) (a : Nat) : Option (Int × Int) := if 0 < s.place[a]?.getD 0 then some (s.key a) else none

theorem HP.K_at {s : HS} (h : HP s) {i : Nat} (hi : i < s.len) : s.K (s.at i) = some (s.key (s.at i)) := by
  unfold HS.K
  rw [h.pl i hi]
  simp only [Option.getD_some]
  rw [if_pos (by omega)]

theorem HP.K_some {s : HS} (h : HP s) {a : Nat} {k : Int × Int} (e : s.K a = some k) : ∃ i, i < s.len ∧ s.at i = a ∧ s.key a = k := by
  unfold HS.K at e
  split at e
  · rename_i h0
    simp only [Option.some.injEq] at e
    by_cases ha : a < s.place.length
    · rcases h.pz a ha with h1 | ⟨i, h1, h2⟩
      · rw [h1] at h0; simp at h0
      · exact ⟨i, h1, h2, e⟩
    · rw [List.getElem?_eq_none (by omega)] at h0; simp at h0
  · cases e

theorem place_swp {s : HS} (h : HP s) {i j : Nat} (hi : i < s.len) (hj : j < s.len) (a : Nat) : (s.swp i j).place[a]? = if a = s.at i then some ((j : Int) + 1) else if a = s.at j then some ((i : Int) + 1) else s.place[a]? := by
  have h1 := h.at hi
  have h2 := h.at hj
  simp only [HS.swp, HS.swap, List.getElem?_set, List.length_set]
  by_cases e : s.at i = a
  · subst e; simp [h1.2.1]
  · rw [if_neg e, if_neg (show ¬ a = s.at i from fun c => e c.symm)]
    by_cases e2 : s.at j = a
    · subst e2
      rw [if_pos rfl, if_pos h2.2.1, if_pos rfl]
    · rw [if_neg e2, if_neg (show ¬ a = s.at j from fun c => e2 c.symm)]

theorem HP.swp {s : HS} (h : HP s) {i j : Nat} (hi : i < s.len) (hj : j < s.len) : HP (s.swp i j) ∧ ∀ a, (s.swp i j).K a = s.K a := by
  refine ⟨⟨h.toHV.swp hi hj, fun m hm => ?_, fun a ha => ?_⟩, fun a => ?_⟩
  · rw [len_swp] at hm
    rw [place_swp h hi hj, at_swp h.toHV hi hj]
    by_cases e : m = j
    · subst e; simp
    · rw [if_neg e]
      by_cases e2 : m = i
      · subst e2
        rw [if_pos rfl]
        by_cases e3 : s.at j = s.at m
        · exact absurd (h.inj hj hi e3) (fun c => e c.symm)
        · rw [if_neg e3, if_pos rfl]
      · rw [if_neg e2, if_neg (fun c => e2 (h.inj hm hi c)), if_neg (fun c => e (h.inj hm hj c))]
        exact h.pl m hm
  · have ha' : a < s.place.length := by simpa [HS.swp, HS.swap] using ha
    rw [place_swp h hi hj]
    by_cases e : a = s.at i
    · exact .inr ⟨j, hj, by rw [at_swp h.toHV hi hj]; simp [e]⟩
    · by_cases e2 : a = s.at j
      · refine .inr ⟨i, hi, ?_⟩
        rw [at_swp h.toHV hi hj]
        split
        · rename_i e3; subst e3; exact absurd e2 e
        · simp [e2]
      · rw [if_neg e, if_neg e2]
        rcases h.pz a ha' with h1 | ⟨m, h1, h2⟩
        · exact .inl h1
        · refine .inr ⟨m, h1, ?_⟩
          rw [at_swp h.toHV hi hj, if_neg (fun c => e2 (by rw [← h2, c])), if_neg (fun c => e (by rw [← h2, c]))]
          exact h2
  · unfold HS.K
    rw [place_swp h hi hj, key_swp]
    by_cases e : a = s.at i
    · subst e
      rw [if_pos rfl, h.pl i hi]
      simp only [Option.getD_some]
      rw [if_pos (by omega), if_pos (by omega)]
    · rw [if_neg e]
      by_cases e2 : a = s.at j
      · subst e2
        rw [if_pos rfl, h.pl j hj]
        simp only [Option.getD_some]
        rw [if_pos (by omega), if_pos (by omega)]
      · rw [if_neg e2]

/-- What stays when a heap is brought into order. -/
structure Same (s t : HS) : Prop where
  len : t.len = s.len
  key : t.key = s.key
  keys : t.keys = s.keys
  pl : t.place.length = s.place.length
  gn : t.gn = s.gn
  ga : t.ga = s.ga
  gb : t.gb = s.gb
  gc : t.gc = s.gc
  K : ∀ a, t.K a = s.K a
  row : t.row.length = s.row.length

theorem Same.refl (s : HS) : Same s s := ⟨rfl, rfl, rfl, rfl, rfl, rfl, rfl, rfl, fun _ => rfl, rfl⟩
theorem Same.trans {s t u : HS} (h : Same s t) (k : Same t u) : Same s u := ⟨k.1.trans h.1, k.2.trans h.2, k.3.trans h.3, k.4.trans h.4, k.5.trans h.5, k.6.trans h.6, k.7.trans h.7, k.8.trans h.8, fun a => (k.9 a).trans (h.9 a), k.10.trans h.10⟩
theorem Same.swp {s : HS} (h : HP s) {i j : Nat} (hi : i < s.len) (hj : j < s.len) : Same s (s.swp i j) := ⟨rfl, rfl, rfl, by simp [HS.swp, HS.swap], rfl, rfl, rfl, rfl, (h.swp hi hj).2, by simp [HS.swp, HS.swap]⟩

theorem up_spec : ∀ (f : Nat) {s : HS} {i : Nat}, HP s → i < s.len → i < f → Near s i → ∃ j, j < s.len ∧ (HS.up f s i).at j = s.at i ∧ HP (HS.up f s i) ∧ Same s (HS.up f s i) ∧ Near (HS.up f s i) j ∧ Under (HS.up f s i) j
  | 0, s, i, _, _, h, _ => by omega
  | f + 1, s, i, hP, hi, hf, hN => by
    unfold HS.up
    split
    · rename_i h
      have hq : (i - 1) / 2 < s.len := by omega
      obtain ⟨hP', hK⟩ := hP.swp hi hq
      obtain ⟨j, h1, h2, h3, h4, h5, h6⟩ := up_spec f hP' (by rw [len_swp]; exact hq) (by omega) (hN.up hP.toHV hi h.1 h.2)
      refine ⟨j, h1, ?_, h3, (Same.swp hP hi hq).trans h4, h5, h6⟩
      rw [h2, at_swp hP.toHV hi hq, if_pos rfl]
    · rename_i h
      refine ⟨i, hi, rfl, hP, Same.refl s, hN, fun h0 => ?_⟩
      cases e : s.ahead i ((i - 1) / 2) with
      | false => rfl
      | true => exact absurd ⟨h0, e⟩ h

theorem down_spec : ∀ (f : Nat) {s : HS} {i : Nat}, HP s → i < s.len → s.len - i ≤ f → Near s i → Under s i → HP (HS.down f s i) ∧ Same s (HS.down f s i) ∧ Ord (HS.down f s i)
  | 0, s, i, _, _, h, _, _ => by omega
  | f + 1, s, i, hP, hi, hf, hN, hu => by
    unfold HS.down
    rcases least_spec hP.toHV hi with ⟨h1, h2⟩ | ⟨h1, h2, h3, h4⟩
    · rw [if_pos h1]
      exact ⟨hP, Same.refl s, hN.ord hu h2⟩
    · rw [if_neg (by omega)]
      have hl := HS.least_lt hi 2
      obtain ⟨k1, k2⟩ := hN.down hP.toHV hi hl h2 h1 h3 h4
      obtain ⟨q1, q2, q3⟩ := down_spec f (hP.swp hi hl).1 (by rw [len_swp]; exact hl) (by rw [len_swp]; omega) k1 k2
      exact ⟨q1, (Same.swp hP hi hl).trans q2, q3⟩

end Go.Proofs.Ytopcnhojkfeafaa.Am.Hp
