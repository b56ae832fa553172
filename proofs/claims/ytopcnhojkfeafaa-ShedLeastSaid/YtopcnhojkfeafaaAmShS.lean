/- Shed: the plain law: what is chosen. -/
import Derived.Test.YtopcnhojkfeafaaAmShR
import Derived.Test.YtopcnhojkfeafaaAmShD
set_option linter.unusedSimpArgs false
set_option linter.unusedVariables false
namespace Go.Proofs.Ytopcnhojkfeafaa.Am.Sh

theorem outU_eq {L : List Wa} (hl : L.length ≤ 64) (p : Int → Bool) : ∀ i, i ≤ L.length → outU L (mkL p L 0) i = (sel p (L.take i)).map (·.1)
  | 0, _ => by simp [outU, sel]
  | i + 1, hi => by
    have hlt : i < L.length := by omega
    obtain ⟨w, hw⟩ : ∃ w, L[i]? = some w := ⟨_, List.getElem?_eq_getElem hlt⟩
    have ih := outU_eq hl p i (by omega)
    have hb := mkL_bit p L 0 i w (by omega) hw
    rw [Nat.zero_add, Nat.testBit_eq_decide_div_mod_eq] at hb
    simp only [outU, hw, ih, take_succ hw, sel_append, List.map_append]
    congr 1
    cases hp : p w.1 with
    | true =>
      rw [hp] at hb
      have : mkL p L 0 / 2 ^ (63 - i) % 2 = 1 := by simpa using hb
      simp [this]
    | false =>
      rw [hp] at hb
      have : ¬ mkL p L 0 / 2 ^ (63 - i) % 2 = 1 := by simpa using hb
      simp [this]

theorem find_least (f : Nat → Bo) : ∀ (k need : Nat), (f (need + k)).isSome = true → ∃ s, need ≤ s ∧ s ≤ need + k ∧ (f s).isSome = true ∧ ∀ u, need ≤ u → u < s → f u = none
  | 0, need, h => ⟨need, Nat.le_refl _, Nat.le_refl _, h, fun u h1 h2 => by omega⟩
  | k + 1, need, h => by
    cases hn : f need with
    | some x => exact ⟨need, Nat.le_refl _, by omega, by rw [hn]; rfl, fun u h1 h2 => by omega⟩
    | none =>
      obtain ⟨s, h1, h2, h3, h4⟩ := find_least f k (need + 1) (by rw [show need + 1 + k = need + (k + 1) by omega]; exact h)
      refine ⟨s, by omega, by omega, h3, fun u u1 u2 => ?_⟩
      by_cases e : u = need
      · rw [e]; exact hn
      · exact h4 u (by omega) u2

/-- What the table says at the first sum that there is. -/
structure Found (l : List Wa) (need : Int) (s c m : Nat) (p : Int → Bool) : Prop where
  ge : need ≤ s
  le : (s : Int) ≤ sumW l
  at' : dp (isort l) l.length s = some (c, m)
  lt : m < 18446744073709551616
  none : ∀ u : Nat, need ≤ u → u < s → dp (isort l) l.length u = none
  sum : sumW (sel p l) = s
  len : (sel p l).length = c
  mask : mkL p (isort l) 0 = m
  best : ∀ q, sumW (sel q l) = s → c < (sel q l).length ∨ c = (sel q l).length ∧ mkL q (isort l) 0 ≤ m
  least : ∀ q, need ≤ sumW (sel q l) → (s : Int) ≤ sumW (sel q l)
  out : outU (isort l) m l.length = (sel p (isort l)).map (·.1)

theorem found {l : List Wa} (hs : Sh64 l) (hnd : (l.map (·.1)).Nodup) (hl : l.length ≤ 64) (need : Nat) (hn : (need : Int) ≤ sumW l) : ∃ s c m p, Found l need s c m p := by
  obtain ⟨L, hL⟩ : ∃ L, L = isort l := ⟨_, rfl⟩
  have hp : L.Perm l := by rw [hL]; exact isort_perm l
  have hLs : ∀ x ∈ L, 1 ≤ x.2 := fun x hx => (hs x (hp.mem_iff.1 hx)).1
  have hLn : (L.map (·.1)).Nodup := (hp.map _).nodup_iff.2 hnd
  have hLl : L.length = l.length := hp.length_eq
  have spec := dp_spec hLs hLn (by omega) L.length (Nat.le_refl _)
  rw [List.take_length] at spec
  have hb := sumW_bound hs
  obtain ⟨all, hall⟩ : ∃ n : Nat, sumW l = n := ⟨(sumW l).toNat, by omega⟩
  have full : (dp L L.length all).isSome = true := by
    have := spec all
    cases h : dp L L.length all with
    | some x => rfl
    | none =>
      rw [h] at this
      have h2 := this (fun _ => true)
      rw [show sel (fun _ => true) L = L by simp [sel], sumW_perm hp, hall] at h2
      exact absurd rfl h2
  obtain ⟨s, s1, s2, s3, s4⟩ := find_least (dp L L.length) (all - need) need (by rw [show need + (all - need) = all by omega]; exact full)
  obtain ⟨cm, hcm⟩ := Option.isSome_iff_exists.1 s3
  obtain ⟨c, m⟩ := cm
  have sp := spec s
  rw [hcm] at sp
  obtain ⟨⟨p, p1, p2, p3⟩, p4⟩ := sp
  have sp2 : ∀ q, sumW (sel q L) = sumW (sel q l) ∧ (sel q L).length = (sel q l).length := fun q => ⟨sumW_perm (sel_perm hp q), (sel_perm hp q).length_eq⟩
  rw [hLl] at hcm s4
  refine ⟨s, c, m, p, by omega, by omega, by rw [← hL]; exact hcm, (dp_bound L l.length s c m (by omega) hcm).2, fun u h1 h2 => by rw [← hL]; exact s4 u (by omega) h2, by rw [← (sp2 p).1]; exact p1, by rw [← (sp2 p).2]; exact p2, by rw [← hL]; exact p3, fun q hq => ?_, fun q hq => ?_, ?_⟩
  · rw [← hL, ← (sp2 q).2]
    exact p4 q (by rw [(sp2 q).1]; exact hq)
  · have hq0 : 0 ≤ sumW (sel q l) := sel_sum_nonneg (fun x hx => (hs x hx).1) q
    obtain ⟨t, ht⟩ : ∃ t : Nat, sumW (sel q l) = t := ⟨(sumW (sel q l)).toNat, by omega⟩
    rw [ht] at hq ⊢
    by_cases h : s ≤ t
    · omega
    · exfalso
      have hno := s4 t (by omega) (by omega)
      rw [← hLl] at hno
      have := spec t
      rw [hno] at this
      exact this q (by rw [(sp2 q).1]; exact ht)
  · have := outU_eq (L := L) (by omega) p L.length (Nat.le_refl _)
    rw [List.take_length, p3, hLl] at this
    rw [← hL]; exact this

/-- Units in order. -/
theorem up_of_sorted : ∀ {L : List Wa} {u : Int}, L.Pairwise (fun x y => x.1 ≤ y.1) → (L.map (·.1)).Nodup → (∀ x ∈ L, u ≤ x.1) → Up u L
  | [], _, _, _, _ => trivial
  | x :: L, u, hp, hn, hu => by
    rw [List.pairwise_cons] at hp
    simp only [List.map_cons, List.nodup_cons] at hn
    refine ⟨hu x List.mem_cons_self, up_of_sorted hp.2 hn.2 fun y hy => ?_⟩
    have h1 := hp.1 y hy
    have h2 : x.1 ≠ y.1 := fun e => hn.1 (e ▸ List.mem_map_of_mem (f := (·.1)) hy)
    omega

/-- The reference's best is the table's: of the same units. -/
theorem found_best {l : List Wa} {need : Int} {s c m : Nat} {p : Int → Bool} (hs : Sh64 l) (hnd : (l.map (·.1)).Nodup) (hl : l.length ≤ 64) (hu : ∀ x ∈ l, 1 ≤ x.1 ∧ x.1 ≤ 1040) (hn : need ≤ sumW l) (h : Found l need s c m p) :
    (bestW need l []).2 = true ∧ sumW (bestW need l []).1 = s ∧ (∀ x ∈ l, hasU (bestW need l []).1 x.1 = p x.1) ∧ (∀ x ∈ (bestW need l []).1, x ∈ l) := by
  obtain ⟨⟨t, t1, t2⟩, b2, b3⟩ := bestW_spec need l []
  rw [List.nil_append] at t2
  have ok := (b3 l (List.Sublist.refl _) (by simpa using hn)).1
  have hge := b2 ok
  generalize (bestW need l []).1 = x at *
  subst t2
  have hx := sub_sel t1 hnd
  have hle := h.least (hasU x) (by rw [← hx]; exact hge)
  rw [← hx] at hle
  have key : ∀ q, need ≤ sumW (sel q l) → ¬ (betterW (sel q l) x = true) := fun q hq => by
    have := (b3 (sel q l) (sel_sub q l) (by simpa using hq)).2
    simp only [List.nil_append] at this
    rw [this]; simp
  have hk := key p (by rw [h.sum]; exact h.ge)
  rw [better_iff, h.sum, h.len] at hk
  unfold numW at hk
  have hsx : sumW x = s := by omega
  have hb := h.best (hasU x) (by rw [← hx]; exact hsx)
  rw [← hx] at hb
  have hcl : c = x.length ∧ mkL (hasU x) (isort l) 0 ≤ m := by omega
  have hnum : fd (hasU (sel p l)) (hasU x) 1040 1 = false := by
    rw [fd_num, decide_eq_false_iff_not]
    omega
  refine ⟨ok, hsx, ?_, fun y hy => t1.subset hy⟩
  have hperm := isort_perm l
  have hLn : ((isort l).map (·.1)).Nodup := (hperm.map _).nodup_iff.2 hnd
  have all : ∀ y ∈ isort l, hasU (sel p l) y.1 = hasU x y.1 := by
    by_cases hd : ∃ y ∈ isort l, hasU (sel p l) y.1 ≠ hasU x y.1
    · exfalso
      have := fd_mask 1040 1 (isort l) 0 (by rw [isort_length]; omega) (up_of_sorted (isort_sorted l) hLn fun y hy => (hu y (hperm.mem_iff.1 hy)).1) (fun y hy => by have := (hu y (hperm.mem_iff.1 hy)).2; omega) (fun v _ hv => by
        rcases hv with hv | hv
        · obtain ⟨y, hy, e⟩ := (hasU_iff _ _).1 hv
          exact ⟨y, hperm.mem_iff.2 ((sel_sub p l).subset hy), e⟩
        · obtain ⟨y, hy, e⟩ := (hasU_iff _ _).1 hv
          exact ⟨y, hperm.mem_iff.2 (t1.subset hy), e⟩) hnum hd
      have e : mkL (hasU (sel p l)) (isort l) 0 = m := by
        rw [← h.mask]
        exact mkL_congr fun y hy => hasU_sel (hperm.mem_iff.1 hy)
      omega
    · intro y hy
      exact Classical.byContradiction fun hne => hd ⟨y, hy, hne⟩
  intro y hy
  rw [← all y (hperm.mem_iff.2 hy)]
  exact hasU_sel hy

/-- The units of what is chosen, rising. -/
theorem ups_sel {l : List Wa} {x : List Wa} {p : Int → Bool} (hnd : (l.map (·.1)).Nodup) (hu : ∀ y ∈ l, 1 ≤ y.1 ∧ y.1 ≤ 1040) (h1 : ∀ y ∈ l, hasU x y.1 = p y.1) (h2 : ∀ y ∈ x, y ∈ l) : ups (hasU x) 1040 = (sel p (isort l)).map (·.1) := by
  have hperm := isort_perm l
  have hLn : ((isort l).map (·.1)).Nodup := (hperm.map _).nodup_iff.2 hnd
  have s1 : (ups (hasU x) 1040).Pairwise (· < ·) := by
    unfold ups
    apply List.Pairwise.filter
    rw [List.pairwise_map]
    exact List.pairwise_lt_range.imp (fun h => by omega)
  have s2 : ((sel p (isort l)).map (·.1)).Pairwise (· < ·) := by
    rw [List.pairwise_map]
    unfold sel
    apply List.Pairwise.filter
    have := isort_sorted l
    have hne : (isort l).Pairwise (fun a b => a.1 ≠ b.1) := List.pairwise_map.1 hLn
    exact (this.and hne).imp (fun h => by omega)
  have mem : ∀ u, u ∈ ups (hasU x) 1040 ↔ u ∈ (sel p (isort l)).map (·.1) := by
    intro u
    simp only [ups, List.mem_filter, List.mem_map, List.mem_range, sel]
    constructor
    · rintro ⟨_, hh⟩
      obtain ⟨y, hy, e⟩ := (hasU_iff _ _).1 hh
      refine ⟨y, ⟨hperm.mem_iff.2 (h2 y hy), ?_⟩, e⟩
      rw [← h1 y (h2 y hy), e]; exact hh
    · rintro ⟨y, ⟨hy, hp⟩, rfl⟩
      have hyl := hperm.mem_iff.1 hy
      have := hu y hyl
      refine ⟨⟨(y.1 - 1).toNat, by omega, by omega⟩, ?_⟩
      rw [h1 y hyl]; exact hp
  refine List.Perm.eq_of_pairwise (le := fun a b => a < b) (fun a b _ _ h1 h2 => by omega) s1 s2 ?_
  exact (List.perm_ext_iff_of_nodup (s1.imp (fun h => by omega)) (s2.imp (fun h => by omega))).2 mem

end Go.Proofs.Ytopcnhojkfeafaa.Am.Sh
