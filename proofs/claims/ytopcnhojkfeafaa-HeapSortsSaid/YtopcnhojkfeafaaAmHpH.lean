/- The heap and its list, in plain numbers: what each call tells. -/
import Derived.Test.YtopcnhojkfeafaaAmHpG
set_option linter.unusedSimpArgs false
set_option linter.unusedVariables false
namespace Go.Proofs.Ytopcnhojkfeafaa.Am.Hp

theorem refKey_cons (x : Item) (w : List Item) (b : Int) : refKey (x :: w) b = if x.1 = b then some x.2 else refKey w b := by
  unfold refKey
  rw [List.find?_cons]
  by_cases h : x.1 = b
  · simp [h]
  · have e : (x.1 == b) = false := by simpa using h
    rw [e, if_neg h]

theorem refKey_rem : ∀ (w : List Item) (id b : Int), refKey (refRem w id) b = if b = id then none else refKey w b
  | [], id, b => by simp [refRem, refKey]
  | x :: w, id, b => by
    have ih := refKey_rem w id b
    rw [refKey_cons]
    unfold refRem at ih ⊢
    by_cases h : x.1 = id
    · rw [List.filter_cons_of_neg (by simp [h]), ih]
      by_cases hb : b = id
      · simp [hb]
      · rw [if_neg hb, if_neg hb, if_neg (fun c => hb (by rw [← c, h]))]
    · rw [List.filter_cons_of_pos (by simp [h]), refKey_cons, ih]
      by_cases hb : b = id
      · subst hb; simp [h]
      · simp [hb]

theorem refKey_app (w : List Item) (x : Item) (b : Int) : refKey (w ++ [x]) b = match refKey w b with
    | some k => some k
    | none => if x.1 = b then some x.2 else none := by
  induction w with
  | nil => rw [List.nil_append, refKey_cons]; simp [refKey]
  | cons y w ih =>
    rw [List.cons_append, refKey_cons, refKey_cons, ih]
    by_cases h : y.1 = b <;> simp [h]

theorem refKey_put (w : List Item) (x : Item) (b : Int) : refKey (refPut w x) b = if b = x.1 then some x.2 else refKey w b := by
  unfold refPut
  rw [refKey_app, refKey_rem]
  by_cases h : b = x.1
  · subst h; simp
  · rw [if_neg h, if_neg h, if_neg (fun c => h c.symm)]
    cases refKey w b <;> rfl

theorem refKey_mem : ∀ {w : List Item}, (w.map (·.1)).Nodup → ∀ x ∈ w, refKey w x.1 = some x.2
  | y :: w, hn, x, hx => by
    rw [List.map_cons, List.nodup_cons] at hn
    rw [refKey_cons]
    rcases List.mem_cons.1 hx with rfl | hx
    · rw [if_pos rfl]
    · rw [if_neg (fun e => hn.1 (List.mem_map.2 ⟨x, hx, e.symm⟩))]
      exact refKey_mem hn.2 x hx

theorem refKey_some {w : List Item} {b : Int} {k : Int × Int} (h : refKey w b = some k) : (b, k) ∈ w := by
  unfold refKey at h
  obtain ⟨x, h1, h2⟩ := Option.map_eq_some_iff.1 h
  have h3 := List.mem_of_find?_eq_some h1
  have h4 := List.find?_some h1
  simp only [beq_iff_eq] at h4
  obtain ⟨a, k'⟩ := x
  simp only at h2 h4
  subst h2; subst h4
  exact h3

theorem refRem_nodup {w : List Item} (hn : (w.map (·.1)).Nodup) (id : Int) : ((refRem w id).map (·.1)).Nodup :=
  List.Sublist.nodup (List.Sublist.map _ List.filter_sublist) hn
theorem refPut_nodup {w : List Item} (hn : (w.map (·.1)).Nodup) (x : Item) : ((refPut w x).map (·.1)).Nodup := by
  unfold refPut
  rw [List.map_append, List.map_singleton, List.nodup_append]
  refine ⟨refRem_nodup hn x.1, by simp, fun a ha b hb => ?_⟩
  obtain ⟨y, hy, rfl⟩ := List.mem_map.1 ha
  simp only [List.mem_singleton] at hb
  subst hb
  have := (List.mem_filter.1 hy).2
  simpa using this

theorem refRem_length : ∀ {w : List Item} (id : Int), (w.map (·.1)).Nodup → (refRem w id).length = if (refKey w id).isSome then w.length - 1 else w.length
  | [], id, _ => by simp [refRem, refKey]
  | x :: w, id, hn => by
    rw [List.map_cons, List.nodup_cons] at hn
    have ih := refRem_length id hn.2
    rw [refKey_cons]
    unfold refRem at ih ⊢
    by_cases h : x.1 = id
    · rw [List.filter_cons_of_neg (by simp [h]), ih, if_pos h]
      have : refKey w id = none := by
        cases e : refKey w id with
        | none => rfl
        | some k => exact absurd (List.mem_map.2 ⟨_, refKey_some e, h.symm⟩) hn.1
      simp [this]
    · rw [List.filter_cons_of_pos (by simp [h]), if_neg h, List.length_cons, ih]
      cases e : refKey w id with
      | none => simp
      | some k =>
        have := refKey_some e
        have : 0 < w.length := List.length_pos_of_mem this
        simp
        omega

theorem refMin_le {w : List Item} : ∀ (b : Item), (∀ x ∈ b :: w, 0 < x.2.2) → ∀ y ∈ b :: w, lt3 y.1 (refMin b w).1 y.2 (refMin b w).2 = false := by
  induction w with
  | nil =>
    intro b hk y hy
    simp only [List.mem_singleton] at hy
    subst hy
    simp only [refMin]
    cases e : lt3 y.1 y.1 y.2 y.2 with
    | false => rfl
    | true => have := lt3_asym e; rw [← e]; exact this
  | cons x w ih =>
    intro b hk y hy
    simp only [refMin]
    have hkw : ∀ z ∈ w, 0 < z.2.2 := fun z hz => hk z (by simp [hz])
    have hkb := hk b (by simp)
    have hkx := hk x (by simp)
    cases e : lt3 x.1 b.1 x.2 b.2 with
    | true =>
      simp only [if_true]
      have ihx := ih x (fun z hz => by rcases List.mem_cons.1 hz with rfl | hz; exact hkx; exact hkw z hz)
      rcases List.mem_cons.1 hy with rfl | hy
      · have h1 := ihx x (by simp)
        have hm := refMin_mem w x
        have hkm : 0 < (refMin x w).2.2 := by rcases List.mem_cons.1 hm with h | h; rw [h]; exact hkx; exact hkw _ h
        exact lt3_trans hkm hkx hkb h1 (lt3_asym e)
      · exact ihx y hy
    | false =>
      simp only [Bool.false_eq_true, if_false]
      have ihb := ih b (fun z hz => by rcases List.mem_cons.1 hz with rfl | hz; exact hkb; exact hkw z hz)
      rcases List.mem_cons.1 hy with rfl | hy
      · exact ihb _ (by simp)
      · rcases List.mem_cons.1 hy with rfl | hy
        · have h1 := ihb b (by simp)
          have hm := refMin_mem w b
          have hkm : 0 < (refMin b w).2.2 := by rcases List.mem_cons.1 hm with h | h; rw [h]; exact hkb; exact hkw _ h
          exact lt3_trans hkm hkb hkx h1 e
        · exact ihb y (by simp [hy])

/-! ### A heap and its list -/

structure Rel (s : HS) (w : List Item) (n : Nat) : Prop where
  hp : HP s
  ord : Ord s
  N : s.place.length = n
  K : ∀ a : Nat, s.K a = refKey w (a : Int)
  len : s.len = w.length
  nod : (w.map (·.1)).Nodup
  rng : ∀ x ∈ w, 0 ≤ x.1 ∧ x.1 < n ∧ KOK x.2
  row : s.row.length ≤ 1024
  gn : s.gn = 0

theorem Ord.min {s : HS} (h : HV s) (ho : Ord s) : ∀ i, i < s.len → s.ahead i 0 = false := by
  intro i
  induction i using Nat.strongRecOn with
  | ind i ih =>
    intro hi
    by_cases h0 : i = 0
    · subst h0
      cases e : s.ahead 0 0 with
      | false => rfl
      | true => have := lt3_asym e; rw [← e]; exact this
    · exact h.lt_trans (by omega) (by omega) hi (ih ((i - 1) / 2) (by omega) (by omega)) (ho i (by omega) hi)

theorem Rel.mem_at {s : HS} {w : List Item} {n : Nat} (h : Rel s w n) {i : Nat} (hi : i < s.len) : ((s.at i : Int), s.key (s.at i)) ∈ w := by
  have := h.hp.K_at hi
  rw [h.K] at this
  exact refKey_some this

theorem Rel.at_mem {s : HS} {w : List Item} {n : Nat} (h : Rel s w n) {x : Item} (hx : x ∈ w) : ∃ i, i < s.len ∧ (s.at i : Int) = x.1 ∧ s.key (s.at i) = x.2 := by
  have h1 := refKey_mem h.nod x hx
  have h2 := (h.rng x hx).1
  have e : ((x.1.toNat : Nat) : Int) = x.1 := by omega
  rw [← e, ← h.K] at h1
  obtain ⟨i, k1, k2, k3⟩ := h.hp.K_some h1
  exact ⟨i, k1, by rw [k2]; exact e, by rw [k2]; exact k3⟩

theorem Rel.min {s : HS} {b : Item} {w : List Item} {n : Nat} (h : Rel s (b :: w) n) : 0 < s.len ∧ (s.at 0 : Int) = (refMin b w).1 := by
  have h0 : 0 < s.len := by rw [h.len]; simp
  refine ⟨h0, ?_⟩
  have hk : ∀ x ∈ b :: w, 0 < x.2.2 := fun x hx => (h.rng x hx).2.2.2.2
  obtain ⟨i, i1, i2, i3⟩ := h.at_mem (refMin_mem w b)
  have k1 := Ord.min h.hp.toHV h.ord i i1
  have k2 := refMin_le b hk _ (h.mem_at h0)
  rw [ahead_lt, HS.lt, i3, i2] at k1
  rw [lt3_false] at k1 k2
  simp only at k1 k2
  have e := k1.2 (by omega)
  have e2 := k2.2 (by omega)
  omega

theorem Rel.put {s t : HS} {w : List Item} {n a : Nat} {k : Int × Int} (h : Rel s w n) (ha : a < n) (hk : KOK k) (hA : After s t) (hl : t.len = if (s.K a).isSome then s.len else s.len + 1) (hr : t.row.length ≤ 1024) (hK : ∀ b, t.K b = if b = a then some k else s.K b) : Rel t (refPut w ((a : Int), k)) n := by
  refine ⟨hA.hp, hA.ord, hA.pl.trans h.N, fun b => ?_, ?_, refPut_nodup h.nod _, fun x hx => ?_, hr, hA.gn.trans h.gn⟩
  · rw [hK, refKey_put, h.K]
    by_cases e : b = a
    · subst e; simp
    · rw [if_neg e, if_neg (fun c => e (by omega))]
  · rw [hl, h.K]
    unfold refPut
    rw [List.length_append, refRem_length _ h.nod, h.len]
    cases e : refKey w (a : Int) with
    | none => simp
    | some k' =>
      have : 0 < w.length := List.length_pos_of_mem (refKey_some e)
      simp
      omega
  · unfold refPut at hx
    rcases List.mem_append.1 hx with hx | hx
    · exact h.rng x (List.mem_filter.1 hx).1
    · simp only [List.mem_singleton] at hx
      subst hx
      exact ⟨by simp, by simpa using ha, hk⟩

theorem Rel.rem {s t : HS} {w : List Item} {n a : Nat} (h : Rel s w n) (hA : After s t) (hs : (s.K a).isSome = true) (hl : t.len = s.len - 1) (hr : t.row.length ≤ 1024) (hK : ∀ b, t.K b = if b = a then none else s.K b) : Rel t (refRem w (a : Int)) n := by
  refine ⟨hA.hp, hA.ord, hA.pl.trans h.N, fun b => ?_, ?_, refRem_nodup h.nod _, fun x hx => h.rng x (List.mem_filter.1 hx).1, hr, hA.gn.trans h.gn⟩
  · rw [hK, refKey_rem, h.K]
    by_cases e : b = a
    · subst e; simp
    · rw [if_neg e, if_neg (fun c => e (by omega))]
  · rw [hl, refRem_length _ h.nod, ← h.K, hs, h.len]; rfl

theorem Rel.has {s : HS} {w : List Item} {n : Nat} (h : Rel s w n) (id : Int) : hasN s.place id = (refKey w id).isSome := by
  cases e : (refKey w id).isSome with
  | true =>
    obtain ⟨k, hk⟩ := Option.isSome_iff_exists.1 e
    have h1 := h.rng _ (refKey_some hk)
    refine hasN_iff.2 ⟨id.toNat, by have := h1.1; simp only at this; omega, ?_⟩
    rw [h.K, show ((id.toNat : Nat) : Int) = id by have := h1.1; simp only at this; omega]
    exact e
  | false =>
    cases e2 : hasN s.place id with
    | false => rfl
    | true =>
      obtain ⟨a, rfl, h2⟩ := hasN_iff.1 e2
      rw [h.K, e] at h2
      cases h2

/-- Both tell the same key. -/
theorem Rel.key {s : HS} {w : List Item} {n : Nat} (h : Rel s w n) (id : Int) : V.tup (if hasN s.place id then [.c (.int .u64 (s.keys[id.toNat]?.getD (0, 0)).1), .c (.int .u64 (s.keys[id.toNat]?.getD (0, 0)).2), .c (.bool true)] else [.c (.int .u64 0), .c (.int .u64 0), .c (.bool false)]) = keyV (refKey w id) := by
  rw [h.has]
  cases e : refKey w id with
  | none => rfl
  | some k =>
    have h1 := h.rng _ (refKey_some e)
    have e2 : s.K id.toNat = some k := by
      rw [h.K, show ((id.toNat : Nat) : Int) = id by have := h1.1; simp only at this; omega]; exact e
    obtain ⟨i, _, _, h3⟩ := h.hp.K_some e2
    simp only [Option.isSome_some, if_true, keyV]
    unfold HS.key at h3
    rw [h3]

theorem refRem_none {w : List Item} (hn : (w.map (·.1)).Nodup) {id : Int} (h : refKey w id = none) : refRem w id = w := by
  unfold refRem
  rw [List.filter_eq_self]
  intro x hx
  simp only [decide_eq_true_eq]
  intro e
  have := refKey_mem hn x hx
  rw [e, h] at this
  cases this

end Go.Proofs.Ytopcnhojkfeafaa.Am.Hp
