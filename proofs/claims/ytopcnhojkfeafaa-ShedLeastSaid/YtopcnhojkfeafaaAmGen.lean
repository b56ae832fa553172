/- AM: rows of cells that stay: general rules. -/
import Derived.Test.YtopcnhojkfeafaaAmWm
set_option linter.unusedSimpArgs false
set_option linter.unusedVariables false
namespace Go.Proofs.Ytopcnhojkfeafaa.Am.Gen

theorem mapM_still : ∀ {xs : List (List C)} (f : C → Option C), (∀ c, still c = true → f c = some c) → (∀ cs ∈ xs, cs.all still = true) → xs.mapM (fun (cs : List C) => cs.mapM f) = some xs
  | [], _, _, _ => rfl
  | cs :: xs, f, hf, h => by
    rw [List.mapM_cons, still_mapM f hf cs (h cs List.mem_cons_self), mapM_still f hf (fun cs hc => h cs (List.mem_cons_of_mem _ hc))]; rfl

theorem frz_own {M : Mem} {n g k len : Nat} {xs : List (List C)} (h : M[n]? = some (some (.row k g xs))) (hl : len ≤ xs.length) (hs : ∀ cs ∈ xs, cs.all still = true) (d : Nat) : frz true (fun _ => true) M (d + 1 + 1) (.own n g k 0 len) = some (.imm true k (xs.take len)) := by
  have e : rowAt M n = some (k, g, xs) := by rw [rowAt_eq, h]; rfl
  unfold frz
  simp only [e, if_true, and_self, Nat.zero_add, hl, List.drop_zero]
  rw [mapM_still _ (fun c hc => frz_still _ M d c hc) (fun cs hc => hs cs (List.mem_of_mem_take hc))]
  rfl

theorem keepM_spec (E N : Mem) : ∀ (E0 N0 R : Mem), R.length = E0.length → E0.length ≤ N0.length → (∀ i, i < E0.length → (E0[i]? = some none ∧ R[i]? = some none) ∨ ∃ B B1 B2, E0[i]? = some (some B) ∧ N0[i]? = some (some B1) ∧ keepB E N B1 = some B2 ∧ R[i]? = some (some B2)) → keepM E N E0 N0 = some R
  | [], N0, R, h1, h2, h => by
    have : R = [] := List.eq_nil_of_length_eq_zero h1
    subst this
    cases N0 <;> rfl
  | e :: E0, [], R, h1, h2, h => by simp at h2
  | e :: E0, b :: N0, [], h1, h2, h => by simp at h1
  | e :: E0, b :: N0, r :: R, h1, h2, h => by
    have ih := keepM_spec E N E0 N0 R (by simpa using h1) (by simpa using h2) (fun i hi => by simpa using h (i + 1) (by simpa using hi))
    rcases h 0 (by simp) with ⟨k1, k2⟩ | ⟨B, B1, B2, k1, k2, k3, k4⟩
    · simp only [List.getElem?_cons_zero, Option.some.injEq] at k1 k2
      subst k1; subst k2
      simp only [keepM, ih, Option.map_some]
    · simp only [List.getElem?_cons_zero, Option.some.injEq] at k1 k2 k4
      subst k1; subst k2; subst k4
      simp only [keepM, k3, ih]

theorem keepB_still (E N : Mem) (k g : Nat) (xs : List (List C)) (h : ∀ cs ∈ xs, cs.all still = true) : keepB E N (.row k g xs) = some (.row k g xs) := by
  show (xs.mapM fun (cs : List C) => cs.mapM (keepC E N)).map (fun xs => Blk.row k g xs) = _
  rw [mapM_still (keepC E N) (fun c hc => keepC_still E N c hc) h]; rfl

theorem keepV_flat (E N : Mem) (v : V) (h : (match v with | .c c => flat c | .agg cs => cs.all flat | _ => false) = true) : keepV E N v = some v := by
  have fs : ∀ c, flat c = true → keepC E N c = some c := fun c hc => by cases c <;> simp_all [flat, keepC]
  cases v with
  | c c => simp only at h; simp [keepV, mapV, fs c h]
  | agg cs =>
    simp only at h
    simp only [keepV, mapV]
    rw [flat_mapM (keepC E N) fs cs h]; rfl
  | _ => simp at h

theorem keepR_flat (E N : Mem) (r : V) (h : flatV r = true) : keepR E N r = some r := by
  cases r with
  | c c => exact keepV_flat E N (.c c) h
  | agg cs => exact keepV_flat E N (.agg cs) h
  | tup vs =>
    simp only [flatV] at h
    simp only [keepR]
    have : vs.mapM (keepV E N) = some vs := by
      induction vs with
      | nil => rfl
      | cons v vs ih =>
        simp only [List.all_cons, Bool.and_eq_true] at h
        rw [List.mapM_cons, keepV_flat E N v h.1, ih h.2]; rfl
    rw [this]; rfl
  | _ => simp [flatV] at h

theorem was_some {E : Mem} {n : Nat} {B : Blk} (h : E[n]? = some (some B)) : was E n = true := by
  unfold was
  rw [List.getD_eq_getElem?_getD, h]; rfl

theorem frz_flat (t : Bool) (ok : Nat → Bool) (M : Mem) (d : Nat) (c : C) (h : flat c = true) : frz t ok M (d + 1) c = some c := by cases c <;> simp_all [flat, frz]

theorem mapM_flat : ∀ {xs : List (List C)} (f : C → Option C), (∀ c, flat c = true → f c = some c) → (∀ cs ∈ xs, cs.all flat = true) → xs.mapM (fun (cs : List C) => cs.mapM f) = some xs
  | [], _, _, _ => rfl
  | cs :: xs, f, hf, h => by
    rw [List.mapM_cons, flat_mapM f hf cs (h cs List.mem_cons_self), mapM_flat f hf (fun cs hc => h cs (List.mem_cons_of_mem _ hc))]; rfl

theorem expC_own {M : Mem} {l : List Nat} {n g k len : Nat} {xs : List (List C)} (h : M[n]? = some (some (.row k g xs))) (hl : len ≤ xs.length) (hf : ∀ cs ∈ xs, cs.all flat = true) : expC M l (.own n g k 0 len) = some (.fresh k (xs.take len)) := by
  have e : rowAt M n = some (k, g, xs) := by rw [rowAt_eq, h]; rfl
  simp only [expC, e]
  rw [if_pos ⟨trivial, trivial, by omega⟩, List.drop_zero]
  rw [mapM_flat (frz false (fun n => !l.contains n) M depth) (fun c hc => frz_flat _ _ M 5 c hc) (fun cs hc => hf cs (List.mem_of_mem_take hc))]
  rfl

theorem lendV_own {M : Mem} {n g k len : Nat} {xs : List (List C)} (h : M[n]? = some (some (.row k g xs))) (hl : len = xs.length) (hs : ∀ cs ∈ xs, cs.all still = true) : lendV M (.c (.own n g k 0 len)) = some (.c (.imm true k xs)) := by
  subst hl
  have := frz_own h (Nat.le_refl _) hs 4
  rw [List.take_length] at this
  show (frz true (fun _ => true) M (4 + 1 + 1) (.own n g k 0 xs.length)).map V.c = _
  rw [this]; rfl

theorem mapM_map_still {E M : Mem} : ∀ {es : List (Int × V)}, (∀ e ∈ es, keepV E M e.2 = some e.2) → ((ents es).mapM fun (e : C × V) => match keepC E M e.1, keepV E M e.2 with
    | some k, some v => some (k, v)
    | _, _ => Option.none) = some (ents es)
  | [], _ => rfl
  | e :: es, h => by
    have ih := mapM_map_still (es := es) (fun x hx => h x (List.mem_cons_of_mem _ hx))
    simp only [ents, List.map_cons] at ih ⊢
    rw [List.mapM_cons, ih]
    simp [keepC, h e List.mem_cons_self]

theorem keepB_map (E M : Mem) (g : Nat) (es : List (Int × V)) (h : ∀ e ∈ es, keepV E M e.2 = some e.2) : keepB E M (.map g (ents es)) = some (.map g (ents es)) :=
  congrArg (Option.map fun es => Blk.map g es) (mapM_map_still h)

end Go.Proofs.Ytopcnhojkfeafaa.Am.Gen
