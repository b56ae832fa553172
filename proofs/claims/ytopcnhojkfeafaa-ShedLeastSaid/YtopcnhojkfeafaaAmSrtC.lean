/- AM: the sort's answer is Go's. -/
import Derived.Test.YtopcnhojkfeafaaAmSrtB
set_option linter.unusedSimpArgs false
set_option linter.unusedVariables false
namespace Go.Proofs.Ytopcnhojkfeafaa.Am
open Go.Shelf Go.RowKit Go.Lib Go.Sort

section
variable {w : World} {Γ : Env} {M : Mem}

theorem enc_get (x : Int × Int) (j : Nat) (hj : j < 2) : R w Γ ((encP x).getD j .undef) ((encW x)[j]!) := by
  have : j = 0 ∨ j = 1 := by omega
  rcases this with rfl | rfl
  · exact .im (.int _ _ _)
  · exact .im (.int _ _ _)

theorem at2_map (d : List (Int × Int)) (i j : Nat) (hi : i < d.length) : at2 (d.map encP) i j = (encP d[i]).getD j .undef := by
  simp [at2, List.getD_eq_getElem?_getD, hi]

theorem int_inv {k : IntKind} {n : Int} {v : Value} (h : R w Γ (.int k n) v) : v = .int k n := by
  cases h with
  | im h => cases h; rfl

theorem at2_inv {d : List (Int × Int)} {i j : Nat} {v : Value} (hi : i < d.length) (hj : j < 2) (h : R w Γ (at2 (d.map encP) i j) v) : v = (encW d[i])[j]! := by
  rw [at2_map d i j hi] at h
  have : j = 0 ∨ j = 1 := by omega
  rcases this with rfl | rfl <;> exact int_inv h

theorem sort_holds {arr : Array Value} {E : TypeId} {b o : Nat} {d : List (Int × Int)} (hh : w.heap[b]? = some (.cells arr E (0, 0))) (h8 : ∀ i j, i < (d.map encP).length → j < 2 → ∃ v, arr[o + (i * 2 + j)]? = some v ∧ R w Γ (at2 (d.map encP) i j) v) : HoldsK encW 2 w b o d.toArray := by
  intro t ht
  rw [size_flatK] at ht
  have ht' : t < d.length * 2 := by simpa using ht
  have hi : t / 2 < d.length := by omega
  have hj : t % 2 < 2 := by omega
  obtain ⟨v, hv, hR⟩ := h8 (t / 2) (t % 2) (by simpa using hi) hj
  have e := at2_inv hi hj hR
  rw [get_flatK _ _ _ _ ht]
  have e2 : t / 2 * 2 + t % 2 = t := by omega
  rw [e2] at hv
  refine ⟨?_, ?_⟩
  · rw [cell_eq hh, hv, e]
    congr 2
    rw [getElem!_pos d.toArray (t / 2) (by simpa using hi)]
    simp
  · simp only [World.frozen?, hh]
    simp

theorem func_inv {f : Nat} {v : Value} (h : R w Γ (.func f) v) : v = .func (.func f) #[] #[] := by
  cases h with
  | im h => cases h; rfl

theorem two_args {v1 v2 : V} {ys : List Value} (h : RAll w Γ [v1, v2] ys) : ∃ y1 y2, ys = [y1, y2] ∧ RVal w Γ v1 y1 ∧ RVal w Γ v2 y2 := by
  match ys, h with
  | [y1, y2], h => exact ⟨y1, y2, rfl, h.1, h.2.1⟩

theorem tup_nil : RVal w Γ (.tup []) (.tuple #[]) := ⟨[], rfl, trivial⟩

theorem sort_empty (hS : Sim w Γ M) (p : Option Addr) (cap : Nat) : Calls Try.prog 131 #[.slice p 0 cap, .func (.func 132) #[] #[]] w fun e w' => ∃ x Γ', e = .returned x ∧ Sim w' Γ' M ∧ Ext All w Γ M w' Γ' M ∧ RVal w' Γ' (.tup []) x :=
  (sort_none p cap w).mono fun e w' ⟨he, hw⟩ => ⟨.tuple #[], Γ, he, by rw [hw]; exact hS, by rw [hw]; exact Ext.refl _ _ _ _, tup_nil⟩

theorem set_same {n : Nat} {x : Option Blk} (h : M[n]? = some x) : M.set n x = M := by
  apply List.ext_getElem?
  intro i
  rw [List.getElem?_set]
  split
  · rename_i e
    subst e
    rw [if_pos (List.getElem?_eq_some_iff.1 h).1, h]
  · rfl

theorem flatMap_get : ∀ (l : List (Int × Int)) (m : Nat) (h : m / 2 < l.length), (l.flatMap encW)[m]? = some ((encW l[m / 2])[m % 2]!)
  | [], m, h => by simp at h
  | x :: l, 0, h => rfl
  | x :: l, 1, h => rfl
  | x :: l, m + 2, h => by
    have h' : m / 2 < l.length := by simp only [List.length_cons] at h; omega
    have ih := flatMap_get l m h'
    have e1 : (x :: l).flatMap encW = encW x ++ l.flatMap encW := rfl
    rw [e1, List.getElem?_append_right (by simp [encW])]
    have e2 : m + 2 - (encW x).length = m := by simp [encW]
    rw [e2, ih]
    have e3 : (m + 2) / 2 = m / 2 + 1 := by omega
    have e4 : (m + 2) % 2 = m % 2 := by omega
    simp only [e3, e4, List.getElem_cons_succ]

theorem flat_enc (d : List (Int × Int)) : Flat w Γ 2 (d.map encP) (d.flatMap encW) := by
  induction d with
  | nil => exact Flat.nil 2
  | cons x d ih =>
    have h1 : Flat w Γ 2 [encP x] (encW x) := by
      refine ⟨rfl, fun i hi => ?_, fun i j hi hj => ?_, fun v hv => ?_⟩
      · simp at hi; subst hi; rfl
      · simp at hi; subst hi
        have : j = 0 ∨ j = 1 := by omega
        rcases this with rfl | rfl
        · exact .im (.int _ _ _)
        · exact .im (.int _ _ _)
      · simp [encW] at hv
        rcases hv with rfl | rfl <;> rfl
    exact h1.append ih

theorem sort_state_own {n g len : Nat} {d : List (Int × Int)} (hM : rowAt M n = some (2, g, d.map encP)) (hl : len = d.length) (hm : d.length ≤ limit) (hd : (d.map (·.1)).Nodup) :
    StateOK Try.prog 131 [.c (.own n g 2 0 len), .c (.func 132)] M (.tup []) (M.set n (some (.row 2 g ((isort d).map encP)))) := by
  intro w Γ ys hS hA
  obtain ⟨y1, y2, rfl, h1, h2⟩ := two_args hA
  rw [func_inv h2]
  have hg := rowAt_get hM
  by_cases h0 : d = []
  · subst h0
    simp only [List.length_nil] at hl
    subst hl
    have es : M.set n (some (.row 2 g ((isort []).map encP))) = M := set_same (by rw [hg]; rfl)
    rw [es]
    have : ∃ p cap, y1 = .slice p 0 cap := by
      cases h1 with
      | im h => cases h
      | ownN _ _ _ h => exact ⟨_, _, rfl⟩
      | own _ _ _ _ b o k tc A cap h hc hl hA => exact ⟨_, _, rfl⟩
    obtain ⟨p, cap, rfl⟩ := this
    exact sort_empty hS p cap
  have hpos : 0 < d.length := List.length_pos_iff.2 h0
  have hblk := hS.blk n _ (rowAt_some hM)
  have : ∃ b o tc cap, y1 = .slice (some ⟨b, o, none⟩) len cap ∧ Γ.be n g = .at b o 2 tc := by
    cases h1 with
    | im h => cases h
    | ownN _ _ _ h => omega
    | own _ _ _ _ b o k tc A cap h hc hl2 hAA =>
      refine ⟨b, o, tc, cap, ?_, h⟩
      rw [hAA (by omega)]
      simp
  obtain ⟨b, o, tc, cap, rfl, hbe⟩ := this
  rcases hblk with ⟨hq, _⟩ | ⟨b', o', tc', arr, E, k1, k2, k3, k4, k5, k6, k7, k8⟩
  · rw [hbe] at hq; cases hq
  rw [hbe] at k1
  injection k1 with e1 e2 e3 e4
  subst e1; subst e2; subst e4
  have hH := sort_holds k5 k8
  have hlt : b < w.heap.size := (Array.getElem?_eq_some_iff.1 k5).1
  have hcon := sort_calls b o cap d.toArray w hH hlt (by unfold limit at hm; simp; omega)
  subst hl
  simp only [List.size_toArray] at hcon
  refine hcon.mono ?_
  rintro e w' ⟨rfl, d', q, os, hp, hso, rfl⟩
  have hd' : d'.toList = isort d := sorted_is hd (by simpa using hp) (by simpa using hso)
  have hsz' : d'.size = d.length := by
    have := congrArg List.length hd'
    rw [isort_length] at this; simpa using this
  obtain ⟨arr', harr'⟩ : ∃ a, a = putCells id o (flatK encW 2 d') arr := ⟨_, rfl⟩
  have hF : Flat w Γ 2 ((isort d).map encP) ((isort d).flatMap encW) := flat_enc _
  have hflen : ((isort d).flatMap encW).length = (isort d).length * 2 := by rw [hF.1]; simp
  have hput := setRow_put (arr' := arr') hS (rowAt_some hM) hbe k5 (.inl rfl) (by rw [harr']; simp [putCells, k6]) hF (by simp [isort_length]; simpa using k4) (fun m hm' => by
    rw [hflen, isort_length] at hm'
    rw [harr']
    have hle : d.length * 2 ≤ tc * 2 := Nat.mul_le_mul_right _ (by simpa using k4)
    have hin : o + m < arr.size := by rw [k6]; omega
    have hfk : (flatK encW 2 d').size = d.length * 2 := by rw [size_flatK, hsz']
    simp only [putCells, Array.getElem?_mapIdx, Array.getElem?_eq_getElem hin, Option.map_some, hfk]
    rw [if_pos ⟨by omega, by omega⟩, show o + m - o = m by omega, get_flatK _ _ _ _ (by rw [hsz']; exact hm')]
    have hi2 : m / 2 < (isort d).length := by rw [isort_length]; omega
    have hg2 : d'[m / 2]! = (isort d)[m / 2] := by
      rw [getElem!_pos d' (m / 2) (by rw [hsz']; omega)]
      have : d'.toList[m / 2]'(by simp [hsz']; omega) = (isort d)[m / 2] := by simp only [hd']
      simpa using this
    rw [hg2, flatMap_get _ _ hi2]
    rfl)
  obtain ⟨p1, p2⟩ := hput
  have hg1 := grown_sim p1 (w' := sortWorldK encW 2 w b o q d' os) rfl rfl rfl (by simp [sortWorldK, grow, putRowK, putRow, mapBlock, World.setRow, Sort.ahead]) (fun b2 hb2 => by
    have hb2' : b2 < w.heap.size := by simpa [World.setRow] using hb2
    unfold sortWorldK
    rw [heap_grow_old _ _ (by simpa [putRowK, putRow, mapBlock, Sort.ahead] using hb2')]
    unfold putRowK putRow mapBlock World.setRow
    simp only [Array.getElem?_modify]
    by_cases hbb : b = b2
    · subst hbb
      simp only [if_true]
      have : (Sort.ahead w q).heap[b]? = w.heap[b]? := rfl
      rw [this, k5]
      simp only [Option.map_some, onCells, harr']
    · rw [if_neg hbb, if_neg hbb]; rfl)
  refine ⟨.tuple #[], _, rfl, hg1.1, p2.trans hg1.2, tup_nil⟩

theorem sort_prim {A : Pg} (hm : A.md 131 = .state) : PrimOK Try.prog A 131 (primSort 132) := by
  refine ⟨⟨_, _, Try.func131, by kernel_rfl, rfl⟩, fun _ vs M r M' h => primSort_hold h, fun _ vs M r M' h => ?_, fun h => absurd hm h⟩
  unfold primSort at h
  split at h
  · split at h
    · rename_i f hf
      subst hf
      simp only [Option.some.injEq, Prod.mk.injEq] at h
      obtain ⟨rfl, rfl⟩ := h
      intro w Γ ys hS hA
      obtain ⟨y1, y2, rfl, h1, h2⟩ := two_args hA
      rw [func_inv h2]
      have : y1 = .slice none 0 0 := by
        cases h1 with
        | im h => cases h; rfl
      subst this
      exact sort_empty hS none 0
    · simp at h
  · split at h
    · rename_i f hf
      subst hf
      simp only [Option.some.injEq, Prod.mk.injEq] at h
      obtain ⟨rfl, rfl⟩ := h
      intro w Γ ys hS hA
      obtain ⟨y1, y2, rfl, h1, h2⟩ := two_args hA
      rw [func_inv h2]
      have : ∃ p cap, y1 = .slice p 0 cap := by
        cases h1 with
        | im h =>
          cases h with
          | immN _ _ _ A cap => exact ⟨A, cap, rfl⟩
          | imm _ _ _ _ _ _ _ _ hl hb h0 => simp at h0
      obtain ⟨p, cap, rfl⟩ := this
      exact sort_empty hS p cap
    · simp at h
  · split at h
    · rename_i n gn k off len f hc
      obtain ⟨rfl, rfl, rfl⟩ := hc
      split at h
      · rename_i k' g' xs hM
        split at h
        · rename_i hq
          obtain ⟨rfl, rfl, rfl, hlim⟩ := hq
          split at h
          · rename_i d hd
            split at h
            · rename_i hnd
              simp only [Option.some.injEq, Prod.mk.injEq] at h
              obtain ⟨rfl, rfl⟩ := h
              have hx := ofRows_some hd
              subst hx
              exact sort_state_own hM (by simp) (by simpa using hlim) hnd
            · simp at h
          · simp at h
        · simp at h
      · simp at h
    · simp at h
  · simp at h

end
end Go.Proofs.Ytopcnhojkfeafaa.Am
