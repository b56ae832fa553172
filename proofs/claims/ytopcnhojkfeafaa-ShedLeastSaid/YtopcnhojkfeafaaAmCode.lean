/- AM: what is let go behind a round; nil slices thawed; code. -/
import Derived.Test.YtopcnhojkfeafaaAmDraw
import Derived.LoopN
set_option linter.unusedSimpArgs false
set_option linter.unusedVariables false
namespace Go.Proofs.Ytopcnhojkfeafaa.Am
open Go.RowKit

section
variable {P : Program} {w : World} {Γ : Env} {M : Mem} {tm : List V} {bs : Nat} {A : Pg} {cl : Cl}

theorem killL_get (live : List Nat) : ∀ (tm : List V) (i t : Nat), (killL live i tm).getD t .none = if live.contains (i + t) then tm.getD t .none else if t < tm.length then .any else .none
  | [], i, t => by simp [killL]
  | v :: tm, i, t => by
    cases t with
    | zero => simp [killL]
    | succ t =>
      simp only [killL, List.getD_cons_succ]
      rw [killL_get live tm (i + 1) t]
      rw [show i + 1 + t = i + (t + 1) by omega]
      simp

theorem killL_len (live : List Nat) : ∀ (tm : List V) (i : Nat), (killL live i tm).length = tm.length
  | [], i => rfl
  | v :: tm, i => by simp [killL, killL_len live tm (i + 1)]

theorem Tm.kill {a : Act} (hT : Tm w Γ tm a) (live : List Nat) : Tm w Γ (killL live 0 tm) a := by
  refine ⟨by rw [killL_len]; exact hT.1, fun t ht => ?_⟩
  rw [killL_len] at ht
  rw [killL_get, if_pos ht]
  split
  · exact hT.2 t ht
  · trivial

theorem norm_sound {live : List Nat} {trunc : Bool} {E : Mem} {s s1 : St} {a : Act} {D : Nat → Prop} {w0 : World} {Γ0 : Env} {M0 : Mem} (h : norm live trunc E s = some s1) (hS : Sim w Γ s.2) (he : Ext D w0 Γ0 M0 w Γ s.2) (hT : Tm w Γ s.1 a)
    (hD : ∀ n, D n → ∀ B, M0.getD n none = some B → was E n = true) : ∃ Γ', Sim w Γ' s1.2 ∧ Ext D w0 Γ0 M0 w Γ' s1.2 ∧ Tm w Γ' s1.1 a := by
  unfold norm at h
  split at h
  · split at h
    · rename_i tm1 M1 h1 h2
      simp only [Option.some.injEq] at h
      subst h
      obtain ⟨k1, k2⟩ := keep_sim hS h2 he hD
      refine ⟨_, k1, k2, ?_⟩
      have hK := hT.kill live
      obtain ⟨g1, g2⟩ := mapM_get .none .none h1
      refine ⟨by rw [g1]; exact hK.1, fun t ht => ?_⟩
      rw [g1] at ht
      exact RVal.of_RV1 (keepV_sound hS (g2 t ht) (hK.2 t ht))
    · simp at h
  · simp only [Option.some.injEq] at h
    subst h
    exact ⟨Γ, hS, he, hT.kill live⟩

/-! ### Thawing -/

theorem nilsl_shape {x : Value} (h : R w Γ .nilsl x) : x = .slice none 0 0 := by
  cases h with
  | im h => cases h; rfl

theorem thaw1_sound {s : St} {p : Nat × Option Nat × Nat × Nat} {a : Act} (hS : Sim w Γ s.2) (hT : Tm w Γ s.1 a) : ∃ Γ', Sim w Γ' (thaw1 bs s p).2 ∧ Ext All w Γ s.2 w Γ' (thaw1 bs s p).2 ∧ Tm w Γ' (thaw1 bs s p).1 a := by
  have same : ∃ Γ', Sim w Γ' s.2 ∧ Ext All w Γ s.2 w Γ' s.2 ∧ Tm w Γ' s.1 a := ⟨Γ, hS, Ext.refl _ _ _ _, hT⟩
  unfold thaw1
  split
  · rename_i t k st
    split
    · rename_i hv
      split
      · rename_i M1 hM
        obtain ⟨hn, rfl⟩ := setB_some hM
        obtain ⟨k1, k2⟩ := newNil_put hS hn k
        refine ⟨_, k1, k2, ?_⟩
        have hT' := hT.mono hS k2 all
        have hvt := hT.get t
        rw [hv] at hvt
        have hx := nilsl_shape (show R w Γ .nilsl _ from hvt)
        refine ⟨by simpa using hT'.1, fun t' ht' => ?_⟩
        simp only [List.length_set] at ht'
        by_cases e : t = t'
        · subst e
          rw [hx]
          have : (s.1.set t (.c (.own (bs + st) (genAt s.2 (bs + st)) k 0 0))).getD t .none = .c (.own (bs + st) (genAt s.2 (bs + st)) k 0 0) := by
            simp [List.getD_eq_getElem?_getD, ht']
          rw [this]
          exact R.ownN _ _ _ (Env.put_same _ _ _ _)
        · have : (s.1.set t (.c (.own (bs + st) (genAt s.2 (bs + st)) k 0 0))).getD t' .none = s.1.getD t' .none := by
            simp [List.getD_eq_getElem?_getD, List.getElem?_set, e]
          rw [this]
          exact hT'.2 t' ht'
      · exact same
    · exact same
  · rename_i t off k st
    split
    · rename_i n g idx o hv
      split
      · rename_i hc
        split
        · rename_i M1 hM
          split
          · rename_i M2 hM2
            obtain ⟨hn, rfl⟩ := setB_some hM
            obtain ⟨k1, k2⟩ := newNil_put hS hn k
            have hT' := hT.mono hS k2 all
            have hvt := hT'.get t
            rw [hv] at hvt
            -- the cell is written anew, Go's staying as it is
            unfold storeAt at hM2
            simp only at hM2
            split at hM2
            · rename_i k0 g' xs hrow
              split at hM2
              · rename_i hg
                subst hg
                split at hM2
                · rename_i cs hcs
                  split at hM2
                  · rename_i hle
                    simp only [Option.some.injEq] at hM2
                    subst hM2
                    obtain ⟨b, o', k1', tc, hbe, hae⟩ := ptr_shape hvt
                    have hM1 := rowAt_some hrow
                    obtain ⟨rfl, htc, arr, E, hheap, hsz, hks, hcont⟩ := RowR.at (k1.blk n _ hM1) hbe
                    have hidx : idx < xs.length := (List.getElem?_eq_some_iff.1 hcs).1
                    have hcl : cs.length = k1' := by rw [← getD_getElem hcs]; exact hks idx hidx
                    have hnl : n < (s.2.set (bs + st) (some (.row k (genAt s.2 (bs + st)) []))).length := (List.getElem?_eq_some_iff.1 (rowAt_get hrow)).1
                    simp only [List.length_cons, List.length_nil] at hle
                    have hbn : cs.getD (o + off) .undef = .nilsl := by
                      -- what is read there is nil
                      have hne : n ≠ bs + st ∨ n = bs + st := by omega
                      rcases hne with hne | hne
                      · have hr0 : rowAt s.2 n = rowAt (s.2.set (bs + st) (some (.row k (genAt s.2 (bs + st)) []))) n := by
                          unfold rowAt; rw [getD_set_other (fun e => hne e.symm)]
                        unfold cellsAt at hc
                        simp only [hr0, hrow, if_true, hcs] at hc
                        rw [if_pos hle] at hc
                        simp only [Option.some.injEq] at hc
                        have : cs.getD (o + off) .undef = ((cs.drop (o + off)).take 1).getD 0 .undef := by
                          simp [List.getD_eq_getElem?_getD]
                        rw [this, hc]; rfl
                      · subst hne
                        have h1 := getD_set_same hn.1 (some (.row k (genAt s.2 (bs + st)) []))
                        rw [h1] at hM1
                        injection hM1 with hM1
                        injection hM1 with _ _ hx
                        subst hx
                        simp at hidx
                    have hown : OwnedBy (Γ.put (bs + st) (genAt s.2 (bs + st)) .nil) (s.2.set (bs + st) (some (.row k (genAt s.2 (bs + st)) []))) n b := ⟨_, _, _, _, hM1, rfl, hbe⟩
                    have hput : Put w (Γ.put (bs + st) (genAt s.2 (bs + st)) .nil) (s.2.set (bs + st) (some (.row k (genAt s.2 (bs + st)) []))) w n g (.at b o' k1' tc) :=
                      ⟨hnl, by rw [hM1]; simp, .inr ⟨_, hM1, rfl, hbe⟩, fun g2 hg2 => k1.gens n _ hM1 g2 (fun hu => by have : g2 ≤ g := hu; omega), rfl, rfl, rfl, Nat.le_refl _, fun _ _ _ => rfl, fun b2 _ _ _ e => by injection e with e; subst e; exact .inr hown⟩
                    have hx := hput.ext (B := .row k1' g (xs.set idx (splice cs (o + off) [.own (bs + st) (genAt s.2 (bs + st)) k 0 0]))) rfl
                    have hl := hown.lt k1
                    have hs := hput.sim (B := .row k1' g (xs.set idx (splice cs (o + off) [.own (bs + st) (genAt s.2 (bs + st)) k 0 0]))) k1 rfl (by
                      rw [put_id hbe]
                      refine .inr ⟨b, o', tc, arr, E, hbe, hl.2.1, hl.2.2, by simpa using htc, hheap, hsz, fun i hi => ?_, fun i j hi hj => ?_⟩
                      · simp only [List.length_set] at hi
                        by_cases e : i = idx
                        · subst e
                          simp [List.getD_eq_getElem?_getD, hi, splice_length (show o + off + [C.own (bs + st) (genAt s.2 (bs + st)) k 0 0].length ≤ cs.length from hle), hcl]
                        · have := hks i hi
                          simpa [List.getD_eq_getElem?_getD, List.getElem?_set, Ne.symm e] using this
                      · simp only [List.length_set] at hi
                        obtain ⟨v, hvv, hr⟩ := hcont i j hi hj
                        refine ⟨v, hvv, ?_⟩
                        by_cases e : i = idx
                        · subst e
                          have e1 : at2 (xs.set i (splice cs (o + off) [.own (bs + st) (genAt s.2 (bs + st)) k 0 0])) i j = (splice cs (o + off) [.own (bs + st) (genAt s.2 (bs + st)) k 0 0]).getD j .undef := by
                            simp [at2, List.getD_eq_getElem?_getD, hi]
                          have e2 : at2 xs i j = cs.getD j .undef := by simp only [at2, getD_getElem hcs]
                          rw [e1, List.getD_eq_getElem?_getD, splice_get (show o + off + [C.own (bs + st) (genAt s.2 (bs + st)) k 0 0].length ≤ cs.length from hle)]
                          by_cases ej : j = o + off
                          · subst ej
                            rw [e2, hbn] at hr
                            rw [nilsl_shape hr]
                            simp only [List.length_cons, List.length_nil, Nat.le_refl, true_and, Nat.sub_self]
                            rw [if_pos (by omega)]
                            exact R.ownN _ _ _ (Env.put_same _ _ _ _)
                          · rw [if_neg (by simp; omega), ← List.getD_eq_getElem?_getD, ← e2]
                            exact hr
                        · have e1 : at2 (xs.set idx (splice cs (o + off) [.own (bs + st) (genAt s.2 (bs + st)) k 0 0])) i j = at2 xs i j := by
                            simp [at2, List.getD_eq_getElem?_getD, List.getElem?_set, Ne.symm e]
                          rw [e1]; exact hr)
                    exact ⟨_, hs, k2.trans hx, hT'.mono k1 hx all⟩
                  · simp at hM2
                · simp at hM2
              · simp at hM2
            · simp at hM2
          · exact same
        · exact same
      · exact same
    · exact same

theorem thawAll_sound : ∀ (l : List (Nat × Option Nat × Nat × Nat)) {s : St} {Γ : Env} {a : Act}, Sim w Γ s.2 → Tm w Γ s.1 a → ∃ Γ', Sim w Γ' (thawAll bs s l).2 ∧ Ext All w Γ s.2 w Γ' (thawAll bs s l).2 ∧ Tm w Γ' (thawAll bs s l).1 a
  | [], s, Γ, a, hS, hT => ⟨Γ, hS, Ext.refl _ _ _ _, hT⟩
  | p :: l, s, Γ, a, hS, hT => by
    obtain ⟨Γ1, s1, e1, t1⟩ := thaw1_sound (bs := bs) (p := p) hS hT
    obtain ⟨Γ2, s2, e2, t2⟩ := thawAll_sound l s1 t1
    exact ⟨Γ2, s2, e1.trans e2, t2⟩

end
end Go.Proofs.Ytopcnhojkfeafaa.Am
