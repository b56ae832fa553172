/- AM: what is let go. -/
import Derived.Test.YtopcnhojkfeafaaAmCall2
set_option linter.unusedSimpArgs false
set_option linter.unusedVariables false
namespace Go.Proofs.Ytopcnhojkfeafaa.Am
open Go.RowKit

section
variable {P : Program} {w : World} {Γ : Env} {M : Mem} {tm : List V} {bs : Nat} {A : Pg} {cl : Cl}

/-- Where all lies once what was not there before is let go. -/
def Env.norm (Γ : Env) (E M : Mem) : Env := ⟨fun n g => if was E n then Γ.be n g else .unset, fun b => Γ.F b ∨ ∃ n, was E n = false ∧ OwnedBy Γ M n b, Γ.base⟩

theorem keepC_sound (hS : Sim w Γ M) {E : Mem} {c c' : C} {x : Value} (h : keepC E M c = some c') (hx : R w Γ c x) : R w (Γ.norm E M) c' x := by
  have hn : ∀ {n g X}, was E n = true → Γ.be n g = X → (Γ.norm E M).be n g = X := fun hw hX => by simp only [Env.norm, hw, if_true]; exact hX
  unfold keepC at h
  split at h
  · rename_i n g k off len
    split at h
    · rename_i hw
      simp only [Option.some.injEq] at h
      subst h
      cases hx with
      | im h => cases h
      | ownN n g k hbe => exact .ownN _ _ _ (hn hw hbe)
      | own n g off len b o k tc A cap hbe hc hl hA => exact .own _ _ _ _ b o k tc A cap (hn hw hbe) hc hl hA
    · refine .im (RI.up (l := false) ?_)
      refine frz_sound hS (F' := (Γ.norm E M).F) (T' := fun b => b < (Γ.norm E M).base) (fun b hb => .inl hb) (fun e => by cases e) (fun m b hm ho => .inl (.inr ⟨m, by simpa using hm, ho⟩)) _ h hx
  · rename_i n g idx off
    split at h
    · rename_i hw
      simp only [Option.some.injEq] at h
      subst h
      cases hx with
      | im h => cases h
      | ptr n g idx off b o k tc hbe => exact .ptr _ _ _ _ b o k tc (hn hw hbe)
    · simp only [Option.some.injEq] at h
      subst h
      exact .im (.undef _ _ hx.one)
  · rename_i n g
    split at h
    · rename_i hw
      simp only [Option.some.injEq] at h
      subst h
      cases hx with
      | im h => cases h
      | mref n g b hbe => exact .mref _ _ b (hn hw hbe)
    · simp only [Option.some.injEq] at h
      subst h
      exact .im (.undef _ _ hx.one)
  · rename_i h1 h2 h3
    simp only [Option.some.injEq] at h
    subst h
    have hm : ∀ {l c x}, RI w Γ.F (fun b => b < Γ.base) l c x → RI w (Γ.norm E M).F (fun b => b < (Γ.norm E M).base) l c x := fun h => h.mono (fun b hb => .inl hb) (fun b hb => .inr hb) (fun _ _ => rfl)
    cases hx with
    | im h => exact .im (hm h)
    | ownN n g k hbe => exact absurd rfl (h1 _ _ _ _ _)
    | own n g off len b o k tc A cap hbe hc hl hA => exact absurd rfl (h1 _ _ _ _ _)
    | ptr n g idx off b o k tc hbe => exact absurd rfl (h2 _ _ _ _)
    | iptr cs off b o f hb hf hr =>
      refine .iptr _ _ b o f ?_ hf (fun j hj => hm (hr j hj))
      rcases hb with h | h
      · exact .inl (.inl h)
      · exact .inr h
    | mref n g b hbe => exact absurd rfl (h3 _ _)

theorem keepV_sound (hS : Sim w Γ M) {E : Mem} {v v' : V} {x : Value} (h : keepV E M v = some v') (hx : RVal w Γ v x) : RV1 w (Γ.norm E M) v' x := by
  unfold keepV at h
  split at h
  · simp only [Option.some.injEq] at h; subst h; trivial
  · rename_i hne
    refine mapV_sound (Γ' := Γ.norm E M) (fun h hx => keepC_sound hS h hx) h ?_
    cases v with
    | tup vs => exact absurd rfl (hne vs)
    | _ => exact hx

theorem keepR_sound (hS : Sim w Γ M) {E : Mem} {v v' : V} {x : Value} (h : keepR E M v = some v') (hx : RVal w Γ v x) : RVal w (Γ.norm E M) v' x := by
  unfold keepR at h
  split at h
  · rename_i vs
    obtain ⟨vs', h1, rfl⟩ := Option.map_eq_some_iff.1 h
    obtain ⟨ys, e, hr⟩ := hx
    refine ⟨ys, e, ?_⟩
    clear e h
    induction vs generalizing vs' ys with
    | nil =>
      rw [mapM_nil_some h1]
      cases ys with
      | nil => trivial
      | cons y ys => exact hr.elim
    | cons v vs ih =>
      obtain ⟨b, bs, k1, k2, rfl⟩ := mapM_cons_some h1
      cases ys with
      | nil => exact hr.elim
      | cons y ys => exact ⟨keepV_sound hS k1 (RVal.of_RV1 hr.1), ih _ k2 ys hr.2⟩
  · exact RVal.of_RV1 (keepV_sound hS h hx)

theorem keepEs_sound (hS : Sim w Γ M) {E : Mem} : ∀ {es es' : List (C × V)} {ms : List MapEntry}, (es.mapM fun (e : C × V) => match keepC E M e.1, keepV E M e.2 with
    | some k, some v => some (k, v)
    | _, _ => none) = some es' → EntR w Γ es ms → EntR w (Γ.norm E M) es' ms
  | [], es', ms, h, hr => by
    rw [mapM_nil_some h]
    cases ms with
    | nil => trivial
    | cons m ms => exact hr.elim
  | (k, v) :: es, es', ms, h, hr => by
    obtain ⟨b, bs, k1, k2, rfl⟩ := mapM_cons_some h
    cases ms with
    | nil => exact hr.elim
    | cons m ms =>
      simp only at k1
      split at k1
      · rename_i k' v' q1 q2
        simp only [Option.some.injEq] at k1
        subst k1
        exact ⟨keepC_sound hS q1 hr.1, keepV_sound hS q2 (RVal.of_RV1 hr.2.1), keepEs_sound hS k2 hr.2.2⟩
      · simp at k1

theorem keepB_gen {E : Mem} {B B' : Blk} (h : keepB E M B = some B') : genB B' = genB B ∧ live B' = live B ∧ (B = .hid ↔ B' = .hid) := by
  cases B with
  | row k g xs => obtain ⟨_, _, rfl⟩ := Option.map_eq_some_iff.1 h; exact ⟨rfl, rfl, by simp⟩
  | map g es => obtain ⟨_, _, rfl⟩ := Option.map_eq_some_iff.1 h; exact ⟨rfl, rfl, by simp⟩
  | dead g => simp only [keepB, Option.some.injEq] at h; subst h; exact ⟨rfl, rfl, by simp⟩
  | hid => simp only [keepB, Option.some.injEq] at h; subst h; exact ⟨rfl, rfl, by simp⟩

theorem keepB_sound (hS : Sim w Γ M) {E : Mem} {n : Nat} {B B' : Blk} (hM : M.getD n none = some B) (hw : was E n = true) (h : keepB E M B = some B') : BlkR w (Γ.norm E M) n B' := by
  have hblk := hS.blk n B hM
  have hn : ∀ {g X}, Γ.be n g = X → (Γ.norm E M).be n g = X := fun hX => by simp only [Env.norm, hw, if_true]; exact hX
  have hF : ∀ b, OwnedBy Γ M n b → ¬ (Γ.norm E M).F b := by
    rintro b ho (h1 | ⟨m, h1, h2⟩)
    · exact (ho.lt hS).2.2 h1
    · have := h2.inj hS ho
      subst this
      rw [hw] at h1; cases h1
  cases B with
  | row k g xs =>
    obtain ⟨ys, hm, rfl⟩ := Option.map_eq_some_iff.1 h
    obtain ⟨hl, hg⟩ := mapM_rows hm
    rcases hblk with ⟨h1, h2⟩ | ⟨b, o, tc, arr, E', h1, h2, h3, h4, h5, h6, h7, h8⟩
    · subst h2
      exact .inl ⟨hn h1, List.eq_nil_of_length_eq_zero (by simpa using hl)⟩
    · refine .inr ⟨b, o, tc, arr, E', hn h1, h2, hF b ⟨_, _, _, _, hM, rfl, h1⟩, by omega, h5, h6, fun i hi => by rw [(hg i (by omega)).1]; exact h7 i (by omega), fun i j hi hj => ?_⟩
      obtain ⟨v, hv, hr⟩ := h8 i j (by omega) hj
      exact ⟨v, hv, keepC_sound hS ((hg i (by omega)).2 j (by rw [h7 i (by omega)]; exact hj)) hr⟩
  | map g es =>
    obtain ⟨es', hm, rfl⟩ := Option.map_eq_some_iff.1 h
    obtain ⟨b, ents, clock, h1, h2, h3, h4, h5⟩ := hblk
    exact ⟨b, ents, clock, hn h1, h2, hF b ⟨_, _, _, _, hM, rfl, h1⟩, h4, keepEs_sound hS hm h5⟩
  | dead g => simp only [keepB, Option.some.injEq] at h; subst h; trivial
  | hid => simp only [keepB, Option.some.injEq] at h; subst h; trivial

theorem was_iff (E : Mem) (n : Nat) : was E n = (E.getD n none).isSome := rfl

/-- What is let go, let go. -/
theorem keep_sim (hS : Sim w Γ M) {E M1 : Mem} (h : keepM E M E M = some M1) {D : Nat → Prop} {w0 : World} {Γ0 : Env} {M0 : Mem} (he : Ext D w0 Γ0 M0 w Γ M) (hD : ∀ n, D n → ∀ B, M0.getD n none = some B → was E n = true) :
    Sim w (Γ.norm E M) M1 ∧ Ext D w0 Γ0 M0 w (Γ.norm E M) M1 := by
  obtain ⟨hl, hg⟩ := keepM_get h
  have hlt : ∀ n, was E n = true → n < E.length := fun n hn => by
    rcases Nat.lt_or_ge n E.length with c | c
    · exact c
    · rw [was_iff, List.getD_eq_getElem?_getD, List.getElem?_eq_none c] at hn; cases hn
  have hone : ∀ n B', M1.getD n none = some B' → was E n = true ∧ ∃ B, M.getD n none = some B ∧ keepB E M B = some B' := by
    intro n B' hB
    have hn : n < E.length := by
      rcases Nat.lt_or_ge n E.length with c | c
      · exact c
      · rw [List.getD_eq_getElem?_getD, List.getElem?_eq_none (by omega)] at hB; cases hB
    rcases hg n hn with ⟨h1, h2⟩ | ⟨h1, B, B2, h2, h3, h4⟩
    · rw [h2] at hB; cases hB
    · rw [h4] at hB; injection hB with hB; subst hB
      exact ⟨h1, B, h2, h3⟩
  have hbe : ∀ n g, was E n = true → (Γ.norm E M).be n g = Γ.be n g := fun n g hw => by simp only [Env.norm, hw, if_true]
  have hown : ∀ n b, OwnedBy (Γ.norm E M) M1 n b → was E n = true ∧ OwnedBy Γ M n b := by
    rintro n b ⟨B', o, k, tc, h1, h2, h3⟩
    obtain ⟨hw, B, h4, h5⟩ := hone n B' h1
    obtain ⟨g1, g2, g3⟩ := keepB_gen h5
    rw [hbe n _ hw, g1] at h3
    exact ⟨hw, B, o, k, tc, h4, by rw [← g2]; exact h2, h3⟩
  refine ⟨⟨fun n B' hB => ?_, fun n n' B B' b o k tc o' k' tc' h1 h2 h3 h4 h5 h6 => ?_, fun n g hu => ?_, fun n hn g => ?_, fun n B' hB g hgn => ?_, hS.base, fun b hb => ?_⟩, ⟨he.os, he.tape, he.output, he.size, he.base, fun b hb => .inl (he.F b hb), fun b hb => ?_, fun b hb => ?_, he.fr, fun n hDn B hB => ?_⟩⟩
  · obtain ⟨hw, B, h1, h2⟩ := hone n B' hB
    exact keepB_sound hS h1 hw h2
  · exact (hown n b ⟨B, o, k, tc, h1, h3, h5⟩).2.inj hS (hown n' b ⟨B', o', k', tc', h2, h4, h6⟩).2
  · rw [hl]
    cases hw : was E n with
    | true => exact hlt n hw
    | false => exact absurd (show (Γ.norm E M).be n g = .unset by simp only [Env.norm, hw, Bool.false_eq_true, if_false]) hu
  · cases hw : was E n with
    | false => simp only [Env.norm, hw, Bool.false_eq_true, if_false]
    | true =>
      rcases hg n (hlt n hw) with ⟨h1, h2⟩ | ⟨h1, B, B2, h2, h3, h4⟩
      · rw [was_iff, h1] at hw; cases hw
      · rw [h4] at hn; cases hn
  · obtain ⟨hw, B, h1, h2⟩ := hone n B' hB
    obtain ⟨g1, g2, g3⟩ := keepB_gen h2
    rw [hbe n g hw]
    refine hS.gens n B h1 g (fun hu => hgn ?_)
    by_cases e : B = .hid
    · rw [g3.1 e]; trivial
    · exact Up.of (by rw [g1]; exact hu.le e)
  · rcases hb with h1 | ⟨n, _, h1⟩
    · exact hS.Fb b h1
    · exact (h1.lt hS).1
  · rcases hb with h1 | ⟨n, _, h1⟩
    · exact he.Fnew b h1
    · rcases he.own b h1.owned with c | c
      · exact .inr (.inl c)
      · exact .inr (.inr c)
  · obtain ⟨n, hn⟩ := hb.by'
    exact he.own b (hown n b hn).2.owned
  · have hw := hD n hDn B hB
    obtain ⟨⟨B1, k1, k2⟩, k3⟩ := he.stay n hDn B hB
    rcases hg n (hlt n hw) with ⟨h1, h2⟩ | ⟨h1, B2, B3, h2, h3, h4⟩
    · rw [was_iff, h1] at hw; cases hw
    · rw [k1] at h2
      injection h2 with h2; subst h2
      obtain ⟨g1, g2, g3⟩ := keepB_gen h3
      exact ⟨⟨B3, h4, fun e => g3.1 (k2.1 e), by rw [g1]; exact k2.2⟩, fun g hgU => by rw [hbe n g hw]; exact k3 g hgU⟩


theorem Sim.congr {M' : Mem} (hS : Sim w Γ M) (h : ∀ n, M'.getD n none = M.getD n none) : Sim w Γ M' := by
  refine ⟨fun n B hB => hS.blk n B (by rw [← h]; exact hB), fun n n' B B' b o k tc o' k' tc' h1 h2 => hS.apart n n' B B' b o k tc o' k' tc' (by rw [← h]; exact h1) (by rw [← h]; exact h2), fun n g hu => ?_, fun n hn => hS.holes n (by rw [← h]; exact hn), fun n B hB => hS.gens n B (by rw [← h]; exact hB), hS.base, hS.Fb⟩
  rcases Nat.lt_or_ge n M'.length with c | c
  · exact c
  · refine absurd (hS.holes n ?_ g) hu
    rw [← h, List.getD_eq_getElem?_getD, List.getElem?_eq_none c]; rfl

theorem Owned.congr {M' : Mem} (h : ∀ n, M'.getD n none = M.getD n none) {b : Nat} : Owned Γ M' b ↔ Owned Γ M b := by
  unfold Owned
  simp only [h]

theorem Ext.congr {D : Nat → Prop} {w' : World} {Γ' : Env} {M1 M' M1' : Mem} (he : Ext D w Γ M w' Γ' M') (h : ∀ n, M1.getD n none = M.getD n none) (h' : ∀ n, M1'.getD n none = M'.getD n none) : Ext D w Γ M1 w' Γ' M1' := by
  refine ⟨he.os, he.tape, he.output, he.size, he.base, he.F, fun b hb => ?_, fun b hb => ?_, fun b hb ho => he.fr b hb (fun hx => ho ((Owned.congr h).2 hx)), fun n hn B hB => ?_⟩
  · rcases he.Fnew b hb with c | c | c
    · exact .inl c
    · exact .inr (.inl ((Owned.congr h).2 c))
    · exact .inr (.inr c)
  · rcases he.own b ((Owned.congr h').1 hb) with c | c
    · exact .inl ((Owned.congr h).2 c)
    · exact .inr c
  · rw [h']
    exact he.stay n hn B (by rw [← h]; exact hB)

end
end Go.Proofs.Ytopcnhojkfeafaa.Am
