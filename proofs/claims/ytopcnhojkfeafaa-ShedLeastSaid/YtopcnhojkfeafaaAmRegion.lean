/- AM: regions: in the text's order, and in any. -/
import Derived.Test.YtopcnhojkfeafaaAmStep
import Derived.Test.YtopcnhojkfeafaaAmOrder
set_option linter.unusedSimpArgs false
set_option linter.unusedVariables false
namespace Go.Proofs.Ytopcnhojkfeafaa.Am
open Go.RowKit

section
variable {P : Program} {w : World} {Γ : Env} {M : Mem} {tm : List V} {bs : Nat} {A : Pg} {cl : Cl}

theorem getD_see (vi : VS) (n : Nat) : (see bs vi M).getD n none = if vi.has bs n then M.getD n none else if n < M.length then some .hid else none := by
  rw [List.getD_eq_getElem?_getD, see_get]
  by_cases h : n < M.length
  · rw [List.getElem?_eq_getElem h]
    by_cases hv : vi.has bs n = true
    · simp [hv, List.getD_eq_getElem?_getD, h]
    · simp [hv, h]
  · rw [List.getElem?_eq_none (by omega)]
    by_cases hv : vi.has bs n = true
    · simp [hv, List.getD_eq_getElem?_getD, List.getElem?_eq_none (show M.length ≤ n by omega)]
    · simp [hv, h]

theorem sim_see (hS : Sim w Γ M) (vi : VS) : Sim w Γ (see bs vi M) := by
  have key : ∀ n B, (see bs vi M).getD n none = some B → B = .hid ∨ M.getD n none = some B := by
    intro n B h
    rw [getD_see] at h
    split at h
    · exact .inr h
    · split at h
      · injection h with h; exact .inl h.symm
      · cases h
  refine ⟨fun n B h => ?_, fun n n' B B' b o k tc o' k' tc' h1 h2 h3 h4 => ?_, fun n g h => by rw [see_len]; exact hS.bound n g h, fun n h g => ?_, fun n B h g hg => ?_, hS.base, hS.Fb⟩
  · rcases key n B h with rfl | h
    · trivial
    · exact hS.blk n B h
  · rcases key n B h1 with rfl | h1
    · cases h3
    · rcases key n' B' h2 with rfl | h2
      · cases h4
      · exact hS.apart n n' B B' b o k tc o' k' tc' h1 h2 h3 h4
  · rw [getD_see] at h
    split at h
    · exact hS.holes n h g
    · split at h
      · cases h
      · rename_i hl
        cases hu : Γ.be n g with
        | unset => rfl
        | nil => exact absurd (hS.bound n g (by rw [hu]; simp)) hl
        | «at» b o k tc => exact absurd (hS.bound n g (by rw [hu]; simp)) hl
  · rcases key n B h with rfl | h
    · exact absurd trivial hg
    · exact hS.gens n B h g hg

theorem ownedBy_see {vi : VS} {n b : Nat} (h : OwnedBy Γ (see bs vi M) n b) : vi.has bs n = true ∧ OwnedBy Γ M n b := by
  obtain ⟨B, o, k, tc, h1, h2, h3⟩ := h
  rw [getD_see] at h1
  split at h1
  · rename_i hv; exact ⟨hv, B, o, k, tc, h1, h2, h3⟩
  · split at h1
    · injection h1 with h1; subst h1; cases h2
    · cases h1

theorem getD_merge {wr : VS} {N : Mem} (hl : N.length = M.length) (n : Nat) : (merge bs wr M N).getD n none = if wr.has bs n then N.getD n none else M.getD n none := by
  simp only [List.getD_eq_getElem?_getD]
  rw [merge_get hl]
  split <;> rfl

/-- What was written, laid in. -/
theorem sim_merge {w' : World} {Γ' : Env} {N : Mem} {vi wr : VS} (hS : Sim w Γ M) (hS' : Sim w' Γ' N) (he : Ext All w Γ (see bs vi M) w' Γ' N) (hl : N.length = M.length) (hsub : VS.sub wr vi = true) (hk : ∀ n, wr.has bs n = false → N[n]? = (see bs vi M)[n]?) :
    Sim w' Γ' (merge bs wr M N) ∧ Ext All w Γ M w' Γ' (merge bs wr M N) := by
  have hkd : ∀ n, wr.has bs n = false → N.getD n none = (see bs vi M).getD n none := fun n hn => by
    simp only [List.getD_eq_getElem?_getD, hk n hn]
  -- what is not written lies where it lay
  have hbe : ∀ n, wr.has bs n = false → ∀ B, M.getD n none = some B → (vi.has bs n = true ∧ N.getD n none = some B) ∨ (vi.has bs n = false ∧ ∀ g, Γ'.be n g = Γ.be n g) := by
    intro n hn B hB
    have h1 := hkd n hn
    rw [getD_see] at h1
    by_cases hv : vi.has bs n = true
    · rw [if_pos hv] at h1
      exact .inl ⟨hv, h1.trans hB⟩
    · rw [if_neg hv] at h1
      have hlt : n < M.length := by
        rcases Nat.lt_or_ge n M.length with h | h
        · exact h
        · rw [List.getD_eq_getElem?_getD, List.getElem?_eq_none h] at hB; cases hB
      have hh : (see bs vi M).getD n none = some .hid := by rw [getD_see, if_neg hv, if_pos hlt]
      exact .inr ⟨by simpa using hv, fun g => (he.stay n trivial .hid hh).2 g trivial⟩
  have hown : ∀ n b, OwnedBy Γ' (merge bs wr M N) n b → OwnedBy Γ' N n b ∨ (vi.has bs n = false ∧ OwnedBy Γ M n b) := by
    rintro n b ⟨B, o, k, tc, h1, h2, h3⟩
    rw [getD_merge hl] at h1
    split at h1
    · exact .inl ⟨B, o, k, tc, h1, h2, h3⟩
    · rename_i hn
      rcases hbe n (by simpa using hn) B h1 with ⟨_, h4⟩ | ⟨hv, h4⟩
      · exact .inl ⟨B, o, k, tc, h4, h2, h3⟩
      · exact .inr ⟨hv, B, o, k, tc, h1, h2, by rw [← h4]; exact h3⟩
  have hsee := sim_see (bs := bs) hS vi
  refine ⟨⟨fun n B h => ?_, fun n n' B B' b o k tc o' k' tc' h1 h2 h3 h4 h5 h6 => ?_, fun n g h => ?_, fun n h g => ?_, fun n B h g hg => ?_, hS'.base, hS'.Fb⟩, ⟨he.os, he.tape, he.output, he.size, he.base, he.F, fun b hb => ?_, fun b hb => ?_, fun b hb ho => ?_, fun n _ B hB => ?_⟩⟩
  · rw [getD_merge hl] at h
    split at h
    · exact hS'.blk n B h
    · rename_i hn
      rcases hbe n (by simpa using hn) B h with ⟨_, h4⟩ | ⟨hv, h4⟩
      · exact hS'.blk n B h4
      · -- hidden
        have hfr : ∀ b, OwnedBy Γ M n b → b < w.heap.size ∧ ¬ Owned Γ (see bs vi M) b := fun b hb => by
          refine ⟨(hb.lt hS).1, fun ho => ?_⟩
          obtain ⟨m, hm⟩ := ho.by'
          obtain ⟨k1, k2⟩ := ownedBy_see hm
          have := k2.inj hS hb
          subst this
          rw [hv] at k1; cases k1
        have hblk := hS.blk n B h
        cases B with
        | row k g xs =>
          rcases hblk with ⟨h1, h2⟩ | ⟨b, o, tc, arr, E, h1, h2, h3, h5, h6, h7, h8, h9⟩
          · exact .inl ⟨by rw [h4]; exact h1, h2⟩
          · have hb : OwnedBy Γ M n b := ⟨_, o, k, tc, h, rfl, h1⟩
            refine .inr ⟨b, o, tc, arr, E, by rw [h4]; exact h1, by rw [he.base]; exact h2, fun hF => ?_, h5, by rw [he.fr b (hfr b hb).1 (hfr b hb).2]; exact h6, h7, h8, fun i j hi hj => ?_⟩
            · rcases he.Fnew b hF with c | c | c
              · exact h3 c
              · exact (hfr b hb).2 c
              · have := (hfr b hb).1; omega
            · obtain ⟨v, hv, hr⟩ := h9 i j hi hj
              exact ⟨v, hv, hr.mono hsee he all⟩
        | map g es =>
          obtain ⟨b, ents, clock, h1, h2, h3, h5, h6⟩ := hblk
          have hb : OwnedBy Γ M n b := ⟨_, 0, 0, 0, h, rfl, h1⟩
          refine ⟨b, ents, clock, by rw [h4]; exact h1, by rw [he.base]; exact h2, fun hF => ?_, by rw [he.fr b (hfr b hb).1 (hfr b hb).2]; exact h5, h6.mono hsee he all⟩
          rcases he.Fnew b hF with c | c | c
          · exact h3 c
          · exact (hfr b hb).2 c
          · have := (hfr b hb).1; omega
        | dead g => trivial
        | hid => trivial
  · have o1 : OwnedBy Γ' (merge bs wr M N) n b := ⟨B, o, k, tc, h1, h3, h5⟩
    have o2 : OwnedBy Γ' (merge bs wr M N) n' b := ⟨B', o', k', tc', h2, h4, h6⟩
    have cross : ∀ n n', OwnedBy Γ' N n b → vi.has bs n' = false → OwnedBy Γ M n' b → n = n' := by
      intro n n' p1 hv p2
      exfalso
      rcases he.own b p1.owned with c | c
      · obtain ⟨m, hm⟩ := c.by'
        obtain ⟨k1, k2⟩ := ownedBy_see hm
        have := k2.inj hS p2
        subst this
        rw [hv] at k1; cases k1
      · have := (p2.lt hS).1; omega
    rcases hown n b o1 with p1 | ⟨v1, p1⟩
    · rcases hown n' b o2 with p2 | ⟨v2, p2⟩
      · exact p1.inj hS' p2
      · exact cross n n' p1 v2 p2
    · rcases hown n' b o2 with p2 | ⟨v2, p2⟩
      · exact (cross n' n p2 v1 p1).symm
      · exact p1.inj hS p2
  · rw [merge_len hl, ← hl]
    exact hS'.bound n g h
  · rw [getD_merge hl] at h
    split at h
    · exact hS'.holes n h g
    · rename_i hn
      have h1 := hkd n (by simpa using hn)
      rw [getD_see] at h1
      by_cases hv : vi.has bs n = true
      · rw [if_pos hv, h] at h1
        exact hS'.holes n h1 g
      · rw [if_neg hv] at h1
        by_cases hlt : n < M.length
        · have hh : (see bs vi M).getD n none = some .hid := by rw [getD_see, if_neg hv, if_pos hlt]
          rw [(he.stay n trivial .hid hh).2 g trivial]
          exact hS.holes n h g
        · rw [if_neg hlt] at h1
          exact hS'.holes n h1 g
  · rw [getD_merge hl] at h
    split at h
    · exact hS'.gens n B h g hg
    · rename_i hn
      rcases hbe n (by simpa using hn) B h with ⟨_, h4⟩ | ⟨hv, h4⟩
      · exact hS'.gens n B h4 g hg
      · rw [h4]; exact hS.gens n B h g hg
  · rcases he.Fnew b hb with c | c | c
    · exact .inl c
    · obtain ⟨m, hm⟩ := c.by'
      exact .inr (.inl (ownedBy_see hm).2.owned)
    · exact .inr (.inr c)
  · obtain ⟨m, hm⟩ := hb.by'
    rcases hown m b hm with p | ⟨_, p⟩
    · rcases he.own b p.owned with c | c
      · obtain ⟨m, hm⟩ := c.by'
        exact .inl (ownedBy_see hm).2.owned
      · exact .inr c
    · exact .inl p.owned
  · refine he.fr b hb fun h => ?_
    obtain ⟨m, hm⟩ := h.by'
    exact ho (ownedBy_see hm).2.owned
  · rw [getD_merge hl]
    split
    · rename_i hw
      by_cases hv : vi.has bs n = true
      · exact he.stay n trivial B (by rw [getD_see, if_pos hv]; exact hB)
      · exact absurd (sub_spec hsub bs n hw) hv
    · rename_i hn
      refine ⟨⟨B, hB, Later.refl _⟩, fun g hg => ?_⟩
      rcases hbe n (by simpa using hn) B hB with ⟨hv, h4⟩ | ⟨hv, h4⟩
      · exact (he.stay n trivial B (by rw [getD_see, if_pos hv]; exact hB)).2 g hg
      · exact h4 g


/-! ### An operation -/

theorem wanted_sound {o : Oper} {ops : Array Oper} {g : Option (Nat × Bool)} {a : Act} {b : Bool} (hT : Tm w Γ tm a) (hg : match o.guard with | none => g = none | some (j, x) => ∃ t, (ops[j]?).bind (·.dst) = some t ∧ g = some (t, x)) (h : wanted tm g = some b) :
    Region.wanted o (yielded ops a.tmps) = b := by
  unfold Region.wanted
  split at hg
  · rename_i h0
    subst hg
    simp only [wanted, Option.some.injEq] at h
    rw [h0, ← h]
  · rename_i j x h0
    obtain ⟨t, ht, rfl⟩ := hg
    rw [h0]
    simp only [wanted] at h
    have hv := hT.get t
    simp only [yielded, ht, Option.bind_some]
    split at h
    · rename_i y hy
      rw [hy] at hv
      have e : a.tmps.getD t undef = .bool y := by
        generalize a.tmps.getD t undef = z at hv
        cases (show R w Γ _ _ from hv) with
        | im h => cases h; rfl
      simp only [Option.some.injEq] at h
      subst h
      rw [Array.getD_eq_getD_getElem?] at e
      cases hq : a.tmps[t]? with
      | none => rw [hq] at e; cases e
      | some z =>
        rw [hq] at e
        simp only [Option.getD_some] at e
        subst e
        cases y <;> cases x <;> rfl
    · rename_i hy
      rw [hy] at hv
      have e : a.tmps.getD t undef = undef := hv
      simp only [Option.some.injEq] at h
      subst h
      rw [Array.getD_eq_getD_getElem?] at e
      cases hq : a.tmps[t]? with
      | none => rfl
      | some z =>
        rw [hq] at e
        simp only [Option.getD_some] at e
        subst e
        rfl
    · simp at h

theorem trO_some {ops : Array Oper} {o : Oper} {o' : O} (h : trO P ops o = some (erO o')) :
    trI P o = some (erI o'.i) ∧ o'.d = o.dst ∧ (match o.guard with | none => o'.g = none | some (j, x) => ∃ t, (ops[j]?).bind (·.dst) = some t ∧ o'.g = some (t, x)) := by
  unfold trO at h
  split at h
  · simp at h
  · rename_i i hi
    split at h
    · rename_i hg
      simp only [erO, Option.some.injEq, O.mk.injEq] at h
      rw [hi, h.2.2.1, hg]
      exact ⟨rfl, h.1.symm, h.2.1.symm⟩
    · rename_i j b hg
      split at h
      · rename_i t ht
        simp only [erO, Option.some.injEq, O.mk.injEq] at h
        rw [hi, h.2.2.1, hg]
        exact ⟨rfl, h.1.symm, t, ht, h.2.1.symm⟩
      · simp at h

theorem put_defers (a : Act) (d : Option Nat) (x : Value) : (a.put d x).defers = a.defers := by cases d <;> rfl

theorem evO_sound (hcl : SoundCl P A cl) (hh : HoldCl A cl) {ops : Array Oper} {o : Oper} {o' : O} {a : Act} {tm' : List V} {M' : Mem} (hS : Sim w Γ M) (hT : Tm w Γ tm a) (htr : trO P ops o = some (erO o')) (hsub : ∀ vi wr, o'.v = some (vi, wr) → VS.sub wr vi = true) (h : evO A cl bs o' (tm, M) = some (tm', M')) {K : Act → World → Prop} {Q : Exit → Act → World → Prop}
    (hK : ∀ a' w' Γ', Sim w' Γ' M' → Ext All w Γ M w' Γ' M' → Tm w' Γ' tm' a' → a'.defers = a.defers → K a' w') :
    if Region.wanted o (yielded ops a.tmps) = true then o.wp P a w K Q ∨ (o.asks P a w ∧ LetsOut Q) else K (a.put o.dst undef) w := by
  obtain ⟨h1, h2, h3⟩ := trO_some htr
  unfold evO at h
  split at h
  · rename_i hw
    rw [if_pos (wanted_sound hT h3 hw)]
    refine .inl ?_
    split at h
    · split at h
      · rename_i v N he
        simp only [Option.some.injEq, Prod.mk.injEq] at h
        obtain ⟨rfl, rfl⟩ := h
        refine evI_sound hcl hS hT h1 he K Q (fun x w' Γ' s e r => hK _ _ _ s e ?_ (put_defers _ _ _))
        rw [h2]
        exact (hT.mono hS e all).put _ r
      · simp at h
    · rename_i vi wr hv
      split at h
      · rename_i htgt
        split at h
        · rename_i v N he
          simp only [Option.some.injEq, Prod.mk.injEq] at h
          obtain ⟨rfl, rfl⟩ := h
          have hsee := sim_see (bs := bs) hS vi
          obtain ⟨n1, n2, n3, n4⟩ := evI_near hh he
          simp only [Bool.and_eq_true, Bool.not_eq_true'] at htgt
          have hl : N.length = M.length := by rw [n1.2 htgt.2, see_len]
          have htgt := htgt.1
          have hk : ∀ n, wr.has bs n = false → N[n]? = (see bs vi M)[n]? := by
            intro n hn
            cases ht : tgt A bs tm o'.i with
            | some l =>
              refine n3 l ht n (fun hm => ?_)
              rw [ht] at htgt
              simp only [tgtOK, Bool.and_eq_true, List.all_eq_true] at htgt
              rw [htgt.2 n hm] at hn; cases hn
            | none =>
              rw [ht] at htgt
              simp only [tgtOK, Bool.and_eq_true, beq_iff_eq] at htgt
              have htgt := htgt.2
              subst htgt
              by_cases hlt : n < M.length
              · refine n4 ht n (.inr (.inr ?_))
                rw [see_get, List.getElem?_eq_getElem hlt]
                simp [hn]
              · rw [List.getElem?_eq_none (by omega), List.getElem?_eq_none (by rw [see_len]; omega)]
          refine evI_sound hcl hsee hT h1 he K Q (fun x w' Γ' s e r => ?_)
          obtain ⟨s1, e1⟩ := sim_merge hS s e hl (hsub vi wr hv) hk
          refine hK _ _ _ s1 e1 ?_ (put_defers _ _ _)
          rw [h2]
          exact (hT.mono hsee e all).put _ r
        · simp at h
      · simp at h
  · rename_i hw
    rw [if_neg (by rw [wanted_sound hT h3 hw]; simp)]
    simp only [Option.some.injEq, Prod.mk.injEq] at h
    obtain ⟨rfl, rfl⟩ := h
    refine hK _ _ _ hS (Ext.refl _ _ _ _) ?_ (put_defers _ _ _)
    rw [h2]
    exact hT.put _ (show RVal w Γ .none undef from rfl)
  · simp at h

/-! ### A region in the text's order -/

theorem mapM_get? {α β : Type} {f : α → Option β} : ∀ {l : List α} {r : List β}, l.mapM f = some r → ∀ (i : Nat) (a : α), l[i]? = some a → ∃ b, r[i]? = some b ∧ f a = some b
  | [], r, h, i, a, hi => by simp at hi
  | x :: l, r, h, i, a, hi => by
    obtain ⟨b, bs, h1, h2, rfl⟩ := mapM_cons_some h
    cases i with
    | zero => simp at hi; subst hi; exact ⟨b, rfl, h1⟩
    | succ i =>
      simp only [List.getElem?_cons_succ] at hi ⊢
      exact mapM_get? h2 i a hi

theorem mapM_length {α β : Type} {f : α → Option β} : ∀ {l : List α} {r : List β}, l.mapM f = some r → r.length = l.length
  | [], r, h => by rw [mapM_nil_some h]; rfl
  | x :: l, r, h => by
    obtain ⟨b, bs, h1, h2, rfl⟩ := mapM_cons_some h
    simp [mapM_length h2]

/-- The operations of a region and their readings. -/
theorem tr_at {ops : Array Oper} {os : List O} (h : ops.toList.mapM (trO P ops) = some (os.map erO)) {i : Nat} {o : Oper} (ho : ops[i]? = some o) : ∃ o', os[i]? = some o' ∧ trO P ops o = some (erO o') := by
  obtain ⟨b, h1, h2⟩ := mapM_get? h i o (by rw [Array.getElem?_toList]; exact ho)
  rw [List.getElem?_map] at h1
  obtain ⟨o', h3, rfl⟩ := Option.map_eq_some_iff.1 h1
  exact ⟨o', h3, h2⟩

theorem tr_length {ops : Array Oper} {os : List O} (h : ops.toList.mapM (trO P ops) = some (os.map erO)) : os.length = ops.size := by
  have := mapM_length h
  simpa using this

/-- What is asked of what stands behind. -/
def After (Q : Exit → Act → World → Prop) (D : Nat → Prop) (w0 : World) (Γ0 : Env) (M0 : Mem) (ds : List Deferred) (e : Exit) (s : St) : Prop :=
  ∀ a w Γ, Sim w Γ s.2 → Ext D w0 Γ0 M0 w Γ s.2 → Tm w Γ s.1 a → a.defers = ds → Q e a w

theorem ops_sound (hcl : SoundCl P A cl) (hh : HoldCl A cl) {ops : Array Oper} {os : List O} (htr : ops.toList.mapM (trO P ops) = some (os.map erO)) (hv : ∀ o ∈ os, o.v = none) {Q : Exit → Act → World → Prop} {D : Nat → Prop} {w0 : World} {Γ0 : Env} {M0 : Mem} {ds : List Deferred} {sf : St}
    (hQ : After Q D w0 Γ0 M0 ds .normal sf) : ∀ (l : List Nat) (osl : List O) (s : St) (a : Act) (w : World) (Γ : Env), (∀ j, j < l.length → ∃ o', osl[j]? = some o' ∧ ∃ i, l[j]? = some i ∧ os[i]? = some o' ∧ i < ops.size) → osl.length = l.length →
      Sim w Γ s.2 → Ext D w0 Γ0 M0 w Γ s.2 → Tm w Γ s.1 a → a.defers = ds → evOs A cl bs osl s = some sf → wpOps P ops Q l a w
  | [], osl, s, a, w, Γ, _, hl, hS, he, hT, hd, h => by
    cases osl with
    | nil =>
      simp only [evOs, Option.some.injEq] at h
      subst h
      exact hQ a w Γ hS he hT hd
    | cons _ _ => simp at hl
  | i :: l, osl, s, a, w, Γ, hi, hl, hS, he, hT, hd, h => by
    cases osl with
    | nil => simp at hl
    | cons o' osl =>
      obtain ⟨o1, e1, i1, e2, e3, e4⟩ := hi 0 (by simp)
      simp only [List.getElem?_cons_zero, Option.some.injEq] at e1 e2
      subst e1; subst e2
      simp only [evOs] at h
      split at h
      · rename_i s' hs'
        rw [wpOps_cons]
        unfold wpOp
        have ho : ops[i]? = some ops[i] := Array.getElem?_eq_getElem e4
        rw [ho]
        obtain ⟨o2, e5, e6⟩ := tr_at htr ho
        rw [e3] at e5
        injection e5 with e5
        subst e5
        have hnone := hv _ (List.mem_of_getElem? e3)
        refine evO_sound (bs := bs) hcl hh (tm' := s'.1) (M' := s'.2) hS hT e6 (fun vi wr hq => by rw [hnone] at hq; cases hq) hs' (fun a' w' Γ' s1 x1 t1 d1 => ?_)
        exact ops_sound hcl hh htr hv hQ l osl s' a' w' Γ' (fun j hj => by
          obtain ⟨o3, f1, i3, f2, f3, f4⟩ := hi (j + 1) (by simpa using hj)
          exact ⟨o3, by simpa using f1, i3, by simpa using f2, f3, f4⟩) (by simpa using hl) s1 (he.trans (x1.mono (fun _ _ => trivial))) t1 (d1.trans hd) h
      · simp at h

theorem region_sound (hcl : SoundCl P A cl) (hh : HoldCl A cl) {ops : Array Oper} {os : List O} {id : Nat} (htr : ops.toList.mapM (trO P ops) = some (os.map erO)) (hv : (os.all fun o => o.v.isNone) = true) {Q : Exit → Act → World → Prop} {D : Nat → Prop} {w0 : World} {Γ0 : Env} {M0 : Mem} {ds : List Deferred} {s sf : St} {a : Act}
    (hQ : After Q D w0 Γ0 M0 ds .normal sf) (hS : Sim w Γ s.2) (he : Ext D w0 Γ0 M0 w Γ s.2) (hT : Tm w Γ s.1 a) (hd : a.defers = ds) (h : evOs A cl bs os s = some sf) : (Code.region id ops false).wp P Q a w := by
  have hl := tr_length htr
  refine wp_region (ops_sound hcl hh htr (fun o ho => ?_) hQ (List.range ops.size) os s a w Γ (fun j hj => ?_) (by simpa using hl) hS he hT hd h)
  · have := (List.all_eq_true.1 hv) o ho
    simpa using this
  · have hj' : j < ops.size := by simpa using hj
    have : j < os.length := by omega
    exact ⟨os[j], List.getElem?_eq_getElem this, j, by simp [hj'], List.getElem?_eq_getElem this, hj'⟩

end
end Go.Proofs.Ytopcnhojkfeafaa.Am
