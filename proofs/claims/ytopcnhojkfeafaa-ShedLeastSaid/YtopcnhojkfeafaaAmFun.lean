/- AM: code, and functions: that what the machine comes to is what Go comes to. -/
import Derived.Test.YtopcnhojkfeafaaAmCode
set_option linter.unusedSimpArgs false
set_option linter.unusedVariables false
namespace Go.Proofs.Ytopcnhojkfeafaa.Am
open Go.RowKit

section
variable {P : Program} {w : World} {Γ : Env} {M : Mem} {tm : List V} {bs : Nat} {A : Pg} {cl : Cl}

/-! ### What code leaves of the memory ahead of its own -/

structure Hold (bs : Nat) (M0 M : Mem) : Prop where
  len : M0.length ≤ M.length
  idle : ∀ n, n < bs → Idle M0 n → M[n]? = M0[n]?

theorem Hold.refl (bs : Nat) (M : Mem) : Hold bs M M := ⟨Nat.le_refl _, fun _ _ _ => rfl⟩

theorem Hold.step {M0 M M' : Mem} (h : Hold bs M0 M) (hl : M.length ≤ M'.length) (hi : ∀ n, Idle M n → n < bs → M'[n]? = M[n]?) : Hold bs M0 M' :=
  ⟨Nat.le_trans h.len hl, fun n hn hid => by
    have e := h.idle n hn hid
    rw [hi n (by unfold Idle; rw [e]; exact hid) hn, e]⟩

theorem Hold.near {M0 M M' : Mem} {l : List Nat} (h : Hold bs M0 M) (hn : Near l (bs ≤ ·) M M') : Hold bs M0 M' :=
  h.step (Nat.le_of_eq hn.len.symm) fun n hi hb => hn.idle n hi (by omega)

theorem evO_hold (hh : HoldCl A cl) {o : O} {s s' : St} {M0 : Mem} (h0 : Hold bs M0 s.2) (h : evO A cl bs o s = some s') : Hold bs M0 s'.2 := by
  unfold evO at h
  split at h
  · split at h
    · split at h
      · rename_i v N he
        simp only [Option.some.injEq] at h
        subst h
        obtain ⟨n1, n2, _, _⟩ := evI_near hh he
        exact h0.step n1.1 n2
      · simp at h
    · rename_i vi wr hv
      split at h
      · rename_i htgt
        split at h
        · rename_i v N he
          simp only [Option.some.injEq] at h
          subst h
          obtain ⟨n1, n2, n3, n4⟩ := evI_near hh he
          simp only [Bool.and_eq_true, Bool.not_eq_true'] at htgt
          have hl : N.length = s.2.length := by rw [n1.2 htgt.2, see_len]
          have htgt := htgt.1
          refine h0.step (Nat.le_of_eq (merge_len hl).symm) (fun n hi hb => ?_)
          rw [merge_get hl]
          split
          · rename_i hw
            by_cases hv : vi.has bs n = true
            · have e : (see bs vi s.2)[n]? = s.2[n]? := by rw [see_get]; simp [hv]
              rw [n2 n (by unfold Idle; rw [e]; exact hi) hb, e]
            · simp only [tgtOK, Bool.and_eq_true] at htgt
              exact absurd (sub_spec htgt.1 bs n hw) hv
          · rfl
        · simp at h
      · simp at h
  · simp only [Option.some.injEq] at h
    subst h
    exact h0
  · simp at h


theorem evOs_hold (hh : HoldCl A cl) : ∀ {os : List O} {s s' : St} {M0 : Mem}, Hold bs M0 s.2 → evOs A cl bs os s = some s' → Hold bs M0 s'.2
  | [], s, s', M0, h0, h => by simp only [evOs, Option.some.injEq] at h; subst h; exact h0
  | o :: os, s, s', M0, h0, h => by
    simp only [evOs] at h
    split at h
    · rename_i s1 h1
      exact evOs_hold hh (evO_hold hh h0 h1) h
    · simp at h

theorem keepM_hold {M0 E M M1 : Mem} (hE : Hold bs M0 E) (hM : Hold bs M0 M) (h : keepM E M E M = some M1) : Hold bs M0 M1 := by
  obtain ⟨hl, hg⟩ := keepM_get h
  refine ⟨by rw [hl]; exact hE.len, fun n hn hid => ?_⟩
  have hnl : n < E.length := by
    have := hE.len
    have : n < M0.length := by rcases hid with h | ⟨g, h⟩ | h <;> exact (List.getElem?_eq_some_iff.1 h).1
    omega
  have e1 := hE.idle n hn hid
  have e2 := hM.idle n hn hid
  rw [get_of_getD (by omega)]
  rcases hg n hnl with ⟨h1, h2⟩ | ⟨h1, B, B', h2, h3, h4⟩
  · rw [h2, ← e1, get_of_getD hnl, h1]
  · rw [h4]
    rcases hid with hq | ⟨g, hq⟩ | hq
    · rw [hq] at e1
      rw [getD_of e1] at h1; cases h1
    · rw [hq] at e2 ⊢
      rw [getD_of e2] at h2
      injection h2 with h2; subst h2
      simp only [keepB, Option.some.injEq] at h3
      rw [h3]
    · rw [hq] at e2 ⊢
      rw [getD_of e2] at h2
      injection h2 with h2; subst h2
      simp only [keepB, Option.some.injEq] at h3
      rw [h3]

theorem norm_hold {live : List Nat} {trunc : Bool} {M0 E : Mem} {s s' : St} (hE : Hold bs M0 E) (hM : Hold bs M0 s.2) (h : norm live trunc E s = some s') : Hold bs M0 s'.2 := by
  unfold norm at h
  split at h
  · split at h
    · rename_i h1 h2
      simp only [Option.some.injEq] at h
      subst h
      exact keepM_hold hE hM h2
    · simp at h
  · simp only [Option.some.injEq] at h
    subst h
    exact hM

theorem thaw1_hold {M0 : Mem} {s : St} {p : Nat × Option Nat × Nat × Nat} (h0 : Hold bs M0 s.2) : Hold bs M0 (thaw1 bs s p).2 := by
  unfold thaw1
  split
  · split
    · split
      · rename_i hM
        exact h0.near (.setB hM (Nat.le_add_right _ _) (List.mem_singleton.2 rfl))
      · exact h0
    · exact h0
  · split
    · split
      · split
        · rename_i hM
          split
          · rename_i hM2
            exact (h0.near (.setB hM (Nat.le_add_right _ _) (List.mem_singleton.2 rfl))).near (.storeAt hM2)
          · exact h0
        · exact h0
      · exact h0
    · exact h0

theorem thawAll_hold {M0 : Mem} : ∀ (l : List (Nat × Option Nat × Nat × Nat)) {s : St}, Hold bs M0 s.2 → Hold bs M0 (thawAll bs s l).2
  | [], s, h0 => h0
  | p :: l, s, h0 => thawAll_hold l (thaw1_hold (p := p) h0)

theorem iter_hold {step : St → Option (Ex × St)} {nrm out : St → Option St} {M0 : Mem} (hs : ∀ s e s', Hold bs M0 s.2 → step s = some (e, s') → Hold bs M0 s'.2) (hn : ∀ s s', Hold bs M0 s.2 → nrm s = some s' → Hold bs M0 s'.2) (ho : ∀ s s', Hold bs M0 s.2 → out s = some s' → Hold bs M0 s'.2) :
    ∀ (n : Nat) {s : St} {e : Ex} {s' : St}, Hold bs M0 s.2 → iter step nrm out n s = some (e, s') → Hold bs M0 s'.2
  | 0, s, e, s', _, h => by simp [iter] at h
  | n + 1, s, e, s', h0, h => by
    simp only [iter] at h
    split at h
    · rename_i s1 h1
      split at h
      · rename_i s2 h2
        exact iter_hold hs hn ho n (hn _ _ (hs _ _ _ h0 h1) h2) h
      · simp at h
    · rename_i e1 s1 _ h1
      obtain ⟨s2, h2, he⟩ := Option.map_eq_some_iff.1 h
      simp only [Prod.mk.injEq] at he
      obtain ⟨_, rfl⟩ := he
      exact ho _ _ (hs _ _ _ h0 h1) h2
    · simp at h

theorem evC_hold (hh : HoldCl A cl) (n : Nat) {M0 : Mem} : ∀ (ac : AC) {s : St} {e : Ex} {s' : St}, Hold bs M0 s.2 → evC A cl bs n ac s = some (e, s') → Hold bs M0 s'.2
  | .skip, s, e, s', h0, h => by simp only [evC, Option.some.injEq, Prod.mk.injEq] at h; rw [← h.2]; exact h0
  | .region ops, s, e, s', h0, h => by
    simp only [evC] at h
    obtain ⟨s1, h1, he⟩ := Option.map_eq_some_iff.1 h
    simp only [Prod.mk.injEq] at he
    obtain ⟨_, rfl⟩ := he
    exact evOs_hold hh h0 h1
  | .seq a b, s, e, s', h0, h => by
    simp only [evC] at h
    split at h
    · rename_i s1 h1
      exact evC_hold hh n b (evC_hold hh n a h0 h1) h
    · exact evC_hold hh n a h0 h
  | .cond c a b, s, e, s', h0, h => by
    simp only [evC] at h
    split at h
    · exact evC_hold hh n a h0 h
    · exact evC_hold hh n b h0 h
    · simp at h
  | .block id a, s, e, s', h0, h => by
    simp only [evC] at h
    split at h
    · rename_i id' s1 h1
      have := evC_hold hh n a h0 h1
      split at h <;>
        (simp only [Option.some.injEq, Prod.mk.injEq] at h
         rw [← h.2]; exact this)
    · exact evC_hold hh n a h0 h
  | .loop an a, s, e, s', h0, h => by
    simp only [evC] at h
    split at h
    · rename_i s1 h1
      have ht := thawAll_hold (bs := bs) an.thaw h0
      have h2 := norm_hold ht ht h1
      exact iter_hold (fun s e s' h0 h => evC_hold hh n a h0 h) (fun s s' hs h => norm_hold h2 hs h) (fun s s' hs h => norm_hold h2 hs h) n h2 h
    · simp at h
  | .keep l a, s, e, s', h0, h => by
    simp only [evC] at h
    exact evC_hold hh n a (s := (killL l 0 s.1, s.2)) h0 h
  | .exit id, s, e, s', h0, h => by simp only [evC, Option.some.injEq, Prod.mk.injEq] at h; rw [← h.2]; exact h0
  | .ret, s, e, s', h0, h => by simp only [evC, Option.some.injEq, Prod.mk.injEq] at h; rw [← h.2]; exact h0

/-! ### Code -/

def exOf : Ex → Exit
  | .normal => .normal
  | .exit id => .exit id
  | .ret => .ret

theorem After.was {Q : Exit → Act → World → Prop} {D : Nat → Prop} {w0 : World} {Γ0 : Env} {M0 : Mem} (he : Ext D w0 Γ0 M0 w Γ M) : ∀ n, D n → ∀ B, M0.getD n none = some B → was M n = true := fun n hn B hB => by
  obtain ⟨⟨B', h1, _⟩, _⟩ := he.stay n hn B hB
  rw [was_iff, h1]; rfl

theorem evC_sound (hm : P.follows .mixedOrders = true) (hcl : SoundCl P A cl) (hh : HoldCl A cl) (n : Nat) {D : Nat → Prop} {w0 : World} {Γ0 : Env} {M0 : Mem} {ds : List Deferred} : ∀ (ac : AC) (c : Code), okC P c ac = true → ∀ {s : St} {e : Ex} {s' : St}, evC A cl bs n ac s = some (e, s') →
    ∀ {Q : Exit → Act → World → Prop}, After Q D w0 Γ0 M0 ds (exOf e) s' → ∀ {a : Act} {w : World} {Γ : Env}, Sim w Γ s.2 → Ext D w0 Γ0 M0 w Γ s.2 → Tm w Γ s.1 a → a.defers = ds → c.wp P Q a w
  | .skip, c, hok, s, e, s', h, Q, hQ, a, w, Γ, hS, he, hT, hd => by
    cases c <;> simp only [okC, Bool.false_eq_true] at hok
    simp only [evC, Option.some.injEq, Prod.mk.injEq] at h
    obtain ⟨rfl, rfl⟩ := h
    exact wp_skip (hQ a w Γ hS he hT hd)
  | .region os, c, hok, s, e, s', h, Q, hQ, a, w, Γ, hS, he, hT, hd => by
    cases c <;> simp only [okC, Bool.false_eq_true] at hok
    rename_i id ops draw
    simp only [evC] at h
    obtain ⟨s1, h1, h2⟩ := Option.map_eq_some_iff.1 h
    simp only [Prod.mk.injEq] at h2
    obtain ⟨rfl, rfl⟩ := h2
    simp only [Bool.and_eq_true, beq_iff_eq] at hok
    obtain ⟨htr, hdr⟩ := hok
    cases draw with
    | true => exact draw_sound hm hcl hh htr (by simpa using hdr) hQ hS he hT hd h1
    | false => exact region_sound hcl hh htr (by simpa using hdr) hQ hS he hT hd h1
  | .seq x y, c, hok, s, e, s', h, Q, hQ, a, w, Γ, hS, he, hT, hd => by
    cases c <;> simp only [okC, Bool.false_eq_true] at hok
    rename_i cx cy
    simp only [Bool.and_eq_true] at hok
    simp only [evC] at h
    split at h
    · rename_i s1 h1
      refine wp_seq (evC_sound hm hcl hh n x cx hok.1 h1 (Q := Exit.then (cy.wp P Q) Q) (fun a1 w1 Γ1 hS1 he1 hT1 hd1 => ?_) hS he hT hd)
      exact evC_sound hm hcl hh n y cy hok.2 h hQ hS1 he1 hT1 hd1
    · rename_i hne
      refine wp_seq (evC_sound hm hcl hh n x cx hok.1 h (Q := Exit.then (cy.wp P Q) Q) (fun a1 w1 Γ1 hS1 he1 hT1 hd1 => ?_) hS he hT hd)
      cases e with
      | normal => exact absurd h (hne s')
      | exit id => exact hQ a1 w1 Γ1 hS1 he1 hT1 hd1
      | ret => exact hQ a1 w1 Γ1 hS1 he1 hT1 hd1
  | .cond x y z, c, hok, s, e, s', h, Q, hQ, a, w, Γ, hS, he, hT, hd => by
    cases c <;> simp only [okC, Bool.false_eq_true] at hok
    rename_i c0 cy cz
    simp only [Bool.and_eq_true, beq_iff_eq] at hok
    obtain ⟨⟨hx, hy⟩, hz⟩ := hok
    simp only [evC] at h
    split at h
    · rename_i hb
      exact wp_cond (asB_sound (evX_R hT hx) hb) (evC_sound hm hcl hh n y cy hy h hQ hS he hT hd)
    · rename_i hb
      exact wp_cond (asB_sound (evX_R hT hx) hb) (evC_sound hm hcl hh n z cz hz h hQ hS he hT hd)
    · simp at h
  | .block id x, c, hok, s, e, s', h, Q, hQ, a, w, Γ, hS, he, hT, hd => by
    cases c <;> simp only [okC, Bool.false_eq_true] at hok
    rename_i id2 cx
    simp only [Bool.and_eq_true, beq_iff_eq] at hok
    obtain ⟨rfl, hok⟩ := hok
    simp only [evC] at h
    split at h
    · rename_i id' s1 h1
      refine wp_block (evC_sound hm hcl hh n x cx hok h1 (Q := Exit.inBlock id2 Q) (fun a1 w1 Γ1 hS1 he1 hT1 hd1 => ?_) hS he hT hd)
      simp only [exOf, Exit.inBlock]
      split at h
      · rename_i e1
        simp only [Option.some.injEq, Prod.mk.injEq] at h
        obtain ⟨rfl, rfl⟩ := h
        rw [if_pos e1]
        exact hQ a1 w1 Γ1 hS1 he1 hT1 hd1
      · rename_i e1
        simp only [Option.some.injEq, Prod.mk.injEq] at h
        obtain ⟨rfl, rfl⟩ := h
        rw [if_neg e1]
        exact hQ a1 w1 Γ1 hS1 he1 hT1 hd1
    · rename_i hne
      refine wp_block (evC_sound hm hcl hh n x cx hok h (Q := Exit.inBlock id2 Q) (fun a1 w1 Γ1 hS1 he1 hT1 hd1 => ?_) hS he hT hd)
      cases e with
      | normal => exact hQ a1 w1 Γ1 hS1 he1 hT1 hd1
      | exit id => exact absurd h (hne id s')
      | ret => exact hQ a1 w1 Γ1 hS1 he1 hT1 hd1
  | .loop an x, c, hok, s, e, s', h, Q, hQ, a, w, Γ, hS, he, hT, hd => by
    cases c <;> simp only [okC, Bool.false_eq_true] at hok
    rename_i cx
    simp only [evC] at h
    split at h
    · rename_i s1 h1
      obtain ⟨Γt, st, et, tt⟩ := thawAll_sound (bs := bs) an.thaw hS hT
      have het := he.trans (et.mono (fun _ _ => trivial))
      obtain ⟨Γ1, hS1, he1, hT1⟩ := norm_sound h1 st het tt (After.was (Q := Q) het)
      have hD := After.was (Q := Q) he1
      refine wp_loop_rounds n ?_
      have key : ∀ (k : Nat) {s2 : St} {a : Act} {w : World} {Γ : Env}, iter (evC A cl bs n x) (norm an.live an.trunc s1.2) (norm an.out an.trunc s1.2) k s2 = some (e, s') → Sim w Γ s2.2 → Ext D w0 Γ0 M0 w Γ s2.2 → Tm w Γ s2.1 a → a.defers = ds → Code.rounds P cx Q k a w := by
        intro k
        induction k with
        | zero => intro s2 a w Γ h _ _ _ _; simp [iter] at h
        | succ k ih =>
          intro s2 a w Γ h hS he hT hd
          rw [rounds_succ]
          simp only [iter] at h
          split at h
          · rename_i s3 h3
            split at h
            · rename_i s4 h4
              refine evC_sound hm hcl hh n x cx hok h3 (Q := Exit.then (Code.rounds P cx Q k) Q) (fun a1 w1 Γ1 hS1 he1 hT1 hd1 => ?_) hS he hT hd
              obtain ⟨Γ2, hS2, he2, hT2⟩ := norm_sound h4 hS1 he1 hT1 hD
              exact ih h hS2 he2 hT2 hd1
            · simp at h
          · rename_i e1 s3 hne h3
            obtain ⟨s4, h4, h5⟩ := Option.map_eq_some_iff.1 h
            simp only [Prod.mk.injEq] at h5
            obtain ⟨rfl, rfl⟩ := h5
            refine evC_sound hm hcl hh n x cx hok h3 (Q := Exit.then (Code.rounds P cx Q k) Q) (fun a1 w1 Γ1 hS1 he1 hT1 hd1 => ?_) hS he hT hd
            obtain ⟨Γ2, hS2, he2, hT2⟩ := norm_sound h4 hS1 he1 hT1 hD
            cases e1 with
            | normal => exact absurd rfl (hne)
            | exit id => exact hQ a1 w1 Γ2 hS2 he2 hT2 hd1
            | ret => exact hQ a1 w1 Γ2 hS2 he2 hT2 hd1
          · simp at h
      exact key n h hS1 he1 hT1 hd
    · simp at h
  | .keep l x, c, hok, s, e, s', h, Q, hQ, a, w, Γ, hS, he, hT, hd => by
    have hok' : okC P c x = true := by cases c <;> simpa only [okC] using hok
    simp only [evC] at h
    exact evC_sound hm hcl hh n x c hok' (s := (killL l 0 s.1, s.2)) h hQ hS he (hT.kill l) hd
  | .exit id, c, hok, s, e, s', h, Q, hQ, a, w, Γ, hS, he, hT, hd => by
    cases c <;> simp only [okC, Bool.false_eq_true, beq_iff_eq] at hok
    subst hok
    simp only [evC, Option.some.injEq, Prod.mk.injEq] at h
    obtain ⟨rfl, rfl⟩ := h
    exact wp_exit (hQ a w Γ hS he hT hd)
  | .ret, c, hok, s, e, s', h, Q, hQ, a, w, Γ, hS, he, hT, hd => by
    cases c <;> simp only [okC, Bool.false_eq_true] at hok
    simp only [evC, Option.some.injEq, Prod.mk.injEq] at h
    obtain ⟨rfl, rfl⟩ := h
    exact wp_ret (hQ a w Γ hS he hT hd)

end
end Go.Proofs.Ytopcnhojkfeafaa.Am
