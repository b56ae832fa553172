/- AM: calls: what is lent, what is given, what is handed back. -/
import Derived.Test.YtopcnhojkfeafaaAmOp8
import Derived.Test.YtopcnhojkfeafaaAmFrame
set_option linter.unusedSimpArgs false
set_option linter.unusedVariables false
namespace Go.Proofs.Ytopcnhojkfeafaa.Am
open Go.RowKit

section
variable {P : Program} {w : World} {Γ : Env} {M : Mem}

theorem RI.cold {F F' T T' : Nat → Prop} (hF : ∀ b, F b → F' b) {l : Bool} {c : C} {x : Value} (h : RI w F T l c x) : l = false → RI w F' T' l c x := by
  induction h with
  | undef l x h => intro _; exact .undef l x h
  | int l k n => intro _; exact .int l k n
  | bool l b => intro _; exact .bool l b
  | func l f => intro _; exact .func l f
  | nilptr l => intro _; exact .nilptr l
  | nilsl l => intro _; exact .nilsl l
  | immN l t k A cap => intro _; exact .immN l t k A cap
  | imm l t k xs b o cap f hl hb h0 hc hk hf hr ih =>
    intro hlf
    have ht : t = false := by
      cases t with
      | false => rfl
      | true => rw [hl rfl] at hlf; cases hlf
    refine .imm l t k xs b o cap f hl ?_ h0 hc hk hf (fun i j hi hj => ih i j hi hj ht)
    rcases hb with h | h
    · exact .inl (hF _ h)
    · rw [ht] at h; cases h.1

theorem mapM_get {α β : Type} {f : α → Option β} (d : α) (e : β) : ∀ {l : List α} {r : List β}, l.mapM f = some r → r.length = l.length ∧ ∀ i, i < l.length → f (l.getD i d) = some (r.getD i e)
  | [], r, h => by rw [mapM_nil_some h]; exact ⟨rfl, fun i hi => by simp at hi⟩
  | a :: l, r, h => by
    obtain ⟨b, bs, h1, h2, rfl⟩ := mapM_cons_some h
    obtain ⟨h3, h4⟩ := mapM_get d e h2
    refine ⟨by simp [h3], fun i hi => ?_⟩
    cases i with
    | zero => simpa using h1
    | succ i => simpa using h4 i (by simpa using hi)

theorem mapM_rows {f : C → Option C} {xs ys : List (List C)} (h : (xs.mapM fun (cs : List C) => cs.mapM f) = some ys) :
    ys.length = xs.length ∧ ∀ i, i < xs.length → (ys.getD i []).length = (xs.getD i []).length ∧ ∀ j, j < (xs.getD i []).length → f (at2 xs i j) = some (at2 ys i j) := by
  obtain ⟨h1, h2⟩ := mapM_get [] [] h
  refine ⟨h1, fun i hi => ?_⟩
  exact mapM_get .undef .undef (h2 i hi)

theorem OwnedBy.owned {n b : Nat} (h : OwnedBy Γ M n b) : Owned Γ M b := by
  obtain ⟨B, o, k, tc, h1, h2, h3⟩ := h
  exact ⟨n, B, o, k, tc, h1, h2, h3⟩

theorem Owned.by' {b : Nat} (h : Owned Γ M b) : ∃ n, OwnedBy Γ M n b := by
  obtain ⟨n, B, o, k, tc, h1, h2, h3⟩ := h
  exact ⟨n, B, o, k, tc, h1, h2, h3⟩

theorem frz_sound (hS : Sim w Γ M) {t : Bool} {ok : Nat → Bool} {F' T' : Nat → Prop} (hF : ∀ b, Γ.F b → F' b) (hT : t = true → ∀ b, b < Γ.base → T' b) (hok : ∀ n b, ok n = true → OwnedBy Γ M n b → F' b ∨ (t = true ∧ T' b)) :
    ∀ (d : Nat) {c c' : C} {x : Value}, frz t ok M d c = some c' → R w Γ c x → RI w F' T' t c' x
  | 0, c, c', x, h, _ => by simp [frz] at h
  | d + 1, c, c', x, h, hx => by
    cases c with
    | undef => simp only [frz, Option.some.injEq] at h; subst h; exact .undef _ _ hx.one
    | int k n => simp only [frz, Option.some.injEq] at h; subst h; cases hx with | im h => cases h; exact .int _ _ _
    | bool b => simp only [frz, Option.some.injEq] at h; subst h; cases hx with | im h => cases h; exact .bool _ _
    | func f => simp only [frz, Option.some.injEq] at h; subst h; cases hx with | im h => cases h; exact .func _ _
    | nilptr => simp only [frz, Option.some.injEq] at h; subst h; cases hx with | im h => cases h; exact .nilptr _
    | nilsl => simp only [frz, Option.some.injEq] at h; subst h; cases hx with | im h => cases h; exact .nilsl _
    | ptr n g i o => simp only [frz, Option.some.injEq] at h; subst h; exact .undef _ _ hx.one
    | iptr cs o => simp only [frz, Option.some.injEq] at h; subst h; exact .undef _ _ hx.one
    | mref n g => simp only [frz, Option.some.injEq] at h; subst h; exact .undef _ _ hx.one
    | fresh k xs => simp [frz] at h
    | fptr cs => simp [frz] at h
    | imm t' k xs =>
      simp only [frz] at h
      split at h
      · simp at h
      · rename_i hc
        simp only [Option.some.injEq] at h; subst h
        cases hx with
        | im hI =>
          cases t with
          | true => exact hI.mono hF (fun b hb => .inr (hT rfl b hb)) (fun _ _ => rfl)
          | false =>
            have ht' : t' = false := by
              cases t' with
              | false => rfl
              | true => exact absurd ⟨rfl, rfl⟩ hc
            subst ht'
            cases hI with
            | immN l t k A cap => exact .immN _ _ _ _ _
            | imm l t k xs b o cap f hl hb h0 hc hk hf hr =>
              refine .imm _ _ _ _ b o cap f (fun e => by cases e) ?_ h0 hc hk hf (fun i j hi hj => (hr i j hi hj).cold hF rfl)
              rcases hb with h | h
              · exact .inl (hF _ h)
              · cases h.1
    | own n g k' off len =>
      simp only [frz] at h
      split at h
      · rename_i hokn
        split at h
        · rename_i k g' xs hrow
          split at h
          · rename_i hc
            obtain ⟨rfl, rfl, hle⟩ := hc
            obtain ⟨ys, hm, rfl⟩ := Option.map_eq_some_iff.1 h
            obtain ⟨hl, hg⟩ := mapM_rows hm
            have hzl : ((xs.drop off).take len).length = len := by simp; omega
            have hM := rowAt_some hrow
            cases hx with
            | im h => cases h
            | ownN n g k hbe =>
              have : ys = [] := List.eq_nil_of_length_eq_zero (by rw [hl, hzl])
              subst this
              exact .immN _ _ _ _ _
            | own n g off len b o k2 tc A cap hbe hcp hlc hA =>
              by_cases h0 : len = 0
              · subst h0
                have : ys = [] := List.eq_nil_of_length_eq_zero (by rw [hl, hzl])
                subst this
                exact .immN _ _ _ _ _
              · have hA' := hA (by omega)
                subst hA'
                obtain ⟨_, htc, arr, E, hheap, hsz, hks, hcont⟩ := RowR.at (hS.blk n _ hM) hbe
                have hyl : ys.length = len := by rw [hl, hzl]
                rw [← hyl]
                have hz : ∀ i, i < len → ((xs.drop off).take len).getD i [] = xs.getD (off + i) [] := fun i hi => by
                  simp [List.getD_eq_getElem?_getD, List.getElem?_take, hi]
                have hz2 : ∀ i j, i < len → at2 ((xs.drop off).take len) i j = at2 xs (off + i) j := fun i j hi => by
                  simp only [at2, hz i hi]
                have hcell : ∀ i j, i < len → j < k → w.cell? ⟨b, o + off * k + (i * k + j), none⟩ = some (arr.getD (o + ((off + i) * k + j)) undef) ∧ R w Γ (at2 xs (off + i) j) (arr.getD (o + ((off + i) * k + j)) undef) := fun i j hi hj => by
                  obtain ⟨v, hv, hr⟩ := hcont (off + i) j (by omega) hj
                  rw [cell_eq hheap]
                  have e : o + off * k + (i * k + j) = o + ((off + i) * k + j) := by rw [Nat.add_mul]; omega
                  rw [e, Array.getD_eq_getD_getElem?, hv]
                  exact ⟨rfl, hr⟩
                refine .imm _ _ _ _ b (o + off * k) cap (fun i j => arr.getD (o + ((off + i) * k + j)) undef) (fun h => h) ?_ (by omega) (by omega) (fun i hi => ?_) (fun i j hi hj => (hcell i j (by omega) hj).1) (fun i j hi hj => ?_)
                · exact hok n b hokn ⟨_, _, _, _, hM, rfl, hbe⟩
                · rw [(hg i (by omega)).1, hz i (by omega)]
                  exact hks _ (by omega)
                · have h1 := (hg i (by omega)).2 j (by rw [hz i (by omega), hks _ (by omega)]; exact hj)
                  rw [hz2 i j (by omega)] at h1
                  exact frz_sound hS hF hT hok d h1 (hcell i j (by omega) hj).2
          · simp at h
        · simp at h
      · simp at h

/-! ### What is lent -/

/-- Where a call begins that sees nothing but what it is lent. -/
def Env.lend (F : Nat → Prop) (w : World) : Env := ⟨fun _ _ => .unset, F, w.heap.size⟩

theorem mapM_RL {Γ' : Env} {f : C → Option C} (hf : ∀ {c c' : C} {x : Value}, f c = some c' → R w Γ c x → R w Γ' c' x) : ∀ {cs cs' : List C} {ys : List Value}, cs.mapM f = some cs' → RL w Γ cs ys → RL w Γ' cs' ys
  | [], cs', ys, h, hr => by rw [mapM_nil_some h]; cases ys with | nil => trivial | cons y ys => exact hr.elim
  | c :: cs, cs', ys, h, hr => by
    obtain ⟨b, bs, h1, h2, rfl⟩ := mapM_cons_some h
    cases ys with
    | nil => exact hr.elim
    | cons y ys => exact ⟨hf h1 hr.1, mapM_RL hf h2 hr.2⟩

theorem mapV_sound {Γ' : Env} {f : C → Option C} (hf : ∀ {c c' : C} {x : Value}, f c = some c' → R w Γ c x → R w Γ' c' x) {v v' : V} {x : Value} (h : mapV f v = some v') (hv : RV1 w Γ v x) : RV1 w Γ' v' x := by
  cases v with
  | c c =>
    obtain ⟨c', h1, rfl⟩ := Option.map_eq_some_iff.1 h
    exact hf h1 hv
  | agg cs =>
    obtain ⟨cs', h1, rfl⟩ := Option.map_eq_some_iff.1 h
    obtain ⟨ys, e, hr⟩ := hv
    exact ⟨ys, e, mapM_RL hf h1 hr⟩
  | none => simp only [mapV, Option.some.injEq] at h; subst h; exact hv
  | any => simp only [mapV, Option.some.injEq] at h; subst h; exact trivial
  | tup vs => simp [mapV] at h

theorem RVal.of_RV1 {v : V} {x : Value} (h : RV1 w Γ v x) : RVal w Γ v x := by
  cases v with
  | tup vs => exact h.elim
  | _ => exact h

theorem lendV_sound (hS : Sim w Γ M) {v v' : V} {x : Value} (h : lendV M v = some v') (hv : RVal w Γ v x) : RVal w (Env.lend Γ.F w) v' x := by
  have hbase := hS.base
  have key : ∀ {c c' : C} {x : Value}, frz true (fun _ => true) M depth c = some c' → R w Γ c x → RI w Γ.F (fun b => b < w.heap.size) true c' x := fun h hx =>
    frz_sound hS (fun _ h => h) (fun _ b hb => by omega) (fun n b _ ho => .inr ⟨rfl, (ho.lt hS).1⟩) _ h hx
  unfold lendV at h
  split at h
  · rename_i n g idx off
    split at h
    · rename_i k g' xs hrow
      split at h
      · rename_i hg
        subst hg
        split at h
        · rename_i cs hcs
          obtain ⟨cs', h1, rfl⟩ := Option.map_eq_some_iff.1 h
          obtain ⟨b, o, k1, tc, hbe, rfl⟩ := ptr_shape hv
          have hM := rowAt_some hrow
          obtain ⟨rfl, htc, arr, E, hheap, hsz, hks, hcont⟩ := RowR.at (hS.blk n _ hM) hbe
          have hidx : idx < xs.length := (List.getElem?_eq_some_iff.1 hcs).1
          have hcl : cs.length = k1 := by rw [← getD_getElem hcs]; exact hks idx hidx
          obtain ⟨g1, g2⟩ := mapM_get .undef .undef h1
          have hcell : ∀ j, j < k1 → w.cell? ⟨b, o + idx * k1 + j, none⟩ = some (arr.getD (o + (idx * k1 + j)) undef) ∧ R w Γ (cs.getD j .undef) (arr.getD (o + (idx * k1 + j)) undef) := fun j hj => by
            obtain ⟨v, hv, hr⟩ := hcont idx j hidx hj
            rw [cell_eq hheap, show o + idx * k1 + j = o + (idx * k1 + j) by omega, Array.getD_eq_getD_getElem?, hv]
            refine ⟨rfl, ?_⟩
            have e : at2 xs idx j = cs.getD j .undef := by simp only [at2, getD_getElem hcs]
            rw [← e]; exact hr
          have e : o + (idx * k1 + off) = (o + idx * k1) + off := by omega
          rw [e]
          exact R.iptr (Γ := Env.lend Γ.F w) cs' off b (o + idx * k1) (fun j => arr.getD (o + (idx * k1 + j)) undef) (.inr (Array.getElem?_eq_some_iff.1 hheap).1) (fun j hj => (hcell j (by omega)).1) (fun j hj => key (g2 j (by omega)) (hcell j (by omega)).2)
        · simp at h
      · simp at h
    · simp at h
  · rename_i cs off
    simp only [Option.some.injEq] at h
    subst h
    obtain ⟨b, o, f, hb, hf, hr, rfl⟩ := iptr_shape hv
    refine R.iptr (Γ := Env.lend Γ.F w) cs off b o f ?_ hf (fun j hj => (hr j hj).mono (fun _ h => h) (fun b hb => .inr (show b < w.heap.size by omega)) (fun _ _ => rfl))
    rcases hb with h | h
    · exact .inl h
    · exact .inr (show b < w.heap.size by omega)
  · refine RVal.of_RV1 (mapV_sound (Γ' := Env.lend Γ.F w) (fun h hx => R.im (key h hx)) h ?_)
    cases v with
    | tup vs => simp [mapV] at h
    | _ => exact hv

theorem lendAll_sound (hS : Sim w Γ M) : ∀ {vs vs' : List V} {ys : List Value}, vs.mapM (lendV M) = some vs' → RAll w Γ vs ys → RAll w (Env.lend Γ.F w) vs' ys
  | [], vs', ys, h, hr => by rw [mapM_nil_some h]; cases ys with | nil => trivial | cons y ys => exact hr.elim
  | c :: cs, cs', ys, h, hr => by
    obtain ⟨b, bs, h1, h2, rfl⟩ := mapM_cons_some h
    cases ys with
    | nil => exact hr.elim
    | cons y ys => exact ⟨lendV_sound hS h1 hr.1, lendAll_sound hS h2 hr.2⟩

/-! ### What is given -/

theorem give1 (hS : Sim w Γ M) {n k g : Nat} {xs : List (List C)} (hrow : rowAt M n = some (k, g, xs)) :
    Sim w { Γ with F := fun b => Γ.F b ∨ OwnedBy Γ M n b } (M.set n (some (.dead g))) ∧ Ext All w Γ M w { Γ with F := fun b => Γ.F b ∨ OwnedBy Γ M n b } (M.set n (some (.dead g))) := by
  have hM := rowAt_some hrow
  have hn : n < M.length := (List.getElem?_eq_some_iff.1 (rowAt_get hrow)).1
  have hown : ∀ m b, OwnedBy { Γ with F := fun b => Γ.F b ∨ OwnedBy Γ M n b } (M.set n (some (.dead g))) m b → m ≠ n ∧ OwnedBy Γ M m b := by
    rintro m b ⟨B, o, k, tc, h1, h2, h3⟩
    by_cases e : n = m
    · subst e
      rw [getD_set_same hn] at h1
      injection h1 with h1; subst h1; cases h2
    · rw [getD_set_other e] at h1
      exact ⟨fun h => e h.symm, B, o, k, tc, h1, h2, h3⟩
  have he : Ext All w Γ M w { Γ with F := fun b => Γ.F b ∨ OwnedBy Γ M n b } (M.set n (some (.dead g))) := by
    refine ⟨rfl, rfl, rfl, Nat.le_refl _, rfl, fun b h => .inl h, fun b h => ?_, fun b h => ?_, fun _ _ _ => rfl, fun m _ B hB => ⟨?_, fun _ _ => rfl⟩⟩
    · rcases h with h | h
      · exact .inl h
      · exact .inr (.inl h.owned)
    · obtain ⟨m, hm⟩ := h.by'
      exact .inl (hown m b hm).2.owned
    · by_cases e : n = m
      · subst e
        rw [hM] at hB; injection hB with hB; subst hB
        exact ⟨_, getD_set_same hn _, fun e => (by cases e), Nat.le_refl _⟩
      · exact ⟨B, by rw [getD_set_other e]; exact hB, Later.refl _⟩
  refine ⟨⟨fun m B hB => ?_, fun m m' B B' b o k tc o' k' tc' h1 h2 h3 h4 h5 h6 => ?_, fun m g' h => by rw [List.length_set]; exact hS.bound m g' h, fun m hB g' => ?_, fun m B hB g' hg' => ?_, hS.base, fun b h => ?_⟩, he⟩
  · by_cases e : n = m
    · subst e
      rw [getD_set_same hn] at hB
      injection hB with hB; subst hB; trivial
    · rw [getD_set_other e] at hB
      refine BlkR.mono hS he all hB (fun _ _ => rfl) (fun b hb => ?_) (hS.blk m B hB)
      rintro (h | h)
      · exact (hb.lt hS).2.2 h
      · exact e (h.inj hS hb)
  · obtain ⟨_, k1⟩ := hown m b ⟨B, o, k, tc, h1, h3, h5⟩
    obtain ⟨_, k2⟩ := hown m' b ⟨B', o', k', tc', h2, h4, h6⟩
    exact k1.inj hS k2
  · by_cases e : n = m
    · subst e
      rw [getD_set_same hn] at hB; cases hB
    · rw [getD_set_other e] at hB
      exact hS.holes m hB g'
  · by_cases e : n = m
    · subst e
      rw [getD_set_same hn] at hB
      injection hB with hB; subst hB
      exact hS.gens n _ hM g' hg'
    · rw [getD_set_other e] at hB
      exact hS.gens m B hB g' hg'
  · rcases h with h | h
    · exact hS.Fb b h
    · exact (h.lt hS).1

/-- Given: for good. -/
abbrev Cold (w : World) (F : Nat → Prop) (c : C) (x : Value) : Prop := RI w F (fun _ => False) false c x

def ColdL (w : World) (F : Nat → Prop) : List C → List Value → Prop
  | [], [] => True
  | c :: cs, y :: ys => Cold w F c y ∧ ColdL w F cs ys
  | _, _ => False

theorem ColdL.mono {F F' : Nat → Prop} (hF : ∀ b, F b → F' b) : ∀ {cs : List C} {ys : List Value}, ColdL w F cs ys → ColdL w F' cs ys
  | [], [], _ => trivial
  | _ :: _, _ :: _, h => ⟨h.1.cold hF rfl, ColdL.mono hF h.2⟩
  | [], _ :: _, h => h
  | _ :: _, [], h => h

theorem Cold.R {F : Nat → Prop} {Γ : Env} (hF : ∀ b, F b → Γ.F b) {c : C} {x : Value} (h : Cold w F c x) : R w Γ c x := .im (h.cold hF rfl).up

theorem ColdL.RL {F : Nat → Prop} {Γ : Env} (hF : ∀ b, F b → Γ.F b) : ∀ {cs : List C} {ys : List Value}, ColdL w F cs ys → RL w Γ cs ys
  | [], [], _ => trivial
  | _ :: _, _ :: _, h => ⟨h.1.R hF, ColdL.RL hF h.2⟩
  | [], _ :: _, h => h
  | _ :: _, [], h => h

def ColdV (w : World) (F : Nat → Prop) : V → Value → Prop
  | .c c, x => Cold w F c x
  | .agg cs, x => ∃ ys : List Value, x = .agg ys.toArray ∧ ColdL w F cs ys
  | _, _ => False

theorem ColdV.mono {F F' : Nat → Prop} (hF : ∀ b, F b → F' b) {v : V} {x : Value} (h : ColdV w F v x) : ColdV w F' v x := by
  cases v with
  | c c => exact RI.cold hF h rfl
  | agg cs => obtain ⟨ys, e, h⟩ := h; exact ⟨ys, e, h.mono hF⟩
  | _ => exact h

theorem ColdV.RVal {F : Nat → Prop} {Γ : Env} (hF : ∀ b, F b → Γ.F b) {v : V} {x : Value} (h : ColdV w F v x) : RVal w Γ v x := by
  cases v with
  | c c => exact Cold.R hF h
  | agg cs => obtain ⟨ys, e, h⟩ := h; exact ⟨ys, e, h.RL hF⟩
  | _ => exact h.elim

theorem giveC_sound (hS : Sim w Γ M) {c c' : C} {x : Value} {M' : Mem} (h : giveC M c = some (c', M')) (hx : R w Γ c x) : ∃ Γ', Sim w Γ' M' ∧ Ext All w Γ M w Γ' M' ∧ Cold w Γ'.F c' x := by
  unfold giveC at h
  split at h
  · rename_i n g k off len
    split at h
    · rename_i hf
      simp only [Option.some.injEq, Prod.mk.injEq] at h
      obtain ⟨rfl, rfl⟩ := h
      obtain ⟨k', xs, hrow⟩ := frz_own_row hf
      obtain ⟨h1, h2⟩ := give1 hS hrow
      refine ⟨_, h1, h2, ?_⟩
      exact frz_sound hS (fun b h => .inl h) (fun e => by cases e) (fun m b hm ho => by
        have : m = n := by simpa using hm
        subst this
        exact .inl (.inr ho)) _ hf hx
    · simp at h
  · split at h
    · rename_i hf
      simp only [Option.some.injEq, Prod.mk.injEq] at h
      obtain ⟨rfl, rfl⟩ := h
      exact ⟨Γ, hS, Ext.refl _ _ _ _, frz_sound hS (fun b h => h) (fun e => by cases e) (fun m b hm ho => by cases hm) _ hf hx⟩
    · simp at h

theorem giveL_sound : ∀ {cs cs' : List C} {ys : List Value} {Γ : Env} {M M' : Mem}, Sim w Γ M → giveL M cs = some (cs', M') → RL w Γ cs ys → ∃ Γ', Sim w Γ' M' ∧ Ext All w Γ M w Γ' M' ∧ ColdL w Γ'.F cs' ys
  | [], cs', ys, Γ, M, M', hS, h, hr => by
    simp only [giveL, Option.some.injEq, Prod.mk.injEq] at h
    obtain ⟨rfl, rfl⟩ := h
    cases ys with
    | nil => exact ⟨Γ, hS, Ext.refl _ _ _ _, trivial⟩
    | cons y ys => exact hr.elim
  | c :: cs, cs', ys, Γ, M, M', hS, h, hr => by
    cases ys with
    | nil => exact hr.elim
    | cons y ys =>
      unfold giveL at h
      split at h
      · rename_i c1 M1 h1
        split at h
        · rename_i cs2 M2 h2
          simp only [Option.some.injEq, Prod.mk.injEq] at h
          obtain ⟨rfl, rfl⟩ := h
          obtain ⟨Γ1, s1, e1, r1⟩ := giveC_sound hS h1 hr.1
          obtain ⟨Γ2, s2, e2, r2⟩ := giveL_sound s1 h2 (hr.2.mono hS e1 all)
          exact ⟨Γ2, s2, e1.trans e2, r1.cold e2.F rfl, r2⟩
        · simp at h
      · simp at h

theorem giveV_sound (hS : Sim w Γ M) {v v' : V} {x : Value} {M' : Mem} (h : giveV M v = some (v', M')) (hx : RVal w Γ v x) : ∃ Γ', Sim w Γ' M' ∧ Ext All w Γ M w Γ' M' ∧ ColdV w Γ'.F v' x := by
  unfold giveV at h
  split at h
  · obtain ⟨⟨c', r⟩, h1, he⟩ := Option.map_eq_some_iff.1 h
    simp only [Prod.mk.injEq] at he
    obtain ⟨rfl, rfl⟩ := he
    exact giveC_sound hS h1 hx
  · obtain ⟨⟨c', r⟩, h1, he⟩ := Option.map_eq_some_iff.1 h
    simp only [Prod.mk.injEq] at he
    obtain ⟨rfl, rfl⟩ := he
    obtain ⟨ys, e, hr⟩ := hx
    obtain ⟨Γ', s1, e1, r1⟩ := giveL_sound hS h1 hr
    exact ⟨Γ', s1, e1, ys, e, r1⟩
  · simp at h

def ColdAll (w : World) (F : Nat → Prop) : List V → List Value → Prop
  | [], [] => True
  | v :: vs, y :: ys => ColdV w F v y ∧ ColdAll w F vs ys
  | _, _ => False

theorem ColdAll.RAll {F : Nat → Prop} {Γ : Env} (hF : ∀ b, F b → Γ.F b) : ∀ {vs : List V} {ys : List Value}, ColdAll w F vs ys → RAll w Γ vs ys
  | [], [], _ => trivial
  | _ :: _, _ :: _, h => ⟨h.1.RVal hF, ColdAll.RAll hF h.2⟩
  | [], _ :: _, h => h
  | _ :: _, [], h => h

theorem RAll.mono {N : Nat → Prop} {w w' : World} {Γ Γ' : Env} {M M' : Mem} (hS : Sim w Γ M) (he : Ext N w Γ M w' Γ' M') (hN : ∀ n B, M.getD n none = some B → N n) : ∀ {vs : List V} {ys : List Value}, RAll w Γ vs ys → RAll w' Γ' vs ys
  | [], [], _ => trivial
  | _ :: _, _ :: _, h => ⟨h.1.mono hS he hN, RAll.mono hS he hN h.2⟩
  | [], _ :: _, h => h
  | _ :: _, [], h => h

theorem giveVs_sound : ∀ {cs cs' : List V} {ys : List Value} {Γ : Env} {M M' : Mem}, Sim w Γ M → giveVs M cs = some (cs', M') → RAll w Γ cs ys → ∃ Γ', Sim w Γ' M' ∧ Ext All w Γ M w Γ' M' ∧ ColdAll w Γ'.F cs' ys
  | [], cs', ys, Γ, M, M', hS, h, hr => by
    simp only [giveVs, Option.some.injEq, Prod.mk.injEq] at h
    obtain ⟨rfl, rfl⟩ := h
    cases ys with
    | nil => exact ⟨Γ, hS, Ext.refl _ _ _ _, trivial⟩
    | cons y ys => exact hr.elim
  | c :: cs, cs', ys, Γ, M, M', hS, h, hr => by
    cases ys with
    | nil => exact hr.elim
    | cons y ys =>
      unfold giveVs at h
      split at h
      · rename_i c1 M1 h1
        split at h
        · rename_i cs2 M2 h2
          simp only [Option.some.injEq, Prod.mk.injEq] at h
          obtain ⟨rfl, rfl⟩ := h
          obtain ⟨Γ1, s1, e1, r1⟩ := giveV_sound hS h1 hr.1
          obtain ⟨Γ2, s2, e2, r2⟩ := giveVs_sound s1 h2 (hr.2.mono hS e1 all)
          exact ⟨Γ2, s2, e1.trans e2, r1.mono e2.F, r2⟩
        · simp at h
      · simp at h

end
end Go.Proofs.Ytopcnhojkfeafaa.Am
