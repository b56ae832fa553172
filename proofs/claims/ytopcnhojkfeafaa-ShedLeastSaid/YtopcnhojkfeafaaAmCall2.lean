/- AM: calls: what is handed back, out of the memory of the one called, into the caller's. -/
import Derived.Test.YtopcnhojkfeafaaAmCall
set_option linter.unusedSimpArgs false
set_option linter.unusedVariables false
namespace Go.Proofs.Ytopcnhojkfeafaa.Am
open Go.RowKit

section
variable {P : Program} {w : World} {Γ : Env} {M : Mem}

/-- A cell that is handed back; the blocks that go with it. -/
inductive XC (w : World) (F : Nat → Prop) : C → Value → List Nat → Prop
  | im {c : C} {x : Value} (h : Cold w F c x) : XC w F c x []
  | nil (k : Nat) : XC w F (.fresh k []) (.slice none 0 0) []
  | at (k : Nat) (xs : List (List C)) (b o cap : Nat) (arr : Array Value) (E : TypeId) (A : Option Addr) (heap : w.heap[b]? = some (.cells arr E (0, 0))) (hs : arr.size = o + cap * k) (hl : xs.length ≤ cap) (hA : cap ≠ 0 → A = some ⟨b, o, none⟩)
      (hk : ∀ i, i < xs.length → (xs.getD i []).length = k) (hr : ∀ i j, i < xs.length → j < k → ∃ v, arr[o + (i * k + j)]? = some v ∧ Cold w F (at2 xs i j) v) : XC w F (.fresh k xs) (.slice A xs.length cap) [b]

def XL (w : World) (F : Nat → Prop) : List C → List Value → List Nat → Prop
  | [], [], bs => bs = []
  | c :: cs, y :: ys, bs => ∃ b1 b2, bs = b1 ++ b2 ∧ XC w F c y b1 ∧ XL w F cs ys b2
  | _, _, _ => False

def XP (w : World) (F : Nat → Prop) (c : C) (x : Value) (bs : List Nat) : Prop :=
  XC w F c x bs ∨ ∃ cs b o tc arr E ys b2, c = .fptr cs ∧ x = .pointer (some ⟨b, o, none⟩) ∧ w.heap[b]? = some (.cells arr E (0, 0)) ∧ arr.size = o + tc * cs.length ∧ 1 ≤ tc ∧ XL w F cs ys b2 ∧ (∀ j, j < cs.length → arr[o + j]? = some (ys.getD j undef)) ∧ bs = b :: b2

def XV1 (w : World) (F : Nat → Prop) : V → Value → List Nat → Prop
  | .c c, x, bs => XP w F c x bs
  | .agg cs, x, bs => ∃ ys : List Value, x = .agg ys.toArray ∧ XL w F cs ys bs
  | _, _, _ => False

def XVs (w : World) (F : Nat → Prop) : List V → List Value → List Nat → Prop
  | [], [], bs => bs = []
  | v :: vs, y :: ys, bs => ∃ b1 b2, bs = b1 ++ b2 ∧ XV1 w F v y b1 ∧ XVs w F vs ys b2
  | _, _, _ => False

def XV (w : World) (F : Nat → Prop) : V → Value → List Nat → Prop
  | .tup vs, x, bs => ∃ ys : List Value, x = .tuple ys.toArray ∧ XVs w F vs ys bs
  | v, x, bs => XV1 w F v x bs

theorem XC.mono {F F' : Nat → Prop} (hF : ∀ b, F b → F' b) {c : C} {x : Value} {bs : List Nat} (h : XC w F c x bs) : XC w F' c x bs := by
  cases h with
  | im h => exact .im (h.cold hF rfl)
  | nil k => exact .nil k
  | «at» k xs b o cap arr E A heap hs hl hA hk hr =>
    exact .at k xs b o cap arr E A heap hs hl hA hk (fun i j hi hj => let ⟨v, h1, h2⟩ := hr i j hi hj; ⟨v, h1, h2.cold hF rfl⟩)

theorem XL.mono {F F' : Nat → Prop} (hF : ∀ b, F b → F' b) : ∀ {cs : List C} {ys : List Value} {bs : List Nat}, XL w F cs ys bs → XL w F' cs ys bs
  | [], [], _, h => h
  | _ :: _, _ :: _, _, ⟨b1, b2, e, h1, h2⟩ => ⟨b1, b2, e, h1.mono hF, XL.mono hF h2⟩
  | [], _ :: _, _, h => h
  | _ :: _, [], _, h => h

theorem XL.length {F : Nat → Prop} : ∀ {cs : List C} {ys : List Value} {bs : List Nat}, XL w F cs ys bs → cs.length = ys.length
  | [], [], _, _ => rfl
  | _ :: _, _ :: _, _, ⟨_, _, _, _, h⟩ => by simp only [List.length_cons]; rw [XL.length h]
  | [], _ :: _, _, h => h.elim
  | _ :: _, [], _, h => h.elim

theorem XP.mono {F F' : Nat → Prop} (hF : ∀ b, F b → F' b) {c : C} {x : Value} {bs : List Nat} (h : XP w F c x bs) : XP w F' c x bs := by
  rcases h with h | ⟨cs, b, o, tc, arr, E, ys, b2, h1, h2, h3, h4, h5, h6, h7, h8⟩
  · exact .inl (h.mono hF)
  · exact .inr ⟨cs, b, o, tc, arr, E, ys, b2, h1, h2, h3, h4, h5, h6.mono hF, h7, h8⟩

theorem XV1.mono {F F' : Nat → Prop} (hF : ∀ b, F b → F' b) {v : V} {x : Value} {bs : List Nat} (h : XV1 w F v x bs) : XV1 w F' v x bs := by
  cases v with
  | c c => exact XP.mono hF h
  | agg cs => obtain ⟨ys, e, h⟩ := h; exact ⟨ys, e, h.mono hF⟩
  | _ => exact h

theorem XVs.mono {F F' : Nat → Prop} (hF : ∀ b, F b → F' b) : ∀ {cs : List V} {ys : List Value} {bs : List Nat}, XVs w F cs ys bs → XVs w F' cs ys bs
  | [], [], _, h => h
  | _ :: _, _ :: _, _, ⟨b1, b2, e, h1, h2⟩ => ⟨b1, b2, e, h1.mono hF, XVs.mono hF h2⟩
  | [], _ :: _, _, h => h
  | _ :: _, [], _, h => h

theorem XV.mono {F F' : Nat → Prop} (hF : ∀ b, F b → F' b) {v : V} {x : Value} {bs : List Nat} (h : XV w F v x bs) : XV w F' v x bs := by
  cases v with
  | tup vs => obtain ⟨ys, e, h⟩ := h; exact ⟨ys, e, h.mono hF⟩
  | c c => exact XV1.mono hF (v := .c c) h
  | agg cs => exact XV1.mono hF (v := .agg cs) h
  | _ => exact h

/-! ### Out of the memory -/

/-- What stays as it is once some places are handed back. -/
def Left (Γ : Env) (M : Mem) (tops : List Nat) (b : Nat) : Prop := Γ.F b ∨ ∃ n, n ∉ tops ∧ OwnedBy Γ M n b

/-- The blocks that go are those of the places that are handed back, each but once. -/
def Goes (Γ : Env) (M : Mem) (ns bs : List Nat) : Prop := (∀ b ∈ bs, ∃ n ∈ ns, OwnedBy Γ M n b) ∧ bs.Nodup

theorem Goes.nil (ns : List Nat) : Goes Γ M ns [] := ⟨fun b h => (by cases h), List.nodup_nil⟩

theorem Goes.append (hS : Sim w Γ M) {n1 n2 b1 b2 : List Nat} (h : Goes Γ M n1 b1) (k : Goes Γ M n2 b2) (hd : (n1 ++ n2).Nodup) : Goes Γ M (n1 ++ n2) (b1 ++ b2) := by
  refine ⟨fun b hb => ?_, ?_⟩
  · rcases List.mem_append.1 hb with hb | hb
    · obtain ⟨n, h1, h2⟩ := h.1 b hb
      exact ⟨n, List.mem_append.2 (.inl h1), h2⟩
    · obtain ⟨n, h1, h2⟩ := k.1 b hb
      exact ⟨n, List.mem_append.2 (.inr h1), h2⟩
  · rw [List.nodup_append]
    refine ⟨h.2, k.2, fun b hb b' hb' e => ?_⟩
    subst e
    obtain ⟨n, h1, h2⟩ := h.1 b hb
    obtain ⟨m, h3, h4⟩ := k.1 b hb'
    have := h2.inj hS h4
    subst this
    exact (List.nodup_append.1 hd).2.2 n h1 n h3 rfl

theorem left_ok (hS : Sim w Γ M) {tops : List Nat} {d : Nat} {c c' : C} {x : Value} (h : frz false (fun n => !tops.contains n) M d c = some c') (hx : R w Γ c x) : Cold w (Left Γ M tops) c' x :=
  frz_sound hS (fun b h => .inl h) (fun e => by cases e) (fun n b hn ho => .inl (.inr ⟨n, by simpa using hn, ho⟩)) _ h hx

theorem expC_sound (hS : Sim w Γ M) {tops : List Nat} {c c' : C} {x : Value} (h : expC M tops c = some c') (hx : R w Γ c x) : ∃ bs, XC w (Left Γ M tops) c' x bs ∧ Goes Γ M (topsC c) bs := by
  unfold expC at h
  split at h
  · rename_i n g k' off len
    split at h
    · rename_i k g' xs hrow
      split at h
      · rename_i hc
        obtain ⟨rfl, rfl, hle⟩ := hc
        obtain ⟨ys, hm, rfl⟩ := Option.map_eq_some_iff.1 h
        obtain ⟨hl, hg⟩ := mapM_rows hm
        have hzl : ((xs.drop off).take len).length = len := by simp; omega
        have hM := rowAt_some hrow
        cases hx with
        | im h => cases h
        | ownN n g k hbe =>
          have : ys = [] := List.eq_nil_of_length_eq_zero (by rw [hl, hzl])
          subst this
          exact ⟨[], .nil _, .nil _⟩
        | own n g off len b o k2 tc A cap hbe hcp hlc hA =>
          obtain ⟨_, htc, arr, E, hheap, hsz, hks, hcont⟩ := RowR.at (hS.blk n _ hM) hbe
          have hyl : ys.length = len := by rw [hl, hzl]
          have hz : ∀ i, i < len → ((xs.drop off).take len).getD i [] = xs.getD (off + i) [] := fun i hi => by
            simp [List.getD_eq_getElem?_getD, List.getElem?_take, hi]
          have hz2 : ∀ i j, i < len → at2 ((xs.drop off).take len) i j = at2 xs (off + i) j := fun i j hi => by
            simp only [at2, hz i hi]
          have hx := XC.at (w := w) (F := Left Γ M tops) k ys b (o + off * k) cap arr E A hheap (by rw [← hcp, Nat.add_mul] at hsz; omega) (by omega) hA (fun i hi => by
              rw [(hg i (by omega)).1, hz i (by omega)]
              exact hks _ (by omega)) (fun i j hi hj => by
              obtain ⟨v, hv, hr⟩ := hcont (off + i) j (by omega) hj
              refine ⟨v, by rw [← hv, Nat.add_mul]; congr 1; omega, ?_⟩
              have h1 := (hg i (by omega)).2 j (by rw [hz i (by omega), hks _ (by omega)]; exact hj)
              rw [hz2 i j (by omega)] at h1
              exact left_ok hS h1 hr)
          rw [hyl] at hx
          refine ⟨[b], hx, fun b' hb' => ⟨n, by simp [topsC], ?_⟩, by simp⟩
          have : b' = b := by simpa using hb'
          subst this
          exact ⟨_, _, _, _, hM, rfl, hbe⟩
      · simp at h
    · simp at h
  · simp at h
  · simp at h
  · simp at h
  · rename_i c0 h1 h2 h3 h4
    refine ⟨[], .im ?_, .nil _⟩
    exact frz_sound hS (fun b h => .inl h) (fun e => by cases e) (fun n b hn ho => by cases hn) _ h hx

theorem expL_sound (hS : Sim w Γ M) {tops : List Nat} : ∀ {cs cs' : List C} {ys : List Value}, cs.mapM (expC M tops) = some cs' → RL w Γ cs ys → (cs.flatMap topsC).Nodup → ∃ bs, XL w (Left Γ M tops) cs' ys bs ∧ Goes Γ M (cs.flatMap topsC) bs
  | [], cs', ys, h, hr, _ => by
    rw [mapM_nil_some h]
    cases ys with
    | nil => exact ⟨[], rfl, .nil _⟩
    | cons y ys => exact hr.elim
  | c :: cs, cs', ys, h, hr, hd => by
    obtain ⟨b, bs, h1, h2, rfl⟩ := mapM_cons_some h
    cases ys with
    | nil => exact hr.elim
    | cons y ys =>
      rw [List.flatMap_cons] at hd ⊢
      obtain ⟨b1, x1, g1⟩ := expC_sound hS h1 hr.1
      obtain ⟨b2, x2, g2⟩ := expL_sound hS h2 hr.2 (List.nodup_append.1 hd).2.1
      exact ⟨b1 ++ b2, ⟨b1, b2, rfl, x1, x2⟩, g1.append hS g2 hd⟩

theorem RL.of_row {n k g idx b o tc : Nat} {xs : List (List C)} {arr : Array Value} (hcont : ∀ j, j < k → ∃ v, arr[o + j]? = some v ∧ R w Γ (at2 xs idx j) v) (hk : (xs.getD idx []).length = k) :
    RL w Γ (xs.getD idx []) ((List.range k).map fun j => arr.getD (o + j) undef) := by
  refine RL.mk (by rw [hk]; simp) (fun j hj => ?_)
  rw [hk] at hj
  obtain ⟨v, h1, h2⟩ := hcont j hj
  have : ((List.range k).map fun j => arr.getD (o + j) undef).getD j undef = v := by
    simp [List.getD_eq_getElem?_getD, hj, Array.getD_eq_getD_getElem?, h1]
  rw [this]
  exact h2

theorem expP_sound (hS : Sim w Γ M) {tops : List Nat} {c c' : C} {x : Value} (h : expP M tops c = some c') (hx : R w Γ c x) (hd : (topsP M c).Nodup) : ∃ bs, XP w (Left Γ M tops) c' x bs ∧ Goes Γ M (topsP M c) bs := by
  unfold expP at h
  split at h
  · rename_i n g idx off
    split at h
    · rename_i k g' cs hrow
      split at h
      · rename_i hc
        obtain ⟨rfl, rfl, rfl⟩ := hc
        obtain ⟨cs', h1, rfl⟩ := Option.map_eq_some_iff.1 h
        have hM := rowAt_some hrow
        obtain ⟨b, o, k1, tc, hbe, rfl⟩ := ptr_shape (show RVal w Γ (.c (.ptr n g 0 0)) x from hx)
        obtain ⟨rfl, htc, arr, E, hheap, hsz, hks, hcont⟩ := RowR.at (hS.blk n _ hM) hbe
        have ht : topsP M (.ptr n g 0 0) = n :: cs.flatMap topsC := by simp [topsP, hrow]
        rw [ht] at hd ⊢
        have hcl : cs.length = k1 := by have := hks 0 (by simp); simpa using this
        have hRL := RL.of_row (w := w) (Γ := Γ) (n := n) (k := k1) (g := g) (idx := 0) (b := b) (o := o) (tc := tc) (xs := [cs]) (arr := arr) (fun j hj => by
          have := hcont 0 j (by simp) hj
          simpa using this) (by simpa using hcl)
        obtain ⟨b2, x2, g2⟩ := expL_sound hS h1 (show RL w Γ cs _ from hRL) (List.nodup_cons.1 hd).2
        have hl' := (mapM_get .undef .undef h1).1
        refine ⟨b :: b2, .inr ⟨cs', b, o, tc, arr, E, _, b2, rfl, by simp, hheap, by rw [hl', hcl]; exact hsz, by simpa using htc, x2, fun j hj => ?_, rfl⟩, ?_⟩
        · obtain ⟨v, hv, _⟩ := hcont 0 j (by simp) (by omega)
          have hv : arr[o + j]? = some v := by simpa using hv
          simp [List.getD_eq_getElem?_getD, show j < k1 by omega, Array.getD_eq_getD_getElem?, hv]
        · have hb : OwnedBy Γ M n b := ⟨_, _, _, _, hM, rfl, hbe⟩
          have hg1 : Goes Γ M [n] [b] := by
            refine ⟨fun b' hb' => ⟨n, by simp, ?_⟩, by simp⟩
            have : b' = b := by simpa using hb'
            subst this
            exact hb
          exact hg1.append hS g2 hd
      · simp at h
    · simp at h
  · rename_i c0 hne
    have ht : topsP M c = topsC c := by
      unfold topsP
      split
      · rename_i n g i o; exact absurd rfl (hne n g i o)
      · rfl
    rw [ht]
    obtain ⟨bs, h1, h2⟩ := expC_sound hS h hx
    exact ⟨bs, .inl h1, h2⟩

theorem expV1_sound (hS : Sim w Γ M) {tops : List Nat} {v v' : V} {x : Value} (h : expV1 M tops v = some v') (hx : RV1 w Γ v x) (hd : (topsV1 M v).Nodup) : ∃ bs, XV1 w (Left Γ M tops) v' x bs ∧ Goes Γ M (topsV1 M v) bs := by
  unfold expV1 at h
  split at h
  · obtain ⟨c', h1, rfl⟩ := Option.map_eq_some_iff.1 h
    exact expP_sound hS h1 hx hd
  · obtain ⟨cs', h1, rfl⟩ := Option.map_eq_some_iff.1 h
    obtain ⟨ys, e, hr⟩ := hx
    obtain ⟨bs, x1, g1⟩ := expL_sound hS h1 hr hd
    exact ⟨bs, ⟨ys, e, x1⟩, g1⟩
  · simp at h

theorem expVs_sound (hS : Sim w Γ M) {tops : List Nat} : ∀ {cs cs' : List V} {ys : List Value}, cs.mapM (expV1 M tops) = some cs' → RVs w Γ cs ys → (cs.flatMap (topsV1 M)).Nodup → ∃ bs, XVs w (Left Γ M tops) cs' ys bs ∧ Goes Γ M (cs.flatMap (topsV1 M)) bs
  | [], cs', ys, h, hr, _ => by
    rw [mapM_nil_some h]
    cases ys with
    | nil => exact ⟨[], rfl, .nil _⟩
    | cons y ys => exact hr.elim
  | c :: cs, cs', ys, h, hr, hd => by
    obtain ⟨b, bs, h1, h2, rfl⟩ := mapM_cons_some h
    cases ys with
    | nil => exact hr.elim
    | cons y ys =>
      rw [List.flatMap_cons] at hd ⊢
      obtain ⟨b1, x1, g1⟩ := expV1_sound hS h1 hr.1 (List.nodup_append.1 hd).1
      obtain ⟨b2, x2, g2⟩ := expVs_sound hS h2 hr.2 (List.nodup_append.1 hd).2.1
      exact ⟨b1 ++ b2, ⟨b1, b2, rfl, x1, x2⟩, g1.append hS g2 hd⟩

theorem nodupB_iff : ∀ {l : List Nat}, nodupB l = true → l.Nodup
  | [], _ => List.nodup_nil
  | n :: ns, h => by
    simp only [nodupB, Bool.and_eq_true, Bool.not_eq_true'] at h
    refine List.nodup_cons.2 ⟨fun e => ?_, nodupB_iff h.2⟩
    have := h.1
    simp [e] at this

theorem expV_sound (hS : Sim w Γ M) {v v' : V} {x : Value} (hd : nodupB (topsV M v) = true) (h : expV M (topsV M v) v = some v') (hx : RVal w Γ v x) : ∃ bs, XV w (Left Γ M (topsV M v)) v' x bs ∧ Goes Γ M (topsV M v) bs := by
  have hd := nodupB_iff hd
  unfold expV at h
  split at h
  · obtain ⟨vs', h1, rfl⟩ := Option.map_eq_some_iff.1 h
    obtain ⟨ys, e, hr⟩ := hx
    obtain ⟨bs, x1, g1⟩ := expVs_sound hS h1 hr hd
    exact ⟨bs, ⟨ys, e, x1⟩, g1⟩
  · rename_i v0 hne
    have ht : topsV M v = topsV1 M v := by
      clear h hd
      cases v with
      | tup vs => exact absurd rfl (hne vs)
      | _ => rfl
    rw [ht] at h hd ⊢
    have hx' : RV1 w Γ v x := by
      cases v with
      | tup vs => exact absurd rfl (hne vs)
      | _ => exact hx
    obtain ⟨bs, h1, h2⟩ := expV1_sound hS h hx' hd
    refine ⟨bs, ?_, h2⟩
    cases v' with
    | tup vs => exact h1.elim
    | _ => exact h1

/-! ### Into the caller's memory -/

/-- One's blocks lie where the other's do. -/
structure Grows (Γ Γ' : Env) : Prop where
  F : Γ'.F = Γ.F
  base : Γ'.base = Γ.base
  be : ∀ n g, Γ.be n g ≠ .unset → Γ'.be n g = Γ.be n g

theorem Grows.refl (Γ : Env) : Grows Γ Γ := ⟨rfl, rfl, fun _ _ _ => rfl⟩
theorem Grows.trans {Γ1 Γ2 Γ3 : Env} (h : Grows Γ1 Γ2) (k : Grows Γ2 Γ3) : Grows Γ1 Γ3 :=
  ⟨k.F.trans h.F, k.base.trans h.base, fun n g hu => by
    have e := h.be n g hu
    rw [k.be n g (by rw [e]; exact hu), e]⟩

theorem R.grows {Γ' : Env} (hG : Grows Γ Γ') {c : C} {x : Value} (h : R w Γ c x) : R w Γ' c x := by
  have hbe : ∀ n g X, Γ.be n g = X → X ≠ .unset → Γ'.be n g = X := fun n g X hX hu => by
    rw [hG.be n g (by rw [hX]; exact hu), hX]
  cases h with
  | im h => refine .im ?_; rw [hG.F, hG.base]; exact h
  | ownN n g k h => exact .ownN n g k (hbe _ _ _ h (by simp))
  | own n g off len b o k tc A cap h hc hl hA => exact .own n g off len b o k tc A cap (hbe _ _ _ h (by simp)) hc hl hA
  | ptr n g idx off b o k tc h => exact .ptr n g idx off b o k tc (hbe _ _ _ h (by simp))
  | iptr cs off b o f hb hf hr =>
    refine .iptr cs off b o f ?_ hf ?_
    · rw [hG.F, hG.base]; exact hb
    · rw [hG.F, hG.base]; exact hr
  | mref n g b h => exact .mref n g b (hbe _ _ _ h (by simp))

theorem RL.grows {Γ' : Env} (hG : Grows Γ Γ') : ∀ {cs : List C} {ys : List Value}, RL w Γ cs ys → RL w Γ' cs ys
  | [], [], _ => trivial
  | _ :: _, _ :: _, h => ⟨h.1.grows hG, RL.grows hG h.2⟩
  | [], _ :: _, h => h
  | _ :: _, [], h => h

theorem RV1.grows {Γ' : Env} (hG : Grows Γ Γ') {v : V} {x : Value} (h : RV1 w Γ v x) : RV1 w Γ' v x := by
  cases v with
  | c c => exact R.grows hG h
  | agg cs => obtain ⟨ys, e, h⟩ := h; exact ⟨ys, e, h.grows hG⟩
  | _ => exact h

theorem EntR.grows {Γ' : Env} (hG : Grows Γ Γ') : ∀ {es : List (C × V)} {ms : List MapEntry}, EntR w Γ es ms → EntR w Γ' es ms
  | [], [], _ => trivial
  | (_, _) :: _, _ :: _, h => ⟨h.1.grows hG, RV1.grows hG h.2.1, EntR.grows hG h.2.2⟩
  | [], _ :: _, h => h
  | (_, _) :: _, [], h => h

theorem BlkR.grows {Γ' : Env} (hG : Grows Γ Γ') {n : Nat} {B : Blk} (h : BlkR w Γ n B) : BlkR w Γ' n B := by
  have hbe : ∀ X, Γ.be n (genB B) = X → X ≠ .unset → Γ'.be n (genB B) = X := fun X hX hu => by
    rw [hG.be n _ (by rw [hX]; exact hu), hX]
  cases B with
  | row k g xs =>
    rcases h with ⟨h1, h2⟩ | ⟨b, o, tc, arr, E, h1, h2, h3, h4, h5, h6, h7, h8⟩
    · exact .inl ⟨hbe _ h1 (by simp), h2⟩
    · refine .inr ⟨b, o, tc, arr, E, hbe _ h1 (by simp), by rw [hG.base]; exact h2, by rw [hG.F]; exact h3, h4, h5, h6, h7, fun i j hi hj => ?_⟩
      obtain ⟨v, hv, hr⟩ := h8 i j hi hj
      exact ⟨v, hv, hr.grows hG⟩
  | map g es =>
    obtain ⟨b, ents, clock, h1, h2, h3, h4, h5⟩ := h
    exact ⟨b, ents, clock, hbe _ h1 (by simp), by rw [hG.base]; exact h2, by rw [hG.F]; exact h3, h4, h5.grows hG⟩
  | dead g => trivial
  | hid => trivial

theorem grows_put (hS : Sim w Γ M) {n : Nat} (hn : Site M n) (i : BI) : Grows Γ (Γ.put n (genAt M n) i) := by
  refine ⟨rfl, rfl, fun n' g' hu => Env.put_other _ _ ?_⟩
  rintro ⟨rfl, rfl⟩
  exact hu (fresh_gen hS hn.2 _ (Nat.le_refl _))

/-- The caller's memory, with some blocks still to be laid in. -/
structure Imp (w0 : World) (Γ0 : Env) (M0 : Mem) (w : World) (Γ : Env) (M : Mem) (bs : List Nat) : Prop where
  sim : Sim w Γ M
  ext : Ext All w0 Γ0 M0 w Γ M
  todo : ∀ b ∈ bs, w0.heap.size ≤ b ∧ b < w.heap.size ∧ ¬ Γ.F b ∧ ¬ Owned Γ M b

theorem adopt {w0 : World} {Γ0 : Env} {M0 : Mem} {bs : List Nat} {i : BI} {ns : List Nat} {n : Nat} {B : Blk} (h0 : Γ0.base ≤ w0.heap.size) (hI : Imp w0 Γ0 M0 w Γ M (ns ++ bs)) (hns : ∀ b o k tc, i = .at b o k tc → b ∈ ns) (hd : (ns ++ bs).Nodup) (hn : Site M n) (hBh : B ≠ .hid)
    (hB : genB B = genAt M n) (hblk : BlkR w (Γ.put n (genAt M n) i) n B) : Imp w0 Γ0 M0 w (Γ.put n (genAt M n) i) (M.set n (some B)) bs ∧ Grows Γ (Γ.put n (genAt M n) i) := by
  have hS := hI.sim
  have hG := grows_put hS hn i
  have hn0 := hn
  have hnh := hn.2
  replace hn := hn.1
  have hown : ∀ m b, OwnedBy (Γ.put n (genAt M n) i) (M.set n (some B)) m b → (m = n ∧ b ∈ ns) ∨ (m ≠ n ∧ OwnedBy Γ M m b) := by
    rintro m b ⟨B', o, k, tc, h1, h2, h3⟩
    by_cases e : n = m
    · subst e
      rw [getD_set_same hn] at h1
      injection h1 with h1; subst h1
      rw [hB, Env.put_same] at h3
      exact .inl ⟨rfl, hns _ _ _ _ h3⟩
    · rw [getD_set_other e] at h1
      rw [Env.put_other _ _ (fun h => e h.1.symm)] at h3
      exact .inr ⟨fun h => e h.symm, B', o, k, tc, h1, h2, h3⟩
  refine ⟨⟨⟨fun m B' hM => ?_, fun m m' B1 B2 b o k tc o' k' tc' h1 h2 h3 h4 h5 h6 => ?_, fun m g h => ?_, fun m hM g => ?_, fun m B' hM g hg => ?_, hS.base, hS.Fb⟩, ?_, fun b hb => ?_⟩, hG⟩
  · by_cases e : n = m
    · subst e
      rw [getD_set_same hn] at hM
      injection hM with hM; subst hM; exact hblk
    · rw [getD_set_other e] at hM
      exact (hS.blk m B' hM).grows hG
  · rcases hown m b ⟨B1, o, k, tc, h1, h3, h5⟩ with ⟨e1, b1⟩ | ⟨e1, o1⟩
    · rcases hown m' b ⟨B2, o', k', tc', h2, h4, h6⟩ with ⟨e2, b2⟩ | ⟨e2, o2⟩
      · rw [e1, e2]
      · exact absurd o2.owned (hI.todo b (List.mem_append.2 (.inl b1))).2.2.2
    · rcases hown m' b ⟨B2, o', k', tc', h2, h4, h6⟩ with ⟨e2, b2⟩ | ⟨e2, o2⟩
      · exact absurd o1.owned (hI.todo b (List.mem_append.2 (.inl b2))).2.2.2
      · exact o1.inj hS o2
  · rw [List.length_set]
    by_cases e : m = n ∧ g = genAt M n
    · rw [e.1]; exact hn
    · rw [Env.put_other _ _ e] at h
      exact hS.bound m g h
  · by_cases e : n = m
    · subst e
      rw [getD_set_same hn] at hM; cases hM
    · rw [getD_set_other e] at hM
      rw [Env.put_other _ _ (fun h => e h.1.symm)]
      exact hS.holes m hM g
  · by_cases e : n = m
    · subst e
      rw [getD_set_same hn] at hM
      injection hM with hM; subst hM
      have hg : genB B < g := by
        rcases Nat.lt_or_ge (genB B) g with c | c
        · exact c
        · exact absurd (Up.of c) hg
      rw [Env.put_other _ _ (fun h => by omega)]
      exact fresh_gen hS hnh _ (by omega)
    · rw [getD_set_other e] at hM
      rw [Env.put_other _ _ (fun h => e h.1.symm)]
      exact hS.gens m B' hM g hg
  · have he := hI.ext
    refine ⟨he.os, he.tape, he.output, he.size, he.base, he.F, he.Fnew, fun b hb => ?_, he.fr, fun m _ B0 hM0 => ?_⟩
    · obtain ⟨m, hm⟩ := hb.by'
      rcases hown m b hm with ⟨_, hb⟩ | ⟨_, hb⟩
      · exact .inr (hI.todo b (List.mem_append.2 (.inl hb))).1
      · exact he.own b hb.owned
    · obtain ⟨⟨B', h1, h2⟩, h3⟩ := he.stay m trivial B0 hM0
      by_cases e : n = m
      · subst e
        have hne : B' ≠ .hid := fun e => hnh (by rw [h1, e])
        refine ⟨⟨B, getD_set_same hn _, fun e => absurd (h2.1 e) hne, ?_⟩, fun g hg => ?_⟩
        · have := fresh_old B' h1; have := h2.2; omega
        · have := fresh_old B' h1
          have := (hg.later h2).le hne
          rw [Env.put_other _ _ (fun h => by omega)]
          exact h3 g hg
      · rw [getD_set_other e]
        refine ⟨⟨B', h1, h2⟩, fun g hg => ?_⟩
        rw [Env.put_other _ _ (fun h => e h.1.symm)]
        exact h3 g hg
  · obtain ⟨t1, t2, t3, t4⟩ := hI.todo b (List.mem_append.2 (.inr hb))
    refine ⟨t1, t2, t3, fun ho => ?_⟩
    obtain ⟨m, hm⟩ := ho.by'
    rcases hown m b hm with ⟨_, h⟩ | ⟨_, h⟩
    · exact (List.nodup_append.1 hd).2.2 b h b hb rfl
    · exact t4 h.owned

section imports
variable {w0 : World} {Γ0 : Env} {M0 : Mem} {F : Nat → Prop}

theorem impC_sound (h0 : Γ0.base ≤ w0.heap.size) {bs b1 : List Nat} {st st' : Nat} {c c' : C} {x : Value} {M' : Mem} (hI : Imp w0 Γ0 M0 w Γ M (b1 ++ bs)) (hd : (b1 ++ bs).Nodup) (hF : Γ.F = F) (h : impC M st c = some (c', M', st')) (hx : XC w F c x b1) :
    ∃ Γ', Imp w0 Γ0 M0 w Γ' M' bs ∧ Grows Γ Γ' ∧ R w Γ' c' x := by
  subst hF
  cases hx with
  | im hc =>
    unfold impC at h
    split at h
    · cases hc
    · simp only [Option.some.injEq, Prod.mk.injEq] at h
      obtain ⟨rfl, rfl, rfl⟩ := h
      exact ⟨Γ, hI, .refl _, Cold.R (fun _ h => h) hc⟩
  | nil k =>
    simp only [impC] at h
    obtain ⟨M1, h1, he⟩ := Option.map_eq_some_iff.1 h
    simp only [Prod.mk.injEq] at he
    obtain ⟨rfl, rfl, rfl⟩ := he
    obtain ⟨hn, rfl⟩ := setB_some h1
    obtain ⟨g1, g2⟩ := adopt (i := .nil) (B := .row k (genAt M st) []) h0 hI (fun b o k tc e => by cases e) hd hn (by simp) rfl (.inl ⟨Env.put_same _ _ _ _, rfl⟩)
    exact ⟨_, g1, g2, R.ownN _ _ _ (Env.put_same _ _ _ _)⟩
  | «at» k xs b o cap arr E A heap hs hl hA hk hr =>
    simp only [impC] at h
    obtain ⟨M1, h1, he⟩ := Option.map_eq_some_iff.1 h
    simp only [Prod.mk.injEq] at he
    obtain ⟨rfl, rfl, rfl⟩ := he
    obtain ⟨hn, rfl⟩ := setB_some h1
    obtain ⟨t1, t2, t3, t4⟩ := hI.todo b (by simp)
    have hb : Γ.base ≤ b := by rw [hI.ext.base]; omega
    obtain ⟨g1, g2⟩ := adopt (i := .at b o k cap) (B := .row k (genAt M st) xs) h0 hI (fun b o k tc e => by injection e with e; subst e; simp) hd hn (by simp) rfl
      (.inr ⟨b, o, cap, arr, E, Env.put_same _ _ _ _, hb, t3, hl, heap, hs, hk, fun i j hi hj => let ⟨v, e1, e2⟩ := hr i j hi hj; ⟨v, e1, Cold.R (fun _ h => h) e2⟩⟩)
    refine ⟨_, g1, g2, R.own _ _ 0 xs.length b o k cap A cap (Env.put_same _ _ _ _) (by omega) hl (fun h => by rw [hA h]; simp)⟩

theorem impL_sound (h0 : Γ0.base ≤ w0.heap.size) : ∀ {cs cs' : List C} {ys : List Value} {bs b1 : List Nat} {st st' : Nat} {Γ : Env} {M M' : Mem}, Imp w0 Γ0 M0 w Γ M (b1 ++ bs) → (b1 ++ bs).Nodup → Γ.F = F → impL M st cs = some (cs', M', st') → XL w F cs ys b1 →
    ∃ Γ', Imp w0 Γ0 M0 w Γ' M' bs ∧ Grows Γ Γ' ∧ RL w Γ' cs' ys
  | [], cs', ys, bs, b1, st, st', Γ, M, M', hI, hd, hF, h, hx => by
    simp only [impL, Option.some.injEq, Prod.mk.injEq] at h
    obtain ⟨rfl, rfl, rfl⟩ := h
    cases ys with
    | nil =>
      simp only [XL] at hx
      subst hx
      exact ⟨Γ, hI, .refl _, trivial⟩
    | cons y ys => exact hx.elim
  | c :: cs, cs', ys, bs, b1, st, st', Γ, M, M', hI, hd, hF, h, hx => by
    cases ys with
    | nil => exact hx.elim
    | cons y ys =>
      obtain ⟨a1, a2, rfl, x1, x2⟩ := hx
      unfold impL at h
      split at h
      · rename_i c1 M1 st1 h1
        split at h
        · rename_i cs2 r h2
          simp only [Option.some.injEq, Prod.mk.injEq] at h
          obtain ⟨rfl, rfl⟩ := h
          rw [List.append_assoc] at hI hd
          obtain ⟨Γ1, i1, g1, r1⟩ := impC_sound h0 hI hd hF h1 x1
          obtain ⟨Γ2, i2, g2, r2⟩ := impL_sound h0 i1 (List.nodup_append.1 hd).2.1 (g1.F.trans hF) h2 x2
          exact ⟨Γ2, i2, g1.trans g2, r1.grows g2, r2⟩
        · simp at h
      · simp at h

theorem impP_sound (h0 : Γ0.base ≤ w0.heap.size) {bs b1 : List Nat} {st st' : Nat} {c c' : C} {x : Value} {M' : Mem} (hI : Imp w0 Γ0 M0 w Γ M (b1 ++ bs)) (hd : (b1 ++ bs).Nodup) (hF : Γ.F = F) (h : impP M st c = some (c', M', st')) (hx : XP w F c x b1) :
    ∃ Γ', Imp w0 Γ0 M0 w Γ' M' bs ∧ Grows Γ Γ' ∧ R w Γ' c' x := by
  unfold impP at h
  split at h
  · rename_i cs
    split at h
    · rename_i cs' M1 st1 h1
      obtain ⟨M2, h2, he⟩ := Option.map_eq_some_iff.1 h
      simp only [Prod.mk.injEq] at he
      obtain ⟨rfl, rfl, rfl⟩ := he
      obtain ⟨hn, rfl⟩ := setB_some h2
      rcases hx with hx | ⟨cs0, b, o, tc, arr, E, ys, b2, e0, rfl, heap, hs, htc, hx, hcell, rfl⟩
      · cases hx with
        | im h => cases h
      · injection e0 with e0; subst e0
        have hp : (b2 ++ (b :: bs)).Perm (b :: b2 ++ bs) := List.perm_middle
        have hI' : Imp w0 Γ0 M0 w Γ M (b2 ++ (b :: bs)) := ⟨hI.sim, hI.ext, fun b' hb' => hI.todo b' (hp.mem_iff.1 hb')⟩
        have hd' : (b2 ++ (b :: bs)).Nodup := hp.nodup_iff.2 hd
        obtain ⟨Γ1, i1, g1, r1⟩ := impL_sound h0 hI' hd' hF h1 hx
        obtain ⟨t1, t2, t3, t4⟩ := i1.todo b (by simp)
        have hb : Γ1.base ≤ b := by rw [i1.ext.base]; omega
        have hl := r1.length
        have hcl : cs'.length = cs.length := by
          have h3 := hx.length
          omega
        rw [← hcl] at hs hcell ⊢
        obtain ⟨k1, k2⟩ := adopt (ns := [b]) (bs := bs) (i := .at b o cs'.length tc) (B := .row cs'.length (genAt M1 st1) [cs']) h0 i1 (fun b o k tc e => by injection e with e; subst e; simp) (List.nodup_append.1 hd').2.1 hn (by simp) rfl
          (.inr ⟨b, o, tc, arr, E, Env.put_same _ _ _ _, hb, t3, by simpa using htc, heap, hs, fun i hi => by
            have : i = 0 := by simpa using hi
            subst this; rfl, fun i j hi hj => by
            have : i = 0 := by simpa using hi
            subst this
            refine ⟨ys.getD j undef, by simpa using hcell j hj, ?_⟩
            have := r1.get j hj
            exact R.grows (grows_put i1.sim hn _) (show R w Γ1 (at2 [cs'] 0 j) _ from this)⟩)
        refine ⟨_, k1, g1.trans k2, ?_⟩
        have := R.ptr (w := w) (Γ := Γ1.put st1 (genAt M1 st1) (.at b o cs'.length tc)) st1 (genAt M1 st1) 0 0 b o cs'.length tc (Env.put_same _ _ _ _)
        simpa using this
    · simp at h
  · rename_i c0 hne
    rcases hx with hx | ⟨cs0, b, o, tc, arr, E, ys, b2, e0, _⟩
    · exact impC_sound h0 hI hd hF h hx
    · exact absurd e0 (hne cs0)

theorem impV1_sound (h0 : Γ0.base ≤ w0.heap.size) {bs b1 : List Nat} {st st' : Nat} {v v' : V} {x : Value} {M' : Mem} (hI : Imp w0 Γ0 M0 w Γ M (b1 ++ bs)) (hd : (b1 ++ bs).Nodup) (hF : Γ.F = F) (h : impV1 M st v = some (v', M', st')) (hx : XV1 w F v x b1) :
    ∃ Γ', Imp w0 Γ0 M0 w Γ' M' bs ∧ Grows Γ Γ' ∧ RV1 w Γ' v' x := by
  unfold impV1 at h
  split at h
  · obtain ⟨⟨c', r⟩, h1, he⟩ := Option.map_eq_some_iff.1 h
    simp only [Prod.mk.injEq] at he
    obtain ⟨rfl, rfl⟩ := he
    exact impP_sound h0 hI hd hF h1 hx
  · obtain ⟨⟨c', r⟩, h1, he⟩ := Option.map_eq_some_iff.1 h
    simp only [Prod.mk.injEq] at he
    obtain ⟨rfl, rfl⟩ := he
    obtain ⟨ys, e, hx⟩ := hx
    obtain ⟨Γ', i1, g1, r1⟩ := impL_sound h0 hI hd hF h1 hx
    exact ⟨Γ', i1, g1, ys, e, r1⟩
  · cases v with
    | c c => rename_i h1 h2; exact absurd rfl (h1 c)
    | agg cs => rename_i h1 h2; exact absurd rfl (h2 cs)
    | _ => exact hx.elim

theorem impVs_sound (h0 : Γ0.base ≤ w0.heap.size) : ∀ {cs cs' : List V} {ys : List Value} {bs b1 : List Nat} {st st' : Nat} {Γ : Env} {M M' : Mem}, Imp w0 Γ0 M0 w Γ M (b1 ++ bs) → (b1 ++ bs).Nodup → Γ.F = F → impVs M st cs = some (cs', M', st') → XVs w F cs ys b1 →
    ∃ Γ', Imp w0 Γ0 M0 w Γ' M' bs ∧ Grows Γ Γ' ∧ RVs w Γ' cs' ys
  | [], cs', ys, bs, b1, st, st', Γ, M, M', hI, hd, hF, h, hx => by
    simp only [impVs, Option.some.injEq, Prod.mk.injEq] at h
    obtain ⟨rfl, rfl, rfl⟩ := h
    cases ys with
    | nil =>
      simp only [XVs] at hx
      subst hx
      exact ⟨Γ, hI, .refl _, trivial⟩
    | cons y ys => exact hx.elim
  | c :: cs, cs', ys, bs, b1, st, st', Γ, M, M', hI, hd, hF, h, hx => by
    cases ys with
    | nil => exact hx.elim
    | cons y ys =>
      obtain ⟨a1, a2, rfl, x1, x2⟩ := hx
      unfold impVs at h
      split at h
      · rename_i c1 M1 st1 h1
        split at h
        · rename_i cs2 r h2
          simp only [Option.some.injEq, Prod.mk.injEq] at h
          obtain ⟨rfl, rfl⟩ := h
          rw [List.append_assoc] at hI hd
          obtain ⟨Γ1, i1, g1, r1⟩ := impV1_sound h0 hI hd hF h1 x1
          obtain ⟨Γ2, i2, g2, r2⟩ := impVs_sound h0 i1 (List.nodup_append.1 hd).2.1 (g1.F.trans hF) h2 x2
          exact ⟨Γ2, i2, g1.trans g2, r1.grows g2, r2⟩
        · simp at h
      · simp at h

theorem impV_sound (h0 : Γ0.base ≤ w0.heap.size) {bs : List Nat} {st m : Nat} {v v' : V} {x : Value} {M' : Mem} (hI : Imp w0 Γ0 M0 w Γ M bs) (hd : bs.Nodup) (hF : Γ.F = F) (h : impV M st m v = some (v', M')) (hx : XV w F v x bs) :
    ∃ Γ', Imp w0 Γ0 M0 w Γ' M' [] ∧ RVal w Γ' v' x := by
  have hI' : Imp w0 Γ0 M0 w Γ M (bs ++ []) := by simpa using hI
  have hd' : (bs ++ []).Nodup := by simpa using hd
  unfold impV at h
  split at h
  · rename_i vs
    obtain ⟨ys, e, hx⟩ := hx
    split at h
    · rename_i h1
      split at h
      · simp only [Option.some.injEq, Prod.mk.injEq] at h
        obtain ⟨rfl, rfl⟩ := h
        obtain ⟨Γ', i1, g1, r1⟩ := impVs_sound h0 hI' hd' hF h1 hx
        exact ⟨Γ', i1, ys, e, r1⟩
      · simp at h
    · simp at h
  · rename_i v0 hne
    split at h
    · rename_i h1
      split at h
      · simp only [Option.some.injEq, Prod.mk.injEq] at h
        obtain ⟨rfl, rfl⟩ := h
        have hx' : XV1 w F v x bs := by
          cases v with
          | tup vs => exact absurd rfl (hne vs)
          | _ => exact hx
        obtain ⟨Γ', i1, g1, r1⟩ := impV1_sound h0 hI' hd' hF h1 hx'
        exact ⟨Γ', i1, RVal.of_RV1 r1⟩
      · simp at h
    · simp at h

end imports

end
end Go.Proofs.Ytopcnhojkfeafaa.Am
