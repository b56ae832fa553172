/- AM: what an instruction leaves of the memory: its length; the blocks that it has nothing to do with. -/
import Derived.Test.YtopcnhojkfeafaaAmDef
set_option linter.unusedSimpArgs false
set_option linter.unusedVariables false
namespace Go.Proofs.Ytopcnhojkfeafaa.Am

/-- A place with nothing, or with what is gone. -/
def Idle (M : Mem) (n : Nat) : Prop := M[n]? = some none ∨ (∃ g, M[n]? = some (some (.dead g))) ∨ M[n]? = some (some .hid)

/-- What is asked of a call that works in the caller's memory. -/
def HoldCl (A : Pg) (cl : Cl) : Prop := ∀ f vs M r M', A.md f = .state → cl f vs M = some (r, M') → M.length ≤ M'.length ∧ ∀ n, Idle M n → M'[n]? = M[n]?

theorem setB_get {M M' : Mem} {n : Nat} {B : Nat → Blk} (h : setB M n B = some M') : M'.length = M.length ∧ ∀ m, m ≠ n → M'[m]? = M[m]? := by
  unfold setB at h
  split at h
  · simp at h
  · simp only [Option.some.injEq] at h
    subst h
    exact ⟨by simp, fun m hm => by rw [List.getElem?_set]; rw [if_neg (fun e => hm e.symm)]⟩
  · simp at h

theorem set_get (M : Mem) (n : Nat) (B : Option Blk) : (M.set n B).length = M.length ∧ ∀ m, m ≠ n → (M.set n B)[m]? = M[m]? :=
  ⟨by simp, fun m hm => by rw [List.getElem?_set]; rw [if_neg (fun e => hm e.symm)]⟩

theorem rowAt_get {M : Mem} {n k g : Nat} {xs : List (List C)} (h : rowAt M n = some (k, g, xs)) : M[n]? = some (some (.row k g xs)) := by
  unfold rowAt at h
  split at h
  · rename_i k' g' xs' hM
    simp only [Option.some.injEq, Prod.mk.injEq] at h
    obtain ⟨rfl, rfl, rfl⟩ := h
    rw [List.getD_eq_getElem?_getD] at hM
    cases hq : M[n]? with
    | none => rw [hq] at hM; cases hM
    | some B => rw [hq] at hM; simp at hM; rw [hM]
  · simp at h

theorem mapAt_get {M : Mem} {n g : Nat} {es : List (C × V)} (h : mapAt M n = some (g, es)) : M[n]? = some (some (.map g es)) := by
  unfold mapAt at h
  split at h
  · rename_i hM
    simp only [Option.some.injEq, Prod.mk.injEq] at h
    obtain ⟨rfl, rfl⟩ := h
    rw [List.getD_eq_getElem?_getD] at hM
    cases hq : M[n]? with
    | none => rw [hq] at hM; cases hM
    | some B => rw [hq] at hM; simp at hM; rw [hM]
  · simp at h

theorem Idle.not_row {M : Mem} {n k g : Nat} {xs : List (List C)} (h : Idle M n) : rowAt M n ≠ some (k, g, xs) := by
  intro e
  have := rowAt_get e
  rcases h with h | ⟨g, h⟩ | h <;> rw [this] at h <;> cases h

theorem Idle.not_map {M : Mem} {n g : Nat} {es : List (C × V)} (h : Idle M n) : mapAt M n ≠ some (g, es) := by
  intro e
  have := mapAt_get e
  rcases h with h | ⟨g, h⟩ | h <;> rw [this] at h <;> cases h

/-- One memory is another but at some places, of which the other's idle ones are sites only. -/
structure Near (l : List Nat) (sites : Nat → Prop) (M M' : Mem) : Prop where
  len : M'.length = M.length
  out : ∀ n, n ∉ l → M'[n]? = M[n]?
  idle : ∀ n, Idle M n → ¬ sites n → M'[n]? = M[n]?

theorem Near.refl (l : List Nat) (sites : Nat → Prop) (M : Mem) : Near l sites M M := ⟨rfl, fun _ _ => rfl, fun _ _ _ => rfl⟩

theorem Near.setB {sites : Nat → Prop} {M M' : Mem} {n : Nat} {B : Nat → Blk} (h : setB M n B = some M') (hs : sites n) {l : List Nat} (hl : n ∈ l) : Near l sites M M' := by
  obtain ⟨h1, h2⟩ := setB_get h
  exact ⟨h1, fun m hm => h2 m (fun e => hm (e ▸ hl)), fun m _ hm => h2 m (fun e => hm (e ▸ hs))⟩

theorem Near.set {sites : Nat → Prop} {M : Mem} {n : Nat} {B : Option Blk} (hi : ¬ Idle M n) {l : List Nat} (hl : n ∈ l) : Near l sites M (M.set n B) :=
  ⟨(set_get M n B).1, fun m hm => (set_get M n B).2 m (fun e => hm (e ▸ hl)), fun m hm _ => (set_get M n B).2 m (fun e => hi (e ▸ hm))⟩

theorem Near.storeAt {sites : Nat → Prop} {M M' : Mem} {v : V} {cs : List C} (h : storeAt M v cs = some M') : Near (tgtV v) sites M M' := by
  unfold Am.storeAt at h
  split at h
  · split at h
    · rename_i hrow
      split at h
      · split at h
        · split at h
          · simp only [Option.some.injEq] at h
            subst h
            exact .set (fun hi => hi.not_row hrow) (by simp [tgtV])
          · simp at h
        · simp at h
      · simp at h
    · simp at h
  · simp at h

theorem Near.evApp {sites : Nat → Prop} {M M' : Mem} {st k : Nat} {s x v : V} (h : evApp M st k s x = some (v, M')) (hs : sites st) : Near (st :: tgtV s) sites M M' := by
  unfold Am.evApp at h
  split at h
  · simp at h
  · split at h
    · split at h
      · obtain ⟨M1, h1, he⟩ := Option.map_eq_some_iff.1 h
        simp only [Prod.mk.injEq] at he
        rw [← he.2]
        exact .setB h1 hs (by simp)
      · simp at h
    · split at h
      · rename_i hrow
        split at h
        · split at h
          · simp only [Option.some.injEq, Prod.mk.injEq] at h
            rw [← h.2]
            exact .set (fun hi => hi.not_row hrow) (by simp [tgtV])
          · split at h
            · simp only [Option.some.injEq, Prod.mk.injEq] at h
              rw [← h.2]
              exact .set (fun hi => hi.not_row hrow) (by simp [tgtV])
            · simp at h
        · simp at h
      · simp at h
    · simp at h

theorem Near.evCopy {sites : Nat → Prop} {M M' : Mem} {k : Nat} {s x v : V} (h : evCopy M k s x = some (v, M')) : Near (tgtV s) sites M M' := by
  unfold Am.evCopy at h
  split at h
  · split at h
    · rename_i hrow
      split at h
      · simp only [Option.some.injEq, Prod.mk.injEq] at h
        rw [← h.2]
        exact .set (fun hi => hi.not_row hrow) (by simp [tgtV])
      · simp at h
    · simp at h
  · simp at h

/-! ### What is handed back, laid in -/

/-- Between two places alone. -/
structure Laid (a b : Nat) (M M' : Mem) : Prop where
  le : a ≤ b
  len : M'.length = M.length
  out : ∀ n, n < a ∨ b ≤ n → M'[n]? = M[n]?

theorem Laid.refl (a : Nat) (M : Mem) : Laid a a M M := ⟨Nat.le_refl _, rfl, fun _ _ => rfl⟩

theorem Laid.trans {a b c : Nat} {M M1 M2 : Mem} (h : Laid a b M M1) (k : Laid b c M1 M2) : Laid a c M M2 :=
  ⟨Nat.le_trans h.le k.le, k.len.trans h.len, fun n hn => by
    have := h.le
    have := k.le
    rw [k.out n (by omega), h.out n (by omega)]⟩

theorem Laid.one {a : Nat} {M M' : Mem} {B : Nat → Blk} (h : setB M a B = some M') : Laid a (a + 1) M M' := by
  obtain ⟨h1, h2⟩ := setB_get h
  exact ⟨by omega, h1, fun n hn => h2 n (by omega)⟩

theorem Laid.impC {M M' : Mem} {st st' : Nat} {c c' : C} (h : impC M st c = some (c', M', st')) : Laid st st' M M' := by
  unfold Am.impC at h
  split at h
  · obtain ⟨M1, h1, he⟩ := Option.map_eq_some_iff.1 h
    simp only [Prod.mk.injEq] at he
    obtain ⟨_, rfl, rfl⟩ := he
    exact .one h1
  · simp only [Option.some.injEq, Prod.mk.injEq] at h
    obtain ⟨_, rfl, rfl⟩ := h
    exact .refl _ _

theorem Laid.impL : ∀ {cs cs' : List C} {M M' : Mem} {st st' : Nat}, impL M st cs = some (cs', M', st') → Laid st st' M M'
  | [], cs', M, M', st, st', h => by
    simp only [Am.impL, Option.some.injEq, Prod.mk.injEq] at h
    obtain ⟨_, rfl, rfl⟩ := h
    exact .refl _ _
  | c :: cs, cs', M, M', st, st', h => by
    unfold Am.impL at h
    split at h
    · rename_i c1 M1 st1 h1
      split at h
      · rename_i cs2 r h2
        simp only [Option.some.injEq, Prod.mk.injEq] at h
        obtain ⟨_, rfl⟩ := h
        exact (Laid.impC h1).trans (Laid.impL h2)
      · simp at h
    · simp at h

theorem Laid.impP {M M' : Mem} {st st' : Nat} {c c' : C} (h : impP M st c = some (c', M', st')) : Laid st st' M M' := by
  unfold Am.impP at h
  split at h
  · split at h
    · rename_i cs' M1 st1 h1
      obtain ⟨M2, h2, he⟩ := Option.map_eq_some_iff.1 h
      simp only [Prod.mk.injEq] at he
      obtain ⟨_, rfl, rfl⟩ := he
      exact (Laid.impL h1).trans (.one h2)
    · simp at h
  · exact Laid.impC h

theorem Laid.impV1 {M M' : Mem} {st st' : Nat} {v v' : V} (h : impV1 M st v = some (v', M', st')) : Laid st st' M M' := by
  unfold Am.impV1 at h
  split at h
  · obtain ⟨⟨c', r⟩, h1, he⟩ := Option.map_eq_some_iff.1 h
    simp only [Prod.mk.injEq] at he
    obtain ⟨_, rfl⟩ := he
    exact Laid.impP h1
  · obtain ⟨⟨c', r⟩, h1, he⟩ := Option.map_eq_some_iff.1 h
    simp only [Prod.mk.injEq] at he
    obtain ⟨_, rfl⟩ := he
    exact Laid.impL h1
  · simp only [Option.some.injEq, Prod.mk.injEq] at h
    obtain ⟨_, rfl, rfl⟩ := h
    exact .refl _ _

theorem Laid.impVs : ∀ {cs cs' : List V} {M M' : Mem} {st st' : Nat}, impVs M st cs = some (cs', M', st') → Laid st st' M M'
  | [], cs', M, M', st, st', h => by
    simp only [Am.impVs, Option.some.injEq, Prod.mk.injEq] at h
    obtain ⟨_, rfl, rfl⟩ := h
    exact .refl _ _
  | c :: cs, cs', M, M', st, st', h => by
    unfold Am.impVs at h
    split at h
    · rename_i c1 M1 st1 h1
      split at h
      · rename_i cs2 r h2
        simp only [Option.some.injEq, Prod.mk.injEq] at h
        obtain ⟨_, rfl⟩ := h
        exact (Laid.impV1 h1).trans (Laid.impVs h2)
      · simp at h
    · simp at h

theorem Laid.impV {M M' : Mem} {st m : Nat} {v v' : V} (h : impV M st m v = some (v', M')) : Laid st (st + m) M M' := by
  unfold Am.impV at h
  have up : ∀ {st'}, Laid st st' M M' → st' ≤ st + m → Laid st (st + m) M M' := fun h hl => ⟨by omega, h.len, fun n hn => h.out n (by omega)⟩
  split at h
  · split at h
    · rename_i h1
      split at h
      · rename_i hl
        simp only [Option.some.injEq, Prod.mk.injEq] at h
        obtain ⟨_, rfl⟩ := h
        exact up (Laid.impVs h1) hl
      · simp at h
    · simp at h
  · split at h
    · rename_i h1
      split at h
      · rename_i hl
        simp only [Option.some.injEq, Prod.mk.injEq] at h
        obtain ⟨_, rfl⟩ := h
        exact up (Laid.impV1 h1) hl
      · simp at h
    · simp at h

theorem Laid.near {a m : Nat} {M M' : Mem} (h : Laid a (a + m) M M') {sites : Nat → Prop} (hs : ∀ j, j < m → sites (a + j)) {l : List Nat} (hl : ∀ j, j < m → a + j ∈ l) : Near l sites M M' := by
  refine ⟨h.len, fun n hn => h.out n ?_, fun n _ hn => h.out n ?_⟩
  · rcases Nat.lt_or_ge n a with c | c
    · exact .inl c
    · rcases Nat.lt_or_ge n (a + m) with d | d
      · exact absurd (hl (n - a) (by omega)) (by rw [show a + (n - a) = n by omega]; exact hn)
      · exact .inr d
  · rcases Nat.lt_or_ge n a with c | c
    · exact .inl c
    · rcases Nat.lt_or_ge n (a + m) with d | d
      · exact absurd (hs (n - a) (by omega)) (by rw [show a + (n - a) = n by omega]; exact hn)
      · exact .inr d

/-! ### What is given away -/

theorem frz_own_row {t : Bool} {ok : Nat → Bool} {M : Mem} {d n g k off len : Nat} {c : C} (h : frz t ok M d (.own n g k off len) = some c) : ∃ k' xs, rowAt M n = some (k', g, xs) := by
  cases d with
  | zero => simp [frz] at h
  | succ d =>
    simp only [frz] at h
    split at h
    · split at h
      · rename_i k2 g2 xs hrow
        split at h
        · rename_i hc
          obtain ⟨rfl, _⟩ := hc
          exact ⟨_, _, hrow⟩
        · simp at h
      · simp at h
    · simp at h

theorem Near.giveC {sites : Nat → Prop} {M M' : Mem} {c c' : C} (h : giveC M c = some (c', M')) : Near (topsC c) sites M M' := by
  unfold Am.giveC at h
  split at h
  · split at h
    · rename_i hf
      simp only [Option.some.injEq, Prod.mk.injEq] at h
      rw [← h.2]
      obtain ⟨k', xs, hrow⟩ := frz_own_row hf
      exact .set (fun hi => hi.not_row hrow) (by simp [topsC])
    · simp at h
  · split at h
    · simp only [Option.some.injEq, Prod.mk.injEq] at h
      rw [← h.2]
      exact .refl _ _ _
    · simp at h

theorem Near.idle' {l : List Nat} {sites : Nat → Prop} {M M' : Mem} (h : Near l sites M M') {n : Nat} (hi : Idle M n) (hs : ¬ sites n) : Idle M' n := by
  have := h.idle n hi hs
  unfold Idle
  rw [this]
  exact hi

theorem Near.trans {l : List Nat} {sites : Nat → Prop} {M M1 M2 : Mem} (h : Near l sites M M1) (k : Near l sites M1 M2) : Near l sites M M2 :=
  ⟨k.len.trans h.len, fun n hn => (k.out n hn).trans (h.out n hn), fun n hi hs => (k.idle n (h.idle' hi hs) hs).trans (h.idle n hi hs)⟩

theorem Near.mono {l l' : List Nat} {sites : Nat → Prop} {M M' : Mem} (h : Near l sites M M') (hl : ∀ n, n ∈ l → n ∈ l') : Near l' sites M M' :=
  ⟨h.len, fun n hn => h.out n (fun e => hn (hl n e)), h.idle⟩

theorem Near.giveL {sites : Nat → Prop} : ∀ {cs cs' : List C} {M M' : Mem}, giveL M cs = some (cs', M') → Near (cs.flatMap topsC) sites M M'
  | [], cs', M, M', h => by
    simp only [Am.giveL, Option.some.injEq, Prod.mk.injEq] at h
    obtain ⟨_, rfl⟩ := h
    exact .refl _ _ _
  | c :: cs, cs', M, M', h => by
    unfold Am.giveL at h
    split at h
    · rename_i c1 M1 h1
      split at h
      · rename_i cs2 M2 h2
        simp only [Option.some.injEq, Prod.mk.injEq] at h
        obtain ⟨_, rfl⟩ := h
        exact ((Near.giveC h1).mono (by simp; intro n hn; exact .inl hn)).trans ((Near.giveL h2).mono (by simp; intro n x hx hn; exact .inr ⟨x, hx, hn⟩))
      · simp at h
    · simp at h

theorem Near.giveV {sites : Nat → Prop} {M M' : Mem} {v v' : V} (h : giveV M v = some (v', M')) : Near (topsA v) sites M M' := by
  unfold Am.giveV at h
  split at h
  · obtain ⟨⟨c', r⟩, h1, he⟩ := Option.map_eq_some_iff.1 h
    simp only [Prod.mk.injEq] at he
    obtain ⟨_, rfl⟩ := he
    exact Near.giveC h1
  · obtain ⟨⟨c', r⟩, h1, he⟩ := Option.map_eq_some_iff.1 h
    simp only [Prod.mk.injEq] at he
    obtain ⟨_, rfl⟩ := he
    exact Near.giveL h1
  · simp at h

theorem Near.giveVs {sites : Nat → Prop} : ∀ {cs cs' : List V} {M M' : Mem}, giveVs M cs = some (cs', M') → Near (cs.flatMap topsA) sites M M'
  | [], cs', M, M', h => by
    simp only [Am.giveVs, Option.some.injEq, Prod.mk.injEq] at h
    obtain ⟨_, rfl⟩ := h
    exact .refl _ _ _
  | c :: cs, cs', M, M', h => by
    unfold Am.giveVs at h
    split at h
    · rename_i c1 M1 h1
      split at h
      · rename_i cs2 M2 h2
        simp only [Option.some.injEq, Prod.mk.injEq] at h
        obtain ⟨_, rfl⟩ := h
        exact ((Near.giveV h1).mono (by simp; intro n hn; exact .inl hn)).trans ((Near.giveVs h2).mono (by simp; intro n x hx hn; exact .inr ⟨x, hx, hn⟩))
      · simp at h
    · simp at h

/-! ### What is let go -/

theorem getD_of {M : Mem} {n : Nat} {B : Option Blk} (h : M[n]? = some B) : M.getD n none = B := by simp [List.getD_eq_getElem?_getD, h]

theorem get_of_getD {M : Mem} {n : Nat} (hn : n < M.length) : M[n]? = some (M.getD n none) := by simp [List.getD_eq_getElem?_getD, hn]

theorem keepM_get {E M : Mem} : ∀ {E0 M0 M1 : Mem}, keepM E M E0 M0 = some M1 → M1.length = E0.length ∧ ∀ n, n < E0.length → (E0.getD n none = none ∧ M1.getD n none = none) ∨ ((E0.getD n none).isSome = true ∧ ∃ B B', M0.getD n none = some B ∧ keepB E M B = some B' ∧ M1.getD n none = some B')
  | [], M0, M1, h => by
    simp only [keepM, Option.some.injEq] at h; subst h
    exact ⟨rfl, fun n hn => by simp at hn⟩
  | none :: E0, [], M1, h => by simp [keepM] at h
  | none :: E0, B :: M0, M1, h => by
    simp only [keepM] at h
    obtain ⟨M2, h1, rfl⟩ := Option.map_eq_some_iff.1 h
    obtain ⟨h2, h3⟩ := keepM_get h1
    refine ⟨by simp [h2], fun n hn => ?_⟩
    cases n with
    | zero => exact .inl ⟨rfl, rfl⟩
    | succ n => simpa using h3 n (by simpa using hn)
  | some C :: E0, [], M1, h => by simp [keepM] at h
  | some C :: E0, none :: M0, M1, h => by simp [keepM] at h
  | some C :: E0, some B :: M0, M1, h => by
    simp only [keepM] at h
    split at h
    · rename_i B' M2 hB h1
      simp only [Option.some.injEq] at h
      subst h
      obtain ⟨h2, h3⟩ := keepM_get h1
      refine ⟨by simp [h2], fun n hn => ?_⟩
      cases n with
      | zero => exact .inr ⟨rfl, B, B', rfl, hB, rfl⟩
      | succ n => simpa using h3 n (by simpa using hn)
    · simp at h

theorem cutM_near {E M M' : Mem} {r r' : V} (hl : E.length ≤ M.length) (hi : ∀ n, Idle E n → M[n]? = E[n]?) (h : cutM E r M = some (r', M')) : M'.length = E.length ∧ ∀ n, Idle E n → M'[n]? = E[n]? := by
  have hlt : ∀ n, Idle E n → n < E.length := fun n hi => by rcases hi with h | ⟨g, h⟩ | h <;> exact (List.getElem?_eq_some_iff.1 h).1
  unfold cutM at h
  split at h
  · simp only [Option.some.injEq, Prod.mk.injEq] at h
    obtain ⟨_, rfl⟩ := h
    exact ⟨by rw [List.length_take]; omega, fun n hn => by rw [List.getElem?_take, if_pos (hlt n hn), hi n hn]⟩
  · split at h
    · rename_i r1 M1 h1 h2
      simp only [Option.some.injEq, Prod.mk.injEq] at h
      obtain ⟨_, rfl⟩ := h
      obtain ⟨hl', hg⟩ := keepM_get h2
      refine ⟨hl', fun m hm => ?_⟩
      have k1 := hlt m hm
      have k2 := hi m hm
      rw [get_of_getD (by omega)]
      rcases hg m k1 with ⟨q1, q2⟩ | ⟨q1, B, B', q2, q3, q4⟩
      · rw [q2, get_of_getD k1, q1]
      · rw [q4]
        rcases hm with hq | ⟨g, hq⟩ | hq
        · rw [getD_of hq] at q1; cases q1
        · rw [hq] at k2 ⊢
          rw [getD_of k2] at q2
          injection q2 with q2; subst q2
          simp only [keepB, Option.some.injEq] at q3
          rw [q3]
        · rw [hq] at k2 ⊢
          rw [getD_of k2] at q2
          injection q2 with q2; subst q2
          simp only [keepB, Option.some.injEq] at q3
          rw [q3]
    · simp at h

/-! ### Instructions -/

theorem map_pair {α : Type} {o : Option α} {f : α → V} {M M' : Mem} {v : V} (h : (o.map fun x => (f x, M)) = some (v, M')) : M' = M := by
  obtain ⟨x, _, he⟩ := Option.map_eq_some_iff.1 h
  simp only [Prod.mk.injEq] at he
  exact he.2.symm

theorem evCall_state {A : Pg} {cl : Cl} (hcl : HoldCl A cl) {st m f : Nat} {vs : List V} {M M' : Mem} {v : V} (hmd : A.md f = .state) (h : evCall A cl st m f vs M = some (v, M')) :
    (M.length ≤ M'.length ∧ ((A.md f = .state → m = 0) → M'.length = M.length)) ∧ ∀ n, Idle M n → M'[n]? = M[n]? := by
  unfold evCall at h
  rw [hmd] at h
  simp only at h
  split at h
  · rename_i r1 M1 h1
    obtain ⟨k1, k2⟩ := hcl f vs M r1 M1 hmd h1
    split at h
    · obtain ⟨k3, k4⟩ := cutM_near k1 k2 h
      exact ⟨⟨by omega, fun _ => k3⟩, k4⟩
    · rename_i hm
      simp only [Option.some.injEq, Prod.mk.injEq] at h
      obtain ⟨_, rfl⟩ := h
      exact ⟨⟨k1, fun e => absurd (e hmd) hm⟩, k2⟩
  · simp at h

theorem evCall_near {A : Pg} {cl : Cl} (hcl : HoldCl A cl) {st m f : Nat} {vs : List V} {M M' : Mem} {v : V} (h : evCall A cl st m f vs M = some (v, M')) {sites : Nat → Prop} (hs : ∀ j, sites (st + j)) :
    (M.length ≤ M'.length ∧ ((A.md f = .state → m = 0) → M'.length = M.length)) ∧ (∀ n, Idle M n → ¬ sites n → M'[n]? = M[n]?) ∧ (A.md f = .pure true → ∀ n, n ∉ (List.range m).map (st + ·) → M'[n]? = M[n]?) ∧ (A.md f = .pure false → M' = M) ∧
      (A.md f = .give → ∀ n, n ∉ (List.range m).map (st + ·) ++ vs.flatMap topsA → M'[n]? = M[n]?) := by
  have h0 := h
  unfold evCall at h
  split at h
  · rename_i hmd
    have key := evCall_state hcl hmd h0
    obtain ⟨h1, h2⟩ := key
    exact ⟨h1, fun n hi _ => h2 n hi, fun e => (by rw [hmd] at e; cases e), fun e => (by rw [hmd] at e; cases e), fun e => (by rw [hmd] at e; cases e)⟩
  · rename_i al hmd
    split at h
    · split at h
      · split at h
        · rename_i hal
          have hn : Near ((List.range m).map (st + ·)) sites M M' := (Laid.impV h).near (fun j _ => hs j) (fun j hj => by simp; exact hj)
          exact ⟨⟨Nat.le_of_eq hn.len.symm, fun _ => hn.len⟩, hn.idle, fun _ => hn.out, fun e => (by rw [hmd] at e; injection e with e; rw [e] at hal; cases hal), fun e => (by rw [hmd] at e; cases e)⟩
        · split at h
          · simp only [Option.some.injEq, Prod.mk.injEq] at h
            obtain ⟨_, rfl⟩ := h
            exact ⟨⟨Nat.le_refl _, fun _ => rfl⟩, fun _ _ _ => rfl, fun _ _ _ => rfl, fun _ => rfl, fun _ _ _ => rfl⟩
          · simp at h
      · simp at h
    · simp at h
  · rename_i hmd
    split at h
    · rename_i vs' M1 hg
      split at h
      · have h1 : Near ((List.range m).map (st + ·) ++ vs.flatMap topsA) sites M M1 := (Near.giveVs hg).mono (fun n hn => List.mem_append.2 (.inr hn))
        have h2 : Near ((List.range m).map (st + ·) ++ vs.flatMap topsA) sites M1 M' := (Laid.impV h).near (fun j _ => hs j) (fun j hj => List.mem_append.2 (.inl (by simp; exact hj)))
        have hn := h1.trans h2
        exact ⟨⟨Nat.le_of_eq hn.len.symm, fun _ => hn.len⟩, hn.idle, fun e => (by rw [hmd] at e; cases e), fun e => (by rw [hmd] at e; cases e), fun _ => hn.out⟩
      · simp at h
    · simp at h

theorem evI_near {A : Pg} {cl : Cl} (hcl : HoldCl A cl) {bs : Nat} {tm : List V} {M M' : Mem} {i : I} {v : V} (h : evI A cl bs tm M i = some (v, M')) :
    (M.length ≤ M'.length ∧ (growsI A tm i = false → M'.length = M.length)) ∧ (∀ n, Idle M n → n < bs → M'[n]? = M[n]?) ∧ (∀ l, tgt A bs tm i = some l → ∀ n, n ∉ l → M'[n]? = M[n]?) ∧ (tgt A bs tm i = none → ∀ n, Idle M n → M'[n]? = M[n]?) := by
  have ofN : ∀ {l : List Nat}, tgt A bs tm i = some l → Near l (bs ≤ ·) M M' → (M.length ≤ M'.length ∧ (growsI A tm i = false → M'.length = M.length)) ∧ (∀ n, Idle M n → n < bs → M'[n]? = M[n]?) ∧ (∀ l, tgt A bs tm i = some l → ∀ n, n ∉ l → M'[n]? = M[n]?) ∧ (tgt A bs tm i = none → ∀ n, Idle M n → M'[n]? = M[n]?) := by
    intro l hl hn
    refine ⟨⟨Nat.le_of_eq hn.len.symm, fun _ => hn.len⟩, fun n hi hb => hn.idle n hi (by omega), fun l' hl' n hn' => hn.out n ?_, fun e => by rw [hl] at e; cases e⟩
    rw [hl] at hl'
    injection hl' with hl'
    rw [hl']; exact hn'
  have ofE : M' = M → (M.length ≤ M'.length ∧ (growsI A tm i = false → M'.length = M.length)) ∧ (∀ n, Idle M n → n < bs → M'[n]? = M[n]?) ∧ (∀ l, tgt A bs tm i = some l → ∀ n, n ∉ l → M'[n]? = M[n]?) ∧ (tgt A bs tm i = none → ∀ n, Idle M n → M'[n]? = M[n]?) := by
    rintro rfl
    exact ⟨⟨Nat.le_refl _, fun _ => rfl⟩, fun _ _ _ => rfl, fun _ _ _ _ => rfl, fun _ _ _ => rfl⟩
  have ofB : ∀ {s : Nat} {B : Nat → Blk} {w : Mem → V}, tgt A bs tm i = some [bs + s] → ((setB M (bs + s) B).map fun M' => (w M', M')) = some (v, M') → (M.length ≤ M'.length ∧ (growsI A tm i = false → M'.length = M.length)) ∧ (∀ n, Idle M n → n < bs → M'[n]? = M[n]?) ∧ (∀ l, tgt A bs tm i = some l → ∀ n, n ∉ l → M'[n]? = M[n]?) ∧ (tgt A bs tm i = none → ∀ n, Idle M n → M'[n]? = M[n]?) := by
    intro s B w hl hm
    obtain ⟨M1, h1, he⟩ := Option.map_eq_some_iff.1 hm
    simp only [Prod.mk.injEq] at he
    obtain ⟨_, rfl⟩ := he
    exact ofN hl (.setB h1 (Nat.le_add_right _ _) (by simp))
  cases i with
  | mov x => simp only [evI, Option.some.injEq, Prod.mk.injEq] at h; exact ofE h.2.symm
  | pick c a b =>
    simp only [evI] at h
    split at h
    · simp only [Option.some.injEq, Prod.mk.injEq] at h; exact ofE h.2.symm
    · simp at h
  | alloc s k z => exact ofB rfl h
  | box s k x =>
    simp only [evI] at h
    split at h
    · split at h
      · exact ofB rfl h
      · simp at h
    · simp at h
  | build z ps => simp only [evI] at h; exact ofE (map_pair h)
  | buildSl s k z len ps =>
    simp only [evI] at h
    split at h
    · exact ofB rfl h
    · simp at h
  | load agg k a =>
    simp only [evI] at h
    split at h
    · exact ofE (map_pair h)
    · simp at h
  | store k a x =>
    simp only [evI] at h
    split at h
    · split at h
      · obtain ⟨M1, h1, he⟩ := Option.map_eq_some_iff.1 h
        simp only [Prod.mk.injEq] at he
        obtain ⟨_, rfl⟩ := he
        exact ofN rfl (.storeAt h1)
      · simp at h
    · simp at h
  | nilck x =>
    simp only [evI] at h
    split at h
    · simp only [Option.some.injEq, Prod.mk.injEq] at h; exact ofE h.2.symm
    · simp only [Option.some.injEq, Prod.mk.injEq] at h; exact ofE h.2.symm
    · simp at h
  | bin op x y => simp only [evI] at h; exact ofE (map_pair h)
  | un op x => simp only [evI] at h; exact ofE (map_pair h)
  | conv k x => simp only [evI] at h; exact ofE (map_pair h)
  | mksl s k z l c =>
    simp only [evI] at h
    split at h
    · split at h
      · exact ofB rfl h
      · simp at h
    · simp at h
  | slc k x lo hi =>
    simp only [evI] at h
    split at h
    · split at h
      · exact ofE (map_pair h)
      · simp at h
    · simp at h
  | faddr off x =>
    simp only [evI] at h
    split at h
    · simp only [Option.some.injEq, Prod.mk.injEq] at h; exact ofE h.2.symm
    · simp only [Option.some.injEq, Prod.mk.injEq] at h; exact ofE h.2.symm
    · simp at h
  | field agg off k x =>
    simp only [evI] at h
    split at h
    · split at h
      · exact ofE (map_pair h)
      · simp at h
    · simp at h
  | ixs k x j =>
    simp only [evI] at h
    split at h
    · split at h
      · simp only [Option.some.injEq, Prod.mk.injEq] at h; exact ofE h.2.symm
      · simp at h
    · split at h
      · simp only [Option.some.injEq, Prod.mk.injEq] at h; exact ofE h.2.symm
      · simp at h
    · simp at h
  | ixa len k x j =>
    simp only [evI] at h
    split at h
    · split at h
      · simp only [Option.some.injEq, Prod.mk.injEq] at h; exact ofE h.2.symm
      · simp at h
    · split at h
      · simp only [Option.some.injEq, Prod.mk.injEq] at h; exact ofE h.2.symm
      · simp at h
    · simp at h
  | index agg len k x j =>
    simp only [evI] at h
    split at h
    · split at h
      · exact ofE (map_pair h)
      · simp at h
    · simp at h
  | len x => simp only [evI] at h; exact ofE (map_pair h)
  | app s k a x => exact ofN rfl (.evApp h (Nat.le_add_right _ _))
  | copy k a x => exact ofN rfl (.evCopy h)
  | mn xs =>
    simp only [evI] at h
    split at h
    · exact ofE (map_pair h)
    · simp at h
  | mx xs =>
    simp only [evI] at h
    split at h
    · exact ofE (map_pair h)
    · simp at h
  | ext x j =>
    simp only [evI] at h
    split at h
    · exact ofE (map_pair h)
    · simp at h
  | call s m f args =>
    simp only [evI] at h
    split at h
    · rename_i f' hf
      obtain ⟨h1, h2, h3, h4, h5⟩ := evCall_near hcl h (sites := (bs ≤ ·)) (fun j => by omega)
      refine ⟨⟨h1.1, fun hg => h1.2 fun hmd => ?_⟩, fun n hi hb => h2 n hi (by omega), fun l hl n hn => ?_, fun ht n hi => ?_⟩
      · simp only [growsI, hf, hmd, bne_eq_false_iff_eq] at hg
        exact hg
      · simp only [tgt, hf] at hl
        split at hl
        · rename_i hmd
          injection hl with hl
          exact h3 hmd n (by rw [hl]; exact hn)
        · rename_i hmd
          rw [h4 hmd]
        · rename_i hmd
          injection hl with hl
          exact h5 hmd n (by rw [hl]; exact hn)
        · cases hl
      · simp only [tgt, hf] at ht
        split at ht
        · cases ht
        · cases ht
        · cases ht
        · rename_i hmd
          exact (evCall_state hcl hmd h).2 n hi
    · simp at h
  | mkmap s => exact ofB rfl h
  | look ok agg z m key =>
    simp only [evI] at h
    split at h
    · split at h
      · split at h
        · split at h
          · simp only [Option.some.injEq, Prod.mk.injEq] at h; exact ofE h.2.symm
          · exact ofE (map_pair h)
          · simp at h
        · simp at h
      · simp at h
    · simp at h
  | upd m key x =>
    simp only [evI] at h
    split at h
    · rename_i n g kc cs hm hk hx
      split at h
      · rename_i hM
        split at h
        · rename_i hg
          obtain ⟨es, h1, he⟩ := Option.map_eq_some_iff.1 h
          simp only [Prod.mk.injEq] at he
          obtain ⟨_, rfl⟩ := he
          exact ofN rfl (.set (fun hi => hi.not_map hM) (by simp [hm, tgtV]))
        · simp at h
      · simp at h
    · simp at h

end Go.Proofs.Ytopcnhojkfeafaa.Am
