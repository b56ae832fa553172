/- AM: runs without a bound, and how they unfold. -/
import Derived.Test.YtopcnhojkfeafaaAmDef
set_option linter.unusedSimpArgs false
set_option linter.unusedVariables false
namespace Go.Proofs.Ytopcnhojkfeafaa.Am

/-- One comes to all that the other comes to. -/
def Le (c c' : Cl) : Prop := ∀ f vs M r, c f vs M = some r → c' f vs M = some r

section
variable {A : Pg} {cl cl' : Cl} {bs : Nat}

theorem evI_mono (hle : Le cl cl') {tm : List V} {M : Mem} {i : I} {r : V × Mem} (h : evI A cl bs tm M i = some r) : evI A cl' bs tm M i = some r := by
  cases i with
  | call s m f args =>
    simp only [evI] at h ⊢
    split at h
    · rename_i f' hf
      simp only [evCall] at h ⊢
      cases hmd : A.md f' with
      | state =>
        simp only [hmd] at h ⊢
        cases hc : cl f' (args.map (evX tm)) M with
        | none => simp [hc] at h
        | some r0 => simp only [hc] at h; simp only [hle _ _ _ _ hc]; exact h
      | pure al =>
        simp only [hmd] at h ⊢
        cases hl : (args.map (evX tm)).mapM (lendV M) with
        | none => simp [hl] at h
        | some vs' =>
          simp only [hl] at h ⊢
          cases hc : cl f' vs' [] with
          | none => simp [hc] at h
          | some r0 => simp only [hc] at h; simp only [hle _ _ _ _ hc]; exact h
      | give =>
        simp only [hmd] at h ⊢
        cases hl : giveVs M (args.map (evX tm)) with
        | none => simp [hl] at h
        | some p =>
          simp only [hl] at h ⊢
          cases hc : cl f' p.1 [] with
          | none => simp [hc] at h
          | some r0 => simp only [hc] at h; simp only [hle _ _ _ _ hc]; exact h
    · simp at h
  | _ => exact h

theorem evO_mono (hle : Le cl cl') {o : O} {s s' : St} (h : evO A cl bs o s = some s') : evO A cl' bs o s = some s' := by
  unfold evO at h ⊢
  cases hw : wanted s.1 o.g with
  | none => simp [hw] at h
  | some b =>
    cases b with
    | false => simp only [hw] at h ⊢; exact h
    | true =>
      simp only [hw] at h ⊢
      cases hv : o.v with
      | none =>
        simp only [hv] at h ⊢
        cases he : evI A cl bs s.1 s.2 o.i with
        | none => simp [he] at h
        | some r => rw [he] at h; rw [evI_mono hle he]; exact h
      | some p =>
        simp only [hv] at h ⊢
        split at h
        · rename_i ht
          rw [if_pos ht]
          cases he : evI A cl bs s.1 (see bs p.1 s.2) o.i with
          | none => simp [he] at h
          | some r => rw [he] at h; rw [evI_mono hle he]; exact h
        · simp at h

theorem evOs_mono (hle : Le cl cl') : ∀ {os : List O} {s s' : St}, evOs A cl bs os s = some s' → evOs A cl' bs os s = some s'
  | [], s, s', h => h
  | o :: os, s, s', h => by
    simp only [evOs] at h ⊢
    cases h1 : evO A cl bs o s with
    | none => simp [h1] at h
    | some s1 =>
      rw [h1] at h
      rw [evO_mono hle h1]
      exact evOs_mono hle h

theorem iter_mono {step step' : St → Option (Ex × St)} (hs : ∀ s r, step s = some r → step' s = some r) {nrm out : St → Option St} : ∀ {n n' : Nat} {s : St} {r : Ex × St}, n ≤ n' → iter step nrm out n s = some r → iter step' nrm out n' s = some r
  | 0, _, s, r, _, h => by simp [iter] at h
  | n + 1, 0, s, r, hn, h => by omega
  | n + 1, n' + 1, s, r, hn, h => by
    simp only [iter] at h ⊢
    cases h1 : step s with
    | none => simp [h1] at h
    | some p =>
      obtain ⟨e, s1⟩ := p
      rw [h1] at h
      rw [hs _ _ h1]
      cases e with
      | normal =>
        simp only at h ⊢
        cases h2 : nrm s1 with
        | none => simp [h2] at h
        | some s2 =>
          rw [h2] at h
          exact iter_mono hs (by omega) h
      | exit id => exact h
      | ret => exact h

theorem evC_mono (hle : Le cl cl') {n n' : Nat} (hn : n ≤ n') : ∀ {c : AC} {s : St} {r : Ex × St}, evC A cl bs n c s = some r → evC A cl' bs n' c s = some r
  | .skip, s, r, h => h
  | .region ops, s, r, h => by
    simp only [evC] at h ⊢
    cases h1 : evOs A cl bs ops s with
    | none => simp [h1] at h
    | some s1 => rw [h1] at h; rw [evOs_mono hle h1]; exact h
  | .seq a b, s, r, h => by
    simp only [evC] at h ⊢
    cases h1 : evC A cl bs n a s with
    | none => simp [h1] at h
    | some p =>
      obtain ⟨e, s1⟩ := p
      rw [h1] at h
      rw [evC_mono hle hn h1]
      cases e with
      | normal => exact evC_mono hle hn h
      | exit id => exact h
      | ret => exact h
  | .cond c a b, s, r, h => by
    simp only [evC] at h ⊢
    cases h1 : asB (evX s.1 c) with
    | none => simp [h1] at h
    | some x =>
      rw [h1] at h
      cases x with
      | true => exact evC_mono hle hn h
      | false => exact evC_mono hle hn h
  | .block id a, s, r, h => by
    simp only [evC] at h ⊢
    cases h1 : evC A cl bs n a s with
    | none => simp [h1] at h
    | some p => rw [h1] at h; rw [evC_mono hle hn h1]; exact h
  | .loop an a, s, r, h => by
    simp only [evC] at h ⊢
    cases h1 : norm an.live an.trunc (thawAll bs s an.thaw).2 (thawAll bs s an.thaw) with
    | none => simp [h1] at h
    | some s1 =>
      rw [h1] at h
      exact iter_mono (fun s r h => evC_mono hle hn h) hn h
  | .keep l a, s, r, h => by
    simp only [evC] at h ⊢
    exact evC_mono hle hn h
  | .exit id, s, r, h => h
  | .ret, s, r, h => h

theorem evF_mono (hle : Le cl cl') {n n' : Nat} (hn : n ≤ n') : Le (evF A (fun bs => evC A cl bs n)) (evF A (fun bs => evC A cl' bs n')) := by
  intro f vs M r h
  unfold evF at h ⊢
  cases hp : A.prim f with
  | some p => simp only [hp] at h ⊢; exact h
  | none =>
    simp only [hp] at h ⊢
    cases hc : A.code f with
    | none => simp [hc] at h
    | some af =>
      simp only [hc] at h ⊢
      cases he : evC A cl M.length n af.body (startTm af.ntmps vs, M ++ List.replicate af.nblk none) with
      | none => simp [he] at h
      | some p => rw [he] at h; rw [evC_mono hle hn he]; exact h

theorem runF_succ (A : Pg) : ∀ n, Le (runF A n) (runF A (n + 1))
  | 0 => fun f vs M r h => by simp [runF] at h
  | n + 1 => evF_mono (runF_succ A n) (Nat.le_succ n)

theorem runF_mono (A : Pg) {n m : Nat} (h : n ≤ m) : Le (runF A n) (runF A m) := by
  induction h with
  | refl => exact fun _ _ _ _ h => h
  | step _ ih => exact fun f vs M r h => runF_succ A _ f vs M r (ih f vs M r h)

end

/-! ### Limits -/

open Classical in
/-- What a growing row of answers comes to. -/
noncomputable def lim {α : Type} (f : Nat → Option α) : Option α := if h : ∃ n r, f n = some r then some (Classical.choose (Classical.choose_spec h)) else none

def Grow {α : Type} (f : Nat → Option α) : Prop := ∀ n m r, n ≤ m → f n = some r → f m = some r

theorem lim_some {α : Type} {f : Nat → Option α} (hg : Grow f) {r : α} : lim f = some r ↔ ∃ n, f n = some r := by
  unfold lim
  constructor
  · intro h
    split at h
    · rename_i hx
      simp only [Option.some.injEq] at h
      rw [← h]
      exact ⟨_, Classical.choose_spec (Classical.choose_spec hx)⟩
    · simp at h
  · rintro ⟨n, hn⟩
    have hx : ∃ n r, f n = some r := ⟨n, r, hn⟩
    rw [dif_pos hx]
    have h1 := Classical.choose_spec (Classical.choose_spec hx)
    have h2 := hg _ (max (Classical.choose hx) n) _ (Nat.le_max_left _ _) h1
    have h3 := hg _ (max (Classical.choose hx) n) _ (Nat.le_max_right _ _) hn
    rw [h2] at h3
    exact h3

theorem lim_eq {α : Type} {f : Nat → Option α} (hg : Grow f) {o : Option α} (h : ∀ r, o = some r ↔ ∃ n, f n = some r) : lim f = o := by
  cases o with
  | none =>
    cases hl : lim f with
    | none => rfl
    | some r =>
      have := (h r).2 ((lim_some hg).1 hl)
      cases this
  | some r => exact (lim_some hg).2 ((h r).1 rfl)

/-- A function's run. -/
noncomputable def run (A : Pg) : Cl := fun f vs M => lim fun n => runF A n f vs M

theorem run_grow (A : Pg) (f : Nat) (vs : List V) (M : Mem) : Grow fun n => runF A n f vs M := fun n m r h hr => runF_mono A h f vs M r hr

theorem run_some {A : Pg} {f : Nat} {vs : List V} {M : Mem} {r : V × Mem} : run A f vs M = some r ↔ ∃ n, runF A n f vs M = some r := lim_some (run_grow A f vs M)


theorem le_run (A : Pg) (n : Nat) : Le (runF A n) (run A) := fun f vs M r h => run_some.2 ⟨n, h⟩

/-- Code's run. -/
noncomputable def evW (A : Pg) (bs : Nat) (c : AC) (s : St) : Option (Ex × St) := lim fun n => evC A (runF A n) bs n c s

section
variable {A : Pg} {bs : Nat}

theorem evW_grow (A : Pg) (bs : Nat) (c : AC) (s : St) : Grow fun n => evC A (runF A n) bs n c s := fun n m r h hr => evC_mono (runF_mono A h) h hr

theorem evW_some {c : AC} {s : St} {r : Ex × St} : evW A bs c s = some r ↔ ∃ n, evC A (runF A n) bs n c s = some r := lim_some (evW_grow A bs c s)

theorem evI_run {tm : List V} {M : Mem} {i : I} {r : V × Mem} (h : evI A (run A) bs tm M i = some r) : ∃ n, evI A (runF A n) bs tm M i = some r := by
  cases i with
  | call s m f args =>
    simp only [evI] at h ⊢
    split at h
    · rename_i f' hf
      simp only [evCall] at h ⊢
      cases hmd : A.md f' with
      | state =>
        simp only [hmd] at h ⊢
        cases hc : run A f' (args.map (evX tm)) M with
        | none => simp [hc] at h
        | some r0 =>
          obtain ⟨n, hn⟩ := run_some.1 hc
          simp only [hc] at h
          exact ⟨n, by simp only [hn]; exact h⟩
      | pure al =>
        simp only [hmd] at h ⊢
        cases hl : (args.map (evX tm)).mapM (lendV M) with
        | none => simp [hl] at h
        | some vs' =>
          simp only [hl] at h ⊢
          cases hc : run A f' vs' [] with
          | none => simp [hc] at h
          | some r0 =>
            obtain ⟨n, hn⟩ := run_some.1 hc
            simp only [hc] at h
            exact ⟨n, by simp only [hn]; exact h⟩
      | give =>
        simp only [hmd] at h ⊢
        cases hl : giveVs M (args.map (evX tm)) with
        | none => simp [hl] at h
        | some p =>
          simp only [hl] at h ⊢
          cases hc : run A f' p.1 [] with
          | none => simp [hc] at h
          | some r0 =>
            obtain ⟨n, hn⟩ := run_some.1 hc
            simp only [hc] at h
            exact ⟨n, by simp only [hn]; exact h⟩
    · simp at h
  | _ => exact ⟨0, h⟩

theorem evO_run {o : O} {s s' : St} (h : evO A (run A) bs o s = some s') : ∃ n, evO A (runF A n) bs o s = some s' := by
  unfold evO at h ⊢
  cases hw : wanted s.1 o.g with
  | none => simp [hw] at h
  | some b =>
    cases b with
    | false => simp only [hw] at h ⊢; exact ⟨0, h⟩
    | true =>
      simp only [hw] at h ⊢
      cases hv : o.v with
      | none =>
        simp only [hv] at h ⊢
        cases he : evI A (run A) bs s.1 s.2 o.i with
        | none => simp [he] at h
        | some r =>
          obtain ⟨n, hn⟩ := evI_run he
          rw [he] at h
          exact ⟨n, by rw [hn]; exact h⟩
      | some p =>
        simp only [hv] at h ⊢
        split at h
        · rename_i ht
          cases he : evI A (run A) bs s.1 (see bs p.1 s.2) o.i with
          | none => simp [he] at h
          | some r =>
            obtain ⟨n, hn⟩ := evI_run he
            rw [he] at h
            exact ⟨n, by rw [if_pos ht, hn]; exact h⟩
        · simp at h

theorem evOs_run : ∀ {os : List O} {s s' : St}, evOs A (run A) bs os s = some s' → ∃ n, evOs A (runF A n) bs os s = some s'
  | [], s, s', h => ⟨0, h⟩
  | o :: os, s, s', h => by
    simp only [evOs] at h ⊢
    cases h1 : evO A (run A) bs o s with
    | none => simp [h1] at h
    | some s1 =>
      rw [h1] at h
      obtain ⟨n, hn⟩ := evO_run h1
      obtain ⟨m, hm⟩ := evOs_run h
      refine ⟨max n m, ?_⟩
      rw [evO_mono (runF_mono A (Nat.le_max_left n m)) hn]
      exact evOs_mono (runF_mono A (Nat.le_max_right n m)) hm

theorem evW_skip {s : St} : evW A bs .skip s = some (.normal, s) := evW_some.2 ⟨0, rfl⟩
theorem evW_exit {id : Nat} {s : St} : evW A bs (.exit id) s = some (.exit id, s) := evW_some.2 ⟨0, rfl⟩
theorem evW_ret {s : St} : evW A bs .ret s = some (.ret, s) := evW_some.2 ⟨0, rfl⟩

theorem evW_region {ops : List O} {s : St} : evW A bs (.region ops) s = (evOs A (run A) bs ops s).map fun s => (.normal, s) := by
  refine lim_eq (evW_grow A bs _ s) fun r => ⟨fun h => ?_, fun ⟨n, h⟩ => ?_⟩
  · obtain ⟨s1, h1, rfl⟩ := Option.map_eq_some_iff.1 h
    obtain ⟨n, hn⟩ := evOs_run h1
    exact ⟨n, by simp only [evC, hn]; rfl⟩
  · simp only [evC] at h
    obtain ⟨s1, h1, rfl⟩ := Option.map_eq_some_iff.1 h
    rw [evOs_mono (le_run A n) h1]; rfl

theorem evW_seq {a b : AC} {s : St} : evW A bs (.seq a b) s = match evW A bs a s with
    | some (.normal, s') => evW A bs b s'
    | r => r := by
  refine lim_eq (evW_grow A bs _ s) fun r => ⟨fun h => ?_, fun ⟨n, h⟩ => ?_⟩
  · cases h1 : evW A bs a s with
    | none => simp [h1] at h
    | some p =>
      obtain ⟨e, s1⟩ := p
      rw [h1] at h
      obtain ⟨n, hn⟩ := evW_some.1 h1
      cases e with
      | normal =>
        obtain ⟨m, hm⟩ := evW_some.1 h
        refine ⟨max n m, ?_⟩
        simp only [evC]
        rw [evC_mono (runF_mono A (Nat.le_max_left n m)) (Nat.le_max_left n m) hn]
        exact evC_mono (runF_mono A (Nat.le_max_right n m)) (Nat.le_max_right n m) hm
      | exit id => exact ⟨n, by simp only [evC, hn]; exact h⟩
      | ret => exact ⟨n, by simp only [evC, hn]; exact h⟩
  · simp only [evC] at h
    cases h1 : evC A (runF A n) bs n a s with
    | none => simp [h1] at h
    | some p =>
      obtain ⟨e, s1⟩ := p
      rw [h1] at h
      rw [evW_some.2 ⟨n, h1⟩]
      cases e with
      | normal => exact evW_some.2 ⟨n, h⟩
      | exit id => exact h
      | ret => exact h

theorem evW_cond {c : X} {a b : AC} {s : St} : evW A bs (.cond c a b) s = match asB (evX s.1 c) with
    | some true => evW A bs a s
    | some false => evW A bs b s
    | none => none := by
  cases h1 : asB (evX s.1 c) with
  | none => exact lim_eq (evW_grow A bs _ s) fun r => ⟨fun h => by simp [h1] at h, fun ⟨n, h⟩ => by simp [evC, h1] at h⟩
  | some x =>
    cases x with
    | true => exact lim_eq (evW_grow A bs _ s) fun r => ⟨fun h => let ⟨n, hn⟩ := evW_some.1 h; ⟨n, by simp only [evC, h1]; exact hn⟩, fun ⟨n, h⟩ => evW_some.2 ⟨n, by simp only [evC, h1] at h; exact h⟩⟩
    | false => exact lim_eq (evW_grow A bs _ s) fun r => ⟨fun h => let ⟨n, hn⟩ := evW_some.1 h; ⟨n, by simp only [evC, h1]; exact hn⟩, fun ⟨n, h⟩ => evW_some.2 ⟨n, by simp only [evC, h1] at h; exact h⟩⟩

theorem evW_keep {l : List Nat} {a : AC} {s : St} : evW A bs (.keep l a) s = evW A bs a (killL l 0 s.1, s.2) := rfl

theorem evW_block {id : Nat} {a : AC} {s : St} : evW A bs (.block id a) s = match evW A bs a s with
    | some (.exit id', s') => if id' = id then some (.normal, s') else some (.exit id', s')
    | r => r := by
  refine lim_eq (evW_grow A bs _ s) fun r => ⟨fun h => ?_, fun ⟨n, h⟩ => ?_⟩
  · cases h1 : evW A bs a s with
    | none => simp [h1] at h
    | some p =>
      rw [h1] at h
      obtain ⟨n, hn⟩ := evW_some.1 h1
      exact ⟨n, by simp only [evC, hn]; exact h⟩
  · simp only [evC] at h
    cases h1 : evC A (runF A n) bs n a s with
    | none => simp [h1] at h
    | some p =>
      rw [h1] at h
      rw [evW_some.2 ⟨n, h1⟩]
      exact h

noncomputable def iterW (step : St → Option (Ex × St)) (nrm out : St → Option St) (s : St) : Option (Ex × St) := lim fun n => iter step nrm out n s

theorem iter_grow (step : St → Option (Ex × St)) (nrm out : St → Option St) (s : St) : Grow fun n => iter step nrm out n s := fun n m r h hr => iter_mono (fun _ _ h => h) h hr

theorem iterW_some {step : St → Option (Ex × St)} {nrm out : St → Option St} {s : St} {r : Ex × St} : iterW step nrm out s = some r ↔ ∃ n, iter step nrm out n s = some r := lim_some (iter_grow step nrm out s)

theorem iterW_eq (step : St → Option (Ex × St)) (nrm out : St → Option St) (s : St) : iterW step nrm out s = match step s with
    | some (.normal, s') => match nrm s' with
      | some s'' => iterW step nrm out s''
      | none => none
    | some (e, s') => (out s').map fun s => (e, s)
    | none => none := by
  refine lim_eq (iter_grow step nrm out s) fun r => ⟨fun h => ?_, fun ⟨n, h⟩ => ?_⟩
  · cases h1 : step s with
    | none => simp [h1] at h
    | some p =>
      obtain ⟨e, s1⟩ := p
      rw [h1] at h
      cases e with
      | normal =>
        simp only at h
        cases h2 : nrm s1 with
        | none => simp [h2] at h
        | some s2 =>
          rw [h2] at h
          obtain ⟨n, hn⟩ := iterW_some.1 h
          exact ⟨n + 1, by simp only [iter, h1, h2]; exact hn⟩
      | exit id => exact ⟨1, by simp only [iter, h1]; exact h⟩
      | ret => exact ⟨1, by simp only [iter, h1]; exact h⟩
  · cases n with
    | zero => simp [iter] at h
    | succ n =>
      simp only [iter] at h
      cases h1 : step s with
      | none => simp [h1] at h
      | some p =>
        obtain ⟨e, s1⟩ := p
        rw [h1] at h
        cases e with
        | normal =>
          simp only at h ⊢
          cases h2 : nrm s1 with
          | none => simp [h2] at h
          | some s2 =>
            rw [h2] at h
            exact iterW_some.2 ⟨n, h⟩
        | exit id => exact h
        | ret => exact h

theorem iter_run {c : AC} {nrm out : St → Option St} : ∀ {n : Nat} {s : St} {r : Ex × St}, iter (evW A bs c) nrm out n s = some r → ∃ m, iter (evC A (runF A m) bs m c) nrm out m s = some r
  | 0, s, r, h => by simp [iter] at h
  | n + 1, s, r, h => by
    simp only [iter] at h
    cases h1 : evW A bs c s with
    | none => simp [h1] at h
    | some p =>
      obtain ⟨e, s1⟩ := p
      rw [h1] at h
      obtain ⟨k, hk⟩ := evW_some.1 h1
      cases e with
      | normal =>
        simp only at h
        cases h2 : nrm s1 with
        | none => simp [h2] at h
        | some s2 =>
          rw [h2] at h
          obtain ⟨m, hm⟩ := iter_run h
          refine ⟨max k m + 1, ?_⟩
          have h3 := evC_mono (A := A) (bs := bs) (runF_mono A (show k ≤ max k m + 1 by omega)) (show k ≤ max k m + 1 by omega) hk
          simp only [iter, h3, h2]
          exact iter_mono (fun s r h => evC_mono (runF_mono A (show m ≤ max k m + 1 by omega)) (show m ≤ max k m + 1 by omega) h) (by omega) hm
      | exit id =>
        refine ⟨k + 1, ?_⟩
        have h3 := evC_mono (A := A) (bs := bs) (runF_mono A (Nat.le_succ k)) (Nat.le_succ k) hk
        simp only [iter, h3]
        exact h
      | ret =>
        refine ⟨k + 1, ?_⟩
        have h3 := evC_mono (A := A) (bs := bs) (runF_mono A (Nat.le_succ k)) (Nat.le_succ k) hk
        simp only [iter, h3]
        exact h

theorem evW_loop {an : Ann} {a : AC} {s : St} : evW A bs (.loop an a) s = match norm an.live an.trunc (thawAll bs s an.thaw).2 (thawAll bs s an.thaw) with
    | some s1 => iterW (evW A bs a) (norm an.live an.trunc s1.2) (norm an.out an.trunc s1.2) s1
    | none => none := by
  cases h1 : norm an.live an.trunc (thawAll bs s an.thaw).2 (thawAll bs s an.thaw) with
  | none => exact lim_eq (evW_grow A bs _ s) fun r => ⟨fun h => by simp at h, fun ⟨n, h⟩ => by simp [evC, h1] at h⟩
  | some s1 =>
    refine lim_eq (evW_grow A bs _ s) fun r => ⟨fun h => ?_, fun ⟨n, h⟩ => ?_⟩
    · obtain ⟨n, hn⟩ := iterW_some.1 h
      obtain ⟨m, hm⟩ := iter_run hn
      exact ⟨m, by simp only [evC, h1]; exact hm⟩
    · simp only [evC, h1] at h
      exact iterW_some.2 ⟨n, iter_mono (fun s r h => evW_some.2 ⟨n, h⟩) (Nat.le_refl _) h⟩

/-- A function's run is its code's. -/
theorem run_eq (A : Pg) (f : Nat) (vs : List V) (M : Mem) : run A f vs M = evF A (fun bs => evW A bs) f vs M := by
  refine lim_eq (run_grow A f vs M) fun r => ⟨fun h => ?_, fun ⟨n, h⟩ => ?_⟩
  · unfold evF at h
    cases hp : A.prim f with
    | some p =>
      simp only [hp] at h
      exact ⟨1, by simp only [runF, evF, hp]; exact h⟩
    | none =>
      simp only [hp] at h
      cases hc : A.code f with
      | none => simp [hc] at h
      | some af =>
        simp only [hc] at h
        cases he : evW A M.length af.body (startTm af.ntmps vs, M ++ List.replicate af.nblk none) with
        | none => simp [he] at h
        | some p =>
          rw [he] at h
          obtain ⟨n, hn⟩ := evW_some.1 he
          exact ⟨n + 1, by simp only [runF, evF, hp, hc, hn]; exact h⟩
  · cases n with
    | zero => simp [runF] at h
    | succ n =>
      simp only [runF] at h
      unfold evF at h ⊢
      cases hp : A.prim f with
      | some p => simp only [hp] at h ⊢; exact h
      | none =>
        simp only [hp] at h ⊢
        cases hc : A.code f with
        | none => simp [hc] at h
        | some af =>
          simp only [hc] at h ⊢
          cases he : evC A (runF A n) M.length n af.body (startTm af.ntmps vs, M ++ List.replicate af.nblk none) with
          | none => simp [he] at h
          | some p =>
            rw [he] at h
            rw [evW_some.2 ⟨n, he⟩]
            exact h

end

end Go.Proofs.Ytopcnhojkfeafaa.Am
