/- AM: the order of operations that have nothing to do with one another. -/
import Derived.Test.YtopcnhojkfeafaaAmFrame
import Derived.Test.YtopcnhojkfeafaaAmTr
set_option linter.unusedSimpArgs false
set_option linter.unusedVariables false
namespace Go.Proofs.Ytopcnhojkfeafaa.Am

section
variable {A : Pg} {cl : Cl} {bs : Nat} {tm tm' : List V} {M : Mem}

theorem evX_cong {x : X} (h : ∀ t ∈ xTm x, tm.getD t .none = tm'.getD t .none) : evX tm x = evX tm' x := by
  cases x with
  | t n => exact h n (by simp [xTm])
  | k z => rfl
  | ka zs => rfl

theorem map_evX_cong : ∀ {xs : List X}, (∀ t ∈ xs.flatMap xTm, tm.getD t .none = tm'.getD t .none) → xs.map (evX tm) = xs.map (evX tm')
  | [], _ => rfl
  | x :: xs, h => by
    rw [List.map_cons, List.map_cons, evX_cong (x := x) (fun t ht => h t (by simp [ht])), map_evX_cong (xs := xs) (fun t ht => h t (by
      rw [List.flatMap_cons]; exact List.mem_append.2 (.inr ht)))]

theorem fill_cong : ∀ {ps : List (Nat × Nat × X)} {cs : List C}, (∀ t ∈ ps.flatMap fun p => xTm p.2.2, tm.getD t .none = tm'.getD t .none) → fill tm cs ps = fill tm' cs ps
  | [], _, _ => rfl
  | (off, k, x) :: ps, cs, h => by
    have e := evX_cong (x := x) (fun t ht => h t (by simp [ht]))
    have ih := fun cs => fill_cong (ps := ps) (cs := cs) (fun t ht => h t (by
      rw [List.flatMap_cons]; exact List.mem_append.2 (.inr ht)))
    simp only [fill, e, ih]

theorem fillSl_cong {k : Nat} : ∀ {ps : List (Nat × X)} {cs : List (List C)}, (∀ t ∈ ps.flatMap fun p => xTm p.2, tm.getD t .none = tm'.getD t .none) → fillSl tm k cs ps = fillSl tm' k cs ps
  | [], _, _ => rfl
  | (i, x) :: ps, cs, h => by
    have e := evX_cong (x := x) (fun t ht => h t (by simp [ht]))
    have ih := fun cs => fillSl_cong (k := k) (ps := ps) (cs := cs) (fun t ht => h t (by
      rw [List.flatMap_cons]; exact List.mem_append.2 (.inr ht)))
    simp only [fillSl, e, ih]

theorem bound_cong {d : Nat} {x : Option X} (h : ∀ t ∈ (x.map xTm).getD [], tm.getD t .none = tm'.getD t .none) : bound tm d x = bound tm' d x := by
  cases x with
  | none => rfl
  | some x =>
    have e := evX_cong (x := x) (fun t ht => h t (by simpa using ht))
    simp only [bound, e]

theorem evI_cong {i : I} (h : ∀ t ∈ usesI i, tm.getD t .none = tm'.getD t .none) : evI A cl bs tm M i = evI A cl bs tm' M i ∧ tgt A bs tm i = tgt A bs tm' i := by
  cases i with
  | mov x =>
    have ex := evX_cong (x := x) fun t ht => h t (by simp [usesI, ht])
    exact ⟨by simp only [evI, ex], by simp only [tgt, ex]⟩
  | pick c a b =>
    have ec := evX_cong (x := c) fun t ht => h t (by simp [usesI, ht])
    have ea := evX_cong (x := a) fun t ht => h t (by simp [usesI, ht])
    have eb := evX_cong (x := b) fun t ht => h t (by simp [usesI, ht])
    exact ⟨by simp only [evI, ec, ea, eb], by simp only [tgt, ec, ea, eb]⟩
  | alloc s k z =>
    exact ⟨rfl, rfl⟩
  | box s k x =>
    have ex := evX_cong (x := x) fun t ht => h t (by simp [usesI, ht])
    exact ⟨by simp only [evI, ex], by simp only [tgt, ex]⟩
  | load agg k a =>
    have ea := evX_cong (x := a) fun t ht => h t (by simp [usesI, ht])
    exact ⟨by simp only [evI, ea], by simp only [tgt, ea]⟩
  | store k a x =>
    have ea := evX_cong (x := a) fun t ht => h t (by simp [usesI, ht])
    have ex := evX_cong (x := x) fun t ht => h t (by simp [usesI, ht])
    exact ⟨by simp only [evI, ea, ex], by simp only [tgt, ea, ex]⟩
  | nilck x =>
    have ex := evX_cong (x := x) fun t ht => h t (by simp [usesI, ht])
    exact ⟨by simp only [evI, ex], by simp only [tgt, ex]⟩
  | bin op x y =>
    have ex := evX_cong (x := x) fun t ht => h t (by simp [usesI, ht])
    have ey := evX_cong (x := y) fun t ht => h t (by simp [usesI, ht])
    exact ⟨by simp only [evI, ex, ey], by simp only [tgt, ex, ey]⟩
  | un op x =>
    have ex := evX_cong (x := x) fun t ht => h t (by simp [usesI, ht])
    exact ⟨by simp only [evI, ex], by simp only [tgt, ex]⟩
  | conv k x =>
    have ex := evX_cong (x := x) fun t ht => h t (by simp [usesI, ht])
    exact ⟨by simp only [evI, ex], by simp only [tgt, ex]⟩
  | mksl s k z l c =>
    have el := evX_cong (x := l) fun t ht => h t (by simp [usesI, ht])
    have ec := evX_cong (x := c) fun t ht => h t (by simp [usesI, ht])
    exact ⟨by simp only [evI, el, ec], by simp only [tgt, el, ec]⟩
  | faddr off x =>
    have ex := evX_cong (x := x) fun t ht => h t (by simp [usesI, ht])
    exact ⟨by simp only [evI, ex], by simp only [tgt, ex]⟩
  | field agg off k x =>
    have ex := evX_cong (x := x) fun t ht => h t (by simp [usesI, ht])
    exact ⟨by simp only [evI, ex], by simp only [tgt, ex]⟩
  | ixs k x j =>
    have ex := evX_cong (x := x) fun t ht => h t (by simp [usesI, ht])
    have ej := evX_cong (x := j) fun t ht => h t (by simp [usesI, ht])
    exact ⟨by simp only [evI, ex, ej], by simp only [tgt, ex, ej]⟩
  | ixa len k x j =>
    have ex := evX_cong (x := x) fun t ht => h t (by simp [usesI, ht])
    have ej := evX_cong (x := j) fun t ht => h t (by simp [usesI, ht])
    exact ⟨by simp only [evI, ex, ej], by simp only [tgt, ex, ej]⟩
  | index agg len k x j =>
    have ex := evX_cong (x := x) fun t ht => h t (by simp [usesI, ht])
    have ej := evX_cong (x := j) fun t ht => h t (by simp [usesI, ht])
    exact ⟨by simp only [evI, ex, ej], by simp only [tgt, ex, ej]⟩
  | len x =>
    have ex := evX_cong (x := x) fun t ht => h t (by simp [usesI, ht])
    exact ⟨by simp only [evI, ex], by simp only [tgt, ex]⟩
  | app s k a x =>
    have ea := evX_cong (x := a) fun t ht => h t (by simp [usesI, ht])
    have ex := evX_cong (x := x) fun t ht => h t (by simp [usesI, ht])
    exact ⟨by simp only [evI, ea, ex], by simp only [tgt, ea, ex]⟩
  | copy k a x =>
    have ea := evX_cong (x := a) fun t ht => h t (by simp [usesI, ht])
    have ex := evX_cong (x := x) fun t ht => h t (by simp [usesI, ht])
    exact ⟨by simp only [evI, ea, ex], by simp only [tgt, ea, ex]⟩
  | ext x j =>
    have ex := evX_cong (x := x) fun t ht => h t (by simp [usesI, ht])
    exact ⟨by simp only [evI, ex], by simp only [tgt, ex]⟩
  | mkmap s =>
    exact ⟨rfl, rfl⟩
  | look ok agg z m key =>
    have em := evX_cong (x := m) fun t ht => h t (by simp [usesI, ht])
    have ekey := evX_cong (x := key) fun t ht => h t (by simp [usesI, ht])
    exact ⟨by simp only [evI, em, ekey], by simp only [tgt, em, ekey]⟩
  | upd m key x =>
    have em := evX_cong (x := m) fun t ht => h t (by simp [usesI, ht])
    have ekey := evX_cong (x := key) fun t ht => h t (by simp [usesI, ht])
    have ex := evX_cong (x := x) fun t ht => h t (by simp [usesI, ht])
    exact ⟨by simp only [evI, em, ekey, ex], by simp only [tgt, em, ekey, ex]⟩
  | build z ps =>
    have e := fun cs => fill_cong (ps := ps) (cs := cs) (fun t ht => h t ht)
    exact ⟨by simp only [evI, e], rfl⟩
  | buildSl s k z len ps =>
    have e := fun cs => fillSl_cong (k := k) (ps := ps) (cs := cs) (fun t ht => h t ht)
    exact ⟨by simp only [evI, e], rfl⟩
  | slc k x lo hi =>
    have ex := evX_cong (x := x) fun t ht => h t (by simp [usesI, ht])
    have e1 := fun d => bound_cong (d := d) (x := lo) fun t ht => h t (by
      simp only [usesI, List.mem_append]; exact .inl (.inr ht))
    have e2 := fun d => bound_cong (d := d) (x := hi) fun t ht => h t (by
      simp only [usesI, List.mem_append]; exact .inr ht)
    exact ⟨by simp only [evI, ex, e1, e2], rfl⟩
  | mn xs =>
    have e := map_evX_cong (xs := xs) h
    exact ⟨by simp only [evI, e], rfl⟩
  | mx xs =>
    have e := map_evX_cong (xs := xs) h
    exact ⟨by simp only [evI, e], rfl⟩
  | call s m f args =>
    have ef := evX_cong (x := f) fun t ht => h t (by simp only [usesI, List.mem_append]; exact .inl ht)
    have e := map_evX_cong (xs := args) fun t ht => h t (by simp only [usesI, List.mem_append]; exact .inr ht)
    exact ⟨by simp only [evI, ef, e], by simp only [tgt, ef, e]⟩

theorem wanted_cong {g : Option (Nat × Bool)} (h : ∀ t ∈ (g.map fun g => [g.1]).getD [], tm.getD t .none = tm'.getD t .none) : wanted tm g = wanted tm' g := by
  cases g with
  | none => rfl
  | some g =>
    obtain ⟨t, b⟩ := g
    have := h t (by simp)
    simp only [wanted, this]

theorem setD_get {d : Option Nat} {v : V} {t : Nat} (h : t ∉ d.toList) : (setD d v tm).getD t .none = tm.getD t .none := by
  cases d with
  | none => rfl
  | some d =>
    simp only [Option.toList, List.mem_singleton] at h
    simp only [setD, List.getD_eq_getElem?_getD, List.getElem?_set]
    rw [if_neg (fun e => h e.symm)]

theorem setD_comm {d d' : Option Nat} {v v' : V} (h : ∀ t ∈ d.toList, t ∉ d'.toList) : setD d v (setD d' v' tm) = setD d' v' (setD d v tm) := by
  cases d with
  | none => rfl
  | some d =>
    cases d' with
    | none => rfl
    | some d' =>
      have : d ≠ d' := by simpa using h d (by simp)
      simp only [setD]
      exact List.set_comm _ _ (Ne.symm this)

/-! ### What is seen, and what is laid in -/

theorem seeFrom_get (bs : Nat) (v : VS) : ∀ (M : Mem) (n0 n : Nat), (seeFrom bs v n0 M)[n]? = (M[n]?).map fun B => if v.has bs (n0 + n) then B else some .hid
  | [], n0, n => by simp [seeFrom]
  | B :: M, n0, n => by
    cases n with
    | zero => simp [seeFrom]
    | succ n =>
      simp only [seeFrom, List.getElem?_cons_succ]
      rw [seeFrom_get bs v M (n0 + 1) n]
      rw [show n0 + 1 + n = n0 + (n + 1) by omega]

theorem see_get (bs : Nat) (v : VS) (M : Mem) (n : Nat) : (see bs v M)[n]? = (M[n]?).map fun B => if v.has bs n then B else some .hid := by
  have := seeFrom_get bs v M 0 n
  simpa [see] using this

theorem mergeFrom_get (bs : Nat) (v : VS) : ∀ (M N : Mem) (n0 n : Nat), N.length = M.length → (mergeFrom bs v n0 M N)[n]? = if v.has bs (n0 + n) then N[n]? else M[n]?
  | [], [], n0, n, _ => by simp [mergeFrom]
  | B :: M, B' :: N, n0, n, h => by
    cases n with
    | zero => simp only [mergeFrom, List.getElem?_cons_zero, Nat.add_zero]; split <;> rfl
    | succ n =>
      simp only [mergeFrom, List.getElem?_cons_succ]
      rw [mergeFrom_get bs v M N (n0 + 1) n (by simpa using h)]
      rw [show n0 + 1 + n = n0 + (n + 1) by omega]
  | [], _ :: _, _, _, h => by simp at h
  | _ :: _, [], _, _, h => by simp at h

theorem merge_get {bs : Nat} {v : VS} {M N : Mem} (h : N.length = M.length) (n : Nat) : (merge bs v M N)[n]? = if v.has bs n then N[n]? else M[n]? := by
  have := mergeFrom_get bs v M N 0 n h
  simpa [merge] using this

theorem see_len (bs : Nat) (v : VS) (M : Mem) : (see bs v M).length = M.length := by
  have key : ∀ (M : Mem) n0, (seeFrom bs v n0 M).length = M.length := by
    intro M
    induction M with
    | nil => intro n0; rfl
    | cons B M ih => intro n0; simp [seeFrom, ih]
  exact key M 0

theorem merge_len {bs : Nat} {v : VS} {M N : Mem} (h : N.length = M.length) : (merge bs v M N).length = M.length := by
  have key : ∀ (M N : Mem) n0, N.length = M.length → (mergeFrom bs v n0 M N).length = M.length := by
    intro M
    induction M with
    | nil => intro N n0 h; cases N with | nil => rfl | cons _ _ => simp at h
    | cons B M ih =>
      intro N n0 h
      cases N with
      | nil => simp at h
      | cons B' N => simp only [mergeFrom, List.length_cons]; rw [ih N (n0 + 1) (by simpa using h)]
  exact key M N 0 h

theorem disj_spec {a b : VS} (h : VS.disj a b = true) (bs n : Nat) (ha : a.has bs n = true) : b.has bs n = false := by
  cases a with
  | only a =>
    simp only [VS.has, Bool.and_eq_true, decide_eq_true_eq] at ha
    cases b with
    | only b =>
      simp only [VS.disj, List.all_eq_true] at h
      have := h (n - bs) (by simpa using ha.2)
      simp only [VS.has, Bool.and_eq_false_iff]
      exact .inr (by simpa using this)
    | but b =>
      simp only [VS.disj, List.all_eq_true] at h
      have := h (n - bs) (by simpa using ha.2)
      simp only [VS.has, Bool.not_eq_false', Bool.and_eq_true, decide_eq_true_eq]
      exact ⟨ha.1, this⟩
  | but a =>
    cases b with
    | but b => cases h
    | only b =>
      simp only [VS.disj, List.all_eq_true] at h
      by_cases hb : bs ≤ n ∧ b.contains (n - bs) = true
      · have := h (n - bs) (by simpa using hb.2)
        simp only [VS.has, Bool.not_eq_true', Bool.and_eq_false_iff, decide_eq_false_iff_not] at ha
        rcases ha with ha | ha
        · exact absurd hb.1 ha
        · rw [this] at ha; cases ha
      · simp only [VS.has, Bool.and_eq_false_iff, decide_eq_false_iff_not]
        by_cases h1 : bs ≤ n
        · exact .inr (by
            cases hc : b.contains (n - bs) with
            | false => rfl
            | true => exact absurd ⟨h1, hc⟩ hb)
        · exact .inl h1

theorem sub_spec {a b : VS} (h : VS.sub a b = true) (bs n : Nat) (ha : a.has bs n = true) : b.has bs n = true := by
  cases a with
  | only a =>
    simp only [VS.has, Bool.and_eq_true, decide_eq_true_eq] at ha
    cases b with
    | only b =>
      simp only [VS.sub, List.all_eq_true] at h
      have := h (n - bs) (by simpa using ha.2)
      simp only [VS.has, Bool.and_eq_true, decide_eq_true_eq]
      exact ⟨ha.1, this⟩
    | but b =>
      simp only [VS.sub, List.all_eq_true] at h
      have := h (n - bs) (by simpa using ha.2)
      simp only [VS.has, Bool.not_eq_true', Bool.and_eq_false_iff]
      exact .inr (by simpa using this)
  | but a =>
    cases b with
    | only b => cases h
    | but b =>
      simp only [VS.sub, List.all_eq_true] at h
      simp only [VS.has, Bool.not_eq_true', Bool.and_eq_false_iff, decide_eq_false_iff_not] at ha ⊢
      rcases ha with ha | ha
      · exact .inl ha
      · refine .inr ?_
        cases hc : b.contains (n - bs) with
        | false => rfl
        | true =>
          have := h (n - bs) (by simpa using hc)
          rw [this] at ha; cases ha

theorem see_merge {va wb : VS} {N : Mem} (hN : N.length = M.length) (h : VS.disj wb va = true) : see bs va (merge bs wb M N) = see bs va M := by
  apply List.ext_getElem?
  intro n
  rw [see_get, see_get, merge_get hN]
  by_cases hw : wb.has bs n = true
  · have hv := disj_spec h bs n hw
    rw [if_pos hw]
    simp only [hv, Bool.false_eq_true, if_false]
    have : n < N.length ↔ n < M.length := by rw [hN]
    by_cases hl : n < M.length
    · rw [List.getElem?_eq_getElem hl, List.getElem?_eq_getElem (this.2 hl)]; rfl
    · rw [List.getElem?_eq_none (by omega), List.getElem?_eq_none (by omega)]
  · rw [if_neg hw]

theorem merge_comm {wa wb : VS} {Na Nb : Mem} (ha : Na.length = M.length) (hb : Nb.length = M.length) (h : VS.disj wa wb = true) : merge bs wb (merge bs wa M Na) Nb = merge bs wa (merge bs wb M Nb) Na := by
  apply List.ext_getElem?
  intro n
  rw [merge_get (M := merge bs wa M Na) (by rw [merge_len ha, hb]), merge_get (M := merge bs wb M Nb) (by rw [merge_len hb, ha]), merge_get ha, merge_get hb]
  by_cases h1 : wa.has bs n = true
  · have h2 := disj_spec h bs n h1
    simp [h1, h2]
  · simp [h1]

/-! ### An operation, what it does told apart from where it is laid -/

def evD (A : Pg) (cl : Cl) (bs : Nat) (o : O) (vi wr : VS) (tm : List V) (M : Mem) : Option (V × Option Mem) :=
  match wanted tm o.g with
  | some true => if (tgtOK bs vi wr (tgt A bs tm o.i) && !growsI A tm o.i) = true then (evI A cl bs tm (see bs vi M) o.i).map fun r => (r.1, some r.2) else none
  | some false => some (.none, none)
  | none => none

def mg (bs : Nat) (wr : VS) (M : Mem) : Option Mem → Mem
  | some N => merge bs wr M N
  | none => M

theorem evO_eq {o : O} {vi wr : VS} (hv : o.v = some (vi, wr)) (s : St) : evO A cl bs o s = (evD A cl bs o vi wr s.1 s.2).map fun r => (setD o.d r.1 s.1, mg bs wr s.2 r.2) := by
  unfold evO evD
  cases hw : wanted s.1 o.g with
  | none => rfl
  | some b =>
    cases b with
    | false => rfl
    | true =>
      simp only [hv]
      split
      · cases he : evI A cl bs s.1 (see bs vi s.2) o.i with
        | none => rfl
        | some r => rfl
      · rfl

theorem evD_len (hcl : HoldCl A cl) {o : O} {vi wr : VS} {x : V} {N : Option Mem} (h : evD A cl bs o vi wr tm M = some (x, N)) : ∀ N', N = some N' → N'.length = M.length := by
  rintro N' rfl
  unfold evD at h
  split at h
  · split at h
    · rename_i hc
      obtain ⟨r, h1, he⟩ := Option.map_eq_some_iff.1 h
      simp only [Prod.mk.injEq, Option.some.injEq] at he
      obtain ⟨_, rfl⟩ := he
      have hgr : growsI A tm o.i = false := by
        simp only [Bool.and_eq_true, Bool.not_eq_true'] at hc
        exact hc.2
      have := (evI_near hcl h1).1.2 hgr
      rw [this, see_len]
    · simp at h
  · simp at h
  · simp at h

theorem growsI_cong {i : I} (h : ∀ t ∈ usesI i, tm.getD t .none = tm'.getD t .none) : growsI A tm i = growsI A tm' i := by
  cases i with
  | call s m f args =>
    have ef := evX_cong (x := f) fun t ht => h t (by simp only [usesI, List.mem_append]; exact .inl ht)
    simp only [growsI, ef]
  | _ => rfl

theorem evD_cong {o : O} {vi wr : VS} {M' : Mem} (hu : ∀ t ∈ usesO o, tm.getD t .none = tm'.getD t .none) (hM : see bs vi M = see bs vi M') : evD A cl bs o vi wr tm M = evD A cl bs o vi wr tm' M' := by
  have h1 := wanted_cong (tm := tm) (tm' := tm') (g := o.g) (fun t ht => hu t (by simp only [usesO, List.mem_append]; exact .inl ht))
  have h2 := fun M => evI_cong (A := A) (cl := cl) (bs := bs) (tm := tm) (tm' := tm') (M := M) (i := o.i) (fun t ht => hu t (by simp only [usesO, List.mem_append]; exact .inr ht))
  have h3 := growsI_cong (A := A) (tm := tm) (tm' := tm') (i := o.i) (fun t ht => hu t (by simp only [usesO, List.mem_append]; exact .inr ht))
  simp only [evD, h1, (h2 _).1, (h2 M).2, hM, h3]

theorem mg_len {wr : VS} {N : Option Mem} (h : ∀ N', N = some N' → N'.length = M.length) : (mg bs wr M N).length = M.length := by
  cases N with
  | none => rfl
  | some N => exact merge_len (h N rfl)

theorem see_mg {va wb : VS} {N : Option Mem} (h : ∀ N', N = some N' → N'.length = M.length) (hd : VS.disj wb va = true) : see bs va (mg bs wb M N) = see bs va M := by
  cases N with
  | none => rfl
  | some N => exact see_merge (h N rfl) hd

theorem mg_comm {wa wb : VS} {Na Nb : Option Mem} (ha : ∀ N', Na = some N' → N'.length = M.length) (hb : ∀ N', Nb = some N' → N'.length = M.length) (h : VS.disj wa wb = true) : mg bs wb (mg bs wa M Na) Nb = mg bs wa (mg bs wb M Nb) Na := by
  cases Na with
  | none => rfl
  | some Na =>
    cases Nb with
    | none => rfl
    | some Nb => exact merge_comm (ha Na rfl) (hb Nb rfl) h

theorem commute (hcl : HoldCl A cl) {a b : O} {s s1 s2 : St} {va wa vb wb : VS} (hva : a.v = some (va, wa)) (hvb : b.v = some (vb, wb)) (hsb : VS.sub wb vb = true) (hi : indep a b = true) (ha : evO A cl bs a s = some s1) (hb : evO A cl bs b s1 = some s2) :
    ∃ s1', evO A cl bs b s = some s1' ∧ evO A cl bs a s1' = some s2 := by
  simp only [indep, hva, hvb, Bool.and_eq_true, List.all_eq_true, dOf] at hi
  obtain ⟨⟨⟨d1, d2⟩, u1⟩, u2⟩ := hi
  rw [evO_eq hva] at ha
  obtain ⟨⟨x, Na⟩, a1, a2⟩ := Option.map_eq_some_iff.1 ha
  simp only at a2
  subst a2
  rw [evO_eq hvb] at hb
  obtain ⟨⟨y, Nb⟩, b1, b2⟩ := Option.map_eq_some_iff.1 hb
  simp only at b1 b2
  subst b2
  have la := evD_len hcl a1
  have e1 : evD A cl bs b vb wb (setD a.d x s.1) (mg bs wa s.2 Na) = evD A cl bs b vb wb s.1 s.2 :=
    evD_cong (fun t ht => setD_get (fun hd => by have := (u1 t hd).1; simp [ht] at this)) (see_mg la d1)
  rw [e1] at b1
  have lb := evD_len hcl b1
  refine ⟨(setD b.d y s.1, mg bs wb s.2 Nb), by rw [evO_eq hvb, b1]; rfl, ?_⟩
  have e2 : evD A cl bs a va wa (setD b.d y s.1) (mg bs wb s.2 Nb) = evD A cl bs a va wa s.1 s.2 :=
    evD_cong (fun t ht => setD_get (fun hd => by have := u2 t hd; simp [ht] at this)) (see_mg lb d2)
  rw [evO_eq hva]
  simp only
  rw [e2, a1]
  simp only [Option.map_some]
  congr 2
  · exact setD_comm (fun t ht => by have := (u1 t ht).2; simpa using this)
  · refine (mg_comm la lb ?_).symm
    -- what one writes, the other sees: so what both write is nothing
    cases hd : VS.disj wa wb with
    | true => rfl
    | false =>
      exfalso
      revert hd d1 hsb
      cases wa <;> cases wb <;> cases vb <;> simp only [VS.disj, VS.sub] <;> intro d1 hsb hd <;> simp_all <;> grind

/-- An operation that has nothing to do with those ahead of it, taken first. -/
theorem front (hcl : HoldCl A cl) {o : O} {post : List O} {vo wo : VS} (hvo : o.v = some (vo, wo)) (hso : VS.sub wo vo = true) : ∀ {pre : List O} {s sf : St}, (∀ p ∈ pre, indep p o = true ∧ ∃ v w, p.v = some (v, w)) → evOs A cl bs (pre ++ o :: post) s = some sf →
    ∃ s1, evO A cl bs o s = some s1 ∧ evOs A cl bs (pre ++ post) s1 = some sf
  | [], s, sf, _, h => by
    simp only [List.nil_append, evOs] at h ⊢
    split at h
    · rename_i s1 h1
      exact ⟨s1, h1, h⟩
    · simp at h
  | p :: pre, s, sf, hp, h => by
    simp only [List.cons_append, evOs] at h ⊢
    split at h
    · rename_i s1 h1
      obtain ⟨s2, h2, h3⟩ := front hcl hvo hso (fun q hq => hp q (List.mem_cons_of_mem _ hq)) h
      obtain ⟨hi, v, w, hv⟩ := hp p (by simp)
      obtain ⟨s1', k1, k2⟩ := commute hcl hv hvo hso hi h1 h2
      exact ⟨s1', k1, by rw [k2]; exact h3⟩
    · simp at h

end
end Go.Proofs.Ytopcnhojkfeafaa.Am
