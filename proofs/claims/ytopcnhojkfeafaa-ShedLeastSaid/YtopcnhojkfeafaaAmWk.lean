/- AM: walking through code: rules that rewriting takes, one step each. -/
import Derived.Test.YtopcnhojkfeafaaAmLim
import Derived.IntWalk
set_option linter.unusedSimpArgs false
set_option linter.unusedVariables false
namespace Go.Proofs.Ytopcnhojkfeafaa.Am

abbrev AL := List (Nat × V)

/-- What a slot holds. -/
def lk : AL → Nat → V
  | [], _ => .any
  | (m, v) :: l, n => if m = n then v else lk l n

/-- Slots, told by pairs. -/
def mk (n : Nat) (l : AL) : List V := (List.range n).map (lk l)

theorem mk_len (n : Nat) (l : AL) : (mk n l).length = n := by simp [mk]

theorem mk_getD (n : Nat) (l : AL) (t : Nat) : (mk n l).getD t .none = if t < n then lk l t else .none := by
  unfold mk
  rw [List.getD_eq_getElem?_getD]
  split
  · rename_i h; simp [h]
  · rename_i h; simp [Nat.le_of_not_lt h]

theorem mk_set (n : Nat) (l : AL) (d : Nat) (v : V) : (mk n l).set d v = mk n ((d, v) :: l) := by
  apply List.ext_getElem?
  intro i
  simp only [mk, List.getElem?_set, List.getElem?_map, List.length_map, List.length_range, lk]
  by_cases h : d = i
  · subst h
    by_cases h2 : d < n
    · simp [h2]
    · simp [h2, Nat.le_of_not_lt h2]
  · rw [if_neg h]
    by_cases h2 : i < n
    · simp [h2, h, lk]
    · simp [h2, Nat.le_of_not_lt h2]

theorem lk_live (live : List Nat) (g : Nat → V) (t : Nat) : lk (live.map fun t => (t, g t)) t = if live.contains t then g t else .any := by
  induction live with
  | nil => simp [lk]
  | cons a live ih =>
    simp only [List.map_cons, lk, List.contains_cons]
    by_cases h : a = t
    · subst h; simp
    · rw [if_neg h, ih]
      have : (t == a) = false := by simpa using fun e => h e.symm
      simp [this]

theorem killL_get2 (live : List Nat) : ∀ (tm : List V) (i t : Nat), (killL live i tm)[t]? = (tm[t]?).map fun v => if live.contains (i + t) then v else .any
  | [], i, t => by simp [killL]
  | v :: tm, i, t => by
    cases t with
    | zero => simp [killL]
    | succ t =>
      simp only [killL, List.getElem?_cons_succ]
      rw [killL_get2 live tm (i + 1) t, show i + 1 + t = i + (t + 1) by omega]

theorem kill_any (live : List Nat) (tm : List V) (n : Nat) (hn : tm.length = n) : killL live 0 tm = mk n (live.map fun t => (t, tm.getD t .none)) := by
  subst hn
  apply List.ext_getElem?
  intro i
  rw [killL_get2]
  simp only [mk, List.getElem?_map, Nat.zero_add]
  by_cases h : i < tm.length
  · simp only [List.getElem?_range h, Option.map_some, lk_live]
    simp [h]
  · simp [h, Nat.le_of_not_lt h]

theorem kill_mk (live : List Nat) (n : Nat) (l : AL) : killL live 0 (mk n l) = mk n (live.map fun t => (t, lk l t)) := by
  rw [kill_any live _ n (mk_len n l)]
  unfold mk
  apply List.map_congr_left
  intro t ht
  rw [lk_live, lk_live]
  split
  · rw [List.getD_eq_getElem?_getD]
    have := List.mem_range.1 ht
    simp [this]
  · rfl

theorem kill_start (live : List Nat) (n : Nat) (args : List V) (h : args.length ≤ n) : killL live 0 (startTm n args) = mk n (live.map fun t => (t, args.getD t .none)) := by
  rw [kill_any live _ n (by simp [startTm]; omega)]
  congr 2
  funext t
  unfold startTm
  by_cases c : t < args.length
  · simp [List.getD_eq_getElem?_getD, List.getElem?_append_left c]
  · simp only [List.getD_eq_getElem?_getD, List.getElem?_append_right (Nat.le_of_not_lt c), List.getElem?_replicate]
    simp [Nat.le_of_not_lt c]
    split <;> rfl

/-! ### Walking -/

/-- What is still to be done. -/
inductive K where
  | seq (b : AC)
  | blk (id : Nat)

noncomputable def kont (A : Pg) (bs : Nat) : List K → Ex → St → Option (Ex × St)
  | [], e, s => some (e, s)
  | k :: ks, e, s => match k, e with
    | .seq b, .normal => match evW A bs b s with
      | some (e, s) => kont A bs ks e s
      | none => none
    | .seq _, e => kont A bs ks e s
    | .blk id, .exit id' => if id' = id then kont A bs ks .normal s else kont A bs ks (.exit id') s
    | .blk _, e => kont A bs ks e s

def Wx (A : Pg) (bs : Nat) (e : Ex) (ks : List K) (s : St) (Q : Ex → St → Prop) : Prop := ∃ e' s', kont A bs ks e s = some (e', s') ∧ Q e' s'

def W (A : Pg) (bs : Nat) (c : AC) (ks : List K) (s : St) (Q : Ex → St → Prop) : Prop := ∃ e s', evW A bs c s = some (e, s') ∧ Wx A bs e ks s' Q

def Wc (A : Pg) (bs : Nat) (x : V) (a b : AC) (ks : List K) (s : St) (Q : Ex → St → Prop) : Prop := ∃ y, asB x = some y ∧ (if y then W A bs a ks s Q else W A bs b ks s Q)

def Wr (A : Pg) (bs : Nat) (os : List O) (ks : List K) (s : St) (Q : Ex → St → Prop) : Prop := ∃ s', evOs A (run A) bs os s = some s' ∧ Wx A bs .normal ks s' Q

/-- An operation's answer, and what is still to be done. -/
def Wi (A : Pg) (bs : Nat) (r : Option (V × Mem)) (d : Option Nat) (os : List O) (ks : List K) (n : Nat) (l : AL) (Q : Ex → St → Prop) : Prop := ∃ v M, r = some (v, M) ∧ Wr A bs os ks (setD d v (mk n l), M) Q

def Wg (A : Pg) (bs : Nat) (x : V) (b : Bool) (d : Option Nat) (i : I) (os : List O) (ks : List K) (n : Nat) (l : AL) (M : Mem) (Q : Ex → St → Prop) : Prop :=
  match x with
  | .c (.bool y) => if y = b then Wi A bs (evI A (run A) bs (mk n l) M i) d os ks n l Q else Wi A bs (some (.none, M)) d os ks n l Q
  | .none => Wi A bs (some (.none, M)) d os ks n l Q
  | _ => False

def Wd (A : Pg) (bs : Nat) (ok : Bool) (r : Option (V × Mem)) (wr : VS) (d : Option Nat) (os : List O) (ks : List K) (n : Nat) (l : AL) (M : Mem) (Q : Ex → St → Prop) : Prop := ok = true ∧ ∃ v N, r = some (v, N) ∧ Wr A bs os ks (setD d v (mk n l), merge bs wr M N) Q

section
variable {A : Pg} {bs : Nat} {ks : List K} {s : St} {Q : Ex → St → Prop} {n : Nat} {l : AL} {M : Mem} {os : List O} {d : Option Nat}

theorem Wx_nil {e : Ex} : Wx A bs e [] s Q ↔ Q e s := by
  unfold Wx kont
  constructor
  · rintro ⟨e', s', h, hq⟩
    simp only [Option.some.injEq, Prod.mk.injEq] at h
    obtain ⟨rfl, rfl⟩ := h
    exact hq
  · intro h
    exact ⟨_, _, rfl, h⟩

theorem Wx_seq {b : AC} : Wx A bs .normal (.seq b :: ks) s Q ↔ W A bs b ks s Q := by
  unfold Wx W Wx
  simp only [kont]
  constructor
  · rintro ⟨e', s', h, hq⟩
    cases h1 : evW A bs b s with
    | none => simp [h1] at h
    | some p => rw [h1] at h; exact ⟨p.1, p.2, rfl, e', s', h, hq⟩
  · rintro ⟨e, s1, h1, e', s', h, hq⟩
    exact ⟨e', s', by rw [h1]; exact h, hq⟩

theorem Wx_blk {id : Nat} : Wx A bs .normal (.blk id :: ks) s Q ↔ Wx A bs .normal ks s Q := by simp only [Wx, kont]
theorem Wx_ret_seq {b : AC} : Wx A bs .ret (.seq b :: ks) s Q ↔ Wx A bs .ret ks s Q := by simp only [Wx, kont]
theorem Wx_ret_blk {id : Nat} : Wx A bs .ret (.blk id :: ks) s Q ↔ Wx A bs .ret ks s Q := by simp only [Wx, kont]
theorem Wx_exit_seq {id : Nat} {b : AC} : Wx A bs (.exit id) (.seq b :: ks) s Q ↔ Wx A bs (.exit id) ks s Q := by simp only [Wx, kont]
theorem Wx_exit_blk {id id' : Nat} : Wx A bs (.exit id) (.blk id' :: ks) s Q ↔ Wx A bs (if id = id' then .normal else .exit id) ks s Q := by
  simp only [Wx, kont]
  split <;> rfl

theorem W_skip : W A bs .skip ks s Q ↔ Wx A bs .normal ks s Q := by
  unfold W
  rw [evW_skip]
  exact ⟨fun ⟨e, s', h, q⟩ => by simp only [Option.some.injEq, Prod.mk.injEq] at h; obtain ⟨rfl, rfl⟩ := h; exact q, fun h => ⟨_, _, rfl, h⟩⟩
theorem W_ret : W A bs .ret ks s Q ↔ Wx A bs .ret ks s Q := by
  unfold W
  rw [evW_ret]
  exact ⟨fun ⟨e, s', h, q⟩ => by simp only [Option.some.injEq, Prod.mk.injEq] at h; obtain ⟨rfl, rfl⟩ := h; exact q, fun h => ⟨_, _, rfl, h⟩⟩
theorem W_exit {id : Nat} : W A bs (.exit id) ks s Q ↔ Wx A bs (.exit id) ks s Q := by
  unfold W
  rw [evW_exit]
  exact ⟨fun ⟨e, s', h, q⟩ => by simp only [Option.some.injEq, Prod.mk.injEq] at h; obtain ⟨rfl, rfl⟩ := h; exact q, fun h => ⟨_, _, rfl, h⟩⟩

theorem W_seq {a b : AC} : W A bs (.seq a b) ks s Q ↔ W A bs a (.seq b :: ks) s Q := by
  unfold W
  rw [evW_seq]
  constructor
  · rintro ⟨e, s', h, q⟩
    cases h1 : evW A bs a s with
    | none => simp [h1] at h
    | some p =>
      obtain ⟨e1, s1⟩ := p
      rw [h1] at h
      refine ⟨e1, s1, rfl, ?_⟩
      cases e1 with
      | normal => exact Wx_seq.2 ⟨e, s', h, q⟩
      | exit id => simp only [Option.some.injEq, Prod.mk.injEq] at h; obtain ⟨rfl, rfl⟩ := h; exact Wx_exit_seq.2 q
      | ret => simp only [Option.some.injEq, Prod.mk.injEq] at h; obtain ⟨rfl, rfl⟩ := h; exact Wx_ret_seq.2 q
  · rintro ⟨e1, s1, h1, q⟩
    rw [h1]
    cases e1 with
    | normal =>
      obtain ⟨e, s', h, q⟩ := Wx_seq.1 q
      exact ⟨e, s', h, q⟩
    | exit id => exact ⟨_, _, rfl, Wx_exit_seq.1 q⟩
    | ret => exact ⟨_, _, rfl, Wx_ret_seq.1 q⟩

theorem W_block {id : Nat} {a : AC} : W A bs (.block id a) ks s Q ↔ W A bs a (.blk id :: ks) s Q := by
  unfold W
  rw [evW_block]
  constructor
  · rintro ⟨e, s', h, q⟩
    cases h1 : evW A bs a s with
    | none => simp [h1] at h
    | some p =>
      obtain ⟨e1, s1⟩ := p
      rw [h1] at h
      refine ⟨e1, s1, rfl, ?_⟩
      cases e1 with
      | normal => simp only [Option.some.injEq, Prod.mk.injEq] at h; obtain ⟨rfl, rfl⟩ := h; exact Wx_blk.2 q
      | exit id' =>
        simp only at h
        rw [Wx_exit_blk]
        split at h
        · rename_i c
          simp only [Option.some.injEq, Prod.mk.injEq] at h; obtain ⟨rfl, rfl⟩ := h
          rw [if_pos c]; exact q
        · rename_i c
          simp only [Option.some.injEq, Prod.mk.injEq] at h; obtain ⟨rfl, rfl⟩ := h
          rw [if_neg c]; exact q
      | ret => simp only [Option.some.injEq, Prod.mk.injEq] at h; obtain ⟨rfl, rfl⟩ := h; exact Wx_ret_blk.2 q
  · rintro ⟨e1, s1, h1, q⟩
    rw [h1]
    cases e1 with
    | normal => exact ⟨_, _, rfl, Wx_blk.1 q⟩
    | exit id' =>
      rw [Wx_exit_blk] at q
      simp only
      split at q
      · rename_i c; rw [if_pos c]; exact ⟨_, _, rfl, q⟩
      · rename_i c; rw [if_neg c]; exact ⟨_, _, rfl, q⟩
    | ret => exact ⟨_, _, rfl, Wx_ret_blk.1 q⟩

theorem W_keep {live : List Nat} {a : AC} : W A bs (.keep live a) ks (mk n l, M) Q ↔ W A bs a ks (mk n (live.map fun t => (t, lk l t)), M) Q := by
  unfold W
  rw [evW_keep, kill_mk]

theorem W_cond {c : X} {a b : AC} : W A bs (.cond c a b) ks s Q ↔ Wc A bs (evX s.1 c) a b ks s Q := by
  unfold Wc W
  rw [evW_cond]
  cases h : asB (evX s.1 c) with
  | none => simp
  | some y => cases y <;> simp

theorem Wc_true {a b : AC} : Wc A bs (.c (.bool true)) a b ks s Q ↔ W A bs a ks s Q := by simp [Wc, asB]
theorem Wc_false {a b : AC} : Wc A bs (.c (.bool false)) a b ks s Q ↔ W A bs b ks s Q := by simp [Wc, asB]
theorem Wc_dec {p : Prop} [Decidable p] {a b : AC} : Wc A bs (.c (.bool (decide p))) a b ks s Q ↔ (p → W A bs a ks s Q) ∧ (¬p → W A bs b ks s Q) := by
  by_cases h : p <;> simp [Wc, asB, h]
theorem Wc_bool {x : Bool} {a b : AC} : Wc A bs (.c (.bool x)) a b ks s Q ↔ (x = true → W A bs a ks s Q) ∧ (x = false → W A bs b ks s Q) := by
  cases x <;> simp [Wc, asB]

theorem W_region : W A bs (.region os) ks s Q ↔ Wr A bs os ks s Q := by
  unfold W Wr
  rw [evW_region]
  constructor
  · rintro ⟨e, s', h, q⟩
    obtain ⟨s1, h1, h2⟩ := Option.map_eq_some_iff.1 h
    simp only [Prod.mk.injEq] at h2
    obtain ⟨rfl, rfl⟩ := h2
    exact ⟨_, h1, q⟩
  · rintro ⟨s', h, q⟩
    exact ⟨_, _, by rw [h]; rfl, q⟩

theorem Wr_nil : Wr A bs [] ks s Q ↔ Wx A bs .normal ks s Q := by
  unfold Wr
  simp only [evOs]
  exact ⟨fun ⟨s', h, q⟩ => by simp only [Option.some.injEq] at h; subst h; exact q, fun h => ⟨_, rfl, h⟩⟩

theorem Wr_cons {o : O} : Wr A bs (o :: os) ks s Q ↔ ∃ s1, evO A (run A) bs o s = some s1 ∧ Wr A bs os ks s1 Q := by
  unfold Wr
  simp only [evOs]
  cases evO A (run A) bs o s with
  | none => simp
  | some s1 => simp

theorem Wr_op {i : I} : Wr A bs (⟨d, none, i, none⟩ :: os) ks (mk n l, M) Q ↔ Wi A bs (evI A (run A) bs (mk n l) M i) d os ks n l Q := by
  rw [Wr_cons]
  unfold Wi
  simp only [evO, wanted]
  constructor
  · rintro ⟨s1, h, q⟩
    split at h
    · rename_i v M' he
      simp only [Option.some.injEq] at h; subst h
      exact ⟨v, M', he, q⟩
    · simp at h
  · rintro ⟨v, M', he, q⟩
    rw [he]
    exact ⟨_, rfl, q⟩

theorem Wr_guard {t : Nat} {b : Bool} {i : I} : Wr A bs (⟨d, some (t, b), i, none⟩ :: os) ks (mk n l, M) Q ↔ Wg A bs (evX (mk n l) (.t t)) b d i os ks n l M Q := by
  rw [Wr_cons]
  unfold Wg Wi
  simp only [evO, wanted, evX]
  cases (mk n l).getD t .none with
  | c c =>
    cases c with
    | bool y =>
      by_cases h : y = b
      · subst h
        simp only [BEq.rfl, if_true]
        constructor
        · rintro ⟨s1, h, q⟩
          split at h
          · rename_i v M' he
            simp only [Option.some.injEq] at h; subst h
            exact ⟨v, M', he, q⟩
          · simp at h
        · rintro ⟨v, M', he, q⟩
          rw [he]
          exact ⟨_, rfl, q⟩
      · have : (y == b) = false := by simpa using h
        simp only [this, if_neg h]
        constructor
        · rintro ⟨s1, h, q⟩
          simp only [Option.some.injEq] at h; subst h
          exact ⟨_, _, rfl, q⟩
        · rintro ⟨v, M', he, q⟩
          simp only [Option.some.injEq, Prod.mk.injEq] at he
          obtain ⟨rfl, rfl⟩ := he
          exact ⟨_, rfl, q⟩
    | _ => simp
  | none =>
    constructor
    · rintro ⟨s1, h, q⟩
      simp only [Option.some.injEq] at h; subst h
      exact ⟨_, _, rfl, q⟩
    · rintro ⟨v, M', he, q⟩
      simp only [Option.some.injEq, Prod.mk.injEq] at he
      obtain ⟨rfl, rfl⟩ := he
      exact ⟨_, rfl, q⟩
  | _ => simp

theorem Wr_draw {i : I} {v w : VS} : Wr A bs (⟨d, none, i, some (v, w)⟩ :: os) ks (mk n l, M) Q ↔ Wd A bs (tgtOK bs v w (tgt A bs (mk n l) i) && !growsI A (mk n l) i) (evI A (run A) bs (mk n l) (see bs v M) i) w d os ks n l M Q := by
  rw [Wr_cons]
  unfold Wd
  simp only [evO, wanted]
  constructor
  · rintro ⟨s1, h, q⟩
    split at h
    · rename_i hc
      split at h
      · rename_i v M' he
        simp only [Option.some.injEq] at h; subst h
        exact ⟨hc, v, M', he, q⟩
      · simp at h
    · simp at h
  · rintro ⟨hc, v, M', he, q⟩
    rw [if_pos hc, he]
    exact ⟨_, rfl, q⟩

theorem Wi_some {v : V} {t : Nat} : Wi A bs (some (v, M)) (some t) os ks n l Q ↔ Wr A bs os ks (mk n ((t, v) :: l), M) Q := by
  unfold Wi
  constructor
  · rintro ⟨v', M', h, q⟩
    simp only [Option.some.injEq, Prod.mk.injEq] at h
    obtain ⟨rfl, rfl⟩ := h
    simpa only [setD, mk_set] using q
  · intro q
    exact ⟨_, _, rfl, by simpa only [setD, mk_set] using q⟩
theorem Wi_some' {v : V} : Wi A bs (some (v, M)) none os ks n l Q ↔ Wr A bs os ks (mk n l, M) Q := by
  unfold Wi
  constructor
  · rintro ⟨v', M', h, q⟩
    simp only [Option.some.injEq, Prod.mk.injEq] at h
    obtain ⟨rfl, rfl⟩ := h
    exact q
  · intro q
    exact ⟨_, _, rfl, q⟩
theorem Wi_none : Wi A bs none d os ks n l Q ↔ False := by simp [Wi]
theorem Wi_if {p : Prop} [Decidable p] {a : Option (V × Mem)} : Wi A bs (if p then a else none) d os ks n l Q ↔ p ∧ Wi A bs a d os ks n l Q := by
  by_cases h : p <;> simp [h, Wi_none]
theorem Wi_if2 {p : Prop} [Decidable p] {a b : Option (V × Mem)} : Wi A bs (if p then a else b) d os ks n l Q ↔ (p → Wi A bs a d os ks n l Q) ∧ (¬p → Wi A bs b d os ks n l Q) := by
  by_cases h : p <;> simp [h]

theorem Wg_none {b : Bool} {i : I} : Wg A bs .none b d i os ks n l M Q ↔ Wi A bs (some (.none, M)) d os ks n l Q := Iff.rfl
theorem Wg_tt {i : I} : Wg A bs (.c (.bool true)) true d i os ks n l M Q ↔ Wi A bs (evI A (run A) bs (mk n l) M i) d os ks n l Q := by simp [Wg]
theorem Wg_ff {i : I} : Wg A bs (.c (.bool false)) false d i os ks n l M Q ↔ Wi A bs (evI A (run A) bs (mk n l) M i) d os ks n l Q := by simp [Wg]
theorem Wg_tf {i : I} : Wg A bs (.c (.bool true)) false d i os ks n l M Q ↔ Wi A bs (some (.none, M)) d os ks n l Q := by simp [Wg]
theorem Wg_ft {i : I} : Wg A bs (.c (.bool false)) true d i os ks n l M Q ↔ Wi A bs (some (.none, M)) d os ks n l Q := by simp [Wg]
theorem Wg_dec {p : Prop} [Decidable p] {i : I} : Wg A bs (.c (.bool (decide p))) true d i os ks n l M Q ↔ (p → Wi A bs (evI A (run A) bs (mk n l) M i) d os ks n l Q) ∧ (¬p → Wi A bs (some (.none, M)) d os ks n l Q) := by
  by_cases h : p <;> simp [Wg, h]
theorem Wg_dec' {p : Prop} [Decidable p] {i : I} : Wg A bs (.c (.bool (decide p))) false d i os ks n l M Q ↔ (¬p → Wi A bs (evI A (run A) bs (mk n l) M i) d os ks n l Q) ∧ (p → Wi A bs (some (.none, M)) d os ks n l Q) := by
  by_cases h : p <;> simp [Wg, h]
theorem Wg_bool {x b : Bool} {i : I} : Wg A bs (.c (.bool x)) b d i os ks n l M Q ↔ (x = b → Wi A bs (evI A (run A) bs (mk n l) M i) d os ks n l Q) ∧ (x ≠ b → Wi A bs (some (.none, M)) d os ks n l Q) := by
  by_cases h : x = b <;> simp [Wg, h]

theorem Wd_true {v : V} {N : Mem} {w : VS} {t : Nat} : Wd A bs true (some (v, N)) w (some t) os ks n l M Q ↔ Wr A bs os ks (mk n ((t, v) :: l), merge bs w M N) Q := by
  unfold Wd
  constructor
  · rintro ⟨_, v', M', h, q⟩
    simp only [Option.some.injEq, Prod.mk.injEq] at h
    obtain ⟨rfl, rfl⟩ := h
    simpa only [setD, mk_set] using q
  · intro q
    exact ⟨rfl, _, _, rfl, by simpa only [setD, mk_set] using q⟩
theorem Wd_true' {v : V} {N : Mem} {w : VS} : Wd A bs true (some (v, N)) w none os ks n l M Q ↔ Wr A bs os ks (mk n l, merge bs w M N) Q := by
  unfold Wd
  constructor
  · rintro ⟨_, v', M', h, q⟩
    simp only [Option.some.injEq, Prod.mk.injEq] at h
    obtain ⟨rfl, rfl⟩ := h
    exact q
  · intro q
    exact ⟨rfl, _, _, rfl, q⟩
theorem Wd_if {p : Prop} [Decidable p] {ok : Bool} {a : Option (V × Mem)} {w : VS} : Wd A bs ok (if p then a else none) w d os ks n l M Q ↔ p ∧ Wd A bs ok a w d os ks n l M Q := by
  by_cases h : p <;> simp [h, Wd]

/-- A loop, by what holds at its head: of whatever tells its rounds. -/
def LQ (A : Pg) (bs : Nat) (nrm out : St → Option St) (N : St → Prop) (ks : List K) (Q : Ex → St → Prop) : Ex → St → Prop
  | .normal, s => ∃ s', nrm s = some s' ∧ N s'
  | .exit id, s => ∃ s', out s = some s' ∧ Wx A bs (.exit id) ks s' Q
  | .ret, s => ∃ s', out s = some s' ∧ Wx A bs .ret ks s' Q

theorem LQ_normal {nrm out : St → Option St} {N : St → Prop} : LQ A bs nrm out N ks Q .normal s ↔ ∃ s', nrm s = some s' ∧ N s' := Iff.rfl
theorem LQ_exit {nrm out : St → Option St} {N : St → Prop} {id : Nat} : LQ A bs nrm out N ks Q (.exit id) s ↔ ∃ s', out s = some s' ∧ Wx A bs (.exit id) ks s' Q := Iff.rfl
theorem LQ_ret {nrm out : St → Option St} {N : St → Prop} : LQ A bs nrm out N ks Q .ret s ↔ ∃ s', out s = some s' ∧ Wx A bs .ret ks s' Q := Iff.rfl

theorem W_loop {an : Ann} {a : AC} {σ : Type} (I : σ → St) (P : σ → Prop) (μ : σ → Nat) (x0 : σ) (h0 : norm an.live an.trunc (thawAll bs s an.thaw).2 (thawAll bs s an.thaw) = some (I x0)) (hP : P x0)
    (hstep : ∀ x, P x → W A bs a [] (I x) (LQ A bs (norm an.live an.trunc (I x0).2) (norm an.out an.trunc (I x0).2) (fun s' => ∃ y, P y ∧ μ y < μ x ∧ s' = I y) ks Q)) :
    W A bs (.loop an a) ks s Q := by
  have key : ∀ m x, P x → μ x < m → ∃ e s', iterW (evW A bs a) (norm an.live an.trunc (I x0).2) (norm an.out an.trunc (I x0).2) (I x) = some (e, s') ∧ Wx A bs e ks s' Q := by
    intro m
    induction m with
    | zero => intro x _ h; omega
    | succ m ih =>
      intro x hx hm
      obtain ⟨e, s', h1, h2⟩ := hstep x hx
      rw [Wx_nil] at h2
      rw [iterW_eq, h1]
      cases e with
      | normal =>
        obtain ⟨s2, h3, y, hy, hlt, rfl⟩ := h2
        simp only [h3]
        exact ih y hy (by omega)
      | exit id =>
        obtain ⟨s2, h3, h4⟩ := h2
        exact ⟨_, s2, by simp [h3], h4⟩
      | ret =>
        obtain ⟨s2, h3, h4⟩ := h2
        exact ⟨_, s2, by simp [h3], h4⟩
  obtain ⟨e, s', h1, h2⟩ := key _ x0 hP (Nat.lt_succ_self _)
  exact ⟨e, s', by rw [evW_loop, h0]; exact h1, h2⟩

/-- A function's run, from a walk through its code. -/
theorem run_of_W {f : Nat} {af : AF} {live : List Nat} {c : AC} {args : List V} {r : Option (V × Mem)} (hp : A.prim f = none) (hc : A.code f = some af) (hb : af.body = .keep live c) (hn : args.length ≤ af.ntmps)
    (h : W A M.length c [] (mk af.ntmps (live.map fun t => (t, args.getD t .none)), M ++ List.replicate af.nblk none) (fun e s => (∀ id, e ≠ .exit id) ∧ (evRes af.results s).bind (fun v => evRet A f v s.2) = r)) : run A f args M = r := by
  obtain ⟨e, s', h1, h2⟩ := h
  rw [Wx_nil] at h2
  rw [run_eq]
  unfold evF
  simp only [hp, hc, hb, evW_keep, kill_start live _ _ hn, h1]
  obtain ⟨h2, h3⟩ := h2
  cases e with
  | exit id => exact absurd rfl (h2 id)
  | normal =>
    simp only
    cases hr : evRes af.results s' with
    | none => rw [hr] at h3; simpa using h3
    | some v => rw [hr] at h3; exact h3
  | ret =>
    simp only
    cases hr : evRes af.results s' with
    | none => rw [hr] at h3; simpa using h3
    | some v => rw [hr] at h3; exact h3

end

end Go.Proofs.Ytopcnhojkfeafaa.Am
