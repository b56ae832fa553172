/- HeapPlays: the walk through the law. -/
import Derived.Test.YtopcnhojkfeafaaAmHpH
set_option linter.unusedSimpArgs false
set_option linter.unusedVariables false
set_option maxRecDepth 100000
namespace Go.Proofs.Ytopcnhojkfeafaa.Am.Hp

def hP : Pos := ⟨2, 0, 1, 4⟩
def none9 : Mem := [none, none, none, none, none, none, none, none, none]

theorem hP_in {M : Mem} (h : M.length = 9) : hP.In M := by
  constructor <;> simp [hP, h]

/-- A list in a slot: as it stays, or just made. -/
def Lst (M : Mem) (w : List Item) (c : C) : Prop := Sl 3 (w.map encW) c ∨ ∃ n g, c = .own n g 3 0 w.length ∧ M[n]? = some (some (.row 3 g (w.map encW))) ∧ 5 ≤ n

theorem Lst.len {M : Mem} {w : List Item} {c : C} (h : Lst M w c) : lenE (.c c) = some (.int .i64 w.length) := by
  rcases h with h | ⟨n, g, rfl, _, _⟩
  · simpa using h.len
  · rfl
theorem Lst.lend {M : Mem} {w : List Item} {c : C} (h : Lst M w c) : ∃ c', lendV M (.c c) = some (.c c') ∧ Sl 3 (w.map encW) c' := by
  rcases h with h | ⟨n, g, rfl, h, _⟩
  · exact ⟨c, lendV_c M c h.still, h⟩
  · refine ⟨.imm true 3 (w.map encW), ?_, .inl ⟨true, rfl⟩⟩
    have := frz_own h (len := w.length) (by simp) (encW_still _) 4
    rw [List.take_of_length_le (by simp)] at this
    show (frz true (fun _ => true) M 6 (.own n g 3 0 w.length)).map V.c = _
    rw [this]; rfl
theorem frz_ownF {M : Mem} {n g k len : Nat} {xs : List (List C)} {ok : Nat → Bool} (h : M[n]? = some (some (.row k g xs))) (hl : len ≤ xs.length) (hs : ∀ cs ∈ xs, cs.all flat = true) (hk : ok n = true) (d : Nat) : frz false ok M (d + 1 + 1) (.own n g k 0 len) = some (.imm false k (xs.take len)) := by
  have e : rowAt M n = some (k, g, xs) := by rw [rowAt_eq, h]; rfl
  unfold frz
  simp only [e, hk, if_true, and_self, Nat.zero_add, hl, List.drop_zero]
  rw [mapM_flat (frz false ok M (d + 1)) (fun c hc => frz_flat _ _ M d c hc) (fun cs hc => hs cs (List.mem_of_mem_take hc))]
  rfl
theorem Lst.keep {E M : Mem} {w : List Item} {c : C} (h : Lst M w c) (hE : ∀ n, 5 ≤ n → was E n = false) : ∃ c', keepC E M c = some c' ∧ Sl 3 (w.map encW) c' := by
  rcases h with h | ⟨n, g, rfl, h, h5⟩
  · exact ⟨c, keepC_still E M c h.still, h⟩
  · refine ⟨.imm false 3 (w.map encW), ?_, .inl ⟨false, rfl⟩⟩
    have := frz_ownF (ok := fun n => !was E n) h (len := w.length) (by simp) (encW_flat _) (by show (!was E n) = true; rw [hE n h5]; rfl) 4
    rw [List.take_of_length_le (by simp)] at this
    rw [keepC_own, hE n h5]
    exact this

/-- What a round leaves. -/
theorem keep_round {M : Mem} (hM : M.length = 9) (s t : HS) (N : Mem) : keepM (s.mem hP none9) N (s.mem hP none9) (t.mem hP M) = some (t.mem hP none9) := by
  have i9 := hP_in (M := none9) rfl
  have iM := hP_in hM
  refine keepM_spec _ _ _ _ _ (by rw [mem_len, mem_len]) (by rw [mem_len, mem_len, hM]; exact Nat.le_refl _) (fun i hi => ?_)
  rw [mem_len] at hi
  by_cases e1 : i = hP.n
  · subst e1
    refine .inr ⟨_, _, _, mem_n i9 s, mem_n iM t, ?_, mem_n i9 t⟩
    simp [keepB, keepC, mem_a i9, mem_b i9, mem_c i9]
  · by_cases e2 : i = hP.a
    · subst e2
      exact .inr ⟨_, _, _, mem_a i9 s, mem_a iM t, keepB_still _ _ _ _ _ (encK_still _), mem_a i9 t⟩
    · by_cases e3 : i = hP.b
      · subst e3
        exact .inr ⟨_, _, _, mem_b i9 s, mem_b iM t, keepB_still _ _ _ _ _ (encI_still _), mem_b i9 t⟩
      · by_cases e4 : i = hP.c
        · subst e4
          exact .inr ⟨_, _, _, mem_c i9 s, mem_c iM t, keepB_still _ _ _ _ _ (encI_still _), mem_c i9 t⟩
        · rw [mem_o _ e1 e2 e3 e4, mem_o _ e1 e2 e3 e4]
          have h9 : none9[i]? = some none := by
            have hi' : i < 9 := hi
            simp only [none9]
            match i, hi' with
            | 0, _ => rfl
            | 1, _ => rfl
            | 2, _ => rfl
            | 3, _ => rfl
            | 4, _ => rfl
            | 5, _ => rfl
            | 6, _ => rfl
            | 7, _ => rfl
            | 8, _ => rfl
          exact .inl ⟨h9, h9⟩

theorem was_round (s : HS) {n : Nat} (h : 5 ≤ n) : was (s.mem hP none9) n = false := by
  rw [was_eq, mem_o s (by simp [hP]; omega) (by simp [hP]; omega) (by simp [hP]; omega) (by simp [hP]; omega)]
  by_cases c : n < 9
  · match n, h, c with
    | 5, _, _ => rfl
    | 6, _, _ => rfl
    | 7, _, _ => rfl
    | 8, _, _ => rfl
  · rw [List.getElem?_eq_none (by simp [none9]; omega)]; rfl

/-- The tail of a round: Min, Key, Len. -/
def tailC : AC := .seq (.region c3r31) (.keep [0, 1, 2, 7, 9, 10, 20, 21] (.seq (.region c3r32) (.keep [0, 1, 2, 7, 9, 10, 20, 21, 22, 23] (.seq (.region c3r33) (.keep [0, 1, 2, 7, 9, 10, 20, 21, 22, 23, 24, 25, 26] (.seq (.region c3r34) (.keep [0, 1, 2, 7, 9, 10, 20, 21, 22, 23, 24, 25, 26, 27, 28, 29] (.seq (.region c3r35) (.keep [0, 1, 2, 7, 9, 10, 215] (.cond (.t 215) (.seq (.region c3r36) .ret) .skip))))))))))

theorem tail_walk {s : HS} {w : List Item} {n : Nat} (hR : Rel s w n) (hl : w.length ≤ 100000) {M : Mem} (hM : M.length = 9) {c c1 c2 : C} (hL : Lst (s.mem hP M) w c) {i ask : Int} (hi : -9223372036854775808 ≤ i + 1 ∧ i + 1 ≤ 9223372036854775807) {ks : List K} {Q : Ex → St → Prop}
    (hQ : Wr hp 0 c3r37 ks (mk 217 [(0, .c c1), (1, .c c2), (2, .c (.int .i64 ask)), (7, .c (s.ptr hP)), (9, .c c), (10, .c (.int .i64 i))], s.mem hP M) Q) :
    W hp 0 tailC (.blk 1 :: .seq (.keep [0, 1, 2, 7, 9, 10] (.region c3r37)) :: ks) (mk 217 [(0, .c c1), (1, .c c2), (2, .c (.int .i64 ask)), (7, .c (s.ptr hP)), (9, .c c), (10, .c (.int .i64 i))], s.mem hP M) Q := by
  have hin := hP_in hM
  have hle := lend_heap hin hR.hp.hl
  obtain ⟨c', hle2, hc'⟩ := hL.lend
  have kr := key_run s.keys s.place (s.row.take s.len) ask hR.hp.kl
  rw [hR.key] at kr
  have rk := rkey_run hc' ask (by omega)
  have lr : run hp 23 [.c (hv s.keys s.place (s.row.take s.len))] [] = some (.c (.int .i64 w.length), []) := by
    have := Hp.len_run s.keys s.place (s.row.take s.len)
    rw [List.length_take, Nat.min_eq_left hR.hp.hl] at this
    rw [← hR.len]
    exact this
  have hlen := hL.len
  cases hk : refKey w ask with
  | none =>
    rw [hk] at kr rk
    cases w with
    | nil =>
      have h0 : s.len = 0 := by rw [hR.len]; rfl
      rw [h0, List.take_zero] at hle kr lr
      have m1 := min0_run s.keys s.place
      have m2 := rmin0_run hc'
      simp [-getElem?_pos, keyV] at kr rk lr hlen
      simp [-getElem?_pos, tailC, c3r31, c3r32, c3r33, c3r34, c3r35, hp_md, hpMd, hle, m1, hle2, m2, kr, rk, lr, hlen, keyV]
      exact hQ
    | cons b w' =>
      obtain ⟨h0, hm⟩ := hR.min
      have m1 := min_run s.keys s.place (s.at 0) ((s.row.take s.len).drop 1)
      rw [← take_at hR.hp.toHV h0, hm] at m1
      have m2 := rmin_run hc' (by simp at hl; omega) (fun x hx => ⟨(hR.rng x hx).2.2.1, (hR.rng x hx).2.2.2.1⟩)
      simp [-getElem?_pos, keyV] at kr rk lr hlen
      simp [-getElem?_pos, tailC, c3r31, c3r32, c3r33, c3r34, c3r35, hp_md, hpMd, hle, m1, hle2, m2, kr, rk, lr, hlen, keyV]
      exact hQ
  | some k =>
    rw [hk] at kr rk
    cases w with
    | nil => cases hk
    | cons b w' =>
      obtain ⟨h0, hm⟩ := hR.min
      have m1 := min_run s.keys s.place (s.at 0) ((s.row.take s.len).drop 1)
      rw [← take_at hR.hp.toHV h0, hm] at m1
      have m2 := rmin_run hc' (by simp at hl; omega) (fun x hx => ⟨(hR.rng x hx).2.2.1, (hR.rng x hx).2.2.2.1⟩)
      simp [-getElem?_pos, keyV] at kr rk lr hlen
      simp [-getElem?_pos, tailC, c3r31, c3r32, c3r33, c3r34, c3r35, hp_md, hpMd, hle, m1, hle2, m2, kr, rk, lr, hlen, keyV]
      exact hQ

theorem n9_5 : none9[5]? = some none := rfl
theorem n9s5 (B : Option Blk) : none9.set 5 B = [none, none, none, none, none, B, none, none, none] := rfl
theorem mo5 (s : HS) (M : Mem) : (s.mem hP M)[5]? = M[5]? := mem_o s (by simp [hP]) (by simp [hP]) (by simp [hP]) (by simp [hP])
theorem mo6 (s : HS) (M : Mem) : (s.mem hP M)[6]? = M[6]? := mem_o s (by simp [hP]) (by simp [hP]) (by simp [hP]) (by simp [hP])
theorem mo7 (s : HS) (M : Mem) : (s.mem hP M)[7]? = M[7]? := mem_o s (by simp [hP]) (by simp [hP]) (by simp [hP]) (by simp [hP])
theorem mo8 (s : HS) (M : Mem) : (s.mem hP M)[8]? = M[8]? := mem_o s (by simp [hP]) (by simp [hP]) (by simp [hP]) (by simp [hP])
theorem ms5 (s : HS) (M : Mem) (B : Option Blk) : (s.mem hP M).set 5 B = s.mem hP (M.set 5 B) := mem_so s B (by simp [hP]) (by simp [hP]) (by simp [hP]) (by simp [hP])
theorem ms6 (s : HS) (M : Mem) (B : Option Blk) : (s.mem hP M).set 6 B = s.mem hP (M.set 6 B) := mem_so s B (by simp [hP]) (by simp [hP]) (by simp [hP]) (by simp [hP])
theorem ms7 (s : HS) (M : Mem) (B : Option Blk) : (s.mem hP M).set 7 B = s.mem hP (M.set 7 B) := mem_so s B (by simp [hP]) (by simp [hP]) (by simp [hP]) (by simp [hP])
theorem ms8 (s : HS) (M : Mem) (B : Option Blk) : (s.mem hP M).set 8 B = s.mem hP (M.set 8 B) := mem_so s B (by simp [hP]) (by simp [hP]) (by simp [hP]) (by simp [hP])

/-- A block of cells that stay. -/
def StillB (x : Option Blk) : Prop := x = none ∨ ∃ k g xs, x = some (.row k g xs) ∧ ∀ cs ∈ xs, cs.all still = true

theorem calm9 {a b c d : Option Blk} (ha : StillB a) (hb : StillB b) (hc : StillB c) (hd : StillB d) : Calm hP [none, none, none, none, none, a, b, c, d] := by
  intro i B hi h1 h2 h3 h4 E N
  have key : ∀ x : Option Blk, StillB x → x = some B → keepB E N B = some B := fun x hx e => by
    rcases hx with rfl | ⟨k, g, xs, rfl, h⟩
    · cases e
    · injection e with e
      subst e
      exact keepB_still E N k g xs h
  have hlt := lt_some hi
  simp only [List.length_cons, List.length_nil] at hlt
  match i, hlt with
  | 0, _ => simp at hi
  | 1, _ => simp at hi
  | 2, _ => simp at hi
  | 3, _ => simp at hi
  | 4, _ => simp at hi
  | 5, _ => exact key a ha (by simpa using hi)
  | 6, _ => exact key b hb (by simpa using hi)
  | 7, _ => exact key c hc (by simpa using hi)
  | 8, _ => exact key d hd (by simpa using hi)

/-- An act. -/
abbrev ActI := Int × Int × Int × Int
def encA (a : ActI) : List C := [.int .i64 a.1, .int .i64 a.2.1, .int .u64 a.2.2.1, .int .u64 a.2.2.2]

theorem end_walk {s s0 : HS} {w : List Item} (hl : s.gn = 0) {M : Mem} (hM : M.length = 9) {c c1 c2 : C} (h1 : still c1 = true) (h2 : still c2 = true) (hL : Lst (s.mem hP M) w c) {i ask : Int} (hi : -9223372036854775808 ≤ i + 1 ∧ i + 1 ≤ 9223372036854775807) {ks : List K} {out : St → Option St} {N : St → Prop} {Q : Ex → St → Prop}
    (hN : ∀ c', Sl 3 (w.map encW) c' → N (mk 217 [(0, .c c1), (1, .c c2), (2, .c (.int .i64 ask)), (7, .c (s.ptr hP)), (9, .c c'), (10, .c (.int .i64 (i + 1)))], s.mem hP none9)) :
    Wr hp 0 c3r37 [] (mk 217 [(0, .c c1), (1, .c c2), (2, .c (.int .i64 ask)), (7, .c (s.ptr hP)), (9, .c c), (10, .c (.int .i64 i))], s.mem hP M) (LQ hp 0 (norm [0, 1, 2, 7, 9, 10] true (s0.mem hP none9)) out N ks Q) := by
  have w1 : IntKind.i64.wrap (i + 1) = i + 1 := wrap_i64 hi.1 hi.2
  obtain ⟨c', k1, k2⟩ := hL.keep (E := s0.mem hP none9) (fun n hn => was_round s0 hn)
  have kp : keepC (s0.mem hP none9) (s.mem hP M) (s.ptr hP) = some (s.ptr hP) := by
    unfold HS.ptr
    rw [keepC_ptr, was_some (mem_n (hP_in rfl) s0)]
    rfl
  have := hN c' k2
  simp [c3r37, w1, k1, kp, h1, h2, keep_round hM]
  exact this

end Go.Proofs.Ytopcnhojkfeafaa.Am.Hp
