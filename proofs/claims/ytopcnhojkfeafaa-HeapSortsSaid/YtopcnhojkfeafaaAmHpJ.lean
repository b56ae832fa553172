/- HeapPlays: a round. -/
import Derived.Test.YtopcnhojkfeafaaAmHpI
set_option linter.unusedSimpArgs false
set_option linter.unusedVariables false
set_option maxRecDepth 100000
namespace Go.Proofs.Ytopcnhojkfeafaa.Am.Hp

theorem refPut_len (w : List Item) (x : Item) : (refPut w x).length ≤ w.length + 1 := by
  have := refRem_len w x.1
  simp only [refPut, List.length_append, List.length_singleton]
  omega

section
variable {n : Nat} {acts : List ActI} {lc c : C} {ask : Int} {s s0 : HS} {w : List Item} {i : Nat} {a : ActI} {N : St → Prop} {ks : List K} {Q : Ex → St → Prop}

/-- Where a round goes on. -/
def Goes (n : Nat) (lc : C) (ask : Int) (i : Nat) (N : St → Prop) : Prop := ∀ (s : HS) (w : List Item) (c : C), Rel s w n → w.length ≤ i + 1 → Sl 3 (w.map encW) c → N (mk 217 [(0, .c (.int .i64 n)), (1, .c lc), (2, .c (.int .i64 ask)), (7, .c (s.ptr hP)), (9, .c c), (10, .c (.int .i64 ((i : Int) + 1)))], s.mem hP none9)

theorem tail_end (hlc : still lc = true) (hR : Rel s w n) (hw : w.length ≤ i + 1) (hi : i < 60) {M : Mem} (hM : M.length = 9) (hL : Lst (s.mem hP M) w c) {out : St → Option St} (hN : Goes n lc ask i N) :
    W hp 0 tailC [.blk 1, .seq (.keep [0, 1, 2, 7, 9, 10] (.region c3r37))] (mk 217 [(0, .c (.int .i64 n)), (1, .c lc), (2, .c (.int .i64 ask)), (7, .c (s.ptr hP)), (9, .c c), (10, .c (.int .i64 i))], s.mem hP M) (LQ hp 0 (norm [0, 1, 2, 7, 9, 10] true (s0.mem hP none9)) out N ks Q) :=
  tail_walk hR (by omega) hM hL (by omega) (end_walk hR.gn hM rfl hlc hL (by omega) (fun c' hc' => hN s w c' hR hw hc'))

theorem body_other (hlc : Sl 4 (acts.map encA) lc) (hx : acts[i]? = some a) (hR : Rel s w n) (hw : w.length ≤ i) (hi : i < 60) (hc : Sl 3 (w.map encW) c) (hN : Goes n lc ask i N) (hk : a.1 ≠ 0 ∧ a.1 ≠ 1 ∧ a.1 ≠ 2 ∧ a.1 ≠ 3) :
    W hp 0 c3l0 [] (mk 217 [(0, .c (.int .i64 n)), (1, .c lc), (2, .c (.int .i64 ask)), (7, .c (s.ptr hP)), (9, .c c), (10, .c (.int .i64 i))], s.mem hP none9) (LQ hp 0 (norm [0, 1, 2, 7, 9, 10] true (s0.mem hP none9)) (norm [6] true (s0.mem hP none9)) N ks Q) := by
  have hlt := lt_some hx
  have h' : (i : Int) < (acts.length : Int) := by omega
  have h6 : (i : Int) < 60 := by omega
  obtain ⟨k0, k1, k2, k3⟩ := hk
  have := tail_end (ks := ks) (Q := Q) (s0 := s0) (c := c) hlc.still hR (by omega : w.length ≤ i + 1) hi (M := [none, none, none, none, none, some (.row 4 0 [encA a]), none, none, none]) rfl (.inl hc) (out := norm [6] true (s0.mem hP none9)) hN
  simp [-getElem?_pos, tailC, encA] at this
  simp [-getElem?_pos, c3l0, c3r8, c3r9, c3r10, c3r11, c3r12, c3r19, c3r24, hp_md, hpMd, hlc.len, hlc.ixs, hlt, h', h6, hx, encA, mo5, ms5, n9_5, n9s5, k0, k1, k2, k3]
  exact this

theorem refPut_short {w : List Item} (x : Item) (h : w.length ≤ i) : (refPut w x).length ≤ i + 1 := by have := refPut_len w x; omega
theorem refRem_short {w : List Item} (id : Int) (h : w.length ≤ i) : (refRem w id).length ≤ i + 1 := by have := refRem_len w id; omega

theorem body_put {kind aid num den : Int} (n1 : 1 ≤ n) (n2 : n ≤ 1024) (hlc : Sl 4 (acts.map encA) lc) (hx : acts[i]? = some (kind, aid, num, den)) (hR : Rel s w n) (hw : w.length ≤ i) (hi : i < 60) (hc : Sl 3 (w.map encW) c) (hN : Goes n lc ask i N) (hk : kind = 0 ∨ kind = 1) (hu : U64 num ∧ U64 den) :
    W hp 0 c3l0 [] (mk 217 [(0, .c (.int .i64 n)), (1, .c lc), (2, .c (.int .i64 ask)), (7, .c (s.ptr hP)), (9, .c c), (10, .c (.int .i64 i))], s.mem hP none9) (LQ hp 0 (norm [0, 1, 2, 7, 9, 10] true (s0.mem hP none9)) (norm [6] true (s0.mem hP none9)) N ks Q) := by
  have hlt := lt_some hx
  have h' : (i : Int) < (acts.length : Int) := by omega
  have h6 : (i : Int) < 60 := by omega
  by_cases hok : 0 ≤ aid ∧ aid < n ∧ 0 < den
  · obtain ⟨g1, g2, g3⟩ := hok
    obtain ⟨id, rfl⟩ : ∃ id : Nat, aid = id := ⟨aid.toNat, by omega⟩
    have hkok : KOK (num, den) := ⟨hu.1, hu.2, g3⟩
    have rp := rput_run hc ((id : Int), num, den) (by omega)
    simp only [encW] at rp
    obtain ⟨B, hB⟩ : ∃ B : Option Blk, B = some (.row 4 0 [[.int .i64 kind, .int .i64 (id : Int), .int .u64 num, .int .u64 den]]) := ⟨_, rfl⟩
    obtain ⟨B2, hB2⟩ : ∃ B : Option Blk, B = some (.row 3 0 ((refPut w ((id : Int), num, den)).map encW)) := ⟨_, rfl⟩
    have hM : ([none, none, none, none, none, B, B2, none, none] : Mem).length = 9 := rfl
    have hin := hP_in hM
    obtain ⟨t, T, p1, p2, p3, p4, p5⟩ := put_ok hin hR.hp hR.ord hkok (a := id) (by rw [hR.N]; omega) (by rw [hR.len]; omega) hR.row
    have calm : Calm hP [none, none, none, none, none, B, B2, none, none] := calm9 (.inr ⟨_, _, _, hB, fun cs hcs => by simp only [List.mem_singleton] at hcs; subst hcs; rfl⟩) (.inr ⟨_, _, _, hB2, encW_still _⟩) (.inl rfl) (.inl rfl)
    have cut := cutM_heap hin calm s t T (.c (.int .i64 0)) rfl
    have hR' := hR.put (by omega) hkok p2 p3 (by rw [hR.len] at p4; have := hR.row; omega) p5
    have tp : t.ptr hP = s.ptr hP := by simp [HS.ptr, p2.gn]
    have te := tail_end (ks := ks) (Q := Q) (s0 := s0) (c := .own 6 0 3 0 (refPut w ((id : Int), num, den)).length) hlc.still hR' (refPut_short _ hw) hi hM (.inr ⟨6, 0, rfl, by rw [mo6, hB2]; rfl, by omega⟩) (out := norm [6] true (s0.mem hP none9)) hN
    rw [tp] at te
    simp only at p1
    simp only [List.cons_append, List.nil_append] at cut p1
    simp [-getElem?_pos, tailC] at te
    subst hB
    subst hB2
    rcases hk with rfl | rfl
    all_goals
      simp [-getElem?_pos, c3l0, c3r8, c3r9, c3r10, c3r11, c3r12, c3r13, c3r14, c3r15, c3r16, c3r17, hp_md, hpMd, hlc.len, hlc.ixs, hlt, h', h6, hx, encA, mo5, ms5, mo6, ms6, n9_5, n9s5, g1, g2, g3, hc.still, rp, p1, cut]
      exact te
  · have hM : ([none, none, none, none, none, some (.row 4 0 [[.int .i64 kind, .int .i64 aid, .int .u64 num, .int .u64 den]]), none, none, none] : Mem).length = 9 := rfl
    have hin := hP_in hM
    have kn : s.keys.length = n := by rw [hR.hp.kl, hR.N]
    have hd := hu.2
    unfold U64 at hd
    have pb := put_bad hin hR.hp.toHV (by omega) (id := aid) (num := num) (den := den) (by rw [kn]; intro c; exact hok ⟨c.1, c.2.1, by omega⟩)
    have calm : Calm hP [none, none, none, none, none, some (.row 4 0 [[.int .i64 kind, .int .i64 aid, .int .u64 num, .int .u64 den]]), none, none, none] := calm9 (.inr ⟨_, _, _, rfl, fun cs hcs => by simp only [List.mem_singleton] at hcs; subst hcs; rfl⟩) (.inl rfl) (.inl rfl) (.inl rfl)
    have cut := cutM_heap hin calm s s [none, none] (.c (.int .i64 1)) rfl
    have te := tail_end (ks := ks) (Q := Q) (s0 := s0) (c := c) hlc.still hR (by omega : w.length ≤ i + 1) hi hM (.inl hc) (out := norm [6] true (s0.mem hP none9)) hN
    simp only [List.cons_append, List.nil_append] at cut pb
    simp [-getElem?_pos, tailC] at te
    by_cases g1 : 0 ≤ aid
    · by_cases g2 : aid < n
      · have g3 : ¬ 0 < den := fun c => hok ⟨g1, g2, c⟩
        rcases hk with rfl | rfl
        all_goals
          simp [-getElem?_pos, c3l0, c3r8, c3r9, c3r10, c3r11, c3r12, c3r13, c3r14, c3r15, c3r16, c3r17, hp_md, hpMd, hlc.len, hlc.ixs, hlt, h', h6, hx, encA, mo5, ms5, mo6, ms6, n9_5, n9s5, g1, g2, g3, pb, cut]
          exact te
      · rcases hk with rfl | rfl
        all_goals
          simp [-getElem?_pos, c3l0, c3r8, c3r9, c3r10, c3r11, c3r12, c3r13, c3r14, c3r15, c3r16, c3r17, hp_md, hpMd, hlc.len, hlc.ixs, hlt, h', h6, hx, encA, mo5, ms5, mo6, ms6, n9_5, n9s5, g1, g2, pb, cut]
          exact te
    · rcases hk with rfl | rfl
      all_goals
        simp [-getElem?_pos, c3l0, c3r8, c3r9, c3r10, c3r11, c3r12, c3r13, c3r14, c3r15, c3r16, c3r17, hp_md, hpMd, hlc.len, hlc.ixs, hlt, h', h6, hx, encA, mo5, ms5, mo6, ms6, n9_5, n9s5, g1, pb, cut]
        exact te

theorem body_rem {aid num den : Int} (hlc : Sl 4 (acts.map encA) lc) (hx : acts[i]? = some (2, aid, num, den)) (hR : Rel s w n) (hw : w.length ≤ i) (hi : i < 60) (hc : Sl 3 (w.map encW) c) (hN : Goes n lc ask i N) :
    W hp 0 c3l0 [] (mk 217 [(0, .c (.int .i64 n)), (1, .c lc), (2, .c (.int .i64 ask)), (7, .c (s.ptr hP)), (9, .c c), (10, .c (.int .i64 i))], s.mem hP none9) (LQ hp 0 (norm [0, 1, 2, 7, 9, 10] true (s0.mem hP none9)) (norm [6] true (s0.mem hP none9)) N ks Q) := by
  have hlt := lt_some hx
  have h' : (i : Int) < (acts.length : Int) := by omega
  have h6 : (i : Int) < 60 := by omega
  have rr := rrem_run hc aid (by omega)
  have hM : ([none, none, none, none, none, some (.row 4 0 [[.int .i64 2, .int .i64 aid, .int .u64 num, .int .u64 den]]), none, some (.row 3 0 ((refRem w aid).map encW)), none] : Mem).length = 9 := rfl
  have hin := hP_in hM
  cases hk : refKey w aid with
  | none =>
    have rn := refRem_none hR.nod hk
    have e0 : hasN s.place aid = false := by rw [hR.has, hk]; rfl
    have rm := remove0_run hin hR.hp e0
    have te := tail_end (ks := ks) (Q := Q) (s0 := s0) (c := .own 7 0 3 0 (refRem w aid).length) hlc.still (by rw [rn]; exact hR : Rel s (refRem w aid) n) (refRem_short _ hw) hi hM (.inr ⟨7, 0, rfl, by rw [mo7]; rfl, by omega⟩) (out := norm [6] true (s0.mem hP none9)) hN
    have dl : ¬ (refRem w aid).length < w.length := by rw [rn]; omega
    simp [-getElem?_pos, tailC] at te
    simp [-getElem?_pos, c3l0, c3r8, c3r9, c3r10, c3r11, c3r12, c3r19, c3r20, c3r21, c3r22, hp_md, hpMd, hlc.len, hlc.ixs, hlt, h', h6, hx, encA, mo5, ms5, mo7, ms7, n9_5, n9s5, hc.still, rr, dl, rm, mem_len]
    exact te
  | some k =>
    have h1 := hR.rng _ (refKey_some hk)
    obtain ⟨id, rfl⟩ : ∃ id : Nat, aid = id := ⟨aid.toNat, by have := h1.1; simp only at this; omega⟩
    have e1 : (s.K id).isSome = true := by rw [hR.K, hk]; rfl
    obtain ⟨t, t1, t2, t3, t4, t5, t6⟩ := remove_run hin hR.hp hR.ord e1
    have hR' := hR.rem t2 e1 t4 (by rw [t3]; exact hR.row) t6
    have tp : t.ptr hP = s.ptr hP := by simp [HS.ptr, t2.gn]
    have dl : (refRem w (id : Int)).length < w.length := by
      rw [refRem_length _ hR.nod, hk]
      have : 0 < w.length := List.length_pos_of_mem (refKey_some hk)
      simp
      omega
    have te := tail_end (ks := ks) (Q := Q) (s0 := s0) (c := .own 7 0 3 0 (refRem w (id : Int)).length) hlc.still hR' (refRem_short _ hw) hi hM (.inr ⟨7, 0, rfl, by rw [mo7]; rfl, by omega⟩) (out := norm [6] true (s0.mem hP none9)) hN
    rw [tp] at te
    simp [-getElem?_pos, tailC] at te
    simp [-getElem?_pos, c3l0, c3r8, c3r9, c3r10, c3r11, c3r12, c3r19, c3r20, c3r21, c3r22, hp_md, hpMd, hlc.len, hlc.ixs, hlt, h', h6, hx, encA, mo5, ms5, mo7, ms7, n9_5, n9s5, hc.still, rr, dl, t1, mem_len]
    exact te

theorem body_pop {aid num den : Int} (hlc : Sl 4 (acts.map encA) lc) (hx : acts[i]? = some (3, aid, num, den)) (hR : Rel s w n) (hw : w.length ≤ i) (hi : i < 60) (hc : Sl 3 (w.map encW) c) (hN : Goes n lc ask i N) :
    W hp 0 c3l0 [] (mk 217 [(0, .c (.int .i64 n)), (1, .c lc), (2, .c (.int .i64 ask)), (7, .c (s.ptr hP)), (9, .c c), (10, .c (.int .i64 i))], s.mem hP none9) (LQ hp 0 (norm [0, 1, 2, 7, 9, 10] true (s0.mem hP none9)) (norm [6] true (s0.mem hP none9)) N ks Q) := by
  have hlt := lt_some hx
  have h' : (i : Int) < (acts.length : Int) := by omega
  have h6 : (i : Int) < 60 := by omega
  cases w with
  | nil =>
    have hM : ([none, none, none, none, none, some (.row 4 0 [[.int .i64 3, .int .i64 aid, .int .u64 num, .int .u64 den]]), none, none, none] : Mem).length = 9 := rfl
    have hin := hP_in hM
    have rm := rmin0_run hc
    have pr := pop0_run hin hR.hp hR.len
    have te := tail_end (ks := ks) (Q := Q) (s0 := s0) (c := c) hlc.still hR (by omega : ([] : List Item).length ≤ i + 1) hi hM (.inl hc) (out := norm [6] true (s0.mem hP none9)) hN
    simp [-getElem?_pos, tailC] at te
    simp [-getElem?_pos, c3l0, c3r8, c3r9, c3r10, c3r11, c3r12, c3r19, c3r24, c3r25, c3r26, c3r28, c3r29, hp_md, hpMd, hlc.len, hlc.ixs, hlt, h', h6, hx, encA, mo5, ms5, n9_5, n9s5, hc.still, rm, pr, mem_len]
    exact te
  | cons b w =>
    obtain ⟨m0, m1⟩ := hR.min
    have rm := rmin_run hc (by simp at hw; omega) (fun x hx => ⟨(hR.rng x hx).2.2.1, (hR.rng x hx).2.2.2.1⟩)
    have rr := rrem_run hc (refMin b w).1 (by omega)
    have hM : ([none, none, none, none, none, some (.row 4 0 [[.int .i64 3, .int .i64 aid, .int .u64 num, .int .u64 den]]), none, none, some (.row 3 0 ((refRem (b :: w) (refMin b w).1).map encW))] : Mem).length = 9 := rfl
    have hin := hP_in hM
    obtain ⟨t, t1, t2, t3, t4, t6⟩ := pop_run hin hR.hp hR.ord m0
    have e1 : (s.K (s.at 0)).isSome = true := by rw [hR.hp.K_at m0]; rfl
    have hR' := hR.rem t2 e1 t4 (by rw [t3]; exact hR.row) t6
    rw [m1] at hR' t1
    have tp : t.ptr hP = s.ptr hP := by simp [HS.ptr, t2.gn]
    have te := tail_end (ks := ks) (Q := Q) (s0 := s0) (c := .own 8 0 3 0 (refRem (b :: w) (refMin b w).1).length) hlc.still hR' (refRem_short _ hw) hi hM (.inr ⟨8, 0, rfl, by rw [mo8]; rfl, by omega⟩) (out := norm [6] true (s0.mem hP none9)) hN
    rw [tp] at te
    simp [-getElem?_pos, tailC] at te
    simp [-getElem?_pos, c3l0, c3r8, c3r9, c3r10, c3r11, c3r12, c3r19, c3r24, c3r25, c3r26, c3r27, c3r28, c3r29, hp_md, hpMd, hlc.len, hlc.ixs, hlt, h', h6, hx, encA, mo5, ms5, mo8, ms8, n9_5, n9s5, hc.still, rm, rr, t1, mem_len]
    exact te

end
end Go.Proofs.Ytopcnhojkfeafaa.Am.Hp
