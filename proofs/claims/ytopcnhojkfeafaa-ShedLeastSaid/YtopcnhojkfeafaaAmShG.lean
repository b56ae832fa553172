/- AM: shed's functions: the choice. -/
import Derived.Test.YtopcnhojkfeafaaAmShF
set_option linter.unusedSimpArgs false
set_option linter.unusedVariables false
set_option maxRecDepth 100000
namespace Go.Proofs.Ytopcnhojkfeafaa.Am.Sh
open Am.Gen

theorem clone_run (vs : List V) : run sh 130 vs [] = primClone vs [] := by
  rw [run_eq]; rfl
theorem sort_run (vs : List V) (M : Mem) : run sh 131 vs M = primSort 132 vs M := by
  rw [run_eq]; rfl

/-- The units of a choice, of the first wants. -/
def outU (L : List Wa) (m : Nat) : Nat → List Int
  | 0 => []
  | i + 1 => outU L m i ++ match L[i]? with
    | some w => if m / 2 ^ (63 - i) % 2 = 1 then [w.1] else []
    | none => []

theorem outU_len (L : List Wa) (m : Nat) : ∀ i, (outU L m i).length ≤ i
  | 0 => by simp [outU]
  | i + 1 => by
    have := outU_len L m i
    simp only [outU, List.length_append]
    split
    · split <;> simp <;> omega
    · simp; omega

/-- Why nothing is chosen. -/
def whyC (f need : Int) (l : List Wa) : Int :=
  if chk f l = 0 then if 64 < l.length then 4 else if need < 0 then 1 else if sumW l < need then 12 else 0 else chk f l

theorem choose_fail {l : List Wa} {c : C} (hc : Sl 2 (l.map encP) c) (f need : Int) (hl : l.length ≤ 100000) (hs : chk f l = 0 → Sh64 l) (h : whyC f need l ≠ 0) :
    run sh 95 [.c (.int .i64 f), .c (.int .i64 need), .c c] [] = some (.tup [.c .nilsl, .c (.int .i64 0), .c (.int .i64 (whyC f need l))], []) := by
  have r1 := check_run hc f hl
  refine run_of_W (af := c95) rfl rfl rfl (by simp [c95]) ?_
  by_cases h0 : chk f l = 0
  · have r2 := total_run hc (hs h0) hl
    by_cases h1 : 64 < l.length
    · have e : whyC f need l = 4 := by unfold whyC; rw [if_pos h0, if_pos h1]
      rw [e]
      rw [if_pos ⟨h0, h1⟩] at r1
      simp [-getElem?_pos, c95, c95r0, c95r1, c95r2, c95r3, sh_md, shMd, hc.still, r1]
      simp [retE, nodupB, topsV, topsV1, topsP, topsC, expV, expV1, expP, expC, frz]
    · rw [if_neg (fun x => h1 x.2), h0] at r1
      by_cases h2 : need < 0
      · have e : whyC f need l = 1 := by unfold whyC; rw [if_pos h0, if_neg h1, if_pos h2]
        rw [e]
        simp [-getElem?_pos, c95, c95r0, c95r1, c95r2, c95r4, c95r5, c95r6, sh_md, shMd, hc.still, r1, r2, h2]
        simp [retE, nodupB, topsV, topsV1, topsP, topsC, expV, expV1, expP, expC, frz]
      · by_cases h3 : sumW l < need
        · have e : whyC f need l = 12 := by unfold whyC; rw [if_pos h0, if_neg h1, if_neg h2, if_pos h3]
          rw [e]
          simp [-getElem?_pos, c95, c95r0, c95r1, c95r2, c95r4, c95r5, c95r7, c95r8, sh_md, shMd, hc.still, r1, r2, h2, h3]
          simp [retE, nodupB, topsV, topsV1, topsP, topsC, expV, expV1, expP, expC, frz]
        · exfalso
          apply h
          unfold whyC; rw [if_pos h0, if_neg h1, if_neg h2, if_neg h3]
  · have e : whyC f need l = chk f l := by unfold whyC; rw [if_neg h0]
    rw [e]
    rw [if_neg (fun x => h0 x.1)] at r1
    simp [-getElem?_pos, c95, c95r0, c95r1, c95r2, c95r3, sh_md, shMd, hc.still, r1, h0]
    simp [retE, nodupB, topsV, topsV1, topsP, topsC, expV, expV1, expP, expC, frz]

theorem choose_ok {x0 : Wa} {l0 l : List Wa} (hl0 : l = x0 :: l0) {t : Bool} (f : Int) (need s c m : Nat) (hl : l.length ≤ 64) (hs : Sh64 l) (hnd : (l.map (·.1)).Nodup) (hchk : chk f l = 0) (hn : need ≤ s) (hsl : (s : Int) ≤ sumW l)
    (hdp : dp (isort l) l.length s = some (c, m)) (hm : m < 18446744073709551616) (hno : ∀ u, need ≤ u → u < s → dp (isort l) l.length u = none) :
    run sh 95 [.c (.int .i64 f), .c (.int .i64 need), .c (.imm t 2 (l.map encP))] [] = some (.tup [.c (.fresh 1 ((outU (isort l) m l.length).map encI)), .c (.int .i64 s), .c (.int .i64 0)], []) := by
  have hc : Sl 2 (l.map encP) (.imm t 2 (l.map encP)) := .inl ⟨t, rfl⟩
  have r1 := check_run hc f (by omega)
  have r2 := total_run hc hs (by omega)
  rw [hchk, if_neg (by omega)] at r1
  have hb := sumW_bound hs
  obtain ⟨all, hall⟩ : ∃ n : Nat, sumW l = n := ⟨(sumW l).toNat, by omega⟩
  rw [hall] at r2 hsl hb
  have rc : run sh 130 [.c (.imm t 2 (l.map encP))] [] = some (.c (.fresh 2 (l.map encP)), []) := by
    rw [clone_run]
    have e : l.map encP = encP x0 :: l0.map encP := by rw [hl0]; rfl
    have e2 := ofRows_enc l
    rw [e] at e2
    rw [e]
    have hlen : (encP x0 :: l0.map encP).length ≤ 100000 := by rw [hl0] at hl; simp at hl ⊢; omega
    simp only [primClone, true_and, hlen, if_true, e2]
  obtain ⟨L, hL⟩ : ∃ L, L = isort l := ⟨_, rfl⟩
  have hLl : L.length = l.length := by rw [hL]; exact isort_length l
  rw [← hL] at hdp hno ⊢
  have hLs : ∀ x ∈ L, 1 ≤ x.2 ∧ x.2 ≤ all := fun x hx => by
    have hxl : x ∈ l := (isort_perm l).mem_iff.1 (by rw [← hL]; exact hx)
    refine ⟨(hs x hxl).1, ?_⟩
    have key : ∀ {l : List Wa}, Sh64 l → x ∈ l → x.2 ≤ sumW l := by
      intro l
      induction l with
      | nil => intro _ h; simp at h
      | cons y l ih =>
        intro hs h
        have b1 := sumW_bound (l := l) (fun z hz => hs z (List.mem_cons_of_mem _ hz))
        have b2 := hs y List.mem_cons_self
        rcases List.mem_cons.1 h with rfl | h
        · simp only [sumW]; omega
        · have := ih (fun z hz => hs z (List.mem_cons_of_mem _ hz)) h
          simp only [sumW]; omega
    rw [← hall]; exact key hs hxl
  have rs : ∀ M : Mem, M[0]? = some (some (.row 2 0 (l.map encP))) → run sh 131 [.c (.own 0 0 2 0 l.length), .c (.func 132)] M = some (.tup [], M.set 0 (some (.row 2 0 (L.map encP)))) := fun M hM => by
    rw [sort_run, hL]
    exact primSort_own (by rw [rowAt_eq, hM]; rfl) rfl (by unfold limit; omega) hnd
  have rsum := sums_run (l := L) (c := .imm true 2 (L.map encP)) (.inl ⟨true, rfl⟩) all (by omega) (by omega) hLs
  rw [hLl] at rsum
  have n1 : ¬ (need : Int) < 0 := by omega
  have n2 : ¬ (all : Int) < (need : Int) := by omega
  refine run_of_W (af := c95) rfl rfl rfl (by simp [c95]) ?_
  have rs0 := rs [some (.row 2 0 (l.map encP)), none, none, none, none, none] rfl
  have lv := Gen.lendV_own (M := [some (.row 2 0 (L.map encP)), none, none, none, none, none]) (n := 0) (g := 0) (k := 2) (len := l.length) (xs := L.map encP) rfl (by simp [hLl]) (encP_still _)
  simp [-getElem?_pos, -List.mapM_map, c95, c95r0, c95r1, c95r2, c95r4, c95r5, c95r7, c95r9, c95r10, c95r11, c95r12, sh_md, shMd, hc.still, r1, r2, n1, n2, rc, rs0, lv, rsum]
  rw [rowF_len]
  obtain ⟨R, hR⟩ : ∃ R, R = dp L l.length := ⟨_, rfl⟩
  rw [← hR] at hdp hno ⊢
  refine W_loop (σ := Nat) (fun u => (mk 76 [(2, .c (.own 0 0 2 0 l.length)), (12, .c (.own 1 0 3 0 (all + 1))), (13, .c (.int .i64 u))], [some (.row 2 0 (L.map encP)), some (.row 3 0 (rowF R (all + 1))), none, none, none, none])) (fun u => need ≤ u ∧ u ≤ s) (fun u => s - u) need ?_ ⟨Nat.le_refl _, hn⟩ ?_
  · simp [c95l0a]
  rintro u ⟨hu1, hu2⟩
  have hua : u < all + 1 := by omega
  have hua' : (u : Int) < (all : Int) + 1 := by omega
  have lo := ldB_F0 R hua
  have w1 : IntKind.i64.wrap ((u : Int) + 1) = (u : Int) + 1 := by rw [wrap_i64] <;> omega
  by_cases hus : u = s
  · subst hus
    rw [hdp] at lo
    simp only [Option.isSome_some] at lo
    simp [-getElem?_pos, -List.mapM_map, c95l0, c95l0a, c95r13, c95r15, c95r16, sh_md, shMd, hua, hua', lo]
    have l2 := ldB_F2 R hua hdp
    refine W_loop (σ := Nat) (fun i => (mk 76 [(12, .c (.own 1 0 3 0 (all + 1))), (13, .c (.int .i64 u)), (14, .c (.own 2 (outU L m i).length 1 0 (outU L m i).length)), (51, .c (.own 0 0 2 0 l.length)), (52, .c (.int .i64 l.length)), (53, .c (.int .i64 i))], [some (.row 2 0 (L.map encP)), some (.row 3 0 (rowF R (all + 1))), some (.row 1 (outU L m i).length ((outU L m i).map encI)), none, none, none])) (fun i => i ≤ l.length) (fun i => l.length - i) 0 ?_ (by simp) ?_
    · simp [c95l1a, -List.mapM_map, keepP, keepF, outU]
    · intro i hi
      by_cases h : i < l.length
      · have h' : (i : Int) < (l.length : Int) := by omega
        have hiL : i < L.length := by omega
        obtain ⟨x, hx⟩ : ∃ x, L[i]? = some x := ⟨_, List.getElem?_eq_getElem hiL⟩
        have w2 : IntKind.i64.wrap ((i : Int) + 1) = (i : Int) + 1 := by rw [wrap_i64] <;> omega
        have w5 : IntKind.i64.wrap (63 - (i : Int)) = 63 - (i : Int) := by rw [wrap_i64] <;> omega
        have n5 : ¬ (63 - (i : Int) < 0) := by omega
        have n6 : ¬ (63 < (i : Int)) := by omega
        have n7 : ¬ (63 < i) := by omega
        have e5 : (63 - (i : Int)).toNat = 63 - i := by omega
        have e6 : min (63 - i) 64 = 63 - i := by omega
        have hle : m / 2 ^ (63 - i) < 18446744073709551616 := Nat.lt_of_le_of_lt (Nat.div_le_self _ _) hm
        obtain ⟨bt, hbt⟩ : ∃ b, b = m / 2 ^ (63 - i) % 2 := ⟨_, rfl⟩
        have ea : evBits .and .u64 ((m : Int).fdiv (2 ^ (63 - i))) 1 = (bt : Int) := by
          rw [fdiv_pow]
          have := bits_and (a := m / 2 ^ (63 - i)) (b := 1) hle (by omega)
          rw [show ((1 : Nat) : Int) = 1 from rfl] at this
          rw [this, Nat.and_one_is_mod, hbt]
        have hout : outU L m (i + 1) = outU L m i ++ if bt = 1 then [x.1] else [] := by simp only [outU, hx, hbt]
        have hol := outU_len L m i
        have hol2 : (outU L m i).length ≤ 16777215 := by omega
        by_cases hb1 : bt = 1
        · rw [if_pos hb1] at hout
          have hb1' : (bt : Int) = 1 := by omega
          rw [hb1'] at ea
          simp [-getElem?_pos, -List.mapM_map, c95l1, c95l1a, c95r17, c95r18, c95r19, c95r20, c95r21, sh_md, shMd, h, h', hx, encP, hua, hua', l2, w2, w5, n5, n6, n7, e5, e6, ea, bits_u64, hol2, keepP, keepF, keepI, fillSl, ldB_row, hiL]
          exact ⟨i + 1, by omega, by omega, by rw [hout]; simp, by rw [hout]; simp [encI]⟩
        · rw [if_neg hb1, List.append_nil] at hout
          have hb1' : ¬ (bt : Int) = 1 := by omega
          simp [-getElem?_pos, -List.mapM_map, c95l1, c95l1a, c95r17, c95r18, c95r19, c95r21, sh_md, shMd, h, h', hx, encP, hua, hua', l2, w2, w5, n5, n6, n7, e5, e6, ea, bits_u64, hol2, keepP, keepF, keepI, fillSl, hb1, hb1', ldB_row, hiL]
          exact ⟨i + 1, by omega, by omega, by rw [hout]; simp, by rw [hout]; exact ⟨rfl, rfl⟩⟩
      · have h' : ¬ (i : Int) < (l.length : Int) := by omega
        obtain rfl : i = l.length := by omega
        simp [-getElem?_pos, -List.mapM_map, c95l1, c95l1a, c95r17, c95r22, sh_md, shMd, keepP, keepF, keepI]
        have x1 := Gen.expC_own (l := [2]) (M := [some (.row 2 0 (L.map encP)), some (.row 3 0 (rowF R (all + 1))), some (.row 1 (outU L m l.length).length ((outU L m l.length).map encI)), none, none, none]) (n := 2) (g := (outU L m l.length).length) (k := 1) (len := (outU L m l.length).length) rfl (by simp) (encI_flat _)
        rw [List.take_of_length_le (by simp)] at x1
        simp [retE, nodupB, topsV, topsV1, topsP, topsC, expV, expV1, expP, x1, flat_exp]
  · have hus2 : u < s := by omega
    rw [hno u hu1 hus2] at lo
    simp only [Option.isSome_none] at lo
    simp [-getElem?_pos, -List.mapM_map, c95l0, c95l0a, c95r13, c95r14, sh_md, shMd, hua, hua', lo, w1]
    exact ⟨u + 1, ⟨by omega, by omega⟩, by omega, by simp⟩

theorem choose_empty {c : C} (hc : Sl 2 [] c) (f : Int) (hchk : chk f [] = 0) :
    run sh 95 [.c (.int .i64 f), .c (.int .i64 0), .c c] [] = some (.tup [.c (.fresh 1 []), .c (.int .i64 0), .c (.int .i64 0)], []) := by
  have hc' : Sl 2 (([] : List Wa).map encP) c := hc
  have r1 := check_run hc' f (by simp)
  have r2 := total_run hc' (fun x hx => by simp at hx) (by simp)
  rw [hchk, if_neg (by simp)] at r1
  simp only [sumW] at r2
  obtain ⟨d, hd, rc⟩ : ∃ d, (d = .nilsl ∨ d = .imm false 2 []) ∧ run sh 130 [.c c] [] = some (.c d, []) := by
    rcases hc with ⟨t, rfl⟩ | ⟨rfl, _⟩
    · exact ⟨_, .inr rfl, by rw [clone_run]; rfl⟩
    · exact ⟨_, .inl rfl, by rw [clone_run]; rfl⟩
  have hds : Sl 2 (([] : List Wa).map encP) d := by
    rcases hd with rfl | rfl
    · exact .inr ⟨rfl, rfl⟩
    · exact .inl ⟨_, rfl⟩
  have rs : ∀ M : Mem, run sh 131 [.c d, .c (.func 132)] M = some (.tup [], M) := fun M => by
    rw [sort_run]
    rcases hd with rfl | rfl <;> rfl
  have rsum := sums_run (l := []) (c := d) hds 0 (by simp) (by omega) (fun x hx => by simp at hx)
  have er : rowF (dp [] 0) 1 = [[.bool true, .int .i64 0, .int .u64 0]] := rfl
  simp only [List.length_nil, Nat.zero_add, er] at rsum
  push_cast at rsum
  have hlen : lenE (.c d) = some (.int .i64 0) := hds.len
  refine run_of_W (af := c95) rfl rfl rfl (by simp [c95]) ?_
  simp [-getElem?_pos, -List.mapM_map, c95, c95r0, c95r1, c95r2, c95r4, c95r5, c95r7, c95r9, c95r10, c95r11, c95r12, sh_md, shMd, hc.still, hds.still, r1, r2, rc, rs, rsum]
  refine W_loop (σ := Unit) (fun u => (mk 76 [(2, .c d), (12, .c (.own 1 0 3 0 1)), (13, .c (.int .i64 0))], [none, some (.row 3 0 [[.bool true, .int .i64 0, .int .u64 0]]), none, none, none, none])) (fun u => True) (fun u => 0) () ?_ trivial ?_
  · simp [c95l0a]
  rintro u _
  simp [-getElem?_pos, -List.mapM_map, c95l0, c95l0a, c95r13, c95r15, c95r16, sh_md, shMd, hlen]
  refine W_loop (σ := Unit) (fun u => (mk 76 [(12, .c (.own 1 0 3 0 1)), (13, .c (.int .i64 0)), (14, .c (.own 2 0 1 0 0)), (51, .c d), (52, .c (.int .i64 0)), (53, .c (.int .i64 0))], [none, some (.row 3 0 [[.bool true, .int .i64 0, .int .u64 0]]), some (.row 1 0 []), none, none, none])) (fun u => True) (fun u => 0) () ?_ trivial ?_
  · simp [c95l1a, hds.still]
  rintro u _
  simp [-getElem?_pos, -List.mapM_map, c95l1, c95l1a, c95r17, c95r22, sh_md, shMd, hds.still]
  have x1 := Gen.expC_own (l := [2]) (M := [none, some (.row 3 0 [[.bool true, .int .i64 0, .int .u64 0]]), some (.row 1 0 []), none, none, none]) (n := 2) (g := 0) (k := 1) (len := 0) rfl (by simp) (by simp)
  simp at x1
  simp [retE, nodupB, topsV, topsV1, topsP, topsC, expV, expV1, expP, x1, flat_exp]

end Go.Proofs.Ytopcnhojkfeafaa.Am.Sh
