/- AM: shed's functions: the best choices of each sum. -/
import Derived.Test.YtopcnhojkfeafaaAmShE
set_option linter.unusedSimpArgs false
set_option linter.unusedVariables false
set_option maxRecDepth 100000
namespace Go.Proofs.Ytopcnhojkfeafaa.Am.Sh
open Am.Gen

/-- A best choice of a sum: how many, which; none yet. -/
abbrev Bo := Option (Nat × Nat)
def encB : Bo → List C
  | none => [.bool false, .int .i64 0, .int .u64 0]
  | some (c, m) => [.bool true, .int .i64 c, .int .u64 m]

theorem encB_flat : ∀ b : Bo, (encB b).all flat = true
  | none => rfl
  | some (_, _) => rfl
theorem encB_still : ∀ b : Bo, (encB b).all still = true
  | none => rfl
  | some (_, _) => rfl
theorem encB_len : ∀ b : Bo, (encB b).length = 3
  | none => rfl
  | some (_, _) => rfl

/-- Is one of the same sum better? -/
def betB (c m : Nat) : Bo → Bool
  | none => true
  | some (c', m') => decide (c < c' ∨ c = c' ∧ m' < m)

theorem betB_run (c m : Nat) (b : Bo) : run sh 152 [.agg [.bool true, .int .i64 c, .int .u64 m], .agg (encB b)] [] = some (.c (.bool (betB c m b)), []) := by
  refine run_of_W (af := c152) rfl rfl rfl (by simp [c152]) ?_
  cases b with
  | none => simp [-getElem?_pos, c152, c152r0, c152r1, c152r2, sh_md, shMd, encB, betB]
  | some p =>
    obtain ⟨c', m'⟩ := p
    have r1 := cmp_run (c : Int) (c' : Int)
    have r2 := cmpu_run (m' : Int) (m : Int)
    have r3 := or_run (cmpZ (c : Int) (c' : Int)) (cmpZ (m' : Int) (m : Int)) true
    have lv := Gen.lendV_own (M := [some (Blk.row 3 0 [[C.bool true, C.int IntKind.i64 ↑c, C.int IntKind.u64 ↑m]]), some (Blk.row 3 0 [[C.bool true, C.int IntKind.i64 ↑c', C.int IntKind.u64 ↑m']]), some (Blk.row 1 0 [[C.int IntKind.i64 (cmpZ ↑c ↑c')], [C.int IntKind.i64 (cmpZ ↑m' ↑m)]])]) (n := 2) (g := 0) (k := 1) (len := 2) rfl rfl (by simp)
    simp [-getElem?_pos, c152, c152r0, c152r1, c152r3, sh_md, shMd, encB, r1, r2, fillSl, lv, r3]
    unfold betB cmpZ
    by_cases h1 : c < c'
    · have h1' : (c : Int) < (c' : Int) := by omega
      simp [h1]
    · by_cases h2 : c' < c
      · have h3 : ¬ c = c' := by omega
        simp [h1, h2, h3]
      · have h3 : c = c' := by omega
        subst h3
        by_cases h4 : m' < m
        · simp [h4]
        · by_cases h5 : m < m' <;> simp [h4, h5]

/-- One want more: which choices of a sum are best then. -/
def stepB (i : Nat) (w : Wa) (old : Nat → Bo) (s : Nat) : Bo :=
  if w.2.toNat ≤ s then
    match old (s - w.2.toNat) with
    | none => old s
    | some (c, m) => if betB (c + 1) (m ||| 2 ^ (63 - i)) (old s) then some (c + 1, m ||| 2 ^ (63 - i)) else old s
  else old s

def dp (l : List Wa) : Nat → Nat → Bo
  | 0 => fun s => if s = 0 then some (0, 0) else none
  | i + 1 => match l[i]? with
    | some w => stepB i w (dp l i)
    | none => dp l i

theorem dp_bound (l : List Wa) : ∀ (i s c m : Nat), i ≤ 64 → dp l i s = some (c, m) → c ≤ i ∧ m < 18446744073709551616
  | 0, s, c, m, _, h => by
    simp only [dp] at h
    split at h
    · simp only [Option.some.injEq, Prod.mk.injEq] at h; omega
    · simp at h
  | i + 1, s, c, m, hi, h => by
    have ih := dp_bound l i
    cases hw : l[i]? with
    | none =>
      simp only [dp, hw] at h
      have := ih s c m (by omega) h; omega
    | some w =>
      simp only [dp, hw] at h
      unfold stepB at h
      split at h
      · split at h
        · have := ih s c m (by omega) h; omega
        · rename_i c' m' hcm
          have := ih _ c' m' (by omega) hcm
          split at h
          · simp only [Option.some.injEq, Prod.mk.injEq] at h
            obtain ⟨rfl, rfl⟩ := h
            exact ⟨by omega, or_lt this.2 (Nat.pow_lt_pow_right (by omega) (show 63 - i < 64 by omega))⟩
          · have := ih s c m (by omega) h; omega
      · have := ih s c m (by omega) h; omega

/-- A row of best choices. -/
def rowF (f : Nat → Bo) (n : Nat) : List (List C) := (List.range n).map fun s => encB (f s)

theorem rowF_len (f : Nat → Bo) (n : Nat) : (rowF f n).length = n := by simp [rowF]
theorem rowF_get (f : Nat → Bo) {n s : Nat} (h : s < n) : (rowF f n)[s]? = some (encB (f s)) := by simp [rowF, h]
theorem rowF_still (f : Nat → Bo) (n : Nat) : ∀ cs ∈ rowF f n, cs.all still = true := by
  intro cs h
  obtain ⟨s, _, rfl⟩ := List.mem_map.1 h
  exact encB_still _
theorem rowF_flat (f : Nat → Bo) (n : Nat) : ∀ cs ∈ rowF f n, cs.all flat = true := by
  intro cs h
  obtain ⟨s, _, rfl⟩ := List.mem_map.1 h
  exact encB_flat _
theorem rowF_set (f : Nat → Bo) {n s : Nat} (b : Bo) : (rowF f n).set s (encB b) = rowF (fun t => if t = s then b else f t) n := by
  apply List.ext_getElem?
  intro t
  rw [List.getElem?_set, rowF_len]
  by_cases ht : t < n
  · rw [rowF_get _ ht]
    by_cases e : s = t
    · subst e; rw [rowF_get _ ht]; simp [ht]
    · have : ¬ t = s := fun h => e h.symm
      simp [e, this, rowF_get _ ht]
  · have h1 : (rowF f n)[t]? = none := List.getElem?_eq_none (by rw [rowF_len]; omega)
    have h2 : (rowF (fun t => if t = s then b else f t) n)[t]? = none := List.getElem?_eq_none (by rw [rowF_len]; omega)
    rw [h1, h2]
    by_cases e : s = t <;> simp [e, ht]
theorem rowF_congr {f g : Nat → Bo} {n : Nat} (h : ∀ s, s < n → f s = g s) : rowF f n = rowF g n := by
  unfold rowF
  apply List.map_congr_left
  intro s hs
  rw [h s (List.mem_range.1 hs)]
theorem ldB_F (f : Nat → Bo) {n s : Nat} (h : s < n) : ldB (some (some (.row 3 0 (rowF f n)))) 0 s true 0 3 = some (.agg (encB (f s))) := by
  rw [ldB_row, if_pos ⟨rfl, by rw [rowF_len]; exact h⟩, List.getD_eq_getElem?_getD, rowF_get f h]
  simp [cutE_agg, encB_len, List.take_of_length_le]
theorem ldB_F0 (f : Nat → Bo) {n s : Nat} (h : s < n) : ldB (some (some (.row 3 0 (rowF f n)))) 0 s false 0 1 = some (.c (.bool (f s).isSome)) := by
  rw [ldB_row, if_pos ⟨rfl, by rw [rowF_len]; exact h⟩, List.getD_eq_getElem?_getD, rowF_get f h]
  cases f s with
  | none => rfl
  | some p => rfl
theorem ldB_F2 (f : Nat → Bo) {n s c m : Nat} (h : s < n) (hf : f s = some (c, m)) : ldB (some (some (.row 3 0 (rowF f n)))) 0 s false 2 1 = some (.c (.int .u64 m)) := by
  rw [ldB_row, if_pos ⟨rfl, by rw [rowF_len]; exact h⟩, List.getD_eq_getElem?_getD, rowF_get f h, hf]
  rfl
theorem stB_F (f : Nat → Bo) {n s : Nat} (M : Mem) (k : Nat) (b : Bo) (h : s < n) : stB (some (some (.row 3 0 (rowF f n)))) M k 0 s 0 (encB b) = some (M.set k (some (.row 3 0 (rowF (fun t => if t = s then b else f t) n)))) := by
  rw [stB_row, if_pos ⟨rfl, by rw [rowF_len]; exact h, by rw [encB_len, List.getD_eq_getElem?_getD, rowF_get f h]; simp [encB_len]⟩]
  have e : splice ((rowF f n).getD s []) 0 (encB b) = encB b := by
    rw [List.getD_eq_getElem?_getD, rowF_get f h]
    exact splice_all _ _ (by simp [encB_len]) (by simp [encB_len])
  rw [e, rowF_set]

theorem keepF (E N : Mem) (f : Nat → Bo) (n : Nat) : (rowF f n).mapM (fun (cs : List C) => cs.mapM (keepC E N)) = some (rowF f n) := mapM_still _ (fun c hc => keepC_still E N c hc) (rowF_still f n)

theorem sums_run {l : List Wa} {c : C} (hc : Sl 2 (l.map encP) c) (all : Nat) (hl : l.length ≤ 64) (hall : all ≤ 5000) (hs : ∀ x ∈ l, 1 ≤ x.2 ∧ x.2 ≤ all) : run sh 133 [.c c, .c (.int .i64 all)] [] = some (.c (.fresh 3 (rowF (dp l l.length) (all + 1))), []) := by
  refine run_of_W (af := c133) rfl rfl rfl (by simp [c133]) ?_
  have w0 : IntKind.i64.wrap ((all : Int) + 1) = (all : Int) + 1 := by rw [wrap_i64] <;> omega
  have a1 : (0 : Int) ≤ (all : Int) + 1 := by omega
  have a2 : (all : Int) + 1 ≤ 16777216 := by omega
  have a3 : ((all : Int) + 1).toNat = all + 1 := by omega
  have e1 : List.replicate (all + 1) [C.bool false, C.int .i64 0, C.int .u64 0] = rowF (fun _ => none) (all + 1) := by
    apply List.ext_getElem?
    intro t
    by_cases ht : t < all + 1
    · rw [rowF_get _ ht]; simp [ht, encB]
    · rw [List.getElem?_eq_none (by simp; omega), List.getElem?_eq_none (by rw [rowF_len]; omega)]
  have st0 : ∀ M, stB (some (some (.row 3 0 (rowF (fun _ => none) (all + 1))))) M 0 0 0 0 [C.bool true, C.int .i64 0, C.int .u64 0] = some (M.set 0 (some (.row 3 0 (rowF (dp l 0) (all + 1))))) := fun M => stB_F _ M 0 (some (0, 0)) (by omega)
  simp [-getElem?_pos, c133, c133r0, c133r1, c133r2, c133r3, sh_md, shMd, w0, a1, a2, a3, limit, hc.len, e1, st0]
  refine W_loop (σ := Nat) (fun i => (mk 63 [(1, .c (.int .i64 all)), (5, .c (.own 0 0 3 0 (all + 1))), (17, .c c), (18, .c (.int .i64 l.length)), (19, .c (.int .i64 i))], [some (.row 3 0 (rowF (dp l i) (all + 1))), none, none, none])) (fun i => i ≤ l.length) (fun i => l.length - i) 0 ?_ (by simp) ?_
  · simp [c133l0a, hc.still, keepF]
  · intro i hi
    by_cases h : i < l.length
    · have h' : (i : Int) < (l.length : Int) := by omega
      obtain ⟨x, hx⟩ : ∃ x, l[i]? = some x := ⟨_, List.getElem?_eq_getElem h⟩
      have w1 : IntKind.i64.wrap ((i : Int) + 1) = (i : Int) + 1 := by rw [wrap_i64] <;> omega
      have hx1 := hs x (List.mem_of_getElem? hx)
      obtain ⟨sh0, hsh⟩ : ∃ n : Nat, x.2 = n := ⟨x.2.toNat, by omega⟩
      have hdp : dp l (i + 1) = stepB i x (dp l i) := by simp only [dp, hx]
      obtain ⟨old, hold⟩ : ∃ f, f = dp l i := ⟨_, rfl⟩
      simp [-getElem?_pos, -List.mapM_map, c133l0, c133l0a, c133r4, c133r5, c133r6, sh_md, shMd, hc.len, hc.ixs, h, h', hx, encP]
      rw [← hold]
      obtain ⟨F, hF⟩ : ∃ F : Nat → Nat → Bo, ∀ t s, F t s = if t < s then stepB i x old s else old s := ⟨_, fun _ _ => rfl⟩
      refine W_loop (σ := Nat) (fun t => (mk 63 [(1, .c (.int .i64 all)), (5, .c (.own 0 0 3 0 (all + 1))), (6, .c (.int .i64 i)), (7, .c (.ptr 1 0 0 0)), (8, .c (.int .i64 t)), (17, .c c), (18, .c (.int .i64 l.length)), (19, .c (.int .i64 i))], [some (.row 3 0 (rowF (F t) (all + 1))), some (.row 2 0 [[.int .i64 x.1, .int .i64 x.2]]), none, none])) (fun t => t ≤ all ∧ sh0 ≤ t + 1) (fun t => t) all ?_ (by omega) ?_
      · have : rowF (F all) (all + 1) = rowF old (all + 1) := rowF_congr fun s hs => by rw [hF, if_neg (by omega)]
        simp [c133l1a, hc.still, keepF, this]
      · rintro t ⟨ht, ht2⟩
        by_cases g : sh0 ≤ t
        · have g' : x.2 ≤ (t : Int) := by omega
          have w2 : IntKind.i64.wrap ((t : Int) - x.2) = (t : Int) - x.2 := by rw [wrap_i64] <;> omega
          have w4 : IntKind.i64.wrap ((t : Int) - 1) = (t : Int) - 1 := by rw [wrap_i64] <;> omega
          have q1 : 0 ≤ (t : Int) - x.2 := by omega
          have q2 : (t : Int) - x.2 < (all : Int) + 1 := by omega
          obtain ⟨q, q3⟩ : ∃ q, ((t : Int) - x.2).toNat = q := ⟨_, rfl⟩
          have hq : q < all + 1 := by omega
          have htl : t < all + 1 := by omega
          have Fq : F t q = old q := by rw [hF, if_neg (by omega)]
          have Ft : F t t = old t := by rw [hF, if_neg (by omega)]
          have eq : t - x.2.toNat = q := by omega
          have lq := ldB_F (F t) hq
          have lt := ldB_F (F t) htl
          rw [Fq] at lq
          rw [Ft] at lt
          cases hoq : old q with
          | none =>
            have hst : stepB i x old t = old t := by unfold stepB; rw [eq, hoq, if_pos (by omega)]
            have e2 : rowF (F t) (all + 1) = rowF (F (t - 1)) (all + 1) := rowF_congr fun s hs => by
              rw [hF, hF]
              by_cases c1 : t < s
              · rw [if_pos c1, if_pos (by omega)]
              · by_cases c2 : t = s
                · subst c2; rw [if_neg c1, if_pos (by omega), hst]
                · rw [if_neg c1, if_neg (by omega)]
            rw [hoq] at lq
            simp only [encB] at lq
            simp [-getElem?_pos, -List.mapM_map, c133l1, c133l1a, c133r7, c133r8, c133r9, c133r13, sh_md, shMd, g, g', w2, q1, q2, q3, lq, w4, keepF, hc.still]
            refine ⟨t - 1, by omega, by omega, ?_, by rw [e2]⟩
            rw [show ((t - 1 : Nat) : Int) = (t : Int) - 1 by omega]
          | some p =>
            obtain ⟨cn, mn⟩ := p
            rw [hoq] at lq
            simp only [encB] at lq
            have hbd := dp_bound l i q cn mn (by omega) (by rw [← hold]; exact hoq)
            obtain ⟨m2, hm2⟩ : ∃ m2, m2 = mn ||| 2 ^ (63 - i) := ⟨_, rfl⟩
            have hpow : 2 ^ (63 - i) < 18446744073709551616 := Nat.pow_lt_pow_right (by omega) (show 63 - i < 64 by omega)
            have w5 : IntKind.i64.wrap (63 - (i : Int)) = 63 - (i : Int) := by rw [wrap_i64] <;> omega
            have w6 : IntKind.i64.wrap ((cn : Int) + 1) = (cn : Int) + 1 := by rw [wrap_i64] <;> omega
            have n5 : ¬ (63 - (i : Int) < 0) := by omega
            have n6 : ¬ (63 < (i : Int)) := by omega
            have n7 : ¬ (63 < i) := by omega
            have e5 : (63 - (i : Int)).toNat = 63 - i := by omega
            have e6 : min (63 - i) 64 = 63 - i := by omega
            have e7 : IntKind.u64.wrap ((2 : Int) ^ (63 - i)) = (2 : Int) ^ (63 - i) := by
              have := wrap_u64_lt hpow
              simpa using this
            have eor : evBits .or .u64 (mn : Int) ((2 : Int) ^ (63 - i)) = (m2 : Int) := by
              have := bits_or hbd.2 hpow
              rw [hm2, ← this]; simp
            have bt := betB_run (cn + 1) m2 (old t)
            push_cast at bt
            have sB := encB_still (old t)
            have htl' : (t : Int) < (all : Int) + 1 := by omega
            have et1 : ((t - 1 : Nat) : Int) = (t : Int) - 1 := by omega
            have hst : stepB i x old t = if betB (cn + 1) m2 (old t) then some (cn + 1, m2) else old t := by unfold stepB; rw [eq, hoq, if_pos (by omega), hm2]
            have stF : ∀ M, stB (some (some (.row 3 0 (rowF (F t) (all + 1))))) M 0 0 t 0 [C.bool true, C.int .i64 ((cn : Int) + 1), C.int .u64 (m2 : Int)] = some (M.set 0 (some (.row 3 0 (rowF (fun u => if u = t then some (cn + 1, m2) else F t u) (all + 1))))) := fun M => by
              have := stB_F (F t) M 0 (some (cn + 1, m2)) htl
              simpa [encB] using this
            have e2 : ∀ b, betB (cn + 1) m2 (old t) = b → rowF (fun u => if u = t then (if b then some (cn + 1, m2) else old t) else F t u) (all + 1) = rowF (F (t - 1)) (all + 1) := fun b hb => rowF_congr fun s hs => by
              rw [hF, hF]
              by_cases c2 : s = t
              · subst c2; rw [if_pos rfl, if_pos (show s - 1 < s by omega), hst, hb]
              · rw [if_neg c2]
                by_cases c1 : t < s
                · rw [if_pos c1, if_pos (show t - 1 < s by omega)]
                · rw [if_neg c1, if_neg (show ¬ t - 1 < s by omega)]
            cases hb : betB (cn + 1) m2 (old t) with
            | false =>
              rw [hb] at bt
              have e3 := e2 false hb
              simp [-getElem?_pos, -List.mapM_map, c133l1, c133l1a, c133r7, c133r8, c133r9, c133r10, c133r11, c133r12, c133r13, sh_md, shMd, g, g', w2, q1, q2, q3, lq, w4, keepF, hc.still, w5, w6, n5, n6, n7, e5, e6, e7, eor, lt, htl, htl', bt, sB, bits_u64]
              refine ⟨t - 1, by omega, by omega, by rw [et1], ?_⟩
              rw [← e3]
              exact rowF_congr fun u _ => by
                by_cases c2 : u = t
                · subst c2; simp [Ft]
                · simp [c2]
            | true =>
              rw [hb] at bt
              have e3 := e2 true hb
              simp [-getElem?_pos, -List.mapM_map, c133l1, c133l1a, c133r7, c133r8, c133r9, c133r10, c133r11, c133r12, c133r13, sh_md, shMd, g, g', w2, q1, q2, q3, lq, w4, keepF, hc.still, w5, w6, n5, n6, n7, e5, e6, e7, eor, lt, htl, htl', bt, sB, bits_u64, stF]
              refine ⟨t - 1, by omega, by omega, by rw [et1], ?_⟩
              rw [← e3]
              simp
        · have g' : ¬ x.2 ≤ (t : Int) := by omega
          simp [-getElem?_pos, -List.mapM_map, c133l1, c133l1a, c133l0a, c133r7, c133r14, sh_md, shMd, g, g', w1, keepF, hc.still]
          have e4 : rowF (F t) (all + 1) = rowF (dp l (i + 1)) (all + 1) := rowF_congr fun s _ => by
            rw [hF, hdp, ← hold]
            by_cases c1 : t < s
            · rw [if_pos c1]
            · rw [if_neg c1]
              unfold stepB
              rw [if_neg (by omega)]
          exact ⟨i + 1, by omega, by omega, by simp, by rw [e4]⟩
    · have h' : ¬ (i : Int) < (l.length : Int) := by omega
      obtain rfl : i = l.length := by omega
      simp [-getElem?_pos, -List.mapM_map, c133l0, c133l0a, c133r4, c133r15, sh_md, shMd, hc.still, keepF]
      have e1 := Gen.expC_own (l := [0]) (M := [some (.row 3 0 (rowF (dp l l.length) (all + 1))), none, none, none]) (n := 0) (g := 0) (k := 3) (len := all + 1) rfl (by simp [rowF_len]) (rowF_flat _ _)
      rw [List.take_of_length_le (by simp [rowF_len])] at e1
      simp [retE, nodupB, topsV, topsV1, topsP, topsC, expV, expV1, expP, e1]

end Go.Proofs.Ytopcnhojkfeafaa.Am.Sh
