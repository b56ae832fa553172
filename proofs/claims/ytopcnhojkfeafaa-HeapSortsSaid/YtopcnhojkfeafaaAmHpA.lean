/- AM: the heap's functions: fractions held against each other. -/
import Derived.Test.YtopcnhojkfeafaaAmHp
set_option linter.unusedSimpArgs false
set_option maxRecDepth 100000
namespace Go.Proofs.Ytopcnhojkfeafaa.Am.Hp

theorem or_bit (a b : Nat) (ha : a < 18446744073709551616) (hb : b < 2) (h2 : a % 2 = 0) : evBits .or .u64 (a : Int) (b : Int) = ((a + b : Nat) : Int) := by
  rw [bits_or ha (by omega)]
  congr 1
  have := Nat.two_pow_add_eq_or_of_lt (i := 1) (b := b) (by omega) (a / 2)
  rw [show 2 ^ 1 * (a / 2) = a by omega] at this
  exact this.symm
theorem and_low (x : Nat) (h : x < 18446744073709551616) : evBits .and .u64 (x : Int) 4294967295 = ((x % 4294967296 : Nat) : Int) := by
  have e := bits_and (a := x) (b := 4294967295) h (by omega)
  rw [show ((4294967295 : Nat) : Int) = 4294967295 from rfl] at e
  rw [e]
  congr 1
  exact Nat.and_two_pow_sub_one_eq_mod (n := 32) x

theorem twice_run (a b : Nat) (ha : a < 18446744073709551616) (hb : b < 18446744073709551616) : run hp 106 [.agg [.int .u64 a, .int .u64 b], .c (.int .u64 0)] [] = some (.tup [.agg [.int .u64 (a * 2 % 18446744073709551616 + b / 9223372036854775808 : Nat), .int .u64 (b * 2 % 18446744073709551616 : Nat)], .c (.bool (decide (a < 9223372036854775808)))], []) := by
  refine run_of_W (af := c106) rfl rfl rfl (by simp [c106]) ?_
  simp [c106, c106r0, c106r1, hp_md, hpMd, bits_u64, Int.fdiv_eq_ediv_of_nonneg, wrap_u64]
  refine ⟨⟨?_, ?_⟩, by omega⟩
  · have := or_bit (a * 2 % 18446744073709551616) (b / 9223372036854775808) (by omega) (by omega) (by omega)
    simpa using this
  · have := or_bit (b * 2 % 18446744073709551616) 0 (by omega) (by omega) (by omega)
    simpa using this

theorem mul64_run (a b : Nat) (ha : a < 18446744073709551616) (hb : b < 18446744073709551616) : run hp 154 [.c (.int .u64 a), .c (.int .u64 b)] [] = some (.tup [.c (.int .u64 (a * b / 18446744073709551616 : Nat)), .c (.int .u64 (a * b % 18446744073709551616 : Nat))], []) := by
  refine run_of_W (af := c154) rfl rfl rfl (by simp [c154]) ?_
  obtain ⟨x0, hx0⟩ : ∃ x0, a % 4294967296 = x0 := ⟨_, rfl⟩
  obtain ⟨x1, hx1⟩ : ∃ x1, a / 4294967296 = x1 := ⟨_, rfl⟩
  obtain ⟨y0, hy0⟩ : ∃ y0, b % 4294967296 = y0 := ⟨_, rfl⟩
  obtain ⟨y1, hy1⟩ : ∃ y1, b / 4294967296 = y1 := ⟨_, rfl⟩
  have hX0 : x0 ≤ 4294967295 := by omega
  have hX1 : x1 ≤ 4294967295 := by omega
  have hY0 : y0 ≤ 4294967295 := by omega
  have hY1 : y1 ≤ 4294967295 := by omega
  have p00 := Nat.mul_le_mul hX0 hY0
  have p01 := Nat.mul_le_mul hX0 hY1
  have p10 := Nat.mul_le_mul hX1 hY0
  have p11 := Nat.mul_le_mul hX1 hY1
  have e : a * b = x1 * y1 * 18446744073709551616 + (x1 * y0 + x0 * y1) * 4294967296 + x0 * y0 := by
    have h1 : a = x1 * 4294967296 + x0 := by omega
    have h2 : b = y1 * 4294967296 + y0 := by omega
    rw [h1, h2]
    simp only [Nat.add_mul, Nat.mul_add]
    have c1 : x1 * 4294967296 * (y1 * 4294967296) = x1 * y1 * 18446744073709551616 := by
      rw [Nat.mul_mul_mul_comm]
    have c2 : x1 * 4294967296 * y0 = x1 * y0 * 4294967296 := by rw [Nat.mul_right_comm]
    have c3 : x0 * (y1 * 4294967296) = x0 * y1 * 4294967296 := by rw [Nat.mul_assoc]
    rw [c1, c2, c3]
    omega
  have z1 : (a : Int) / 4294967296 = (x1 : Int) := by omega
  have z2 : (b : Int) / 4294967296 = (y1 : Int) := by omega
  have z3 : (a : Int) % 4294967296 = (x0 : Int) := by omega
  have z4 : (b : Int) % 4294967296 = (y0 : Int) := by omega
  simp [c154, c154r0, c154r1, c154r2, c154r3, c154r4, c154r5, c154r6, c154r7, c154r8, c154r9, c154r10, c154r11, hp_md, hpMd, bits_u64, Int.fdiv_eq_ediv_of_nonneg, wrap_u64, and_low a ha, and_low b hb, z1, z2, z3, z4]
  simp only [← Int.natCast_mul, e]
  generalize x0 * y0 = q00 at *
  generalize x0 * y1 = q01 at *
  generalize x1 * y0 = q10 at *
  generalize x1 * y1 = q11 at *
  have e2 : ((q10 : Int) + (q00 : Int) % 18446744073709551616 / 4294967296) % 18446744073709551616 = ((q10 + q00 / 4294967296 : Nat) : Int) := by omega
  rw [e2, and_low _ (by omega)]
  omega

/-- Fractions a/b, c/d, held against each other. -/
def cmpN (a b c d : Nat) : Int := if a * d < c * b then -1 else if a * d = c * b then 0 else 1

theorem compare_run (a b c d : Nat) (ha : a < 18446744073709551616) (hb : b < 18446744073709551616) (hc : c < 18446744073709551616) (hd : d < 18446744073709551616) (b0 : 0 < b) (d0 : 0 < d) :
    run hp 139 [.c (.int .u64 a), .c (.int .u64 b), .c (.int .u64 c), .c (.int .u64 d)] [] = some (.tup [.c (.int .i64 (cmpN a b c d)), .c (.int .i64 0)], []) := by
  refine run_of_W (af := c139) rfl rfl rfl (by simp [c139]) ?_
  have h1 : ¬ (b = 0) := by omega
  have h2 : ¬ (d = 0) := by omega
  have m1 := mul64_run a d ha hd
  have m2 := mul64_run c b hc hb
  simp [c139, c139r0, c139r1, c139r2, c139r3, c139r4, c139r5, c139r6, c139r7, c139r8, c139r9, hp_md, hpMd, h1, h2, m1, m2]
  repeat' ((first | refine Wc_dec.2 ⟨fun h => ?_, fun h => ?_⟩ | refine Wg_dec.2 ⟨fun h => ?_, fun h => ?_⟩ | refine Wg_dec'.2 ⟨fun h => ?_, fun h => ?_⟩) <;> try simp [*, hp_md, hpMd])
  all_goals (unfold cmpN; (repeat' split) <;> omega)

/-- A number of 64 bits. -/
def U64 (x : Int) : Prop := 0 ≤ x ∧ x < 18446744073709551616

theorem U64.nat {x : Int} (h : U64 x) : ∃ n : Nat, x = n ∧ n < 18446744073709551616 := ⟨x.toNat, by unfold U64 at h; omega, by unfold U64 at h; omega⟩

theorem twice_runI (a b : Int) (ha : U64 a) (hb : U64 b) : run hp 106 [.agg [.int .u64 a, .int .u64 b], .c (.int .u64 0)] [] = some (.tup [.agg [.int .u64 (a * 2 % 18446744073709551616 + b / 9223372036854775808), .int .u64 (b * 2 % 18446744073709551616)], .c (.bool (decide (a < 9223372036854775808)))], []) := by
  obtain ⟨a, rfl, ha'⟩ := ha.nat
  obtain ⟨b, rfl, hb'⟩ := hb.nat
  rw [twice_run a b ha' hb']
  simp
  omega

theorem sum_runI (a b c : Int) (ha : U64 a) (hb : U64 b) (hc : U64 c) : run hp 107 [.agg [.int .u64 a, .int .u64 b], .agg [.int .u64 0, .int .u64 c]] [] = some (.agg [.int .u64 ((a + (b + c) / 18446744073709551616) % 18446744073709551616), .int .u64 ((b + c) % 18446744073709551616)], []) := by
  refine run_of_W (af := c107) rfl rfl rfl (by simp [c107]) ?_
  unfold U64 at ha hb hc
  simp [c107, c107r0, c107r1, c107r2, c107r3, c107r4, c107r5, hp_md, hpMd, bits_u64, wrap_u64]
  repeat' ((first | refine Wc_dec.2 ⟨fun h => ?_, fun h => ?_⟩ | refine Wg_dec.2 ⟨fun h => ?_, fun h => ?_⟩ | refine Wg_dec'.2 ⟨fun h => ?_, fun h => ?_⟩) <;> try simp [*, hp_md, hpMd, wrap_u64])
  all_goals omega

theorem bit_I (b : Int) (j : Nat) (hb : U64 b) : evBits .and .u64 (b.fdiv (2 ^ j)) 1 = b / 2 ^ j % 2 := by
  obtain ⟨b, rfl, hb'⟩ := hb.nat
  rw [fdiv_pow]
  have : b / 2 ^ j < 18446744073709551616 := Nat.lt_of_le_of_lt (Nat.div_le_self _ _) hb'
  have e := bits_and (b := 1) this (by omega)
  rw [show ((1 : Nat) : Int) = 1 from rfl] at e
  rw [e, Nat.and_one_is_mod]
  simp

theorem times_run (a b : Int) (ha : U64 a) (hb : U64 b) : run hp 66 [.c (.int .u64 a), .c (.int .u64 b)] [] = some (.agg [.int .u64 (a * b / 18446744073709551616), .int .u64 (a * b % 18446744073709551616)], []) := by
  refine run_of_W (af := c66) rfl rfl rfl (by simp [c66]) ?_
  simp [c66, c66r0, c66r1, c66r2]
  refine W_loop (σ := Nat × Int × Int) (fun x => (mk 28 [(0, .c (.int .u64 a)), (1, .c (.int .u64 b)), (4, .c (.ptr 0 0 0 0)), (5, .c (.ptr 1 0 0 0)), (6, .c (.int .i64 ((x.1 : Int) - 1)))], [some (.row 2 0 [[.int .u64 0, .int .u64 0]]), some (.row 2 0 [[.int .u64 x.2.1, .int .u64 x.2.2]])])) (fun x => x.1 ≤ 64 ∧ U64 x.2.1 ∧ U64 x.2.2 ∧ x.2.1 * 18446744073709551616 + x.2.2 = a * (b / 2 ^ x.1)) (fun x => x.1) (64, 0, 0) ?_ ?_ ?_
  · simp [c66l0a]
  · have : b / 18446744073709551616 = 0 := by unfold U64 at hb; omega
    simp [this, U64]
  · rintro ⟨i, hi, lo⟩ ⟨h1, h2, h3, h4⟩
    simp only at h1 h2 h3 h4
    cases i with
    | zero =>
      simp at h4
      rw [← h4]
      unfold U64 at h2 h3
      simp [c66l0, c66r3, c66l0a, c66r8, hp_md, hpMd]
      omega
    | succ j =>
      have e1 : ((j + 1 : Nat) : Int) - 1 = (j : Int) := by omega
      have e2 : (j : Int) % 18446744073709551616 = (j : Int) := by omega
      have e3 : min j 64 = j := by omega
      have e4 : IntKind.i64.wrap ((j : Int) - 1) = j - 1 := wrap_i64 (by omega) (by omega)
      have tw := twice_runI hi lo h2 h3
      have bt := bit_I b j hb
      simp [c66l0, c66r3, c66l0a, c66r4, c66r5, hp_md, hpMd, e1, e2, e3, bits_u64, wrap_u64, tw, bt]
      have hq : b / 2 ^ j = 2 * (b / 2 ^ (j + 1)) + b / 2 ^ j % 2 := by
        have : b / 2 ^ (j + 1) = b / 2 ^ j / 2 := by
          rw [Int.pow_succ, Int.ediv_ediv_of_nonneg (Int.pow_nonneg (by omega))]
        omega
      have hle : 0 ≤ b / 2 ^ j ∧ b / 2 ^ j ≤ b := ⟨Int.ediv_nonneg hb.1 (Int.pow_nonneg (by omega)), Int.ediv_le_self _ hb.1⟩
      have hq2 : b / 2 ^ (j + 1) ≤ 9223372036854775807 := by unfold U64 at hb; omega
      have hq0 : 0 ≤ b / 2 ^ (j + 1) := by omega
      have hmul : a * (b / 2 ^ j) = 2 * (a * (b / 2 ^ (j + 1))) + a * (b / 2 ^ j % 2) := by
        rw (occs := [1]) [hq]
        rw [Int.mul_add, Int.mul_left_comm]
      have hbnd : a * (b / 2 ^ (j + 1)) ≤ 18446744073709551615 * 9223372036854775807 := Int.mul_le_mul (by unfold U64 at ha; omega) hq2 hq0 (by omega)
      have hnn : 0 ≤ a * (b / 2 ^ (j + 1)) := Int.mul_nonneg ha.1 hq0
      generalize a * (b / 2 ^ (j + 1)) = v at *
      refine Wc_dec.2 ⟨fun h => ?_, fun h => ?_⟩
      · rw [h] at hmul
        have sm := sum_runI (hi * 2 % 18446744073709551616 + lo / 9223372036854775808) (lo * 2 % 18446744073709551616) a (by unfold U64 at *; omega) (by unfold U64 at *; omega) ha
        simp [c66l0, c66r3, c66l0a, c66r6, c66r7, hp_md, hpMd, e4, sm]
        refine ⟨j, _, _, ⟨by omega, ?_, ?_, ?_⟩, by omega, rfl, rfl, rfl⟩ <;> (simp only [U64] at *; omega)
      · have h0 : b / 2 ^ j % 2 = 0 := by omega
        rw [h0] at hmul
        simp [c66l0, c66r3, c66l0a, c66r6, c66r7, hp_md, hpMd, e4]
        refine ⟨j, _, _, ⟨by omega, ?_, ?_, ?_⟩, by omega, rfl, rfl, rfl⟩ <;> (simp only [U64] at *; omega)

/-- Fractions a/b, c/d, held against each other. -/
def cmpI (a b c d : Int) : Int := if a * d < c * b then -1 else if a * d = c * b then 0 else 1

theorem compare_runI (a b c d : Int) (ha : U64 a) (hb : U64 b) (hc : U64 c) (hd : U64 d) (b0 : 0 < b) (d0 : 0 < d) :
    run hp 139 [.c (.int .u64 a), .c (.int .u64 b), .c (.int .u64 c), .c (.int .u64 d)] [] = some (.tup [.c (.int .i64 (cmpI a b c d)), .c (.int .i64 0)], []) := by
  obtain ⟨a, rfl, ha'⟩ := ha.nat
  obtain ⟨b, rfl, hb'⟩ := hb.nat
  obtain ⟨c, rfl, hc'⟩ := hc.nat
  obtain ⟨d, rfl, hd'⟩ := hd.nat
  rw [compare_run a b c d ha' hb' hc' hd' (by omega) (by omega)]
  have : cmpN a b c d = cmpI a b c d := by
    unfold cmpN cmpI
    simp only [← Int.natCast_mul, Int.ofNat_lt, Int.natCast_inj]
  rw [this]

theorem refcmp_run (a b c d : Int) (ha : U64 a) (hb : U64 b) (hc : U64 c) (hd : U64 d) :
    run hp 24 [.c (.int .u64 a), .c (.int .u64 b), .c (.int .u64 c), .c (.int .u64 d)] [] = some (.c (.int .i64 (cmpI a b c d)), []) := by
  refine run_of_W (af := c24) rfl rfl rfl (by simp [c24]) ?_
  have m1 := times_run a d ha hd
  have m2 := times_run c b hc hb
  simp [c24, c24r0, c24r1, c24r2, c24r3, c24r4, c24r5, c24r6, c24r7, hp_md, hpMd, m1, m2]
  repeat' ((first | refine Wc_dec.2 ⟨fun h => ?_, fun h => ?_⟩ | refine Wg_dec.2 ⟨fun h => ?_, fun h => ?_⟩ | refine Wg_dec'.2 ⟨fun h => ?_, fun h => ?_⟩ | refine Wc_bool.2 ⟨fun h => ?_, fun h => ?_⟩) <;> try simp [*, hp_md, hpMd])
  all_goals
    clear m1 m2
    simp only [Bool.and_eq_true, Bool.and_eq_false_iff, decide_eq_true_eq, decide_eq_false_iff_not] at *
    unfold cmpI
    generalize a * d = p at *
    generalize c * b = q at *
    (repeat' split) <;> omega

end Go.Proofs.Ytopcnhojkfeafaa.Am.Hp
