/- AM: shed's functions, as the machine runs them: the page; small ones. -/
import Derived.Test.YtopcnhojkfeafaaAmSh
import Derived.Test.YtopcnhojkfeafaaAmSrtA
import Derived.Test.YtopcnhojkfeafaaAmNum
import Derived.Test.YtopcnhojkfeafaaAmWm
set_option linter.unusedSimpArgs false
set_option linter.unusedVariables false
set_option maxRecDepth 100000
namespace Go.Proofs.Ytopcnhojkfeafaa.Am.Sh

def shCode : Nat → Option AF
  | 108 => some c108 | 134 => some c134 | 149 => some c149 | 96 => some c96 | 97 => some c97 | 48 => some c48 | 49 => some c49 | 50 => some c50 | 129 => some c129 | 147 => some c147 | 175 => some c175 | 124 => some c124 | 168 => some c168 | 167 => some c167 | 152 => some c152 | 133 => some c133  | 132 => some c132 | 95 => some c95 | 46 => some c46 | 47 => some c47 | 52 => some c52 | 53 => some c53 | 54 => some c54 | 99 => some c99 | 135 => some c135 | 98 => some c98 | 51 => some c51 | 45 => some c45 | 9 => some c9 | 10 => some c10 | _ => none
def shMd : Nat → Md
  | 133 | 130 | 95 | 46 | 53 | 54 | 51 => .pure true
  | 98 => .give
  | 131 => .state
  | _ => .pure false
def shPrim : Nat → Option (List V → Mem → Option (V × Mem))
  | 130 => some primClone
  | 131 => some (primSort 132)
  | _ => none
def sh : Pg := ⟨shCode, shMd, shPrim⟩
theorem sh_md (n : Nat) : sh.md n = shMd n := rfl

abbrev Wa := Int × Int

theorem lt_some {α : Type} {l : List α} {i : Nat} {x : α} (h : l[i]? = some x) : i < l.length := (List.getElem?_eq_some_iff.1 h).1

theorem drop_cons {α : Type} {l : List α} {i : Nat} {x : α} (h : l[i]? = some x) : l.drop i = x :: l.drop (i + 1) := by
  have hi := lt_some h
  rw [List.drop_eq_getElem_cons hi]
  congr 1
  simpa [List.getElem?_eq_getElem hi] using h

/-- Is a number a unit? -/
def isU (u : Int) : Bool := decide (1 ≤ u ∧ u ≤ 200 ∨ 1001 ≤ u ∧ u ≤ 1040)

theorem is_run (u : Int) : run sh 108 [.c (.int .i64 u)] [] = some (.c (.bool (isU u)), []) := by
  refine run_of_W (af := c108) rfl rfl rfl (by simp [c108]) ?_
  simp [c108, c108r0, c108r1, sh_md, shMd]
  repeat' ((first | refine Wc_dec.2 ⟨fun h => ?_, fun h => ?_⟩ | refine Wg_dec.2 ⟨fun h => ?_, fun h => ?_⟩ | refine Wg_dec'.2 ⟨fun h => ?_, fun h => ?_⟩) <;> try simp [*, sh_md, shMd])
  all_goals (simp [isU, *]; try omega)

theorem kind_run (u : Int) : ∃ a b, run sh 134 [.c (.int .i64 u)] [] = some (.tup [.c (.int .i64 a), .c (.bool b), .c (.bool (isU u))], []) := by
  by_cases h1 : 1 ≤ u ∧ u ≤ 200
  · refine ⟨u, false, run_of_W (af := c134) rfl rfl rfl (by simp [c134]) ?_⟩
    have : isU u = true := by simp [isU]; omega
    simp [c134, c134r0, c134r1, c134r2, sh_md, shMd, h1.1, h1.2, this]
  · by_cases h2 : 1000 < u ∧ u ≤ 1040
    · refine ⟨u - 1000, true, run_of_W (af := c134) rfl rfl rfl (by simp [c134]) ?_⟩
      have : isU u = true := by simp [isU]; omega
      have a1 : 1 ≤ u := by omega
      have a2 : ¬ u ≤ 200 := by omega
      have w1 : IntKind.i64.wrap (u - 1000) = u - 1000 := by rw [wrap_i64] <;> omega
      simp [c134, c134r0, c134r1, c134r2, c134r3, c134r4, sh_md, shMd, h2.1, h2.2, a1, a2, this, w1]
    · refine ⟨0, false, run_of_W (af := c134) rfl rfl rfl (by simp [c134]) ?_⟩
      have : isU u = false := by simp [isU]; omega
      by_cases a1 : 1 ≤ u
      · have a2 : ¬ u ≤ 200 := by omega
        by_cases a3 : 1000 < u
        · have a4 : ¬ u ≤ 1040 := by omega
          simp [c134, c134r0, c134r1, c134r2, c134r3, c134r4, c134r5, sh_md, shMd, a1, a2, a3, a4, this]
        · simp [c134, c134r0, c134r1, c134r2, c134r3, c134r4, c134r5, sh_md, shMd, a1, a2, a3, this]
      · have a3 : ¬ 1000 < u := by omega
        simp [c134, c134r0, c134r1, c134r2, c134r3, c134r4, c134r5, sh_md, shMd, a1, a3, this]

theorem add_run (a b : Int) (ha : 0 ≤ a) (hb : 0 ≤ b) (h : a + b ≤ 9223372036854775807) : run sh 149 [.c (.int .i64 a), .c (.int .i64 b)] [] = some (.tup [.c (.int .i64 (a + b)), .c (.int .i64 0)], []) := by
  refine run_of_W (af := c149) rfl rfl rfl (by simp [c149]) ?_
  have w1 : IntKind.i64.wrap (a + b) = a + b := by rw [wrap_i64] <;> omega
  have h1 : 0 ≤ a + b := by omega
  simp [c149, c149r0, c149r1, c149r2, c149r4, sh_md, shMd, w1, ha, hb, h1]

theorem nan_run (a : Int) : run sh 147 [.c (.int .i64 a)] [] = some (.c (.bool false), []) := by
  refine run_of_W (af := c147) rfl rfl rfl (by simp [c147]) ?_
  simp [c147, c147r0, c147r1, sh_md, shMd]

theorem nanu_run (a : Int) : run sh 175 [.c (.int .u64 a)] [] = some (.c (.bool false), []) := by
  refine run_of_W (af := c175) rfl rfl rfl (by simp [c175]) ?_
  simp [c175, c175r0, c175r1, sh_md, shMd]

def cmpZ (a b : Int) : Int := if a < b then -1 else if b < a then 1 else 0

theorem cmp_run (a b : Int) : run sh 124 [.c (.int .i64 a), .c (.int .i64 b)] [] = some (.c (.int .i64 (cmpZ a b)), []) := by
  have n1 := nan_run a
  have n2 := nan_run b
  refine run_of_W (af := c124) rfl rfl rfl (by simp [c124]) ?_
  by_cases h1 : a < b
  · simp [c124, c124r0, c124r1, c124r2, c124r3, c124r7, c124r9, c124r10, sh_md, shMd, n1, n2, h1, cmpZ]
  · by_cases h2 : b < a <;> simp [c124, c124r0, c124r1, c124r2, c124r3, c124r7, c124r9, c124r10, c124r11, c124r12, c124r13, sh_md, shMd, n1, n2, h1, h2, cmpZ]

theorem cmpu_run (a b : Int) : run sh 168 [.c (.int .u64 a), .c (.int .u64 b)] [] = some (.c (.int .i64 (cmpZ a b)), []) := by
  have n1 := nanu_run a
  have n2 := nanu_run b
  refine run_of_W (af := c168) rfl rfl rfl (by simp [c168]) ?_
  by_cases h1 : a < b
  · simp [c168, c168r0, c168r1, c168r2, c168r3, c168r7, c168r9, c168r10, sh_md, shMd, n1, n2, h1, cmpZ]
  · by_cases h2 : b < a <;> simp [c168, c168r0, c168r1, c168r2, c168r3, c168r7, c168r9, c168r10, c168r11, c168r12, c168r13, sh_md, shMd, n1, n2, h1, h2, cmpZ]

/-- cmp.Or of two. -/
theorem or_run (a b : Int) (t : Bool) : run sh 167 [.c (.imm t 1 [[.int .i64 a], [.int .i64 b]])] [] = some (.c (.int .i64 (if a ≠ 0 then a else b)), []) := by
  refine run_of_W (af := c167) rfl rfl rfl (by simp [c167]) ?_
  simp [c167, c167r0, c167r1, c167r2]
  refine W_loop (σ := Nat) (fun i => (mk 18 [(3, .c (.int .i64 0)), (6, .c (.imm t 1 [[.int .i64 a], [.int .i64 b]])), (7, .c (.int .i64 2)), (8, .c (.int .i64 i))], [])) (fun i => i ≤ 2 ∧ (0 < i → a = 0) ∧ (1 < i → b = 0)) (fun i => 2 - i) 0 ?_ (by simp) ?_
  · simp [c167l0a]
  · rintro i ⟨hi, h1, h2⟩
    have : i = 0 ∨ i = 1 ∨ i = 2 := by omega
    rcases this with rfl | rfl | rfl
    · by_cases h : a = 0
      · have w1 : IntKind.i64.wrap 1 = 1 := rfl
        simp [c167l0, c167l0a, c167r3, c167r4, c167r5, c167r7, sh_md, shMd, h, w1]
        exact ⟨1, by omega, by omega, rfl⟩
      · simp [c167l0, c167l0a, c167r3, c167r4, c167r5, c167r6, sh_md, shMd, h]
    · have ha := h1 (by omega)
      by_cases h : b = 0
      · have w1 : IntKind.i64.wrap 2 = 2 := rfl
        simp [c167l0, c167l0a, c167r3, c167r4, c167r5, c167r7, sh_md, shMd, h, w1]
        exact ⟨2, by omega, by omega, rfl⟩
      · simp [c167l0, c167l0a, c167r3, c167r4, c167r5, c167r6, sh_md, shMd, h, ha]
    · have ha := h1 (by omega)
      have hb := h2 (by omega)
      simp [c167l0, c167l0a, c167r3, c167r8, sh_md, shMd, ha, hb]

end Go.Proofs.Ytopcnhojkfeafaa.Am.Sh
