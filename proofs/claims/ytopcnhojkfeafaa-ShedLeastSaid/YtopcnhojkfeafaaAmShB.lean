/- AM: shed's functions: sums, and what is right. -/
import Derived.Test.YtopcnhojkfeafaaAmShA
set_option linter.unusedSimpArgs false
set_option linter.unusedVariables false
set_option maxRecDepth 100000
namespace Go.Proofs.Ytopcnhojkfeafaa.Am.Sh

/-- The shares together. -/
def sumW : List Wa → Int
  | [] => 0
  | x :: l => x.2 + sumW l

theorem sumW_append : ∀ (l m : List Wa), sumW (l ++ m) = sumW l + sumW m
  | [], m => by simp [sumW]
  | x :: l, m => by simp only [List.cons_append, sumW, sumW_append l m]; omega

/-- Shares of a frame. -/
def Sh64 (l : List Wa) : Prop := ∀ x ∈ l, 1 ≤ x.2 ∧ x.2 ≤ 64

theorem Sh64.sub {l m : List Wa} (h : Sh64 l) (hs : ∀ x ∈ m, x ∈ l) : Sh64 m := fun x hx => h x (hs x hx)

theorem sumW_bound : ∀ {l : List Wa}, Sh64 l → 0 ≤ sumW l ∧ sumW l ≤ 64 * l.length
  | [], _ => by simp [sumW]
  | x :: l, h => by
    have h1 := h x List.mem_cons_self
    have h2 := sumW_bound (l := l) (fun y hy => h y (List.mem_cons_of_mem _ hy))
    simp only [sumW, List.length_cons]
    omega

theorem take_succ {α : Type} {l : List α} {i : Nat} {x : α} (h : l[i]? = some x) : l.take (i + 1) = l.take i ++ [x] := by
  rw [List.take_add_one, h]; rfl

theorem sum_run {l : List Wa} {c : C} (hc : Sl 2 (l.map encP) c) (hs : Sh64 l) (hl : l.length ≤ 100000) : run sh 50 [.c c] [] = some (.c (.int .i64 (sumW l)), []) := by
  refine run_of_W (af := c50) rfl rfl rfl (by simp [c50]) ?_
  simp [c50, c50r0, c50r1, c50r2]
  refine W_loop (σ := Nat) (fun i => (mk 19 [(0, .c c), (3, .c (.int .i64 (sumW (l.take i)))), (4, .c (.int .i64 i))], [])) (fun i => i ≤ l.length) (fun i => l.length - i) 0 ?_ (by simp) ?_
  · simp [c50l0a, sumW]
  · intro i hi
    by_cases h : i < l.length
    · have h' : (i : Int) < (l.length : Int) := by omega
      obtain ⟨x, hx⟩ : ∃ x, l[i]? = some x := ⟨_, List.getElem?_eq_getElem h⟩
      have w1 : IntKind.i64.wrap ((i : Int) + 1) = (i : Int) + 1 := by rw [wrap_i64] <;> omega
      have hb := sumW_bound (l := l.take (i + 1)) (hs.sub fun y hy => List.mem_of_mem_take hy)
      rw [take_succ hx, sumW_append] at hb
      simp only [sumW, List.length_append, List.length_take, List.length_cons, List.length_nil] at hb
      have w2 : IntKind.i64.wrap (sumW (l.take i) + x.2) = sumW (l.take i) + x.2 := by rw [wrap_i64] <;> omega
      simp [-getElem?_pos, c50l0, c50l0a, c50r3, c50r4, c50r5, sh_md, shMd, hc.len, hc.ixs, h, h', hx, encP, w1, w2]
      refine ⟨i + 1, by omega, by omega, ?_⟩
      rw [take_succ hx, sumW_append]; simp [sumW]
    · have h' : ¬ (i : Int) < (l.length : Int) := by omega
      have e : l.take i = l := List.take_of_length_le (by omega)
      simp [-getElem?_pos, c50l0, c50l0a, c50r3, c50r6, sh_md, shMd, hc.len, h, h', e]

/-- Is a unit in a list? -/
def hasU (l : List Wa) (u : Int) : Bool := l.any fun x => decide (x.1 = u)

theorem has_run {l : List Wa} {c : C} (hc : Sl 2 (l.map encP) c) (u : Int) (hl : l.length ≤ 100000) : run sh 99 [.c c, .c (.int .i64 u)] [] = some (.c (.bool (hasU l u)), []) := by
  refine run_of_W (af := c99) rfl rfl rfl (by simp [c99]) ?_
  simp [c99, c99r0, c99r1]
  refine W_loop (σ := Nat) (fun i => (mk 19 [(0, .c c), (1, .c (.int .i64 u)), (5, .c (.int .i64 i))], [])) (fun i => i ≤ l.length ∧ hasU (l.drop i) u = hasU l u) (fun i => l.length - i) 0 ?_ (by simp) ?_
  · simp [c99l0a]
  · rintro i ⟨hi, hr⟩
    by_cases h : i < l.length
    · have h' : (i : Int) < (l.length : Int) := by omega
      obtain ⟨x, hx⟩ : ∃ x, l[i]? = some x := ⟨_, List.getElem?_eq_getElem h⟩
      have w1 : IntKind.i64.wrap ((i : Int) + 1) = (i : Int) + 1 := by rw [wrap_i64] <;> omega
      rw [drop_cons hx] at hr
      by_cases hid : x.1 = u
      · have e : hasU l u = true := by rw [← hr]; simp [hasU, hid]
        simp [-getElem?_pos, c99l0, c99l0a, c99r2, c99r3, c99r4, sh_md, shMd, hc.len, hc.ixs, h, h', hx, encP, hid, e]
      · have e : hasU (l.drop (i + 1)) u = hasU l u := by rw [← hr]; simp [hasU, hid]
        simp [-getElem?_pos, c99l0, c99l0a, c99r2, c99r3, c99r5, sh_md, shMd, hc.len, hc.ixs, h, h', hx, encP, hid, w1]
        exact ⟨i + 1, ⟨by omega, e⟩, by omega, by simp⟩
    · have h' : ¬ (i : Int) < (l.length : Int) := by omega
      rw [List.drop_of_length_le (by omega)] at hr
      have e : hasU l u = false := by rw [← hr]; rfl
      simp [-getElem?_pos, c99l0, c99l0a, c99r2, c99r6, sh_md, shMd, hc.len, h, h', e]

/-- Which wants are right; behind those of a list. -/
def chkL (f : Int) : List Wa → List Wa → Int
  | _, [] => 0
  | seen, x :: l => if isU x.1 = false then 20 else if x.2 < 1 ∨ f < x.2 then 21 else if hasU seen x.1 then 11 else chkL f (seen ++ [x]) l

def chk (f : Int) (l : List Wa) : Int := if f < 2 ∨ 64 < f then 1 else chkL f [] l

theorem rcheck_run {l : List Wa} {c : C} (hc : Sl 2 (l.map encP) c) (f : Int) (hl : l.length ≤ 100000) : run sh 96 [.c (.int .i64 f), .c c] [] = some (.c (.int .i64 (chk f l)), []) := by
  refine run_of_W (af := c96) rfl rfl rfl (by simp [c96]) ?_
  by_cases f1 : f < 2
  · simp [c96, c96r0, c96r1, c96r2, sh_md, shMd, f1, chk]
  by_cases f2 : 64 < f
  · simp [c96, c96r0, c96r1, c96r2, sh_md, shMd, f1, f2, chk]
  have ec : chk f l = chkL f [] l := by unfold chk; rw [if_neg (by omega)]
  rw [ec]
  simp [c96, c96r0, c96r1, c96r3, sh_md, shMd, f1, f2]
  refine W_loop (σ := Nat) (fun i => (mk 57 [(0, .c (.int .i64 f)), (1, .c c), (5, .c (.int .i64 i))], [])) (fun i => i ≤ l.length ∧ chkL f (l.take i) (l.drop i) = chkL f [] l) (fun i => l.length - i) 0 ?_ (by simp) ?_
  · simp [c96l0a]
  · rintro i ⟨hi, hr⟩
    by_cases h : i < l.length
    · have h' : (i : Int) < (l.length : Int) := by omega
      obtain ⟨x, hx⟩ : ∃ x, l[i]? = some x := ⟨_, List.getElem?_eq_getElem h⟩
      have w1 : IntKind.i64.wrap ((i : Int) + 1) = (i : Int) + 1 := by rw [wrap_i64] <;> omega
      rw [drop_cons hx] at hr
      have ri := is_run x.1
      cases u1 : isU x.1 with
      | false =>
        rw [u1] at ri
        have e : chkL f [] l = 20 := by rw [← hr]; simp [chkL, u1]
        simp [-getElem?_pos, c96l0, c96l0a, c96r4, c96r5, c96r6, sh_md, shMd, hc.len, hc.ixs, h, h', hx, encP, ri, e]
      | true =>
        rw [u1] at ri
        by_cases s1 : x.2 < 1
        · have e : chkL f [] l = 21 := by rw [← hr]; simp [chkL, u1, s1]
          simp [-getElem?_pos, c96l0, c96l0a, c96r4, c96r5, c96r7, c96r8, sh_md, shMd, hc.len, hc.ixs, h, h', hx, encP, ri, e, s1]
        by_cases s2 : f < x.2
        · have e : chkL f [] l = 21 := by rw [← hr]; simp [chkL, u1, s1, s2]
          simp [-getElem?_pos, c96l0, c96l0a, c96r4, c96r5, c96r7, c96r8, sh_md, shMd, hc.len, hc.ixs, h, h', hx, encP, ri, e, s1, s2]
        have e0 : chkL f [] l = if hasU (l.take i) x.1 then 11 else chkL f (l.take (i + 1)) (l.drop (i + 1)) := by
          rw [← hr, take_succ hx]; simp [chkL, u1, s1, s2]
        simp [-getElem?_pos, c96l0, c96l0a, c96r4, c96r5, c96r7, c96r9, sh_md, shMd, hc.len, hc.ixs, h, h', hx, encP, ri, s1, s2]
        refine W_loop (σ := Nat) (fun k => (mk 57 [(0, .c (.int .i64 f)), (1, .c c), (5, .c (.int .i64 i)), (6, .c (.int .i64 k))], [])) (fun k => k ≤ i ∧ hasU ((l.take i).drop k) x.1 = hasU (l.take i) x.1) (fun k => i - k) 0 ?_ (by simp) ?_
        · simp [c96l1a]
        · rintro k ⟨hk, hkr⟩
          by_cases g : k < i
          · have g' : (k : Int) < (i : Int) := by omega
            have gl : k < l.length := by omega
            have gl' : (k : Int) < (l.length : Int) := by omega
            obtain ⟨y, hy⟩ : ∃ y, l[k]? = some y := ⟨_, List.getElem?_eq_getElem gl⟩
            have hy' : (l.take i)[k]? = some y := by rw [List.getElem?_take]; simp [g, hy]
            have w2 : IntKind.i64.wrap ((k : Int) + 1) = (k : Int) + 1 := by rw [wrap_i64] <;> omega
            rw [drop_cons hy'] at hkr
            by_cases hid : y.1 = x.1
            · have e : hasU (l.take i) x.1 = true := by rw [← hkr]; simp [hasU, hid]
              rw [e, if_pos rfl] at e0
              simp [-getElem?_pos, c96l1, c96l1a, c96r10, c96r11, c96r12, sh_md, shMd, hc.len, hc.ixs, h, h', g, g', gl, gl', hx, hy, encP, hid, e0, c96l0a]
              refine ⟨_, _, ⟨rfl, rfl⟩, ?_⟩
              simp
            · have e : hasU ((l.take i).drop (k + 1)) x.1 = hasU (l.take i) x.1 := by rw [← hkr]; simp [hasU, hid]
              simp [-getElem?_pos, c96l1, c96l1a, c96r10, c96r11, c96r13, sh_md, shMd, hc.len, hc.ixs, h, h', g, g', gl, gl', hx, hy, encP, hid, w2]
              exact ⟨k + 1, ⟨by omega, e⟩, by omega, by simp⟩
          · have g' : ¬ (k : Int) < (i : Int) := by omega
            rw [List.drop_of_length_le (by simp; omega)] at hkr
            have e : hasU (l.take i) x.1 = false := by rw [← hkr]; rfl
            rw [e] at e0
            simp at e0
            simp [-getElem?_pos, c96l1, c96l1a, c96r10, c96r14, sh_md, shMd, g, g', w1, c96l0a]
            exact ⟨i + 1, ⟨by omega, e0.symm⟩, by omega, by simp⟩
    · have h' : ¬ (i : Int) < (l.length : Int) := by omega
      rw [List.drop_of_length_le (by omega)] at hr
      have e : chkL f [] l = 0 := by rw [← hr]; simp [chkL]
      simp [-getElem?_pos, c96l0, c96l0a, c96r4, c96r15, sh_md, shMd, hc.len, h, h', e]

end Go.Proofs.Ytopcnhojkfeafaa.Am.Sh
