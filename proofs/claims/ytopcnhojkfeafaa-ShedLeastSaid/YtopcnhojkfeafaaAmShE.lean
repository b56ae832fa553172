/- AM: shed's functions: the reference's best choice. -/
import Derived.Test.YtopcnhojkfeafaaAmShD
set_option linter.unusedSimpArgs false
set_option linter.unusedVariables false
set_option maxRecDepth 100000
namespace Go.Proofs.Ytopcnhojkfeafaa.Am.Sh
open Am.Gen

theorem giveVs_nil (M : Mem) : giveVs M [] = some ([], M) := rfl
theorem giveVs_cons (M : Mem) (v : V) (vs : List V) : giveVs M (v :: vs) = (giveV M v).bind fun r => (giveVs r.2 vs).map fun q => (r.1 :: q.1, q.2) := by
  simp only [giveVs]
  cases giveV M v with
  | none => rfl
  | some r =>
    simp only [Option.bind_some]
    cases giveVs r.2 vs <;> rfl
theorem giveV_c (M : Mem) (c : C) : giveV M (.c c) = (giveC M c).map fun r => (.c r.1, r.2) := rfl
theorem giveC_int (M : Mem) (k : IntKind) (n : Int) : giveC M (.int k n) = some (.int k n, M) := rfl
theorem giveC_imm (M : Mem) (k : Nat) (xs : List (List C)) : giveC M (.imm false k xs) = some (.imm false k xs, M) := by simp [giveC, frz]
theorem giveC_nil (M : Mem) : giveC M .nilsl = some (.nilsl, M) := rfl
theorem giveC_own {M : Mem} {n g k len : Nat} {xs : List (List C)} (h : M[n]? = some (some (.row k g xs))) (hl : len = xs.length) (hf : ∀ cs ∈ xs, cs.all flat = true) : giveC M (.own n g k 0 len) = some (.imm false k xs, M.set n (some (.dead g))) := by
  have e : rowAt M n = some (k, g, xs) := by rw [rowAt_eq, h]; rfl
  subst hl
  have e2 : frz false (fun m => decide (m = n)) M 2 (.own n g k 0 xs.length) = some (.imm false k xs) := by
    unfold frz
    simp only [decide_true, if_true, e, and_self, Nat.zero_add, Nat.le_refl, List.drop_zero, List.take_length]
    rw [Gen.mapM_flat _ (fun c hc => frz_flat false _ M 0 c hc) hf]
    rfl
  simp only [giveC, e2]

/-- A slice that stays as it is for good. -/
def SlF (k : Nat) (xs : List (List C)) (c : C) : Prop := c = .imm false k xs ∨ (c = .nilsl ∧ xs = [])
theorem SlF.sl {k : Nat} {xs : List (List C)} {c : C} (h : SlF k xs c) : Sl k xs c := by
  rcases h with rfl | ⟨rfl, h⟩
  · exact .inl ⟨_, rfl⟩
  · exact .inr ⟨rfl, h⟩
theorem SlF.give {k : Nat} {xs : List (List C)} {c : C} (h : SlF k xs c) (M : Mem) : giveC M c = some (c, M) := by
  rcases h with rfl | ⟨rfl, h⟩
  · exact giveC_imm _ _ _
  · rfl

def bestW (need : Int) : List Wa → List Wa → List Wa × Bool
  | [], ch => (ch, decide (need ≤ sumW ch))
  | x :: r, ch => if (bestW need r ch).2 = false ∨ ((bestW need r (ch ++ [x])).2 = true ∧ betterW (bestW need r (ch ++ [x])).1 (bestW need r ch).1 = true) then bestW need r (ch ++ [x]) else bestW need r ch

theorem bestW_sub (need : Int) : ∀ (r ch : List Wa), ((bestW need r ch).1.length ≤ ch.length + r.length) ∧ ∀ x ∈ (bestW need r ch).1, x ∈ ch ∨ x ∈ r
  | [], ch => ⟨by simp [bestW], fun x hx => .inl hx⟩
  | y :: r, ch => by
    have h1 := bestW_sub need r ch
    have h2 := bestW_sub need r (ch ++ [y])
    unfold bestW
    split
    · refine ⟨by have := h2.1; simp at this ⊢; omega, fun x hx => ?_⟩
      rcases h2.2 x hx with h | h
      · rcases List.mem_append.1 h with h | h
        · exact .inl h
        · simp at h; subst h; exact .inr List.mem_cons_self
      · exact .inr (List.mem_cons_of_mem _ h)
    · refine ⟨by have := h1.1; simp at this ⊢; omega, fun x hx => ?_⟩
      rcases h1.2 x hx with h | h
      · exact .inl h
      · exact .inr (List.mem_cons_of_mem _ h)

theorem imm_sl (t : Bool) (l : List Wa) : Sl 2 (l.map encP) (.imm t 2 (l.map encP)) := .inl ⟨t, rfl⟩

theorem best_run {l : List Wa} {c : C} (hc : SlF 2 (l.map encP) c) (need : Int) (hs : Sh64 l) (hl : l.length ≤ 1000) : ∀ (r : List Wa) (k : Nat) (ch : List Wa), l.drop k = r → k ≤ l.length → Sh64 ch → ch.length + r.length ≤ 100 →
    run sh 98 [.c (.int .i64 need), .c c, .c (.int .i64 k), .c (.imm false 2 (ch.map encP))] [] = some (.tup [.c (.imm false 2 ((bestW need r ch).1.map encP)), .c (.bool (bestW need r ch).2)], [])
  | [], k, ch, hk, hkl, hch, hlen => by
    have e : k = l.length := by
      have : (l.drop k).length = 0 := by rw [hk]; rfl
      simp at this; omega
    subst e
    have s := sum_run (imm_sl true ch) hch (by simp at hlen; omega)
    have s' := sum_run (imm_sl false ch) hch (by simp at hlen; omega)
    refine run_of_W (af := c98) rfl rfl rfl (by simp [c98]) ?_
    simp [-getElem?_pos, -List.mapM_map, c98, c98r0, c98r1, c98r2, sh_md, shMd, hc.sl.len, s, s', bestW]
    simp [retE, nodupB, topsV, topsV1, topsP, topsC, expV, expV1, expP, expC, frz]
  | x :: r, k, ch, hk, hkl, hch, hlen => by
    have hx : l[k]? = some x := by
      have := List.getElem?_drop (xs := l) (i := k) (j := 0)
      rw [hk] at this
      simpa using this.symm
    have hkl2 := lt_some hx
    have hk1 : l.drop (k + 1) = r := by
      rw [drop_cons hx] at hk
      exact (List.cons.inj hk).2
    have hxs := hs x (List.mem_of_getElem? hx)
    have hch1 : Sh64 (ch ++ [x]) := by
      intro y hy
      rcases List.mem_append.1 hy with hy | hy
      · exact hch y hy
      · simp at hy; subst hy; exact hxs
    simp only [List.length_cons] at hlen
    have r1 := best_run hc need hs hl r (k + 1) ch hk1 (by omega) hch (by omega)
    have r2 := best_run hc need hs hl r (k + 1) (ch ++ [x]) hk1 (by omega) hch1 (by simp; omega)
    have b1 := bestW_sub need r ch
    have b2 := bestW_sub need r (ch ++ [x])
    have hrs : Sh64 r := hs.sub fun y hy => by rw [← hk1] at hy; exact List.mem_of_mem_drop hy
    have sub : ∀ {a c : List Wa}, Sh64 c → (∀ y ∈ a, y ∈ c ∨ y ∈ r) → Sh64 a := fun hc' h y hy => by
      rcases h y hy with h | h
      · exact hc' y h
      · exact hrs y h
    have s1 := sub hch b1.2
    have s2 := sub hch1 b2.2
    have bt := better_run (imm_sl false (bestW need r (ch ++ [x])).1) (imm_sl false (bestW need r ch).1) (by have := b2.1; simp at this; omega) (by have := b1.1; omega) s2 s1
    have w1 : IntKind.i64.wrap ((k : Int) + 1) = (k : Int) + 1 := by rw [wrap_i64] <;> omega
    have n1 : ¬ (k : Int) = (l.length : Int) := by omega
    have n2 : (k : Int) < (l.length : Int) := by omega
    refine run_of_W (af := c98) rfl rfl rfl (by simp [c98]) ?_
    generalize hA : bestW need r ch = A at *
    generalize hB : bestW need r (ch ++ [x]) = B at *
    have eb : bestW need (x :: r) ch = if A.2 = false ∨ (B.2 = true ∧ betterW B.1 A.1 = true) then B else A := by rw [← hA, ← hB]; rfl
    rw [eb]
    push_cast at r1 r2
    have er : List.map encP (ch ++ [x]) = List.map encP ch ++ [[C.int IntKind.i64 x.fst, C.int IntKind.i64 x.snd]] := by simp [encP]
    have gv := giveC_own (M := [none, some (Blk.row 2 2 (List.map encP ch ++ [[C.int IntKind.i64 x.fst, C.int IntKind.i64 x.snd]])), none, some (Blk.row 2 0 [[C.int IntKind.i64 x.fst, C.int IntKind.i64 x.snd]]), none, none]) (n := 1) (g := 2) (k := 2) (len := ch.length + 1) (xs := List.map encP ch ++ [[C.int IntKind.i64 x.fst, C.int IntKind.i64 x.snd]]) rfl (by simp) (by rw [← er]; exact encP_flat _)
    rw [er] at r2
    have g1 : ch.length ≤ 16777216 := by omega
    have g2 : ch.length ≤ 16777215 := by omega
    simp [-getElem?_pos, -List.mapM_map, c98, c98r0, c98r1, c98r3, c98r4, c98r5, sh_md, shMd, hc.sl.len, hc.sl.ixs, n1, n2, w1, hx, giveVs_cons, giveVs_nil, giveV_c, giveC_int, giveC_imm, hc.give, r1, fillSl, hkl2, g1, g2, encP]
    rw [gv]
    cases h1 : A.2 with
    | false =>
      simp [-getElem?_pos, -List.mapM_map, c98r6, c98r7, sh_md, shMd, r2, h1]
      simp [retE, nodupB, topsV, topsV1, topsP, topsC, expV, expV1, expP, expC, frz]
    | true =>
      cases h2 : B.2 with
      | false =>
        simp [-getElem?_pos, -List.mapM_map, c98r6, c98r8, sh_md, shMd, r2, h1, h2]
        simp [retE, nodupB, topsV, topsV1, topsP, topsC, expV, expV1, expP, expC, frz]
      | true =>
        cases h3 : betterW B.1 A.1 with
        | false =>
          rw [h3] at bt
          simp [-getElem?_pos, -List.mapM_map, c98r6, c98r8, sh_md, shMd, r2, h1, h2, h3, bt]
          simp [retE, nodupB, topsV, topsV1, topsP, topsC, expV, expV1, expP, expC, frz]
        | true =>
          rw [h3] at bt
          simp [-getElem?_pos, -List.mapM_map, c98r6, c98r7, sh_md, shMd, r2, h1, h2, h3, bt]
          simp [retE, nodupB, topsV, topsV1, topsP, topsC, expV, expV1, expP, expC, frz]

theorem choose_run {l : List Wa} {c : C} (hc : SlF 2 (l.map encP) c) (need : Int) (hs : Sh64 l) (hl : l.length ≤ 100) :
    run sh 51 [.c (.int .i64 need), .c c] [] = some (.tup [.c (.imm false 2 ((bestW need l []).1.map encP)), .c (.bool (bestW need l []).2)], []) := by
  have r := best_run hc need hs (by omega) l 0 [] rfl (by omega) (fun x hx => by simp at hx) (by simp; omega)
  have gv := giveC_own (M := [some (Blk.row 2 0 []), none]) (n := 0) (g := 0) (k := 2) (len := 0) (xs := []) rfl rfl (by simp)
  refine run_of_W (af := c51) rfl rfl rfl (by simp [c51]) ?_
  simp at r
  simp [-getElem?_pos, -List.mapM_map, c51, c51r0, c51r1, sh_md, shMd, fillSl, giveVs_cons, giveVs_nil, giveV_c, giveC_int, hc.give, gv, r]
  simp [retE, nodupB, topsV, topsV1, topsP, topsC, expV, expV1, expP, expC, frz]

end Go.Proofs.Ytopcnhojkfeafaa.Am.Sh
