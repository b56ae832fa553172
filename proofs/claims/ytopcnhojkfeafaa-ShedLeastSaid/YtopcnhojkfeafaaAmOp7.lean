/- AM: that what an instruction comes to is what Go's operation comes to: append. -/
import Derived.Test.YtopcnhojkfeafaaAmOp6
import Derived.Deep.AppendSrc
import Derived.Laws.CopyRow
set_option linter.unusedSimpArgs false
set_option linter.unusedVariables false
namespace Go.Proofs.Ytopcnhojkfeafaa.Am
open Go.RowKit

section
variable {P : Program} {o : Oper} {a : Act} {w : World} {Γ : Env} {M : Mem} {tm : List V}

theorem run_append_room' {w' : World} (t ty e : TypeId) (i : TypeInfo) (ht : P.underlying t = some (.slice e)) (hi : P.info? e = some i) (base : Option Addr) (n cap : Nat) (x : Value) (m : Nat) (news : List Value) (hs : Src P i.size t x m news w)
    (hroom : n + m ≤ cap) (hst : ∀ a, base = some a → (storeCells (a.add (n * i.size)) news).run P w = .ok () w') (h0 : base = none → w' = w) :
    (Builtin.append_ #[t, t] ty #[.slice base n cap, x]).run P w = .ok (.slice base (n + m) cap) w' := by
  cases base with
  | none =>
    rw [h0 rfl]
    simp [Builtin.append_, run_underlying ht, sizeOf, typeInfo, hi, hs.len, hroom, hs.cells]
  | some a => simp [Builtin.append_, run_underlying ht, sizeOf, typeInfo, hi, hs.len, hroom, hs.cells, hst a rfl]

theorem src_of {t e : TypeId} {k : Nat} {x : Value} {A : Option Addr} {cap : Nat} {ys : List (List C)} {vs : List Value} (ht : P.underlying t = some (.slice e)) (hx : x = .slice A ys.length cap) (hF : Flat w Γ k ys vs)
    (hc : ∀ (w1 : World) (n : Nat), w1.heap = w.heap → n ≤ ys.length → (Builtin.firstCells k n x).run P w1 = .ok (vs.take (n * k)).toArray w1) : Src P k t x ys.length vs w := by
  have e1 : vs.take (ys.length * k) = vs := by rw [← hF.1]; exact List.take_length
  refine ⟨.inl ⟨e, ht⟩, fun w' => by subst hx; rfl, ?_, ?_, hF.1, hF.2.2.2⟩
  · have := hc w ys.length rfl (Nat.le_refl _)
    rw [e1] at this; exact this
  · have := hc w.drew ys.length rfl (Nat.le_refl _)
    rw [e1] at this; exact this

theorem grow_fits {need cap b : Nat} (h : cap < need) (hl : need ≤ 16777216) (hb : b ≤ 1024) : Builtin.nextslicecap need cap * b ≤ 281474976710656 := by
  have h1 := nextslicecap_le h
  have h2 : Builtin.nextslicecap need cap * b ≤ (2 * need) * b := Nat.mul_le_mul_right _ h1
  have h3 : (2 * need) * b ≤ (2 * need) * 1024 := Nat.mul_le_mul_left _ hb
  omega

/-- No block at all. -/
theorem newNil_put (hS : Sim w Γ M) {n : Nat} (hn : Site M n) (k : Nat) :
    Sim w (Γ.put n (genAt M n) .nil) (M.set n (some (.row k (genAt M n) []))) ∧ Ext All w Γ M w (Γ.put n (genAt M n) .nil) (M.set n (some (.row k (genAt M n) []))) := by
  have hput : Put w Γ M w n (genAt M n) .nil :=
    ⟨hn.1, hn.2, .inl (fresh_old), fun g' hg => fresh_gen hS hn.2 _ (by omega), rfl, rfl, rfl, Nat.le_refl _, fun b hb _ => rfl, fun b o k tc e => by cases e⟩
  exact ⟨hput.sim hS rfl (.inl ⟨Env.put_same _ _ _ _, rfl⟩), hput.ext (B := .row k (genAt M n) []) rfl⟩

/-- What an append comes to: a value, a world, where all lies. -/
def AppOK (P : Program) (t ty : TypeId) (s x : Value) (w : World) (Γ : Env) (M : Mem) (v : V) (M' : Mem) : Prop :=
  ∃ r w' Γ', (Builtin.append_ #[t, t] ty #[s, x]).run P w = .ok r w' ∧ Sim w' Γ' M' ∧ Ext All w Γ M w' Γ' M' ∧ RVal w' Γ' v r

/-- Onto nil. -/
theorem app_nil (hS : Sim w Γ M) {n : Nat} (hn : Site M n) {t ty e : TypeId} {i : TypeInfo} {z x : Value} {ys : List (List C)} {vs : List Value} (ht : P.underlying t = some (.slice e)) (hi : P.info? e = some i) (hz : i.zero = some z) (hzs : z.cells.size = i.size) (hb : i.bytes ≤ 1024)
    (hF : Flat w Γ i.size ys vs) (hs : Src P i.size t x ys.length vs w) (hl : ys.length ≤ 16777216) :
    AppOK P t ty (.slice none 0 0) x w Γ M (.c (.own n (genAt M n) i.size 0 ys.length)) (M.set n (some (.row i.size (genAt M n) ys))) := by
  by_cases h0 : ys.length = 0
  · have hy : ys = [] := List.eq_nil_of_length_eq_zero h0
    subst hy
    obtain ⟨h1, h2⟩ := newNil_put hS hn i.size
    refine ⟨_, w, _, run_append_room' (w := w) t ty e i ht hi none 0 0 x 0 vs hs (Nat.le_refl _) (fun a h => by cases h) (fun _ => rfl), h1, h2, ?_⟩
    exact R.ownN _ _ _ (Env.put_same _ _ _ _)
  · have hrun := run_append_grow_src (P := P) w t t ty e i z ht hi hz none 0 0 [] (by simp [Builtin.firstCells]) x ys.length vs hs (by omega) (by omega) (grow_fits (by omega) (by omega) hb)
    have hge := grownCap_ge w (0 + ys.length) 0 e
    have hp := newRow_put hS hn hF (tc := grownCap w (0 + ys.length) 0 e) (by omega) (arr := ([] ++ vs).toArray ++ Builtin.zeroCells z.cells (grownCap w (0 + ys.length) 0 e - (0 + ys.length))) (E := e)
      (by
        have h2 : (ys.length + (grownCap w (0 + ys.length) 0 e - (0 + ys.length))) * i.size = grownCap w (0 + ys.length) 0 e * i.size := by congr 1; omega
        rw [Nat.add_mul] at h2
        simp only [Array.size_append, size_zeroCells, hzs, List.nil_append, List.size_toArray, hF.1]
        exact h2)
      (fun m hm => by
        rw [Array.getElem?_append_left (by simpa using hm)]
        simp) (w' := w.drew.alloc (.cells (([] ++ vs).toArray ++ Builtin.zeroCells z.cells (grownCap w (0 + ys.length) 0 e - (0 + ys.length))) e)) rfl rfl rfl rfl
    refine ⟨_, _, _, hrun, hp.1, hp.2, ?_⟩
    have := own_new (w' := w.drew.alloc (.cells (([] ++ vs).toArray ++ Builtin.zeroCells z.cells (grownCap w (0 + ys.length) 0 e - (0 + ys.length))) e)) (n := n) (b := w.heap.size) (k := i.size) (g := genAt M n) Γ hge
    rw [Nat.zero_add] at this ⊢
    simpa using this

/-- Onto a slice of the own memory. -/
theorem app_own (hS : Sim w Γ M) {n g len b o' tc cap : Nat} {A : Option Addr} {t ty e : TypeId} {i : TypeInfo} {z x : Value} {xs ys : List (List C)} {vs : List Value} (ht : P.underlying t = some (.slice e)) (hi : P.info? e = some i) (hz : i.zero = some z) (hzs : z.cells.size = i.size)
    (hb : i.bytes ≤ 1024) (hF : Flat w Γ i.size ys vs) (hs : Src P i.size t x ys.length vs w) (hM : M.getD n none = some (.row i.size g xs)) (hbe : Γ.be n g = .at b o' i.size tc) (hcap : cap = tc) (hle : len ≤ cap) (hA : cap ≠ 0 → A = some ⟨b, o', none⟩)
    (hl : xs.length + ys.length ≤ 16777216) (hlx : len ≤ xs.length) (hmid : len = xs.length ∨ len + ys.length ≤ xs.length) :
    AppOK P t ty (.slice A len cap) x w Γ M (.c (.own n (g + 1) i.size 0 (len + ys.length))) (M.set n (some (.row i.size (g + 1) (xs.take len ++ ys ++ xs.drop (len + ys.length))))) := by
  subst hcap
  have hn : Site M n := ⟨hS.bound n g (by rw [hbe]; simp), by rw [hM]; simp⟩
  have hgen : genAt M n = g + 1 := by rw [genAt, hM]; rfl
  obtain ⟨_, htc, arr, E, hheap, hsz, hks, hcont⟩ := RowR.at (hS.blk n _ hM) hbe
  have hF0 := RowR.flat (w := w) (Γ := Γ) (n := n) (g := g) (b := b) hsz htc hks hcont
  by_cases hroom : len + ys.length ≤ cap
  · let arr' : Array Value := (arr.toList.take (o' + len * i.size) ++ vs ++ arr.toList.drop (o' + len * i.size + vs.length)).toArray
    have hvl := hF.1
    have hmul : len * i.size + ys.length * i.size ≤ cap * i.size := by rw [← Nat.add_mul]; exact Nat.mul_le_mul_right _ hroom
    have hrun := run_storeCells_at P b (o' + len * i.size) E vs 0 arr w hheap (by simp only [Nat.add_zero]; omega) hF.2.2.2
    simp only [Nat.add_zero] at hrun
    have hsz' : arr'.size = o' + cap * i.size := by simp only [arr']; simp; omega
    have hF' := ((hF0.take len).append hF).append (hF0.drop (len + ys.length))
    have hxl : (xs.take len ++ ys ++ xs.drop (len + ys.length)).length ≤ cap := by simp; omega
    have hxk : xs.length * i.size ≤ cap * i.size := Nat.mul_le_mul_right _ htc
    have hlk : len * i.size ≤ xs.length * i.size := Nat.mul_le_mul_right _ hlx
    have hle3 : xs.length * i.size ≤ arr.size - o' := by omega
    have hL1 := hF0.1
    have hL2 : ∀ q, q < xs.length * i.size → (List.take (xs.length * i.size) (List.drop o' arr.toList))[q]? = arr.toList[o' + q]? := fun q hq => by
      rw [List.getElem?_take, if_pos hq, List.getElem?_drop]
    have e3 : (len + ys.length) * i.size = len * i.size + ys.length * i.size := Nat.add_mul _ _ _
    have hp := setRow_put hS (arr' := arr') (g' := g + 1) hM hbe hheap (.inr rfl) hsz' hF' hxl (fun m hm => by
      revert hm hL1 hL2
      generalize List.take (xs.length * i.size) (List.drop o' arr.toList) = L
      intro hL1 hL2 hm
      have l1 : (L.take (len * i.size)).length = len * i.size := by rw [List.length_take]; omega
      have l2 : (arr.toList.take (o' + len * i.size)).length = o' + len * i.size := by rw [List.length_take, Array.length_toList]; omega
      rw [List.length_append, List.length_append, l1, List.length_drop, hL1, e3] at hm
      simp only [arr', List.getElem?_toArray, List.append_assoc]
      rcases Nat.lt_or_ge m (len * i.size) with c1 | c1
      · rw [List.getElem?_append_left (l₁ := arr.toList.take (o' + len * i.size)) (by rw [l2]; omega), List.getElem?_append_left (l₁ := L.take (len * i.size)) (by rw [l1]; omega)]
        rw [List.getElem?_take, List.getElem?_take, if_pos (by omega), if_pos c1, hL2 _ (by omega)]
      · rw [List.getElem?_append_right (l₁ := arr.toList.take (o' + len * i.size)) (by rw [l2]; omega), List.getElem?_append_right (l₁ := L.take (len * i.size)) (by rw [l1]; omega), l1, l2]
        have e1 : o' + m - (o' + len * i.size) = m - len * i.size := by omega
        rw [e1]
        rcases Nat.lt_or_ge (m - len * i.size) vs.length with c2 | c2
        · rw [List.getElem?_append_left c2, List.getElem?_append_left c2]
        · rw [List.getElem?_append_right c2, List.getElem?_append_right c2, List.getElem?_drop, List.getElem?_drop, hL2 _ (by omega)]
          congr 1
          omega)
    have hw : ∀ ad, A = some ad → (storeCells (ad.add (len * i.size)) vs).run P w = .ok () (w.setRow b arr') := by
      intro ad had
      by_cases h0 : cap = 0
      · have hv0 : vs = [] := List.eq_nil_of_length_eq_zero (by rw [hvl]; have : ys.length = 0 := by omega
                                                                simp [this])
        have harr : arr' = arr := by simp only [arr', hv0]; simp
        rw [harr, setRow_self w b arr E (0, 0) hheap, hv0]
        rfl
      · have := hA h0
        rw [this] at had
        injection had with had
        rw [← had, add_at]
        exact hrun
    have hw0 : A = none → w.setRow b arr' = w := by
      intro had
      have h0 : cap = 0 := by
        rcases Nat.eq_zero_or_pos cap with h | h
        · exact h
        · rw [hA (by omega)] at had; cases had
      have hv0 : vs = [] := List.eq_nil_of_length_eq_zero (by rw [hvl]; have : ys.length = 0 := by omega
                                                              simp [this])
      have harr : arr' = arr := by simp only [arr', hv0]; simp
      rw [harr, setRow_self w b arr E (0, 0) hheap]
    refine ⟨_, _, _, run_append_room' t ty e i ht hi A len cap x ys.length vs hs hroom hw hw0, hp.1, hp.2, ?_⟩
    refine R.own n (g + 1) 0 (len + ys.length) b o' i.size cap A cap (Env.put_same _ _ _ _) (by omega) hroom (fun h => by rw [hA h]; simp)
  · have hll : len = xs.length := by omega
    have hold : (Builtin.firstCells i.size len (.slice A len cap)).run P w.drew = .ok (List.take (xs.length * i.size) (List.drop o' arr.toList)).toArray w.drew := by
      have hv : RVal w Γ (.c (.own n g i.size 0 len)) (.slice A len cap) := R.own n g 0 len b o' i.size cap A cap hbe (by omega) hle (fun h => by rw [hA h]; simp)
      have hel : elems M i.size (.c (.own n g i.size 0 len)) = some xs := by
        simp only [elems, rowAt, hM]
        rw [if_pos (by refine ⟨?_, ?_, ?_, by omega⟩ <;> trivial), List.drop_zero, hll, List.take_length]
      obtain ⟨A', cap', vs', e1, e2, e3⟩ := elems_sound (P := P) hS hv hel
      have h3 := e3 w.drew len rfl (by omega)
      rw [h3]
      by_cases h0 : cap = 0
      · have : len = 0 := by omega
        rw [← hll, this]; simp
      · have hAA := hA h0
        subst hAA
        have h4 := run_loadCells_list (P := P) w.drew ⟨b, o', none⟩ (List.take (xs.length * i.size) (List.drop o' arr.toList)) (fun j y hj => by
          rw [add_at]
          have : w.drew.cell? ⟨b, o' + j, none⟩ = w.cell? ⟨b, o' + j, none⟩ := rfl
          rw [this, cell_eq hheap]
          rw [List.getElem?_take] at hj
          split at hj
          · rw [List.getElem?_drop] at hj
            simpa using hj
          · simp at hj)
        have h5 : (List.take (xs.length * i.size) (List.drop o' arr.toList)).length = len * i.size := by rw [hF0.1, hll]
        rw [h5] at h4
        have h6 : (Builtin.firstCells i.size len (.slice (some ⟨b, o', none⟩) len cap)).run P w.drew = .ok (List.take (xs.length * i.size) (List.drop o' arr.toList)).toArray w.drew := h4
        rw [h3] at h6
        injection h6 with h6
        rw [h6]
    have hrun := run_append_grow_src (P := P) w t t ty e i z ht hi hz A len cap _ hold x ys.length vs hs (by omega) (by omega) (grow_fits (by omega) (by omega) hb)
    have hge := grownCap_ge w (len + ys.length) cap e
    have hFF := hF0.append hF
    have hxy : xs.take len ++ ys ++ xs.drop (len + ys.length) = xs ++ ys := by
      rw [hll, List.take_length, List.drop_eq_nil_of_le (by omega), List.append_nil]
    rw [hxy]
    have hp := newRow_put hS hn hFF (tc := grownCap w (len + ys.length) cap e) (by simp; omega) (arr := (List.take (xs.length * i.size) (List.drop o' arr.toList) ++ vs).toArray ++ Builtin.zeroCells z.cells (grownCap w (len + ys.length) cap e - (len + ys.length))) (E := e)
      (by
        have h2 : (len + ys.length + (grownCap w (len + ys.length) cap e - (len + ys.length))) * i.size = grownCap w (len + ys.length) cap e * i.size := by congr 1; omega
        rw [Nat.add_mul] at h2
        have h3 := hFF.1
        simp only [List.length_append, ← hll] at h3
        simp only [Array.size_append, size_zeroCells, hzs, List.size_toArray, List.length_append]
        rw [← h2, ← h3, hll])
      (fun m hm => by
        rw [Array.getElem?_append_left (by simpa using hm)]
        simp) (w' := w.drew.alloc (.cells ((List.take (xs.length * i.size) (List.drop o' arr.toList) ++ vs).toArray ++ Builtin.zeroCells z.cells (grownCap w (len + ys.length) cap e - (len + ys.length))) e)) rfl rfl rfl rfl
    rw [hgen] at hp
    exact ⟨_, _, _, hrun, hp.1, hp.2, own_new Γ hge⟩

theorem app_sound (hS : Sim w Γ M) (hT : Tm w Γ tm a) {t e : TypeId} {k b st : Nat} {zs : List Z} {s x : Operand} {s' x' : X} {v : V} {M' : Mem} (hop : o.op = .call ⟨.builtin .append, #[s, x], #[t, t]⟩) (hst : sliceT P t = some e)
    (hi : infoT P e = some (k, b, zs)) (hs : xOf s = some s') (hx : xOf x = some x') (h : evApp M st k (evX tm s') (evX tm x') = some (v, M')) : OpOK P o a w Γ M v M' := by
  obtain ⟨i, z, g1, g2, g3, g4, g5, g6, g7⟩ := infoT_some hi
  subst g3
  have hzs : z.cells.size = i.size := by
    have := (zOf_RL (w := w) (Γ := Γ) g5).length
    simp at this; omega
  have hb : i.bytes ≤ 1024 := by omega
  have hsX := evX_R hT hs
  have ht := sliceT_some hst
  have fin : AppOK P t o.type (a.eval s) (a.eval x) w Γ M v M' → OpOK P o a w Γ M v M' := by
    rintro ⟨r, w', Γ', hr, hS', he, hv⟩
    refine OpOK.value (x := r) ?_ hS' he hv
    simp [execOp, hop, resolve, invoke, builtin, hr, Result.andThen]
  refine fin ?_
  unfold evApp at h
  split at h
  · simp at h
  · rename_i ys hys
    obtain ⟨Ax, capx, vs, hxe, hF, hc⟩ := elems_sound (P := P) hS (evX_R hT hx) hys
    have hsrc := src_of (t := t) ht hxe hF hc
    revert h hsX
    generalize evX tm s' = vS
    intro hsX h
    split at h
    · split at h
      · rename_i hl
        have hl : ys.length ≤ 16777216 := hl
        obtain ⟨M1, hM1, he⟩ := Option.map_eq_some_iff.1 h
        obtain ⟨hn, rfl⟩ := setB_some hM1
        simp only [Prod.mk.injEq] at he
        obtain ⟨rfl, rfl⟩ := he
        have hse : a.eval s = .slice none 0 0 := by
          generalize a.eval s = sv at hsX
          cases (show R w Γ _ _ from hsX) with
          | im h => cases h; rfl
        rw [hse]
        exact app_nil hS hn ht g1 g2 hzs hb hF hsrc hl
      · simp at h
    · rename_i n g k'' off len
      split at h
      · rename_i k' g' xs hrow
        have hM := rowAt_some hrow
        split at h
        · rename_i hcnd
          obtain ⟨rfl, rfl, rfl, rfl, hl⟩ := hcnd
          have hl : xs.length + ys.length ≤ 16777216 := hl
          have main : len ≤ xs.length → (len = xs.length ∨ len + ys.length ≤ xs.length) → v = .c (.own n (g + 1) i.size 0 (len + ys.length)) → M' = M.set n (some (.row i.size (g + 1) (xs.take len ++ ys ++ xs.drop (len + ys.length)))) → AppOK P t o.type (a.eval s) (a.eval x) w Γ M v M' := by
            intro hlx hmid hv hM'
            subst hv; subst hM'
            generalize a.eval s = sv at hsX
            cases (show R w Γ _ _ from hsX) with
            | im h => cases h
            | ownN n g k hbe =>
              have hxn : xs = [] := by
                rcases hS.blk n _ hM with ⟨_, h2⟩ | ⟨b', o', tc', arr, E, h2, _⟩
                · exact h2
                · rw [hbe] at h2; cases h2
              subst hxn
              have hn : Site M n := ⟨hS.bound n g (by rw [hbe]; simp), by rw [hM]; simp⟩
              have hgen : genAt M n = g + 1 := by rw [genAt, hM]; rfl
              have := app_nil (P := P) (t := t) (ty := o.type) hS hn ht g1 g2 hzs hb hF hsrc (by omega)
              rw [hgen] at this
              simpa using this
            | own n g off len b o' k tc A cap hbe hcp hle hA =>
              exact app_own hS ht g1 g2 hzs hb hF hsrc hM hbe (by omega) hle (fun h => by rw [hA h]; simp) hl hlx hmid
          split at h
          · rename_i hlen
            simp only [Option.some.injEq, Prod.mk.injEq] at h
            refine main (by omega) (.inl hlen) h.1.symm ?_
            rw [← h.2, hlen, List.take_length, List.drop_eq_nil_of_le (by omega), List.append_nil]
          · split at h
            · rename_i hmid
              simp only [Option.some.injEq, Prod.mk.injEq] at h
              exact main (by omega) (.inr hmid) h.1.symm h.2.symm
            · simp at h
        · simp at h
      · simp at h
    · simp at h

end
end Go.Proofs.Ytopcnhojkfeafaa.Am
