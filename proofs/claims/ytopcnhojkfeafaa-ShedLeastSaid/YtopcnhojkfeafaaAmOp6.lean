/- AM: that what an instruction comes to is what Go's operation comes to: stores, make, slicing, append, copy. -/
import Derived.Test.YtopcnhojkfeafaaAmOp5
set_option linter.unusedSimpArgs false
set_option linter.unusedVariables false
namespace Go.Proofs.Ytopcnhojkfeafaa.Am
open Go.RowKit

section
variable {P : Program} {o : Oper} {a : Act} {w : World} {Γ : Env} {M : Mem} {tm : List V}

theorem RowR.at {n k g : Nat} {xs : List (List C)} {b o' tc k' : Nat} (h : RowR w Γ n k g xs) (hbe : Γ.be n g = .at b o' k' tc) :
    k' = k ∧ xs.length ≤ tc ∧ ∃ arr E, w.heap[b]? = some (.cells arr E (0, 0)) ∧ arr.size = o' + tc * k ∧ (∀ i, i < xs.length → (xs.getD i []).length = k) ∧ ∀ i j, i < xs.length → j < k → ∃ v, arr[o' + (i * k + j)]? = some v ∧ R w Γ (at2 xs i j) v := by
  rcases h with ⟨h1, _⟩ | ⟨b2, o2, tc2, arr, E, h1, h2, h3, h4, h5, h6, h7, h8⟩
  · rw [h1] at hbe; cases hbe
  · rw [h1] at hbe; injection hbe with e1 e2 e3 e4; subst e1; subst e2; subst e3; subst e4
    exact ⟨rfl, h4, arr, E, h5, h6, h7, h8⟩

theorem put_id {Γ : Env} {n g : Nat} {i : BI} (h : Γ.be n g = i) : Γ.put n g i = Γ := by
  unfold Env.put
  cases Γ with
  | mk be F base =>
    congr 1
    funext n' g'
    by_cases e : n' = n ∧ g' = g
    · rw [if_pos e, e.1, e.2]; exact h.symm
    · rw [if_neg e]

theorem store_sound (hS : Sim w Γ M) (hT : Tm w Γ tm a) {t : TypeId} {k : Nat} {x y : Operand} {x' y' : X} {cs : List C} {M' : Mem} (hop : o.op = .store t x y) (hk : sizeT P t = some k) (hx : xOf x = some x') (hy : xOf y = some y')
    (hc : (evX tm y').cells = some cs) (hl : cs.length = k) (hst : storeAt M (evX tm x') cs = some M') : OpOK P o a w Γ M .none M' := by
  have hX := evX_R hT hx
  have hRL := (evX_R hT hy).cells hc
  unfold storeAt at hst
  split at hst
  · rename_i n g idx off hv
    split at hst
    · rename_i k0 g' xs hrow
      split at hst
      · rename_i hg; subst hg
        split at hst
        · rename_i cs0 hx0
          split at hst
          · rename_i hle
            simp only [Option.some.injEq] at hst
            subst hst
            rw [hv] at hX
            obtain ⟨b, o', k1, tc, hbe, hae⟩ := ptr_shape hX
            have hM := rowAt_some hrow
            obtain ⟨rfl, htc, arr, E, hheap, hsz, hks, hcont⟩ := RowR.at (hS.blk n _ hM) hbe
            have hidx : idx < xs.length := (List.getElem?_eq_some_iff.1 hx0).1
            have hc0 : cs0.length = k1 := by rw [← getD_getElem hx0]; exact hks idx hidx
            have hlr := hRL.length
            have hle2 : xs.length * k1 ≤ tc * k1 := Nat.mul_le_mul_right _ htc
            have hlt0 : idx * k1 + k1 ≤ xs.length * k1 := by
              have := Nat.mul_le_mul_right k1 hidx
              rw [Nat.succ_mul] at this; exact this
            let vs := (a.eval y).cells.toList
            let arr' : Array Value := (arr.toList.take (o' + (idx * k1 + off)) ++ vs ++ arr.toList.drop (o' + (idx * k1 + off) + vs.length)).toArray
            have hrun := run_storeCells_at P b (o' + (idx * k1 + off)) E vs 0 arr w hheap (by simp only [Nat.add_zero, vs]; omega) hRL.one
            simp only [Nat.add_zero] at hrun
            have hsz' : arr'.size = o' + tc * k1 := by simp only [arr', vs]; simp; simp at hlr; omega
            have hcont' : ∀ i j, i < (xs.set idx (splice cs0 off cs)).length → j < k1 → ∃ v, arr'[o' + (i * k1 + j)]? = some v ∧ R w Γ (at2 (xs.set idx (splice cs0 off cs)) i j) v := by
              intro i j hi hj
              rw [List.length_set] at hi
              obtain ⟨v, hvv, hr⟩ := hcont i j hi hj
              have hpos := idx_lt hi hj
              have hget : ∀ m, m < arr.size → arr'[m]? = if o' + (idx * k1 + off) ≤ m ∧ m < o' + (idx * k1 + off) + vs.length then vs[m - (o' + (idx * k1 + off))]? else arr[m]? := by
                intro m hm
                simp only [arr', List.getElem?_toArray]
                rcases Nat.lt_or_ge m (o' + (idx * k1 + off)) with c1 | c1
                · rw [if_neg (by omega), List.append_assoc, List.getElem?_append_left (by simp; omega)]
                  simp [c1]
                · rcases Nat.lt_or_ge m (o' + (idx * k1 + off) + vs.length) with c2 | c2
                  · rw [if_pos ⟨c1, c2⟩, List.append_assoc, List.getElem?_append_right (by simp; omega), List.getElem?_append_left (by simp; omega)]
                    congr 1; simp; omega
                  · rw [if_neg (by omega), List.getElem?_append_right (by simp; omega)]
                    simp; congr 1; omega
              by_cases e : i = idx
              · subst e
                have e1 : at2 (xs.set i (splice cs0 off cs)) i j = (splice cs0 off cs).getD j .undef := by
                  simp [at2, List.getD_eq_getElem?_getD, hi]
                rw [e1, hget _ (by omega)]
                by_cases c : off ≤ j ∧ j < off + cs.length
                · rw [if_pos (by simp only [vs]; omega)]
                  have e2 : o' + (i * k1 + j) - (o' + (i * k1 + off)) = j - off := by omega
                  rw [e2]
                  have hlj : j - off < vs.length := by simp only [vs]; omega
                  refine ⟨vs.getD (j - off) undef, by simp [List.getD_eq_getElem?_getD, List.getElem?_eq_getElem hlj], ?_⟩
                  have := hRL.get (j - off) (by omega)
                  show R w Γ _ ((a.eval y).cells.toList.getD (j - off) undef)
                  simpa [List.getD_eq_getElem?_getD, splice_get (show off + cs.length ≤ cs0.length from hle), c] using this
                · rw [if_neg (by simp only [vs]; omega)]
                  refine ⟨v, hvv, ?_⟩
                  have e3 : (splice cs0 off cs).getD j .undef = at2 xs i j := by
                    simp [List.getD_eq_getElem?_getD, splice_get (show off + cs.length ≤ cs0.length from hle), c, at2, hx0]
                  rw [e3]; exact hr
              · have e1 : at2 (xs.set idx (splice cs0 off cs)) i j = at2 xs i j := by
                  simp [at2, List.getD_eq_getElem?_getD, List.getElem?_set, Ne.symm e]
                rw [e1, hget _ (by omega), if_neg]
                · exact ⟨v, hvv, hr⟩
                · rintro ⟨h1, h2⟩
                  have hvl : vs.length = cs.length := by simp only [vs]; omega
                  rcases Nat.lt_or_gt_of_ne e with h3 | h3
                  · have := Nat.mul_le_mul_right k1 h3
                    rw [Nat.succ_mul] at this; omega
                  · have := Nat.mul_le_mul_right k1 h3
                    rw [Nat.succ_mul] at this; omega
            have hks' : ∀ i, i < (xs.set idx (splice cs0 off cs)).length → ((xs.set idx (splice cs0 off cs)).getD i []).length = k1 := by
              intro i hi
              rw [List.length_set] at hi
              by_cases e : i = idx
              · subst e; simp [List.getD_eq_getElem?_getD, hi, splice_length (show off + cs.length ≤ cs0.length from hle), hc0]
              · have := hks i hi
                simpa [List.getD_eq_getElem?_getD, List.getElem?_set, Ne.symm e] using this
            have hF := RowR.flat (w := w) (Γ := Γ) (n := n) (g := g) (b := b) hsz' (by rw [List.length_set]; exact htc) hks' hcont'
            have hp := setRow_put hS (arr' := arr') hM hbe hheap (.inl rfl) hsz' hF (by rw [List.length_set]; exact htc) (fun m hm => by
              rw [List.length_take] at hm
              simp at hm
              simp [List.getElem?_take, List.getElem?_drop]
              intro h
              omega)
            refine OpOK.skip ?_ hp.1 hp.2
            have hcs : (a.eval y).cells.size = k := by simp at hlr; omega
            simp only [execOp, hop, Instr.storeAt, hae, Instr.sureAddr, storeVar, Sem.run_bind, Sem.run_pure, Result.andThen_ok, run_sizeOf hk, hcs]
            simp only [ne_eq, not_true_eq_false, if_false]
            have hrun' : (storeCells ⟨b, o' + (idx * k1 + off), none⟩ (a.eval y).cells.toList).run P w = .ok () (w.setRow b arr') := hrun
            simp [hrun']
          · simp at hst
        · simp at hst
      · simp at hst
    · simp at hst
  · simp at hst

theorem mksl_sound (hS : Sim w Γ M) (hT : Tm w Γ tm a) {t e : TypeId} {k b n : Nat} {zs : List Z} {x y : Operand} {x' y' : X} {l c : Int} {M' : Mem} (hop : o.op = .makeSlice t x y) (hs : sliceT P t = some e) (hi : infoT P e = some (k, b, zs)) (hx : xOf x = some x') (hy : xOf y = some y')
    (hl : evX tm x' = .c (.int .i64 l)) (hc : evX tm y' = .c (.int .i64 c)) (h0 : 0 ≤ l) (h1 : l ≤ c) (h2 : c ≤ limit) (hset : setB M n (fun g => .row k g (List.replicate l.toNat (zs.map ofZ))) = some M') :
    OpOK P o a w Γ M (.c (.own n (genAt M n) k 0 l.toNat)) M' := by
  obtain ⟨i, z, g1, g2, g3, g4, g5, g6, g7⟩ := infoT_some hi
  obtain ⟨hn, rfl⟩ := setB_some hset
  have hX := evX_R hT hx
  have hY := evX_R hT hy
  rw [hl] at hX; rw [hc] at hY
  have eX := int_sound hX
  have eY := int_sound hY
  have hRL : RL w Γ (zs.map ofZ) z.cells.toList := zOf_RL g5
  have hlim : c ≤ 16777216 := h2
  have hb : (i.bytes : Int) * c ≤ 281474976710656 := by
    rw [g4]
    have h3 : (b : Int) * c ≤ 1024 * c := Int.mul_le_mul_of_nonneg_right (by omega) (by omega)
    omega
  have hr := run_make (P := P) w t e i z (sliceT_some hs) g1 g2 .i64 .i64 l c h0 h1 hb (by omega)
  rw [g3] at hr
  have hz := zeros_RL hRL (k := k) (by simp [g6]) l.toNat
  have hks : ∀ i, i < (List.replicate l.toNat (zs.map ofZ)).length → ((List.replicate l.toNat (zs.map ofZ)).getD i []).length = k := fun i hi => by
    simp only [List.length_replicate] at hi
    simp [List.getD_eq_getElem?_getD, List.getElem?_replicate, hi, g6]
  have hF := Flat.of_RL hks hz
  have hlc : l.toNat ≤ c.toNat := by omega
  have hlk : l.toNat * k ≤ c.toNat * k := Nat.mul_le_mul_right _ hlc
  have hp := newRow_put hS hn hF (tc := c.toNat) (by simpa using hlc) (arr := madeCells z.cells (c.toNat * k)) (E := e) (by simp [madeCells]) (fun m hm => by
      simp at hm
      simp [madeCells, Array.getElem?_range, hm, show m < c.toNat * k by omega])
    (w' := w.alloc (.cells (madeCells z.cells (c.toNat * k)) e)) rfl rfl rfl rfl
  refine OpOK.value ?_ hp.1 hp.2 (own_new Γ hlc)
  simp only [execOp, hop, eX, eY, Sem.run_bind, hr, Result.andThen_ok, Sem.run_pure]

theorem bound_sound (hT : Tm w Γ tm a) {lo : Option Operand} {lo' : Option X} {d n : Nat} {y : Nat} {code : BoundsCode} (hx : (lo = none ∧ lo' = none) ∨ ∃ x x', lo = some x ∧ lo' = some x' ∧ xOf x = some x') (h : bound tm d lo' = some n) :
    (lo = none → n = d) ∧ ∀ x, lo = some x → n ≤ y → (Instr.sliceBound (a.eval x) y code).run P w = .ok n w := by
  rcases hx with ⟨rfl, rfl⟩ | ⟨x, x', rfl, rfl, hxx⟩
  · simp only [bound, Option.some.injEq] at h
    exact ⟨fun _ => h.symm, fun x hx => by cases hx⟩
  · refine ⟨fun h => (by cases h), fun y' hy' hle => ?_⟩
    injection hy' with hy'; subst hy'
    simp only [bound] at h
    split at h
    · rename_i i hi
      split at h
      · rename_i h0
        simp only [Option.some.injEq] at h
        obtain ⟨k, e⟩ := asI_sound (evX_R hT hxx) hi
        simp only [Instr.sliceBound, e, asIntOf, Sem.run_bind, Sem.run_pure, Result.andThen_ok]
        rw [if_pos ⟨h0, by omega⟩, Sem.run_pure, h]
      · simp at h
    · simp at h

theorem slc_sound (hS : Sim w Γ M) (hT : Tm w Γ tm a) {t e : TypeId} {k b : Nat} {zs : List Z} {x : Operand} {lo hi : Option Operand} {x' : X} {lo' hi' : Option X} {n l h : Nat} {v : V} (hop : o.op = .slice t x lo hi none) (hs : sliceT P t = some e) (hinf : infoT P e = some (k, b, zs)) (hx : xOf x = some x')
    (hlo : (lo = none ∧ lo' = none) ∨ ∃ x x', lo = some x ∧ lo' = some x' ∧ xOf x = some x') (hhi : (hi = none ∧ hi' = none) ∨ ∃ x x', hi = some x ∧ hi' = some x' ∧ xOf x = some x')
    (hn : lenV (evX tm x') = some n) (hl : bound tm 0 lo' = some l) (hh : bound tm n hi' = some h) (hv : evSlc (evX tm x') k l h = some v) : OpOK P o a w Γ M v M := by
  have hX := evX_R hT hx
  have hlh : l ≤ h ∧ h ≤ n := by
    revert hv hn
    generalize evX tm x' = vx
    intro hn hv
    unfold evSlc at hv
    split at hv
    · simp only [lenV, Option.some.injEq] at hn
      split at hv
      · rename_i hc; exact ⟨hc.1, by omega⟩
      · simp at hv
    · simp only [lenV, Option.some.injEq] at hn
      split at hv
      · rename_i hc; exact ⟨hc.1, by omega⟩
      · simp at hv
    · simp only [lenV, Option.some.injEq] at hn
      split at hv
      · rename_i hc; omega
      · simp at hv
    · simp at hv
  obtain ⟨A, cap, hae, hcap⟩ := lenV_sound hX hn
  have hrun : (execOp a.eval o).run P w = .ok (.value (.slice (if cap = l then A else A.map (·.add (l * k))) (h - l) (cap - l))) w := by
    have hsb : (Instr.sliceBounds true n cap (lo.map a.eval) (hi.map a.eval) none).run P w = .ok (l, h, cap) w := by
      have bl := bound_sound (P := P) (y := h) (code := .sliceB) hT hlo hl
      have bh := bound_sound (P := P) (y := cap) (code := .sliceAcap) hT hhi hh
      cases lo with
      | none =>
        have el := bl.1 rfl
        cases hi with
        | none =>
          have eh := bh.1 rfl
          subst el; subst eh
          simp [Instr.sliceBounds]
        | some y =>
          subst el
          simp [Instr.sliceBounds, bh.2 y rfl (by omega)]
      | some z =>
        cases hi with
        | none =>
          have eh := bh.1 rfl
          subst eh
          simp [Instr.sliceBounds, bl.2 z rfl (by omega)]
        | some y => simp [Instr.sliceBounds, bh.2 y rfl (by omega), bl.2 z rfl (by omega)]
    simp only [execOp, hop, Instr.sliceAt, Sem.run_bind, run_underlying (sliceT_some hs), Result.andThen_ok, hae, Option.map_none, Instr.slice, hsb, run_sizeOf (infoT_size hinf), Sem.run_pure]
  refine OpOK.same hS hrun ?_
  rw [hae] at hX
  revert hv hn hX
  generalize evX tm x' = vx
  intro hn hv hX
  unfold evSlc at hv
  split at hv
  · rename_i n1 g k' off len
    split at hv
    · rename_i hc
      obtain ⟨h1, h2, rfl⟩ := hc
      simp only [Option.some.injEq] at hv
      subst hv
      cases (show R w Γ _ _ from hX) with
      | im h => cases h
      | ownN n g k hbe =>
        have : l = 0 ∧ h = 0 := by omega
        obtain ⟨rfl, rfl⟩ := this
        simp only [if_true, Nat.sub_zero, Nat.add_zero]
        exact R.ownN _ _ _ hbe
      | own n g off len b' o' k'' tc A cap hbe hcp hle hA =>
        refine R.own _ _ (off + l) (h - l) b' o' _ tc _ (cap - l) hbe (by omega) (by omega) fun hne => ?_
        rw [if_neg (by omega), hA (by omega)]
        simp [add_at, Nat.add_mul, Nat.add_assoc]
    · simp at hv
  · rename_i t' k' xs
    split at hv
    · rename_i hc
      obtain ⟨h1, h2, rfl⟩ := hc
      simp only [Option.some.injEq] at hv
      subst hv
      simp only [lenV, Option.some.injEq] at hn
      have hlen : ((xs.take h).drop l).length = h - l := by simp; omega
      by_cases hz : h = l
      · subst hz
        have : (xs.take h).drop h = [] := by rw [List.drop_eq_nil_iff]; simp; omega
        rw [this, Nat.sub_self]
        exact R.im (.immN _ _ _ _ _)
      · cases (show R w Γ _ _ from hX) with
        | im hI =>
          cases hI with
          | immN => simp at h2; omega
          | imm l' t' k2 xs b' o' cap f hl' hb h0 hcp hkk hf hr =>
            rw [if_neg (by omega), ← hlen]
            simp only [Option.map_some, add_at]
            have e : ∀ i, i < h - l → ((xs.take h).drop l).getD i [] = xs.getD (l + i) [] := fun i hi => by
              simp [List.getD_eq_getElem?_getD, List.getElem?_take, show l + i < h by omega]
            refine R.im (.imm _ _ _ _ b' (o' + l * k) (cap - l) (fun i j => f (l + i) j) (fun _ => rfl) hb (by omega) (by omega) (fun i hi => ?_) (fun i j hi hj => ?_) (fun i j hi hj => ?_))
            · rw [hlen] at hi; rw [e i hi]; exact hkk _ (by omega)
            · rw [hlen] at hi
              rw [← hf (l + i) j (by omega) hj, Nat.add_mul]
              congr 2; omega
            · rw [hlen] at hi
              have e2 : at2 ((xs.take h).drop l) i j = at2 xs (l + i) j := by
                simp only [at2]; rw [e i hi]
              rw [e2]
              exact hr _ j (by omega) hj
    · simp at hv
  · split at hv
    · rename_i hc
      obtain ⟨rfl, rfl⟩ := hc
      simp only [Option.some.injEq] at hv
      subst hv
      cases (show R w Γ _ _ from hX) with
      | im hI =>
        cases hI with
        | nilsl => exact R.im (.nilsl _)
    · simp at hv
  · simp at hv

/-! ### append, copy -/

/-- What the elements of a slice are, and what Go reads of them. -/
theorem elems_sound (hS : Sim w Γ M) {v : V} {x : Value} {k : Nat} {ys : List (List C)} (hv : RVal w Γ v x) (h : elems M k v = some ys) :
    ∃ A cap vs, x = .slice A ys.length cap ∧ Flat w Γ k ys vs ∧ ∀ (w1 : World) (n : Nat), w1.heap = w.heap → n ≤ ys.length → (Builtin.firstCells k n x).run P w1 = .ok (vs.take (n * k)).toArray w1 := by
  have key : ∀ (b o' cap : Nat) (vs : List Value), Flat w Γ k ys vs → (∀ j y, vs[j]? = some y → w.cell? ⟨b, o' + j, none⟩ = some y) →
      ∀ (w1 : World) (n : Nat), w1.heap = w.heap → n ≤ ys.length → (Builtin.firstCells k n (.slice (some ⟨b, o', none⟩) ys.length cap)).run P w1 = .ok (vs.take (n * k)).toArray w1 := by
    intro b o' cap vs hF hc w1 n hw hn
    simp only [Builtin.firstCells]
    have hle : n * k ≤ vs.length := by rw [hF.1]; exact Nat.mul_le_mul_right _ hn
    have := run_loadCells_list (P := P) w1 ⟨b, o', none⟩ (vs.take (n * k)) (fun j y hj => by
      rw [add_at]
      have e : w1.cell? ⟨b, o' + j, none⟩ = w.cell? ⟨b, o' + j, none⟩ := by simp only [World.cell?, hw]
      rw [e]
      rw [List.getElem?_take] at hj
      split at hj
      · exact hc j y hj
      · simp at hj)
    rw [List.length_take, Nat.min_eq_left hle] at this
    exact this
  have key0 : ∀ (A : Option Addr) (cap : Nat), ys = [] → ∀ (w1 : World) (n : Nat), n ≤ ys.length → (Builtin.firstCells k n (.slice A ys.length cap)).run P w1 = .ok (([] : List Value).take (n * k)).toArray w1 := by
    intro A cap hy w1 n hn
    subst hy
    have : n = 0 := by simpa using hn
    subst this
    cases A with
    | none => simp [Builtin.firstCells]
    | some q => simp [Builtin.firstCells, loadCells, loadCellsFrom]
  unfold elems at h
  split at h
  · simp only [Option.some.injEq] at h; subst h
    cases (show R w Γ _ _ from hv) with
    | im h => cases h; exact ⟨none, 0, [], rfl, Flat.nil k, fun w1 n _ hn => key0 none 0 rfl w1 n hn⟩
  · rename_i t' k' xs
    split at h
    · rename_i hk; subst hk
      simp only [Option.some.injEq] at h; subst h
      cases (show R w Γ _ _ from hv) with
      | im h =>
        cases h with
        | immN l t k A cap => exact ⟨A, cap, [], rfl, Flat.nil _, fun w1 n _ hn => key0 A cap rfl w1 n hn⟩
        | imm l t k xs b o' cap f hl hb h0 hc hkk hf hr =>
          let vs := (List.range (xs.length * k)).map fun m => f (m / k) (m % k)
          have hF : Flat w Γ k xs vs := by
            refine ⟨by simp [vs], hkk, fun i j hi hj => ?_, fun v hv => ?_⟩
            · have hlt := idx_lt hi hj
              have e : vs.getD (i * k + j) undef = f i j := by
                have e1 : (i * k + j) / k = i := by
                  rw [Nat.mul_comm, Nat.mul_add_div (by omega), Nat.div_eq_of_lt hj]; rfl
                have e2 : (i * k + j) % k = j := by
                  rw [Nat.mul_comm, Nat.mul_add_mod, Nat.mod_eq_of_lt hj]
                simp [vs, List.getD_eq_getElem?_getD, hlt, e1, e2]
              rw [e]
              exact .im (hr i j hi hj).up
            · simp only [vs, List.mem_map, List.mem_range] at hv
              obtain ⟨m, hm, rfl⟩ := hv
              have hk0 : 0 < k := by
                rcases Nat.eq_zero_or_pos k with h | h
                · subst h; simp at hm
                · exact h
              rw [oneC_eq]
              exact (hr (m / k) (m % k) (Nat.div_lt_of_lt_mul (by rw [Nat.mul_comm]; exact hm)) (Nat.mod_lt _ hk0)).one
          refine ⟨_, cap, vs, rfl, hF, fun w1 n hw hn => key b o' cap vs hF (fun j y hj => ?_) w1 n hw hn⟩
          have hj' : j < xs.length * k := by
            have := (List.getElem?_eq_some_iff.1 hj).1; simpa [vs] using this
          have hk0 : 0 < k := by
            rcases Nat.eq_zero_or_pos k with h | h
            · subst h; simp at hj'
            · exact h
          have e : y = f (j / k) (j % k) := by simp [vs, hj'] at hj; exact hj.symm
          rw [e, ← hf (j / k) (j % k) (Nat.div_lt_of_lt_mul (by rw [Nat.mul_comm]; exact hj')) (Nat.mod_lt _ hk0)]
          have hdm : j / k * k + j % k = j := by rw [Nat.mul_comm]; exact Nat.div_add_mod j k
          rw [hdm]
    · simp at h
  · rename_i n g k'' off len
    split at h
    · rename_i k' g' xs hrow
      split at h
      · rename_i hc
        obtain ⟨rfl, rfl, rfl, hle⟩ := hc
        simp only [Option.some.injEq] at h; subst h
        have hlen : ((xs.drop off).take len).length = len := by simp; omega
        cases (show R w Γ _ _ from hv) with
        | im h => cases h
        | ownN n g k hbe =>
          refine ⟨none, 0, [], by rw [hlen], ?_, ?_⟩
          · have : (xs.drop 0).take 0 = [] := by simp
            rw [this]; exact Flat.nil _
          · intro w1 n _ hn
            simp at hn
            subst hn
            simp [Builtin.firstCells]
        | own n g off len b o' k tc A cap hbe hcp hl hA =>
          obtain ⟨_, htc, arr, E, hheap, hsz, hks, hcont⟩ := RowR.at (hS.blk n _ (rowAt_some hrow)) hbe
          have hF0 := RowR.flat (w := w) (Γ := Γ) (n := n) (g := g) (b := b) hsz htc hks hcont
          have hF := (hF0.drop off).take len
          by_cases hz : cap = 0
          · have hl0 : len = 0 := by omega
            subst hl0
            refine ⟨A, cap, [], by rw [hlen], ?_, ?_⟩
            · have : (xs.drop off).take 0 = [] := by simp
              rw [this]; exact Flat.nil _
            · intro w1 n _ hn
              simp at hn
              subst hn
              cases A <;> simp [Builtin.firstCells, loadCells, loadCellsFrom]
          · have hA' := hA hz
            subst hA'
            refine ⟨_, cap, _, by rw [hlen], hF, ?_⟩
            have hkey := key b (o' + off * k'') cap _ hF (fun j y hj => ?_)
            · intro w1 n hw hn
              have := hkey w1 n hw hn
              rw [hlen] at this
              exact this
            · rw [cell_eq hheap]
              rw [List.getElem?_take] at hj
              split at hj
              · rw [List.getElem?_drop, List.getElem?_take] at hj
                split at hj
                · rw [List.getElem?_drop] at hj
                  simp only [Array.getElem?_toList] at hj
                  rw [← hj]; congr 1; omega
                · simp at hj
              · simp at hj
      · simp at h
    · simp at h
  · simp at h

end
end Go.Proofs.Ytopcnhojkfeafaa.Am
