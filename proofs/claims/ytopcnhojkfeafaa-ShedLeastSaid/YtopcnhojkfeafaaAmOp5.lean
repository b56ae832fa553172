/- AM: that what an instruction comes to is what Go's operation comes to: literals, stores, make, slicing. -/
import Derived.Test.YtopcnhojkfeafaaAmOp4
set_option linter.unusedSimpArgs false
set_option linter.unusedVariables false
namespace Go.Proofs.Ytopcnhojkfeafaa.Am
open Go.RowKit

section
variable {P : Program} {o : Oper} {a : Act} {w : World} {Γ : Env} {M : Mem} {tm : List V}

theorem run_mapM_list {α β : Type} (f : α → Sem β) (g : α → β) : ∀ (l : List α), (∀ x ∈ l, (f x).run P w = .ok (g x) w) → (l.mapM f).run P w = .ok (l.map g) w
  | [], _ => rfl
  | x :: l, h => by
    rw [List.mapM_cons, Sem.run_bind, h x (by simp), Result.andThen_ok, Sem.run_bind, run_mapM_list f g l (fun y hy => h y (by simp [hy])), Result.andThen_ok]
    rfl

theorem run_mapM_arr {α β : Type} (f : α → Sem β) (g : α → β) (l : Array α) (h : ∀ x ∈ l.toList, (f x).run P w = .ok (g x) w) : (l.mapM f).run P w = .ok (l.map g) w := by
  rw [Array.mapM_eq_mapM_toList]
  rw [Sem.run_map, run_mapM_list f g l.toList h]
  simp only [Result.andThen_ok]
  congr 1
  apply Array.ext'
  simp

theorem build_sound (hS : Sim w Γ M) (hT : Tm w Γ tm a) {t : TypeId} {fs : Array Field} {ps : Array (Nat × Operand)} {qs : List (Nat × Nat × X)} {k b : Nat} {zs : List Z} {cs : List C} (hop : o.op = .build t ps) (hs : structT P t = some fs) (hi : infoT P t = some (k, b, zs))
    (hq : partsOf fs P ps = some qs) (hall : (fs.all fun f => (sizeT P f.type).isSome) = true) (hf : fill tm (zs.map ofZ) qs = some cs) : OpOK P o a w Γ M (.agg cs) M := by
  obtain ⟨i, z, h1, h2, h3, h4, h5, h6, h7⟩ := infoT_some hi
  have hRL : RL w Γ (zs.map ofZ) z.cells.toList := zOf_RL h5
  have hsz : ∀ f ∈ fs.toList, ∃ s, sizeT P f.type = some s := fun f hf => by
    rw [Array.all_eq_true] at hall
    obtain ⟨j, hj, e⟩ := List.getElem_of_mem hf
    have := hall j (by simpa using hj)
    rw [← e]
    exact Option.isSome_iff_exists.1 (by simpa using this)
  let sz : Field → Nat := fun f => (sizeT P f.type).getD 0
  let place : Nat → Option (Nat × Nat) := fun j => (fs.map fun f => (f.offset, sz f))[j]?
  have hpl : (fs.mapM fun f => do pure (f.offset, ← sizeOf f.type) : Sem (Array (Nat × Nat))).run P w = .ok (fs.map fun f => (f.offset, sz f)) w := by
    refine run_mapM_arr _ _ _ fun f hf => ?_
    obtain ⟨s, hs'⟩ := hsz f hf
    simp [run_sizeOf hs', sz, hs']
  have hq' : (ps.toList.mapM fun (p : Nat × Operand) => match place p.1, xOf p.2 with
      | some (off, k), some x => some (off, k, x)
      | _, _ => none) = some qs := by
    rw [← hq]
    unfold partsOf
    congr 1
    funext p
    obtain ⟨j, x⟩ := p
    simp only [place, Array.getElem?_map]
    cases hfj : fs[j]? with
    | none => rfl
    | some f =>
      obtain ⟨s, hs'⟩ := hsz f (by simpa using Array.mem_of_getElem? hfj)
      simp only [Option.map_some, sz, hs', Option.getD_some]
      cases xOf x <;> rfl
  obtain ⟨cur', e1, e2⟩ := fill_sound hT hRL hq' hf
  refine OpOK.same hS (x := .agg cur') ?_ ⟨cur'.toList, by simp, e2⟩
  simp only [execOp, hop, Instr.build, Sem.run_bind, zeroValue, typeInfo, run_program, h1, Result.andThen_ok, Sem.run_pure, h2, run_underlying (structT_some hs), hpl]
  have e3 : (ps.map fun (x : Nat × Operand) => (x.1, a.eval x.2)).toList = ps.toList.map fun (p : Nat × Operand) => (p.1, a.eval p.2) := by simp
  simp only [place] at e1
  rw [e3, e1]
  rfl

theorem mapM_place (k' : Nat) : ∀ {l : List (Nat × Operand)} {qs : List (Nat × X)}, (l.mapM fun (p : Nat × Operand) => (xOf p.2).map fun x => (p.1, x)) = some qs →
    (l.mapM fun (p : Nat × Operand) => match (some (p.1 * k', k') : Option (Nat × Nat)), xOf p.2 with
      | some (off, k), some x => some (off, k, x)
      | _, _ => none) = some (qs.map fun p => (p.1 * k', k', p.2))
  | [], qs, hq => by rw [mapM_nil_some hq]; rfl
  | p :: l, qs, hq => by
    obtain ⟨q, qs', g1, g2, rfl⟩ := mapM_cons_some hq
    rw [mapM_cons]
    cases hx : xOf p.2 with
    | none => simp [hx] at g1
    | some x =>
      simp only [hx, Option.map_some, Option.some.injEq] at g1
      subst g1
      simp only [Option.bind_some, List.map_cons]
      rw [mapM_place k' g2]
      rfl

theorem buildA_sound (hS : Sim w Γ M) (hT : Tm w Γ tm a) {t e : TypeId} {n : Nat} {ps : Array (Nat × Operand)} {qs : List (Nat × X)} {k b k' b' : Nat} {zs zs' : List Z} {cs : List C} (hop : o.op = .build t ps) (hs : arrT P t = some (n, e)) (hi : infoT P t = some (k, b, zs))
    (hie : infoT P e = some (k', b', zs')) (hq : (ps.toList.mapM fun (p : Nat × Operand) => (xOf p.2).map fun x => (p.1, x)) = some qs) (hf : fill tm (zs.map ofZ) (qs.map fun p => (p.1 * k', k', p.2)) = some cs) : OpOK P o a w Γ M (.agg cs) M := by
  obtain ⟨i, z, h1, h2, h3, h4, h5, h6, h7⟩ := infoT_some hi
  have hRL : RL w Γ (zs.map ofZ) z.cells.toList := zOf_RL h5
  have hq' := mapM_place k' hq
  obtain ⟨cur', e1, e2⟩ := fill_sound (place := fun j => some (j * k', k')) hT hRL hq' hf
  refine OpOK.same hS (x := .agg cur') ?_ ⟨cur'.toList, by simp, e2⟩
  simp only [execOp, hop, Instr.build, Sem.run_bind, zeroValue, typeInfo, run_program, h1, Result.andThen_ok, Sem.run_pure, h2, run_underlying (arrT_some hs), run_sizeOf (infoT_size hie)]
  have e3 : (ps.map fun (x : Nat × Operand) => (x.1, a.eval x.2)).toList = ps.toList.map fun (p : Nat × Operand) => (p.1, a.eval p.2) := by simp
  rw [e3, e1]
  rfl


/-! ### Elements laid one behind the other -/

theorem flatten_at {k : Nat} : ∀ {xs : List (List C)}, (∀ i, i < xs.length → (xs.getD i []).length = k) → ∀ i j, i < xs.length → j < k → xs.flatten.getD (i * k + j) .undef = at2 xs i j
  | [], _, i, j, hi, _ => by simp at hi
  | x :: xs, h, 0, j, _, hj => by
    have h0 : x.length = k := h 0 (by simp)
    simp [at2, List.getD_eq_getElem?_getD, List.getElem?_append, h0, hj]
  | x :: xs, h, i + 1, j, hi, hj => by
    have h0 : x.length = k := h 0 (by simp)
    have ih := flatten_at (k := k) (xs := xs) (fun i hi => by simpa using h (i + 1) (by simpa using hi)) i j (by simpa using hi) hj
    have e : (i + 1) * k + j = k + (i * k + j) := by rw [Nat.succ_mul]; omega
    rw [e]
    simp only [List.flatten_cons, List.getD_eq_getElem?_getD]
    rw [List.getElem?_append_right (by omega), h0, Nat.add_sub_cancel_left]
    simp only [List.getD_eq_getElem?_getD] at ih
    rw [ih]
    simp [at2, List.getD_eq_getElem?_getD]

theorem flatten_length {k : Nat} : ∀ {xs : List (List C)}, (∀ i, i < xs.length → (xs.getD i []).length = k) → xs.flatten.length = xs.length * k
  | [], _ => by simp
  | x :: xs, h => by
    have h0 : x.length = k := h 0 (by simp)
    have ih := flatten_length (k := k) (xs := xs) (fun i hi => by simpa using h (i + 1) (by simpa using hi))
    simp only [List.flatten_cons, List.length_append, ih, h0, List.length_cons, Nat.succ_mul]
    omega

theorem Flat.of_RL {k : Nat} {xs : List (List C)} {vs : List Value} (hk : ∀ i, i < xs.length → (xs.getD i []).length = k) (h : RL w Γ xs.flatten vs) : Flat w Γ k xs vs := by
  refine ⟨by rw [← h.length, flatten_length hk], hk, fun i j hi hj => ?_, h.one⟩
  have := h.get (i * k + j) (by rw [flatten_length hk]; exact idx_lt hi hj)
  rwa [flatten_at hk i j hi hj] at this

theorem flatten_set {k : Nat} {xs : List (List C)} {new : List C} (hk : ∀ i, i < xs.length → (xs.getD i []).length = k) (hn : new.length = k) {i : Nat} (hi : i < xs.length) : (xs.set i new).flatten = splice xs.flatten (i * k) new := by
  have hk' : ∀ j, j < (xs.set i new).length → ((xs.set i new).getD j []).length = k := fun j hj => by
    simp only [List.length_set] at hj
    simp only [List.getD_eq_getElem?_getD, List.getElem?_set]
    by_cases e : i = j
    · subst e; simp [hi, hn]
    · rw [if_neg e]; have := hk j hj; simpa [List.getD_eq_getElem?_getD] using this
  have hle : i * k + new.length ≤ xs.flatten.length := by
    rw [flatten_length hk, hn]
    have := Nat.mul_le_mul_right k hi
    rw [Nat.succ_mul] at this
    exact this
  apply List.ext_getElem?
  intro m
  rw [splice_get hle]
  rcases Nat.lt_or_ge m (xs.length * k) with hm | hm
  · have hk0 : 0 < k := by
      rcases Nat.eq_zero_or_pos k with h | h
      · subst h; simp at hm
      · exact h
    have hq : m / k < xs.length := Nat.div_lt_of_lt_mul (by rw [Nat.mul_comm]; exact hm)
    have hr := Nat.mod_lt m hk0
    have hdm : m / k * k + m % k = m := by rw [Nat.mul_comm]; exact Nat.div_add_mod m k
    have key : ∀ {ys : List (List C)}, (∀ i, i < ys.length → (ys.getD i []).length = k) → ys.length = xs.length → ys.flatten[m]? = some (at2 ys (m / k) (m % k)) := fun {ys} hy hl => by
      have := flatten_at hy (m / k) (m % k) (by omega) hr
      rw [hdm] at this
      have hlt : m < ys.flatten.length := by rw [flatten_length hy, hl]; exact hm
      rw [List.getElem?_eq_getElem hlt]
      rw [List.getD_eq_getElem?_getD, List.getElem?_eq_getElem hlt] at this
      exact congrArg some this
    rw [key hk' (by simp), key hk rfl]
    by_cases e : i = m / k
    · subst e
      rw [if_pos (by rw [hn]; omega)]
      have : m - m / k * k = m % k := by omega
      rw [this, List.getElem?_eq_getElem (by rw [hn]; exact hr)]
      simp [at2, List.getD_eq_getElem?_getD, hi, List.getElem?_eq_getElem (show m % k < new.length by rw [hn]; exact hr)]
    · have hne : ¬ (i * k ≤ m ∧ m < i * k + new.length) := by
        rw [hn]
        rintro ⟨h1, h2⟩
        apply e
        have h3 : m < (i + 1) * k := by rw [Nat.succ_mul]; exact h2
        have h4 : i ≤ m / k := (Nat.le_div_iff_mul_le hk0).2 h1
        have h5 : m / k < i + 1 := (Nat.div_lt_iff_lt_mul hk0).2 h3
        omega
      rw [if_neg hne]
      simp [at2, List.getD_eq_getElem?_getD, List.getElem?_set, e]
  · have hl1 : (xs.set i new).flatten.length ≤ m := by rw [flatten_length hk']; simpa using hm
    have hl2 : xs.flatten.length ≤ m := by rw [flatten_length hk]; exact hm
    rw [List.getElem?_eq_none hl1, if_neg (by omega), List.getElem?_eq_none hl2]

theorem fillSl_flat {k : Nat} : ∀ {ps : List (Nat × X)} {xs xs' : List (List C)}, (∀ i, i < xs.length → (xs.getD i []).length = k) → fillSl tm k xs ps = some xs' →
    fill tm xs.flatten (ps.map fun p => (p.1 * k, k, p.2)) = some xs'.flatten ∧ xs'.length = xs.length ∧ ∀ i, i < xs'.length → (xs'.getD i []).length = k
  | [], xs, xs', hk, h => by
    simp only [fillSl, Option.some.injEq] at h
    subst h
    exact ⟨rfl, rfl, hk⟩
  | (i, x) :: ps, xs, xs', hk, h => by
    simp only [fillSl] at h
    split at h
    · rename_i new hn
      split at h
      · rename_i hc
        have hk' : ∀ j, j < (xs.set i new).length → ((xs.set i new).getD j []).length = k := fun j hj => by
          simp only [List.length_set] at hj
          simp only [List.getD_eq_getElem?_getD, List.getElem?_set]
          by_cases e : i = j
          · subst e; simp [hc.2, hc.1]
          · rw [if_neg e]; have := hk j hj; simpa [List.getD_eq_getElem?_getD] using this
        obtain ⟨h1, h2, h3⟩ := fillSl_flat hk' h
        have hle : i * k + k ≤ xs.flatten.length := by
          rw [flatten_length hk]
          have := Nat.mul_le_mul_right k hc.2
          rw [Nat.succ_mul] at this
          exact this
        refine ⟨?_, by rw [h2, List.length_set], h3⟩
        simp only [List.map_cons, fill, hn]
        rw [if_pos ⟨hc.1, hle⟩, ← flatten_set hk hc.1 hc.2]
        exact h1
      · simp at h
    · simp at h

theorem zeros_RL {cs : List C} {z : Array Value} {k : Nat} (h : RL w Γ cs z.toList) (hk : cs.length = k) : ∀ (n : Nat), RL w Γ (List.replicate n cs).flatten ((Array.range (n * k)).map (z[· % z.size]!)).toList := by
  intro n
  have hl := h.length
  simp only [Array.length_toList] at hl
  have hks : ∀ i, i < (List.replicate n cs).length → ((List.replicate n cs).getD i []).length = k := fun i hi => by
    simp only [List.length_replicate] at hi
    simp [List.getD_eq_getElem?_getD, List.getElem?_replicate, hi, hk]
  refine RL.mk (by rw [flatten_length hks]; simp) fun m hm => ?_
  rw [flatten_length hks, List.length_replicate] at hm
  have hk0 : 0 < k := by
    rcases Nat.eq_zero_or_pos k with h | h
    · subst h; simp at hm
    · exact h
  have hq : m / k < n := Nat.div_lt_of_lt_mul (by rw [Nat.mul_comm]; exact hm)
  have hr := Nat.mod_lt m hk0
  have hdm : m / k * k + m % k = m := by rw [Nat.mul_comm]; exact Nat.div_add_mod m k
  have e := flatten_at hks (m / k) (m % k) (by simpa using hq) hr
  rw [hdm] at e
  rw [e]
  have e2 : at2 (List.replicate n cs) (m / k) (m % k) = cs.getD (m % k) .undef := by
    simp [at2, List.getD_eq_getElem?_getD, List.getElem?_replicate, hq]
  rw [e2]
  have h3 := h.get (m % k) (by omega)
  have e3 : ((Array.range (n * k)).map (z[· % z.size]!)).toList.getD m undef = z.toList.getD (m % k) undef := by
    have hz : z.size = k := by omega
    simp only [List.getD_eq_getElem?_getD, Array.getElem?_toList, Array.getElem?_map, Array.getElem?_range, hm, if_true, Option.map_some, Option.getD_some, hz]
    rw [getElem!_pos z (m % k) (by omega), Array.getElem?_eq_getElem (by omega)]
    rfl
  rw [e3]
  exact h3

theorem own_new {w' : World} {n b k len tc : Nat} (Γ : Env) {g : Nat} (h : len ≤ tc) : RVal w' (Γ.put n g (.at b 0 k tc)) (.c (.own n g k 0 len)) (.slice (some ⟨b, 0, none⟩) len tc) := by
  have := R.own (w := w') (Γ := Γ.put n g (.at b 0 k tc)) n g 0 len b 0 k tc (some ⟨b, 0, none⟩) tc (Env.put_same _ _ _ _) (by omega) h (fun _ => by simp)
  exact this

theorem buildSl_sound (hS : Sim w Γ M) (hT : Tm w Γ tm a) {t e : TypeId} {k b len n : Nat} {zs : List Z} {ps : Array (Nat × Operand)} {qs : List (Nat × X)} {xs : List (List C)} {M' : Mem} (hop : o.op = .buildSlice t len ps) (hs : sliceT P t = some e)
    (hi : infoT P e = some (k, b, zs)) (hle : len * k ≤ 16777216) (hq : (ps.toList.mapM fun (p : Nat × Operand) => (xOf p.2).map fun x => (p.1, x)) = some qs) (hf : fillSl tm k (List.replicate len (zs.map ofZ)) qs = some xs)
    (hset : setB M n (fun g => .row k g xs) = some M') : OpOK P o a w Γ M (.c (.own n (genAt M n) k 0 len)) M' := by
  obtain ⟨i, z, h1, h2, h3, h4, h5, h6, h7⟩ := infoT_some hi
  obtain ⟨hn, rfl⟩ := setB_some hset
  have hRL : RL w Γ (zs.map ofZ) z.cells.toList := zOf_RL h5
  have hks : ∀ i, i < (List.replicate len (zs.map ofZ)).length → ((List.replicate len (zs.map ofZ)).getD i []).length = k := fun i hi => by
    simp only [List.length_replicate] at hi
    simp [List.getD_eq_getElem?_getD, List.getElem?_replicate, hi, h6]
  obtain ⟨g1, g2, g3⟩ := fillSl_flat hks hf
  have hz := zeros_RL hRL (k := k) (by simp [h6]) len
  obtain ⟨cur', e1, e2⟩ := fill_sound (place := fun j => some (j * k, k)) hT hz (mapM_place k hq) g1
  have hF := Flat.of_RL g3 e2
  have hxl : xs.length = len := by rw [g2]; simp
  have hsz : cur'.size = len * k := by have := hF.1; simp [hxl] at this; exact this
  have hp := newRow_put hS hn hF (tc := len) (by omega) (arr := cur') (E := e) hsz (fun m hm => by simp) (w' := { w with heap := w.heap.push (.cells cur' e (0, 0)) }) rfl rfl rfl rfl
  refine OpOK.value (x := .slice (some ⟨w.heap.size, 0, none⟩) len len) ?_ hp.1 hp.2 (own_new Γ (Nat.le_refl _))
  have e3 : (ps.map fun (x : Nat × Operand) => (x.1, a.eval x.2)).toList = ps.toList.map fun (p : Nat × Operand) => (p.1, a.eval p.2) := by simp
  have hle' : ¬ (len * k > 2 ^ 24) := by omega
  simp only [execOp, hop, Instr.buildSlice, Sem.run_bind, run_underlying (sliceT_some hs), Result.andThen_ok, run_sizeOf (infoT_size hi)]
  rw [if_neg hle']
  by_cases h0 : len * k = 0
  · rw [if_pos h0]
    simp only [h0] at e1
    have e1' : Instr.fill (fun j => some (j * k, k)) ((Array.range (len * k)).map ((#[] : Array Value)[· % (#[] : Array Value).size]!)) (ps.map fun (x : Nat × Operand) => (x.1, a.eval x.2)).toList = some cur' := by
      have e4 : (Array.range (len * k)).map ((#[] : Array Value)[· % (#[] : Array Value).size]!) = (Array.range 0).map (z.cells[· % z.cells.size]!) := by
        rw [h0]
        simp
      rw [e3, e4]
      exact e1
    simp only [Sem.run_pure, Result.andThen_ok, Sem.run_bind]
    rw [e1']
    rfl
  · rw [if_neg h0]
    simp only [Sem.run_bind, zeroValue, typeInfo, run_program, h1, h2, Sem.run_pure, Result.andThen_ok]
    rw [e3, e1]
    rfl

end
end Go.Proofs.Ytopcnhojkfeafaa.Am
