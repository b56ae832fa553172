/- AM: the heap's reference: a list. -/
import Derived.Test.YtopcnhojkfeafaaAmHpF
set_option linter.unusedSimpArgs false
set_option linter.unusedVariables false
set_option maxRecDepth 100000
namespace Go.Proofs.Ytopcnhojkfeafaa.Am.Hp

/-- An item: an id with its key. -/
abbrev Item := Int × Int × Int
def encW (x : Item) : List C := [.int .i64 x.1, .int .u64 x.2.1, .int .u64 x.2.2]

theorem encW_flat (l : List Item) : ∀ cs ∈ l.map encW, cs.all flat = true := by
  intro cs h
  obtain ⟨x, _, rfl⟩ := List.mem_map.1 h
  rfl
theorem encW_still (l : List Item) : ∀ cs ∈ l.map encW, cs.all still = true := by
  intro cs h
  obtain ⟨x, _, rfl⟩ := List.mem_map.1 h
  rfl

theorem keepW (E N : Mem) (l : List Item) : (l.map encW).mapM (fun (cs : List C) => cs.mapM (keepC E N)) = some (l.map encW) := mapM_still _ (fun c hc => keepC_still E N c hc) (encW_still l)

theorem rahead_run (x y : Item) (hx : U64 x.2.1 ∧ U64 x.2.2) (hy : U64 y.2.1 ∧ U64 y.2.2) : run Hp.hp 65 [.agg (encW x), .agg (encW y)] [] = some (.c (.bool (lt3 x.1 y.1 x.2 y.2)), []) := by
  have c := refcmp_run x.2.1 x.2.2 y.2.1 y.2.2 hx.1 hx.2 hy.1 hy.2
  refine run_of_W (af := c65) rfl rfl rfl (by simp [c65]) ?_
  simp [-getElem?_pos, c65, c65r0, c65r1, c65r2, hp_md, hpMd, encW, c]
  repeat' ((first | refine Wc_dec.2 ⟨fun h => ?_, fun h => ?_⟩ | refine Wg_dec.2 ⟨fun h => ?_, fun h => ?_⟩ | refine Wg_dec'.2 ⟨fun h => ?_, fun h => ?_⟩) <;> try simp [-getElem?_pos, *, hp_md, hpMd])
  all_goals simp [lt3, *]

/-- An item of an id. -/
def refKey (w : List Item) (id : Int) : Option (Int × Int) := (w.find? fun x => x.1 == id).map (·.2)

def keyV : Option (Int × Int) → V
  | some k => .tup [.c (.int .u64 k.1), .c (.int .u64 k.2), .c (.bool true)]
  | none => .tup [.c (.int .u64 0), .c (.int .u64 0), .c (.bool false)]

theorem find_drop (w : List Item) (id : Int) (i : Nat) (x : Item) (hx : w[i]? = some x) : ((w.drop i).find? fun x => x.1 == id) = if x.1 = id then some x else ((w.drop (i + 1)).find? fun x => x.1 == id) := by
  have hi := lt_some hx
  rw [List.drop_eq_getElem_cons hi]
  have : w[i] = x := by simpa [List.getElem?_eq_getElem hi] using hx
  rw [this, List.find?_cons]
  by_cases h : x.1 = id
  · simp [h]
  · have e : (x.1 == id) = false := by simpa using h
    rw [e, if_neg h]

theorem rkey_run {w : List Item} {c : C} (hc : Sl 3 (w.map encW) c) (id : Int) (hl : w.length ≤ 9223372036854775806) : run Hp.hp 22 [.c c, .c (.int .i64 id)] [] = some (keyV (refKey w id), []) := by
  refine run_of_W (af := c22) rfl rfl rfl (by simp [c22]) ?_
  simp [c22, c22r0, c22r1]
  refine W_loop (σ := Nat) (fun i => (mk 31 [(0, .c c), (1, .c (.int .i64 id)), (7, .c (.int .i64 i))], [])) (fun i => i ≤ w.length ∧ refKey (w.drop i) id = refKey w id) (fun i => w.length - i) 0 ?_ (by simp) ?_
  · simp [c22l0a]
  · rintro i ⟨hi, hr⟩
    by_cases h : i < w.length
    · have h' : (i : Int) < (w.length : Int) := by omega
      obtain ⟨x, hx⟩ : ∃ x, w[i]? = some x := ⟨_, List.getElem?_eq_getElem h⟩
      have e := find_drop w id i x hx
      have w1 : IntKind.i64.wrap ((i : Int) + 1) = (i : Int) + 1 := by rw [wrap_i64] <;> omega
      by_cases hid : x.1 = id
      · simp [-getElem?_pos, c22l0, c22l0a, c22r2, c22r3, c22r4, hp_md, hpMd, hc.len, hc.ixs, h, h', hx, encW, hid]
        rw [← hr]
        simp [refKey, e, hid, keyV]
      · simp [-getElem?_pos, c22l0, c22l0a, c22r2, c22r3, c22r4, c22r5, hp_md, hpMd, hc.len, hc.ixs, h, h', hx, encW, hid, w1]
        refine ⟨i + 1, ⟨by omega, ?_⟩, by omega, by simp⟩
        rw [← hr]
        simp [refKey, e, hid]
    · have h' : ¬ (i : Int) < (w.length : Int) := by omega
      simp [-getElem?_pos, c22l0, c22l0a, c22r2, c22r6, hp_md, hpMd, hc.len, h, h']
      rw [← hr, List.drop_of_length_le (by omega)]
      simp [refKey, keyV]

/-- The list without an id. -/
def refRem (w : List Item) (id : Int) : List Item := w.filter fun x => decide (x.1 ≠ id)

theorem take_succ_filter (w : List Item) (id : Int) (i : Nat) (x : Item) (hx : w[i]? = some x) : refRem (w.take (i + 1)) id = refRem (w.take i) id ++ if x.1 ≠ id then [x] else [] := by
  rw [List.take_add_one, hx]
  unfold refRem
  rw [List.filter_append]
  by_cases h : x.1 = id
  · simp [h]
  · simp [h]

theorem rrem_run {w : List Item} {c : C} (hc : Sl 3 (w.map encW) c) (id : Int) (hl : w.length ≤ 100000) : run Hp.hp 16 [.c c, .c (.int .i64 id)] [] = some (.tup [.c (.fresh 3 ((refRem w id).map encW)), .c (.bool (decide ((refRem w id).length < w.length)))], []) := by
  refine run_of_W (af := c16) rfl rfl rfl (by simp [c16]) ?_
  simp [c16, c16r0, c16r1, c16r2, fillSl]
  refine W_loop (σ := Nat) (fun i => (mk 35 [(0, .c c), (1, .c (.int .i64 id)), (6, .c (.own 0 (refRem (w.take i) id).length 3 0 (refRem (w.take i) id).length)), (7, .c (.int .i64 i))], [some (.row 3 (refRem (w.take i) id).length ((refRem (w.take i) id).map encW)), none, none, none])) (fun i => i ≤ w.length) (fun i => w.length - i) 0 ?_ (by simp) ?_
  · simp [c16l0a, refRem, hc.still]
  · intro i hi
    by_cases h : i < w.length
    · have h' : (i : Int) < (w.length : Int) := by omega
      obtain ⟨x, hx⟩ : ∃ x, w[i]? = some x := ⟨_, List.getElem?_eq_getElem h⟩
      have e := take_succ_filter w id i x hx
      have w1 : IntKind.i64.wrap ((i : Int) + 1) = (i : Int) + 1 := by rw [wrap_i64] <;> omega
      have hb : (refRem (w.take i) id).length ≤ 16777215 := by
        have := List.length_filter_le (fun x : Item => decide (x.1 ≠ id)) (w.take i)
        simp only [List.length_take] at this
        unfold refRem; omega
      by_cases hid : x.1 = id
      · simp [-getElem?_pos, -List.mapM_map, c16l0, c16l0a, c16r3, c16r4, c16r6, hp_md, hpMd, hc.len, hc.ixs, h, h', hx, encW, hid, w1, hc.still, keepW]
        refine ⟨i + 1, by omega, by omega, ?_, ?_⟩ <;> simp [e, hid]
      · simp [-getElem?_pos, -List.mapM_map, c16l0, c16l0a, c16r3, c16r4, c16r5, c16r6, hp_md, hpMd, hc.len, hc.ixs, h, h', hx, encW, hid, w1, hc.still, keepW, hb]
        refine ⟨i + 1, by omega, by omega, ?_, ?_⟩ <;> simp [e, hid, encW]
    · have h' : ¬ (i : Int) < (w.length : Int) := by omega
      have e : w.take i = w := List.take_of_length_le (by omega)
      simp [-getElem?_pos, -List.mapM_map, c16l0, c16l0a, c16r3, c16r7, hp_md, hpMd, hc.len, h, h', e, hc.still, keepW]
      have e1 := expC_own (l := [0]) (M := [some (.row 3 (refRem w id).length ((refRem w id).map encW)), none, none, none]) (n := 0) (g := (refRem w id).length) (k := 3) (len := (refRem w id).length) rfl (by simp) (encW_flat _)
      rw [List.take_of_length_le (by simp)] at e1
      simp [retE, nodupB, topsV, topsV1, topsP, topsC, expV, expV1, expP, e1, flat_exp]

/-- The list with an item. -/
def refPut (w : List Item) (x : Item) : List Item := refRem w x.1 ++ [x]

theorem refRem_len (w : List Item) (id : Int) : (refRem w id).length ≤ w.length := List.length_filter_le _ _

theorem rput_run {w : List Item} {c : C} (hc : Sl 3 (w.map encW) c) (x : Item) (hl : w.length ≤ 100000) : run Hp.hp 14 [.c c, .agg (encW x)] [] = some (.c (.fresh 3 ((refPut w x).map encW)), []) := by
  have r := rrem_run hc x.1 hl
  have hb : (refRem w x.1).length ≤ 16777215 := by have := refRem_len w x.1; omega
  refine run_of_W (af := c14) rfl rfl rfl (by simp [c14]) ?_
  have e1 := expC_own (l := [1]) (M := [some (.row 3 0 [encW x]), some (.row 3 1 ((refPut w x).map encW)), some (.row 3 0 [encW x]), none]) (n := 1) (g := 1) (k := 3) (len := (refPut w x).length) rfl (by simp) (encW_flat _)
  rw [List.take_of_length_le (by simp)] at e1
  simp [refPut, encW] at e1
  simp [-getElem?_pos, c14, c14r0, c14r1, c14r2, hp_md, hpMd, r, hc.still, encW, hb]
  simp [retE, nodupB, topsV, topsV1, topsP, topsC, expV, expV1, expP, e1, refPut, encW, rowAt_eq, rowB]

/-- The least of a list. -/
def refMin (best : Item) : List Item → Item
  | [] => best
  | x :: w => refMin (if lt3 x.1 best.1 x.2 best.2 then x else best) w

theorem rmin0_run {c : C} (hc : Sl 3 [] c) : run Hp.hp 18 [.c c] [] = some (.tup [.c (.int .i64 0), .c (.bool false)], []) := by
  refine run_of_W (af := c18) rfl rfl rfl (by simp [c18]) ?_
  simp [-getElem?_pos, c18, c18r0, c18r1, c18r2, hp_md, hpMd, hc.len]

theorem refMin_mem : ∀ (w : List Item) (b : Item), refMin b w ∈ b :: w
  | [], b => by simp [refMin]
  | x :: w, b => by
    have := refMin_mem w (if lt3 x.1 b.1 x.2 b.2 then x else b)
    simp only [refMin]
    rcases List.mem_cons.1 this with h | h
    · rw [h]; split <;> simp
    · simp [h]

theorem rmin_run {w : List Item} {b : Item} {c : C} (hc : Sl 3 ((b :: w).map encW) c) (hl : w.length ≤ 100000) (hk : ∀ x ∈ b :: w, U64 x.2.1 ∧ U64 x.2.2) : run Hp.hp 18 [.c c] [] = some (.tup [.c (.int .i64 (refMin b w).1), .c (.bool true)], []) := by
  refine run_of_W (af := c18) rfl rfl rfl (by simp [c18]) ?_
  have n0 : ¬ ((w.length : Int) + 1 = 0) := by omega
  simp [-getElem?_pos, c18, c18r0, c18r1, c18r3, c18r4, hp_md, hpMd, hc.len, hc.ixs, n0, encW]
  refine W_loop (σ := Nat × Item) (fun y => (mk 30 [(0, .c c), (4, .c (.ptr 0 0 0 0)), (5, .c (.int .i64 ((y.1 : Int) + 1)))], [some (.row 3 0 [encW y.2])])) (fun y => y.1 ≤ w.length ∧ y.2 ∈ b :: w ∧ refMin y.2 (w.drop y.1) = refMin b w) (fun y => w.length - y.1) (0, b) ?_ (by simp) ?_
  · simp [c18l0a, encW]
  · rintro ⟨i, y⟩ ⟨hi, hy, hr⟩
    simp only at hi hy hr
    by_cases h : i < w.length
    · have h' : (i : Int) < (w.length : Int) := by omega
      obtain ⟨x, hx⟩ : ∃ x, w[i]? = some x := ⟨_, List.getElem?_eq_getElem h⟩
      have w1 : IntKind.i64.wrap ((i : Int) + 1 + 1) = (i : Int) + 1 + 1 := by rw [wrap_i64] <;> omega
      have hxm : x ∈ b :: w := List.mem_cons_of_mem _ (List.mem_of_getElem? hx)
      have ra := rahead_run x y (hk x hxm) (hk y hy)
      have hd : w.drop i = x :: w.drop (i + 1) := by
        rw [List.drop_eq_getElem_cons h]
        congr 1
        simpa [List.getElem?_eq_getElem h] using hx
      rw [hd, refMin] at hr
      simp only [encW] at ra
      have tn : ((i : Int) + 1).toNat = i + 1 := by omega
      cases hlt : lt3 x.1 y.1 x.2 y.2 with
      | true =>
        rw [hlt] at ra hr
        simp [-getElem?_pos, c18l0, c18l0a, c18r5, c18r6, c18r7, c18r8, hp_md, hpMd, hc.len, hc.ixs, h, h', hx, encW, w1, ra, tn]
        exact ⟨by omega, i + 1, x.1, x.2.1, x.2.2, ⟨by omega, by simpa using hxm, by simpa using hr⟩, by omega, by simp, rfl, rfl, rfl⟩
      | false =>
        rw [hlt] at ra hr
        simp [-getElem?_pos, c18l0, c18l0a, c18r5, c18r6, c18r7, c18r8, hp_md, hpMd, hc.len, hc.ixs, h, h', hx, encW, w1, ra, tn]
        exact ⟨by omega, i + 1, y.1, y.2.1, y.2.2, ⟨by omega, by simpa using hy, by simpa using hr⟩, by omega, by simp, rfl, rfl, rfl⟩
    · have h' : ¬ (i : Int) < (w.length : Int) := by omega
      rw [List.drop_of_length_le (by omega), refMin] at hr
      simp [-getElem?_pos, c18l0, c18l0a, c18r5, c18r9, hp_md, hpMd, hc.len, h, h', encW]
      rw [hr]

end Go.Proofs.Ytopcnhojkfeafaa.Am.Hp
