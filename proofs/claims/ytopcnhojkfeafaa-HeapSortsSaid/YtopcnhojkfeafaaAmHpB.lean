/- AM: the heap's functions that change nothing. -/
import Derived.Test.YtopcnhojkfeafaaAmHpA
set_option linter.unusedSimpArgs false
set_option linter.unusedVariables false
set_option maxRecDepth 100000
namespace Go.Proofs.Ytopcnhojkfeafaa.Am.Hp

def encI (x : Int) : List C := [.int .i64 x]
def encK (k : Int × Int) : List C := [.int .u64 k.1, .int .u64 k.2]

/-- A heap, lent. -/
def hv (keys : List (Int × Int)) (place ids : List Int) : C := .iptr [.imm true 2 (keys.map encK), .imm true 1 (place.map encI), .imm true 1 (ids.map encI)] 0

theorem still_hv (M : Mem) (keys : List (Int × Int)) (place ids : List Int) : lendV M (.c (hv keys place ids)) = some (.c (hv keys place ids)) := rfl

theorem lt_some {α : Type} {l : List α} {i : Nat} {x : α} (h : l[i]? = some x) : i < l.length := (List.getElem?_eq_some_iff.1 h).1

/-- Is an id with its key ahead of another one? -/
def lt3 (a b : Int) (ka kb : Int × Int) : Bool := decide (cmpI ka.1 ka.2 kb.1 kb.2 < 0 ∨ cmpI ka.1 ka.2 kb.1 kb.2 = 0 ∧ a < b)

def KOK (k : Int × Int) : Prop := U64 k.1 ∧ U64 k.2 ∧ 0 < k.2

theorem ahead_run {keys : List (Int × Int)} {place ids : List Int} {i j a b : Nat} {k m : Int × Int} (ha : ids[i]? = some (a : Int)) (hb : ids[j]? = some (b : Int)) (la : keys[a]? = some k) (lb : keys[b]? = some m) (ka : KOK k) (kb : KOK m) :
    run hp 105 [.c (hv keys place ids), .c (.int .i64 i), .c (.int .i64 j)] [] = some (.c (.bool (lt3 a b k m)), []) := by
  have c1 := compare_runI _ _ _ _ ka.1 ka.2.1 kb.1 kb.2.1 ka.2.2 kb.2.2
  have h1 := lt_some ha
  have h2 := lt_some hb
  have h3 := lt_some la
  have h4 := lt_some lb
  refine run_of_W (af := c105) rfl rfl rfl (by simp [c105]) ?_
  simp [-getElem?_pos, c105, c105r0, c105r1, c105r2, c105r3, hp_md, hpMd, hv, ha, hb, la, lb, h1, h2, h3, h4, c1, encI, encK]

  repeat' ((first | refine Wc_dec.2 ⟨fun h => ?_, fun h => ?_⟩ | refine Wg_dec.2 ⟨fun h => ?_, fun h => ?_⟩ | refine Wg_dec'.2 ⟨fun h => ?_, fun h => ?_⟩) <;> try simp [-getElem?_pos, *, hp_md, hpMd])
  all_goals simp [lt3, *]

theorem len_run (keys : List (Int × Int)) (place ids : List Int) : run hp 23 [.c (hv keys place ids)] [] = some (.c (.int .i64 ids.length), []) := by
  refine run_of_W (af := c23) rfl rfl rfl (by simp [c23]) ?_
  simp [c23, c23r0, c23r1, c23r2, c23r3, hp_md, hpMd, hv]

theorem min0_run (keys : List (Int × Int)) (place : List Int) : run hp 20 [.c (hv keys place [])] [] = some (.tup [.c (.int .i64 0), .c (.bool false)], []) := by
  have l := len_run keys place []
  refine run_of_W (af := c20) rfl rfl rfl (by simp [c20]) ?_
  simp [hv] at l
  simp [c20, c20r0, c20r1, c20r2, hp_md, hpMd, hv, l]

theorem min_run (keys : List (Int × Int)) (place : List Int) (x : Int) (ids : List Int) : run hp 20 [.c (hv keys place (x :: ids))] [] = some (.tup [.c (.int .i64 x), .c (.bool true)], []) := by
  have l := len_run keys place (x :: ids)
  have : ¬ ((ids.length : Int) + 1 = 0) := by omega
  refine run_of_W (af := c20) rfl rfl rfl (by simp [c20]) ?_
  simp [hv, encI] at l
  simp [c20, c20r0, c20r1, c20r2, c20r3, hp_md, hpMd, hv, l, this, encI]

/-- Has an id a key? -/
def hasN (place : List Int) (id : Int) : Bool := decide (0 ≤ id ∧ id < place.length ∧ 0 < place[id.toNat]?.getD 0)

theorem has_run (keys : List (Int × Int)) (place ids : List Int) (id : Int) (hl : keys.length = place.length) : run hp 63 [.c (hv keys place ids), .c (.int .i64 id)] [] = some (.c (.bool (hasN place id)), []) := by
  refine run_of_W (af := c63) rfl rfl rfl (by simp [c63]) ?_
  simp [-getElem?_pos, c63, c63r0, c63r1, hp_md, hpMd, hv]
  refine Wg_dec.2 ⟨fun h => ?_, fun h => ?_⟩
  · simp [-getElem?_pos, *, hp_md, hpMd]
    refine Wg_dec.2 ⟨fun h2 => ?_, fun h2 => ?_⟩
    · have : id.toNat < place.length := by omega
      have e := List.getElem?_eq_getElem this
      simp [-getElem?_pos, *, hp_md, hpMd, encI, hasN]
    · simp [-getElem?_pos, *, hp_md, hpMd, hasN]
  · simp [-getElem?_pos, *, hp_md, hpMd, hasN]

theorem key_run (keys : List (Int × Int)) (place ids : List Int) (id : Int) (hl : keys.length = place.length) : run hp 21 [.c (hv keys place ids), .c (.int .i64 id)] [] = some (.tup (if hasN place id then [.c (.int .u64 (keys[id.toNat]?.getD (0, 0)).1), .c (.int .u64 (keys[id.toNat]?.getD (0, 0)).2), .c (.bool true)] else [.c (.int .u64 0), .c (.int .u64 0), .c (.bool false)]), []) := by
  have l := has_run keys place ids id hl
  refine run_of_W (af := c21) rfl rfl rfl (by simp [c21]) ?_
  simp [hv] at l
  cases h : hasN place id with
  | true =>
    have h2 := h
    simp only [hasN, decide_eq_true_eq] at h2
    have h3 : id.toNat < keys.length := by omega
    have e := List.getElem?_eq_getElem h3
    rw [h] at l
    simp [-getElem?_pos, c21, c21r0, c21r1, c21r2, c21r3, hp_md, hpMd, hv, l, h2, e, hl, encK]
  | false =>
    rw [h] at l
    simp [-getElem?_pos, c21, c21r0, c21r1, c21r2, c21r3, hp_md, hpMd, hv, l]

end Go.Proofs.Ytopcnhojkfeafaa.Am.Hp
