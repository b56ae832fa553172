/- AM: walking through code: maps. -/
import Derived.Test.YtopcnhojkfeafaaAmWv
set_option linter.unusedSimpArgs false
set_option linter.unusedVariables false
namespace Go.Proofs.Ytopcnhojkfeafaa.Am

def lookH (ok agg : Bool) (z : List Z) (M : Mem) : Option (Option V) → Option (V × Mem)
  | some (some v) => some (if ok then .tup [v, .c (.bool true)] else v, M)
  | some none => (mkV agg (z.map ofZ)).map fun v => (if ok then .tup [v, .c (.bool false)] else v, M)
  | none => none
def lookG (ok agg : Bool) (z : List Z) (M : Mem) (g : Nat) (key : C) : Option (Option Blk) → Option (V × Mem)
  | some (some (.map g' es)) => if g = g' then lookH ok agg z M (lookM key es) else none
  | _ => none
def lookF (ok agg : Bool) (z : List Z) (M : Mem) : V → V → Option (V × Mem)
  | .c (.mref n g), .c key => lookG ok agg z M g key M[n]?
  | _, _ => none
def updG (M : Mem) (n g : Nat) (key : C) (x : V) : Option (Option Blk) → Option (V × Mem)
  | some (some (.map g' es)) => if g = g' then (updM key x es).map fun es => (.none, M.set n (some (.map g es))) else none
  | _ => none
def updF (M : Mem) : V → V → V → Option (V × Mem)
  | .c (.mref n g), .c key, x => match x.cells with
    | some _ => updG M n g key x M[n]?
    | none => none
  | _, _, _ => none

theorem mapAt_eq (M : Mem) (n : Nat) : mapAt M n = match M[n]? with
    | some (some (.map g es)) => some (g, es)
    | _ => none := by
  unfold mapAt
  rw [List.getD_eq_getElem?_getD]
  cases M[n]? with
  | none => rfl
  | some B =>
    cases B with
    | none => rfl
    | some B => cases B <;> rfl

section
variable {A : Pg} {cl : Cl} {bs : Nat} {tm : List V} {M : Mem}
theorem evI_mkmap {s : Nat} : evI A cl bs tm M (.mkmap s) = newE M (bs + s) (fun g => .map g []) (fun g => .mref (bs + s) g) := rfl
theorem evI_look {ok agg : Bool} {z : List Z} {m key : X} : evI A cl bs tm M (.look ok agg z m key) = lookF ok agg z M (evX tm m) (evX tm key) := by
  simp only [evI]
  cases evX tm m with
  | c c =>
    cases c with
    | mref n g =>
      cases evX tm key with
      | c key =>
        simp only [lookF, mapAt_eq]
        cases M[n]? with
        | none => rfl
        | some B =>
          cases B with
          | none => rfl
          | some B =>
            cases B with
            | map g' es =>
              simp only [lookG]
              by_cases h : g = g'
              · rw [if_pos h, if_pos h]
                cases lookM key es with
                | none => rfl
                | some r => cases r <;> rfl
              · rw [if_neg h, if_neg h]
            | _ => rfl
      | _ => rfl
    | _ => cases evX tm key <;> rfl
  | _ => rfl
theorem evI_upd {m key x : X} : evI A cl bs tm M (.upd m key x) = updF M (evX tm m) (evX tm key) (evX tm x) := by
  simp only [evI]
  cases evX tm m with
  | c c =>
    cases c with
    | mref n g =>
      cases evX tm key with
      | c key =>
        simp only [updF, mapAt_eq]
        cases (evX tm x).cells with
        | none => rfl
        | some cs =>
          simp only
          cases M[n]? with
          | none => rfl
          | some B =>
            cases B with
            | none => rfl
            | some B => cases B <;> rfl
      | _ => rfl
    | _ => cases evX tm key <;> rfl
  | _ => rfl
end
theorem lookF_mref (ok agg : Bool) (z : List Z) (M : Mem) (n g : Nat) (key : C) : lookF ok agg z M (.c (.mref n g)) (.c key) = lookG ok agg z M g key M[n]? := rfl
theorem lookG_map (ok agg : Bool) (z : List Z) (M : Mem) (g g' : Nat) (key : C) (es : List (C × V)) : lookG ok agg z M g key (some (some (.map g' es))) = if g = g' then lookH ok agg z M (lookM key es) else none := rfl
theorem lookH_some (ok agg : Bool) (z : List Z) (M : Mem) (v : V) : lookH ok agg z M (some (some v)) = some (if ok then .tup [v, .c (.bool true)] else v, M) := rfl
theorem lookH_none (ok agg : Bool) (z : List Z) (M : Mem) : lookH ok agg z M (some none) = (mkV agg (z.map ofZ)).map fun v => (if ok then .tup [v, .c (.bool false)] else v, M) := rfl
theorem mkV_one (c : C) : mkV false [c] = some (.c c) := rfl
theorem mkV_agg (cs : List C) : mkV true cs = some (.agg cs) := rfl
theorem updF_mref (M : Mem) (n g : Nat) (key c : C) : updF M (.c (.mref n g)) (.c key) (.c c) = updG M n g key (.c c) M[n]? := rfl
theorem updF_agg (M : Mem) (n g : Nat) (key : C) (cs : List C) : updF M (.c (.mref n g)) (.c key) (.agg cs) = updG M n g key (.agg cs) M[n]? := rfl
theorem updG_map (M : Mem) (n g g' : Nat) (key : C) (x : V) (es : List (C × V)) : updG M n g key x (some (some (.map g' es))) = if g = g' then (updM key x es).map fun es => (.none, M.set n (some (.map g es))) else none := rfl
theorem newB_map (g : Nat) (es : List (C × V)) (M : Mem) (n : Nat) (B : Nat → Blk) (f : Nat → C) : newB (some (some (.map g es))) M n B f = some (.c (f (g + 1)), M.set n (some (B (g + 1)))) := rfl

attribute [simp] evI_mkmap evI_look evI_upd lookF_mref lookG_map lookH_some lookH_none mkV_one mkV_agg updF_mref updF_agg updG_map newB_map

/-- Entries of whole numbers. -/
def ents (l : List (Int × V)) : List (C × V) := l.map fun e => (.int .i64 e.1, e.2)
def entAt (k : Int) : List (Int × V) → Option V
  | [] => none
  | e :: l => if k = e.1 then some e.2 else entAt k l
def entPut (k : Int) (v : V) : List (Int × V) → List (Int × V)
  | [] => [(k, v)]
  | e :: l => if k = e.1 then (k, v) :: l else e :: entPut k v l
theorem lookM_ents (k : Int) : ∀ (l : List (Int × V)), lookM (.int .i64 k) (ents l) = some (entAt k l)
  | [] => rfl
  | e :: l => by
    have ih := lookM_ents k l
    simp only [ents, List.map_cons, lookM, keyEq, if_true, entAt] at ih ⊢
    by_cases h : k = e.1
    · have : (k == e.1) = true := by simpa using h
      rw [this, if_pos h]
    · have : (k == e.1) = false := by simpa using h
      rw [this, if_neg h]
      exact ih
theorem updM_ents (k : Int) (v : V) : ∀ (l : List (Int × V)), updM (.int .i64 k) v (ents l) = some (ents (entPut k v l))
  | [] => rfl
  | e :: l => by
    have ih := updM_ents k v l
    simp only [ents, List.map_cons, updM, keyEq, if_true, entPut] at ih ⊢
    by_cases h : k = e.1
    · have : (k == e.1) = true := by simpa using h
      rw [this, if_pos h]
      simp [h]
    · have : (k == e.1) = false := by simpa using h
      rw [this, if_neg h]
      simp [ih]
theorem entAt_put (k : Int) (v : V) (b : Int) : ∀ (l : List (Int × V)), entAt b (entPut k v l) = if b = k then some v else entAt b l
  | [] => by simp [entPut, entAt]
  | e :: l => by
    simp only [entPut]
    by_cases h : k = e.1
    · rw [if_pos h]
      simp only [entAt]
      by_cases hb : b = k
      · simp [hb]
      · rw [if_neg hb, if_neg hb, if_neg (fun c => hb (by rw [c, h]))]
    · rw [if_neg h]
      simp only [entAt]
      by_cases hb : b = e.1
      · rw [if_pos hb, if_neg (fun c => h (by rw [← c, hb])), if_pos hb]
      · rw [if_neg hb, if_neg hb]
        exact entAt_put k v b l
attribute [simp] lookM_ents updM_ents

end Go.Proofs.Ytopcnhojkfeafaa.Am
