/- AM: the world grown by new blocks; a sort's answer, as the machine has it. -/
import Derived.Test.YtopcnhojkfeafaaAmRun
import Derived.Test.YtopcnhojkfeafaaAmIsort
set_option linter.unusedSimpArgs false
set_option linter.unusedVariables false
namespace Go.Proofs.Ytopcnhojkfeafaa.Am
open Go.RowKit

section
variable {P : Program} {w : World} {Γ : Env} {M : Mem}

/-- New blocks alone. -/
theorem grown_sim (hS : Sim w Γ M) {w' : World} (h1 : w'.os = w.os) (h2 : w'.tape = w.tape) (h3 : w'.output = w.output) (hsz : w.heap.size ≤ w'.heap.size) (hh : ∀ b, b < w.heap.size → w'.heap[b]? = w.heap[b]?) :
    Sim w' Γ M ∧ Ext All w Γ M w' Γ M := by
  have he : Ext All w Γ M w' Γ M := ⟨h1, h2, h3, hsz, rfl, fun _ h => h, fun _ h => .inl h, fun _ h => .inl h, fun b hb _ => hh b hb, fun _ _ B h => ⟨⟨B, h, Later.refl _⟩, fun _ _ => rfl⟩⟩
  refine ⟨⟨fun n B hM => ?_, hS.apart, hS.bound, hS.holes, hS.gens, Nat.le_trans hS.base hsz, fun b hb => Nat.lt_of_lt_of_le (hS.Fb b hb) hsz⟩, he⟩
  exact BlkR.mono hS he all hM (fun b hb => hh b (hb.lt hS).1) (fun b hb => (hb.lt hS).2.2) (hS.blk n B hM)

def ofRow : List C → Option (Int × Int)
  | [.int .i64 u, .int .i64 s] => some (u, s)
  | _ => none

def encP (x : Int × Int) : List C := [.int .i64 x.1, .int .i64 x.2]

theorem ofRow_encP (x : Int × Int) : ofRow (encP x) = some x := rfl

theorem ofRow_some {cs : List C} {x : Int × Int} (h : ofRow cs = some x) : cs = encP x := by
  unfold ofRow at h
  split at h
  · simp only [Option.some.injEq] at h; subst h; rfl
  · simp at h

theorem ofRows_some : ∀ {xs : List (List C)} {d : List (Int × Int)}, xs.mapM ofRow = some d → xs = d.map encP
  | [], d, h => by rw [mapM_nil_some h]; rfl
  | x :: xs, d, h => by
    obtain ⟨y, ys, h1, h2, rfl⟩ := mapM_cons_some h
    rw [ofRow_some h1, ofRows_some h2]; rfl

theorem ofRows_enc : ∀ d : List (Int × Int), (d.map encP).mapM ofRow = some d
  | [] => rfl
  | x :: d => by simp [ofRow_encP, ofRows_enc d]

/-- A sort of pairs by their first: in place; none of them twice. -/
def primSort (g : Nat) (vs : List V) (M : Mem) : Option (V × Mem) :=
  match vs with
  | [.c .nilsl, .c (.func f)] => if f = g then some (.tup [], M) else none
  | [.c (.imm _ _ []), .c (.func f)] => if f = g then some (.tup [], M) else none
  | [.c (.own n gn k off len), .c (.func f)] =>
    if f = g ∧ k = 2 ∧ off = 0 then
      match rowAt M n with
      | some (k', g', xs) =>
        if gn = g' ∧ k' = 2 ∧ len = xs.length ∧ xs.length ≤ limit then
          match xs.mapM ofRow with
          | some d => if (d.map (·.1)).Nodup then some (.tup [], M.set n (some (.row 2 g' ((isort d).map encP)))) else none
          | none => none
        else none
      | none => none
    else none
  | _ => none

theorem primSort_own {g n gn len : Nat} {M : Mem} {d : List (Int × Int)} (h : rowAt M n = some (2, gn, d.map encP)) (hl : len = d.length) (hm : d.length ≤ limit) (hd : (d.map (·.1)).Nodup) :
    primSort g [.c (.own n gn 2 0 len), .c (.func g)] M = some (.tup [], M.set n (some (.row 2 gn ((isort d).map encP)))) := by
  simp only [primSort, true_and, if_true, and_self, h, List.length_map, hl, hm, ofRows_enc, hd]

theorem primSort_hold {g : Nat} {vs : List V} {M : Mem} {r : V} {M' : Mem} (h : primSort g vs M = some (r, M')) : M.length ≤ M'.length ∧ ∀ n, Idle M n → M'[n]? = M[n]? := by
  unfold primSort at h
  split at h
  · split at h <;> simp at h
    obtain ⟨_, rfl⟩ := h; exact ⟨Nat.le_refl _, fun _ _ => rfl⟩
  · split at h <;> simp at h
    obtain ⟨_, rfl⟩ := h; exact ⟨Nat.le_refl _, fun _ _ => rfl⟩
  · split at h
    · split at h
      · rename_i k' g' xs hM
        split at h
        · split at h
          · split at h
            · simp only [Option.some.injEq, Prod.mk.injEq] at h
              obtain ⟨_, rfl⟩ := h
              refine ⟨by simp, fun m hi => ?_⟩
              rw [List.getElem?_set_ne]
              rintro rfl
              rw [Idle, rowAt_get hM] at hi
              rcases hi with hi | ⟨_, hi⟩ | hi <;> cases hi
            · simp at h
          · simp at h
        · simp at h
      · simp at h
    · simp at h
  · simp at h

/-- slices.Clone of pairs. -/
def primClone (vs : List V) (M : Mem) : Option (V × Mem) :=
  match vs with
  | [.c .nilsl] => some (.c .nilsl, [])
  | [.c (.imm _ k [])] => if k = 2 then some (.c (.imm false 2 []), []) else none
  | [.c (.imm _ k (x :: xs))] => if k = 2 ∧ (x :: xs).length ≤ 100000 then
      match (x :: xs).mapM ofRow with
      | some _ => some (.c (.fresh 2 (x :: xs)), [])
      | none => none
    else none
  | _ => none

end
end Go.Proofs.Ytopcnhojkfeafaa.Am
