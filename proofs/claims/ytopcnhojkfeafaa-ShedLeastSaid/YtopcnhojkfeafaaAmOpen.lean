/- AM: a function's arguments, as the statement reads them, as cells. -/
import Derived.Test.YtopcnhojkfeafaaAmRun
import Derived.OpenShut
import Derived.ChangeArms
set_option linter.unusedSimpArgs false
set_option linter.unusedVariables false
namespace Go.Proofs.Ytopcnhojkfeafaa.Am
open Go.RowKit

/-- Do fields lie one behind the other? -/
def laidT (P : Program) : Nat → List Field → Nat → Bool
  | o, [], n => o == n
  | o, f :: fs, n => f.offset == o && laidT P (o + P.cellsOf f.type) fs n

/-- Types of whole numbers, bools, slices, structs, arrays. -/
def okT (P : Program) : Nat → TypeId → Bool
  | 0, _ => false
  | d + 1, t => match P.underlying t with
    | some .bool => true
    | some (.int _) => true
    | some (.slice e) => decide (0 < P.cellsOf e) && okT P d e
    | some (.struct fs) => laidT P 0 fs.toList (P.cellsOf t) && fs.toList.all fun f => okT P d f.type
    | some (.array n e) => (P.cellsOf t == n * P.cellsOf e) && okT P d e
    | _ => false

/-- Cells of a type: what was read. -/
def Typed (P : Program) : Nat → TypeId → List C → Prop
  | 0, _, _ => False
  | d + 1, t, cs => match P.underlying t with
    | some .bool => ∃ b, cs = [.bool b]
    | some (.int k) => ∃ n, cs = [.int k n] ∧ (Lit.int k n).wf = true
    | some (.slice e) => cs = [.nilsl] ∨ ∃ xs : List (List C), cs = [.imm false (P.cellsOf e) xs] ∧ xs.length ≤ maxLen ∧ ∀ r ∈ xs, r.length = P.cellsOf e ∧ Typed P d e r
    | some (.struct fs) => ∃ ps : List (List C), cs = ps.flatten ∧ ps.length = fs.size ∧ ∀ (i : Nat) (f : Field) (p : List C), fs[i]? = some f → ps[i]? = some p → p.length = P.cellsOf f.type ∧ Typed P d f.type p
    | some (.array n e) => ∃ ps : List (List C), cs = ps.flatten ∧ ps.length = n ∧ ∀ p ∈ ps, p.length = P.cellsOf e ∧ Typed P d e p
    | _ => False

section
variable {P : Program} {H : Type} {enc : TypeId × Value → H} {w : World} {base : Nat} {spare : Nat → Bool} {held : Bool} {F : Nat → Prop}

/-- Cells and values, lent. -/
def Lent (w : World) (F : Nat → Prop) : List C → List Value → Prop
  | [], [] => True
  | c :: cs, y :: ys => RI w F (fun b => b < w.heap.size) false c y ∧ Lent w F cs ys
  | _, _ => False

theorem Lent.append : ∀ {cs ds : List C} {ys zs : List Value}, Lent w F cs ys → Lent w F ds zs → Lent w F (cs ++ ds) (ys ++ zs)
  | [], ds, [], zs, _, h => h
  | _ :: _, _, _ :: _, _, h, k => ⟨h.1, Lent.append h.2 k⟩
  | [], _, _ :: _, _, h, _ => h.elim
  | _ :: _, _, [], _, h, _ => h.elim

theorem Lent.length : ∀ {cs : List C} {ys : List Value}, Lent w F cs ys → cs.length = ys.length
  | [], [], _ => rfl
  | _ :: _, _ :: _, h => by simp only [List.length_cons]; rw [Lent.length h.2]
  | [], _ :: _, h => h.elim
  | _ :: _, [], h => h.elim

theorem Lent.get : ∀ {cs : List C} {ys : List Value}, Lent w F cs ys → ∀ j, j < cs.length → RI w F (fun b => b < w.heap.size) false (cs.getD j .undef) (ys.getD j undef)
  | [], [], _, j, hj => by simp at hj
  | _ :: _, _ :: _, h, j, hj => by
    cases j with
    | zero => exact h.1
    | succ j => simpa using Lent.get h.2 j (by simpa using hj)
  | [], _ :: _, h, _, _ => h.elim
  | _ :: _, [], h, _, _ => h.elim

theorem RI.weak {T : Nat → Prop} {c : C} {y : Value} (h : RI w F T false c y) : RI w F T true c y := by
  cases h with
  | undef _ _ h => exact .undef _ _ h
  | int => exact .int _ _ _
  | bool => exact .bool _ _
  | func => exact .func _ _
  | nilptr => exact .nilptr _
  | nilsl => exact .nilsl _
  | immN => exact .immN _ _ _ _ _
  | imm _ _ _ _ b o cap f hl hb h0 hc hk hf hr => exact .imm _ _ _ _ b o cap f (fun _ => rfl) hb h0 hc hk hf hr

theorem Lent.RL : ∀ {cs : List C} {ys : List Value}, Lent w F cs ys → RL w (Env.lend F w) cs ys
  | [], [], _ => trivial
  | _ :: _, _ :: _, h => ⟨.im h.1.weak, Lent.RL h.2⟩
  | [], _ :: _, h => h.elim
  | _ :: _, [], h => h.elim

theorem open_fields {d fuel : Nat} {vs : List Value} (ih : ∀ t {us : List Value} {x : DataW H × List MemPlace}, okT P d t = true → DataW.trod enc P w base spare held fuel t us = some x → ∃ cs, cs.length = us.length ∧ Typed P d t cs ∧ Lent w F cs us) :
    ∀ (fs : List Field) (o : Nat), laidT P o fs vs.length = true → (fs.all fun f => okT P d f.type) = true → (∀ (i : Nat) (f : Field), fs[i]? = some f → ∃ x, DataW.trod enc P w base spare held fuel f.type ((vs.drop f.offset).take (P.cellsOf f.type)) = some x) →
      ∃ ps : List (List C), ps.length = fs.length ∧ (∀ (i : Nat) (f : Field) (p : List C), fs[i]? = some f → ps[i]? = some p → p.length = P.cellsOf f.type ∧ Typed P d f.type p) ∧ Lent w F ps.flatten (vs.drop o) ∧ o ≤ vs.length
  | [], o, hl, _, _ => by
    simp only [laidT, beq_iff_eq] at hl
    subst hl
    exact ⟨[], rfl, fun i f p h => by simp at h, by simp [Lent], Nat.le_refl _⟩
  | f :: fs, o, hl, hok, h => by
    simp only [laidT, Bool.and_eq_true, beq_iff_eq] at hl
    obtain ⟨rfl, hl⟩ := hl
    simp only [List.all_cons, Bool.and_eq_true] at hok
    obtain ⟨ps, h1, h2, h3, h4⟩ := open_fields ih fs _ hl hok.2 (fun i g hg => h (i + 1) g (by simpa using hg))
    obtain ⟨x, hx⟩ := h 0 f rfl
    obtain ⟨cs, k1, k2, k3⟩ := ih f.type hok.1 hx
    have hlen : cs.length = P.cellsOf f.type := by rw [k1]; simp; omega
    refine ⟨cs :: ps, by simp [h1], fun i g p hg hp => ?_, ?_, by omega⟩
    · cases i with
      | zero => simp at hg hp; subst hg; subst hp; exact ⟨hlen, k2⟩
      | succ i => exact h2 i g p (by simpa using hg) (by simpa using hp)
    · have e : vs.drop f.offset = (vs.drop f.offset).take (P.cellsOf f.type) ++ vs.drop (f.offset + P.cellsOf f.type) := by
        rw [← List.drop_drop, List.take_append_drop]
      rw [List.flatten_cons, e]
      exact Lent.append k3 h3

theorem open_parts {d fuel k : Nat} {e : TypeId} (ih : ∀ {us : List Value} {x : DataW H × List MemPlace}, DataW.trod enc P w base spare held fuel e us = some x → ∃ cs, cs.length = us.length ∧ Typed P d e cs ∧ Lent w F cs us) (hk : k = P.cellsOf e) :
    ∀ (n : Nat) (vs : List Value), vs.length = n * k → (∀ i, i < n → ∃ x, DataW.trod enc P w base spare held fuel e ((vs.drop (i * k)).take k) = some x) →
      ∃ ps : List (List C), ps.length = n ∧ (∀ p ∈ ps, p.length = k ∧ Typed P d e p) ∧ Lent w F ps.flatten vs
  | 0, vs, hl, _ => by
    have : vs = [] := List.eq_nil_of_length_eq_zero (by simpa using hl)
    subst this
    exact ⟨[], rfl, fun p h => by simp at h, trivial⟩
  | n + 1, vs, hl, h => by
    rw [Nat.succ_mul] at hl
    obtain ⟨x, hx⟩ := h 0 (by omega)
    rw [Nat.zero_mul, List.drop_zero] at hx
    obtain ⟨cs, k1, k2, k3⟩ := ih hx
    obtain ⟨ps, h1, h2, h3⟩ := open_parts ih hk n (vs.drop k) (by simp; omega) (fun i hi => by
      obtain ⟨x, hx⟩ := h (i + 1) (by omega)
      refine ⟨x, ?_⟩
      rw [List.drop_drop, show k + i * k = (i + 1) * k by rw [Nat.succ_mul]; omega]
      exact hx)
    have hlen : cs.length = k := by rw [k1]; simp; omega
    refine ⟨cs :: ps, by simp [h1], fun p hp => ?_, ?_⟩
    · rcases List.mem_cons.1 hp with rfl | hp
      · exact ⟨hlen, k2⟩
      · exact h2 p hp
    · rw [List.flatten_cons, ← List.take_append_drop k vs]
      exact Lent.append k3 h3

theorem open_typed (hF : ∀ b, b < w.heap.size → F b) : ∀ (d fuel : Nat) (t : TypeId) {vs : List Value} {x : DataW H × List MemPlace}, okT P d t = true → DataW.trod enc P w base spare held fuel t vs = some x → ∃ cs, cs.length = vs.length ∧ Typed P d t cs ∧ Lent w F cs vs
  | 0, _, t, _, _, hok, _ => by cases hok
  | d + 1, fuel, t, vs, x, hok, h => by
    unfold okT at hok
    unfold Typed
    split at hok
    · rename_i hu
      obtain ⟨b, rfl, _⟩ := DataW.trod_bool hu h
      exact ⟨[.bool b], rfl, ⟨b, rfl⟩, RI.bool _ _, trivial⟩
    · rename_i k hu
      obtain ⟨n, rfl, _, hw⟩ := DataW.trod_int hu h
      exact ⟨[.int k n], rfl, ⟨n, rfl, hw⟩, RI.int _ _ _, trivial⟩
    · rename_i e hu
      simp only [Bool.and_eq_true, decide_eq_true_eq] at hok
      obtain ⟨hpos, hok⟩ := hok
      rcases DataW.trod_slice hu h with ⟨rfl, _⟩ | ⟨a, len, cap, elems, rest, n, rfl, rfl, _, hb, hle, hm, hel, hcells, _, _⟩
      · exact ⟨[.nilsl], rfl, .inl rfl, RI.nilsl _, trivial⟩
      · have each : ∀ i, i < len → ∃ us cs : List _, us.length = P.cellsOf e ∧ (∀ j, j < P.cellsOf e → w.cell? ((a.add (i * P.cellsOf e)).add j) = us[j]?) ∧ cs.length = P.cellsOf e ∧ Typed P d e cs ∧ Lent w F cs us := by
          intro i hi
          have hc := hcells i hi
          have : i < elems.length := by omega
          rw [List.getElem?_eq_getElem this, Option.bind_eq_some_iff] at hc
          obtain ⟨us, h1, h2⟩ := hc
          obtain ⟨_, h3, h4⟩ := World.cells?_some h1
          obtain ⟨cs, k1, k2, k3⟩ := open_typed hF d n e hok h2
          exact ⟨us, cs, h3, h4, by rw [k1, h3], k2, k3⟩
        by_cases h0 : len = 0
        · subst h0
          exact ⟨[.imm false (P.cellsOf e) []], rfl, .inr ⟨[], rfl, by simp, fun r hr => by simp at hr⟩, RI.immN _ _ _ _ _, trivial⟩
        · -- the rows, one by one
          have rows : ∀ m, m ≤ len → ∃ xs : List (List C), ∃ us : List (List Value), xs.length = m ∧ us.length = m ∧ ∀ i, i < m → (us.getD i []).length = P.cellsOf e ∧ (∀ j, j < P.cellsOf e → w.cell? ((a.add (i * P.cellsOf e)).add j) = (us.getD i [])[j]?) ∧ (xs.getD i []).length = P.cellsOf e ∧ Typed P d e (xs.getD i []) ∧ Lent w F (xs.getD i []) (us.getD i []) := by
            intro m
            induction m with
            | zero => intro _; exact ⟨[], [], rfl, rfl, fun i hi => by omega⟩
            | succ m ih =>
              intro hm
              obtain ⟨xs, us, e1, e2, e3⟩ := ih (by omega)
              obtain ⟨u, c, q⟩ := each m (by omega)
              refine ⟨xs ++ [c], us ++ [u], by simp [e1], by simp [e2], fun i hi => ?_⟩
              by_cases hi' : i < m
              · have f1 : (xs ++ [c]).getD i [] = xs.getD i [] := by simp [List.getD_eq_getElem?_getD, List.getElem?_append_left (show i < xs.length by omega)]
                have f2 : (us ++ [u]).getD i [] = us.getD i [] := by simp [List.getD_eq_getElem?_getD, List.getElem?_append_left (show i < us.length by omega)]
                rw [f1, f2]
                exact e3 i hi'
              · have : i = m := by omega
                subst this
                have f1 : (xs ++ [c]).getD i [] = c := by simp [List.getD_eq_getElem?_getD, ← e1]
                have f2 : (us ++ [u]).getD i [] = u := by simp [List.getD_eq_getElem?_getD, ← e2]
                rw [f1, f2]
                exact q
          obtain ⟨xs, us, e1, e2, e3⟩ := rows len (Nat.le_refl _)
          have hspot : a.spot = none := by
            obtain ⟨q1, q2, _⟩ := e3 0 (by omega)
            have hc := q2 0 hpos
            rw [List.getElem?_eq_getElem (by omega)] at hc
            have := World.cell?_spot hc
            simpa [Addr.add] using this
          obtain ⟨b, o, sp⟩ := a
          simp only at hspot
          subst hspot
          have hcell : ∀ i j, i < len → j < P.cellsOf e → w.cell? ⟨b, o + (i * P.cellsOf e + j), none⟩ = some ((us.getD i []).getD j undef) := fun i j hi hj => by
            obtain ⟨q1, q2, _⟩ := e3 i hi
            have := q2 j hj
            rw [add_at, add_at, Nat.add_assoc] at this
            have hj' : j < (us.getD i []).length := by omega
            rw [this]
            generalize us.getD i [] = u at hj'
            simp [List.getD_eq_getElem?_getD, hj']
          have hbs : b < w.heap.size := by
            have hc := hcell 0 0 (by omega) hpos
            unfold World.cell? at hc
            rcases Nat.lt_or_ge b w.heap.size with h | h
            · exact h
            · simp [Array.getElem?_eq_none h] at hc
          rw [← e1]
          refine ⟨[.imm false (P.cellsOf e) xs], rfl, .inr ⟨xs, rfl, by omega, fun r hr => ?_⟩, ?_, trivial⟩
          · obtain ⟨i, hi⟩ := List.getElem?_of_mem hr
            have hil : i < len := by have := (List.getElem?_eq_some_iff.1 hi).1; omega
            have : xs.getD i [] = r := by simp [List.getD_eq_getElem?_getD, hi]
            rw [← this]
            exact ⟨(e3 i hil).2.2.1, (e3 i hil).2.2.2.1⟩
          · refine .imm _ _ _ _ b o cap (fun i j => (us.getD i []).getD j undef) (fun h => by cases h) (.inl (hF b hbs)) (by omega) (by omega) (fun i hi => (e3 i (by omega)).2.2.1) (fun i j hi hj => hcell i j (by omega) hj) (fun i j hi hj => ?_)
            obtain ⟨_, _, q3, _, q5⟩ := e3 i (by omega)
            exact Lent.get q5 j (by omega)
    · rename_i fs hu
      simp only [Bool.and_eq_true] at hok
      obtain ⟨xs, n, rfl, _, hlen, hxl, hall⟩ := DataW.trod_struct hu h
      rw [← hlen] at hok
      obtain ⟨ps, h1, h2, h3, _⟩ := open_fields (F := F) (vs := vs) (d := d) (fuel := n) (fun t us x hok hx => open_typed hF d n t hok hx) fs.toList 0 hok.1 hok.2 (fun i f hf => by
        have hf' : fs[i]? = some f := by rw [← Array.getElem?_toList]; exact hf
        have := hall i f hf'
        have hil : i < xs.length := by
          have := (Array.getElem?_eq_some_iff.1 hf').1; omega
        rw [List.getElem?_eq_getElem hil] at this
        exact ⟨_, this⟩)
      rw [List.drop_zero] at h3
      refine ⟨ps.flatten, Lent.length h3, ⟨ps, rfl, by simpa using h1, fun i f p hf hp => h2 i f p (by rw [Array.getElem?_toList]; exact hf) hp⟩, h3⟩
    · rename_i m e hu
      simp only [Bool.and_eq_true, beq_iff_eq] at hok
      obtain ⟨xs, n, rfl, _, hlen, hxl, hall⟩ := DataW.trod_array hu h
      obtain ⟨ps, h1, h2, h3⟩ := open_parts (F := F) (d := d) (fuel := n) (e := e) (fun {us x} hx => open_typed hF d n e hok.2 hx) rfl m vs (by rw [hlen, hok.1]) (fun i hi => by
        have := hall i hi
        rw [List.getElem?_eq_getElem (by omega)] at this
        exact ⟨_, this⟩)
      exact ⟨ps.flatten, Lent.length h3, ⟨ps, rfl, h1, h2⟩, h3⟩
    · cases hok

end
end Go.Proofs.Ytopcnhojkfeafaa.Am
