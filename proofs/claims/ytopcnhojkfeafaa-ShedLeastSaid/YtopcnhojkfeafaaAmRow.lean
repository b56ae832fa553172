/- AM: a row 'whatever the input: true; the input reads as it did', from a run of the machine. -/
import Derived.Test.YtopcnhojkfeafaaAmOpen
import Derived.WalkKit
import Derived.ProofKit
import Derived.ShutString
import Derived.ChangeOld
import Derived.Carry
set_option linter.unusedSimpArgs false
set_option linter.unusedVariables false
namespace Go.Proofs.Ytopcnhojkfeafaa.Am
open Go.ChangeShapes Go.WideShapes Go.ChangeAt Go.RowKit

/-- An argument. -/
def argV (P : Program) (t : TypeId) (cs : List C) : V :=
  match aggT P t with
  | some true => .agg cs
  | _ => match cs with
    | [c] => .c c
    | _ => .none

def argVs (P : Program) : List TypeId → List (List C) → List V
  | t :: ts, cs :: css => argV P t cs :: argVs P ts css
  | _, _ => []

def ArgsT (P : Program) (D : Nat) : List TypeId → List (List C) → Prop
  | [], [] => True
  | t :: ts, cs :: css => Typed P D t cs ∧ ArgsT P D ts css
  | _, _ => False

section
variable {P : Program} {H : Type} {enc : TypeId × Value → H} {W : World} {base : Nat} {F : Nat → Prop} {D : Nat}

theorem arg_open (hF : ∀ b, b < W.heap.size → F b) {t : TypeId} {v : Value} {d : DataW H} {p : List MemPlace} (hok : okT P D t = true) (hv : Value.okWide P W .any base t v) (h : DataW.Trod enc P W 0 (fun _ => true) true t v d p) :
    ∃ cs, Typed P D t cs ∧ RVal W (Env.lend F W) (argV P t cs) v := by
  obtain ⟨fuel, hf⟩ := h
  obtain ⟨cs, h1, h2, h3⟩ := open_typed hF D fuel t hok hf
  refine ⟨cs, h2, ?_⟩
  have one : oneC v = true → aggT P t = some false → RVal W (Env.lend F W) (argV P t cs) v := fun ho ha => by
    rw [cells_one ho] at h1 h3
    match cs, h1, h3 with
    | [c], _, h3 =>
      simp only [argV, ha]
      exact R.im h3.1.weak
  cases D with
  | zero => cases hok
  | succ D =>
    unfold okT at hok
    split at hok
    · rename_i hu
      obtain ⟨b, rfl⟩ := okWide_bool hu hv
      exact one rfl (by simp [aggT, hu])
    · rename_i k hu
      obtain ⟨n, rfl⟩ := okWide_int hu hv
      exact one rfl (by simp [aggT, hu])
    · rename_i e hu
      obtain ⟨a, l, c, rfl⟩ := okWide_slice hu hv
      exact one rfl (by simp [aggT, hu])
    · rename_i fs hu
      have hv' := hv
      simp only [Value.okWide, hu] at hv'
      obtain ⟨ys, rfl, _⟩ := hv'
      have ha : aggT P t = some true := by simp [aggT, hu]
      simp only [argV, ha]
      exact ⟨ys.toList, by simp, h3.RL⟩
    · rename_i n e hu
      have hv' := hv
      simp only [Value.okWide, hu] at hv'
      obtain ⟨ys, rfl, _⟩ := hv'
      have ha : aggT P t = some true := by simp [aggT, hu]
      simp only [argV, ha]
      exact ⟨ys.toList, by simp, h3.RL⟩
    · cases hok

theorem args_open (hF : ∀ b, b < W.heap.size → F b) : ∀ {ts : List TypeId} {vs : List Value} {ds : List (DataW H)} {ps : List MemPlace}, DataW.TrodAll enc P W 0 (fun _ => true) true ts vs ds ps → (ts.all fun t => okT P D t) = true → (∀ (j : Nat) t v, ts[j]? = some t → vs[j]? = some v → Value.okWide P W .any base t v) →
    ∃ css, ArgsT P D ts css ∧ RAll W (Env.lend F W) (argVs P ts css) vs
  | [], vs, ds, ps, h, _, _ => by
    obtain ⟨rfl, rfl, rfl⟩ := trodAll_nil h
    exact ⟨[], trivial, trivial⟩
  | t :: ts, vs, ds, ps, h, hok, hv => by
    obtain ⟨v, vs', d, ds', p, q, rfl, rfl, rfl, h1, h2⟩ := trodAll_cons h
    simp only [List.all_cons, Bool.and_eq_true] at hok
    obtain ⟨cs, k1, k2⟩ := arg_open hF hok.1 (hv 0 t v rfl rfl) h1
    obtain ⟨css, k3, k4⟩ := args_open hF h2 hok.2 (fun j t v ht hv' => hv (j + 1) t v (by simpa using ht) (by simpa using hv'))
    exact ⟨cs :: css, ⟨k1, k3⟩, k2, k4⟩

theorem args_stay (hl : laidOutB P = true) {W' : World} (hb : Below W.heap.size W W') : ∀ {ts : List TypeId} {vs : List Value} {ds : List (DataW H)} {ps : List MemPlace}, DataW.TrodAll enc P W 0 (fun _ => true) true ts vs ds ps → (ts.all fun t => P.readableRec t && decide (t < P.types.size)) = true →
    DataW.TrodAll enc P W' 0 (fun b => decide (b < W.heap.size)) true ts vs ds ps
  | [], vs, ds, ps, h, _ => by
    obtain ⟨rfl, rfl, rfl⟩ := trodAll_nil h
    exact trodAll_mk0
  | t :: ts, vs, ds, ps, h, hok => by
    obtain ⟨v, vs', d, ds', p, q, rfl, rfl, rfl, h1, h2⟩ := trodAll_cons h
    simp only [List.all_cons, Bool.and_eq_true, decide_eq_true_eq] at hok
    have hlt : ∀ x ∈ p, x.block < W.heap.size := by obtain ⟨m, hm⟩ := h1; exact DataW.trod_lt m _ _ _ hm
    exact trodAll_cons_mk (Below.trod hl hok.1.1 hok.1.2 h1 hb hlt) (args_stay hl hb h2 hok.2)

theorem trodAll_len {ts : List TypeId} {vs : List Value} {ds : List (DataW H)} {ps : List MemPlace} {b : Nat} {sp : Nat → Bool} {hd : Bool} (h : DataW.TrodAll enc P W b sp hd ts vs ds ps) : ds.length = ts.length := by
  induction ts generalizing vs ds ps with
  | nil => obtain ⟨rfl, rfl, rfl⟩ := trodAll_nil h; rfl
  | cons t ts ih =>
    obtain ⟨v, vs', d, ds', p, q, rfl, rfl, rfl, h1, h2⟩ := trodAll_cons h
    simp [ih h2]

/-- The contract of a row, from a run. -/
theorem law_contract {A : Pg} {f : Nat} {fn : Func} {s : ChangeSpec} {apart fresh handsOn : Bool} {tb : TypeId} (hP : PgOK P A) (hlaid : laidOutB P = true) (hvars : s.vars = []) (hs : ∀ (ds : List (DataW H)), ds.length = fn.params.size → s.fn H ds = { results := [.lit (.bool true)], args := ds })
    (hok : (fn.params.toList.all fun t => okT P D t) = true) (hread : (fn.params.toList.all fun t => P.readableRec t && decide (t < P.types.size)) = true) (hres : fn.resultTypes = #[tb]) (htb : P.underlying tb = some .bool) (hmd : A.md f ≠ .state)
    (hrun : ∀ css, ArgsT P D fn.params.toList css → ∃ n M', runF A n f (argVs P fn.params.toList css) [] = some (.c (.bool true), M'))
    (args : Array Value) (ds gs : List (DataW H)) (before : List MemPlace) (hval : ∀ (j : Nat) t v, fn.params[j]? = some t → args[j]? = some v → Value.okWide P W .any base t v) (hW : DataW.Whole enc P fn.params.toList s.vars apart W args.toList ds gs before) :
    Calls P f args W fun e W' => ∃ v, e = .returned v ∧ s.post enc P fn apart fresh handsOn false W args v W' := by
  have hW' := hW
  obtain ⟨p, q, hA, hV, rfl, hfz, hnd⟩ := hW
  rw [hvars] at hV
  obtain ⟨rfl, rfl⟩ := trodVars_none hV
  have hval' : ∀ (j : Nat) t v, fn.params.toList[j]? = some t → args.toList[j]? = some v → Value.okWide P W .any base t v := fun j t v h1 h2 => hval j t v (by rw [← Array.getElem?_toList]; exact h1) (by rw [← Array.getElem?_toList]; exact h2)
  obtain ⟨css, k1, k2⟩ := args_open (F := fun b => b < W.heap.size) (D := D) (fun b h => h) hA hok hval'
  obtain ⟨n, M', hr⟩ := hrun css k1
  have hpure := (runF_sound hP n).1.pure f _ _ M' hr hmd W (fun b => b < W.heap.size) args.toList (fun b h => h) k2
  have e : args.toList.toArray = args := by simp
  rw [e] at hpure
  refine hpure.mono fun ex W' ⟨x, B, e1, m⟩ => ?_
  subst e1
  have hx : x = .bool true := by
    have := m.xv
    rcases this with h | ⟨cs, _, _, _, _, _, _, _, h, _⟩
    · cases h with
      | im h => cases h; rfl
    · cases h
  subst hx
  have hb : Below W.heap.size W W' := ⟨m.os, m.tape, m.output, m.size, m.old⟩
  have hlen : ds.length = fn.params.size := by have := trodAll_len hA; simpa using this
  refine ⟨_, rfl, ds, [], p ++ [], [], p, [], hW', ?_, ?_, ?_, hb.frame _, fun h => by cases h⟩
  · rw [List.append_nil, hs ds hlen, hres]
    exact trodAll_mk1 ⟨1, by simp [DataW.trod, Value.cells, htb]⟩
  · rw [List.append_nil, hs ds hlen]
    exact args_stay hlaid hb hA hread
  · rw [List.append_nil, hs ds hlen, hvars]
    exact rfl

end
end Go.Proofs.Ytopcnhojkfeafaa.Am
