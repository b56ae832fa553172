/- AM: that what an instruction comes to is what Go's operation comes to: calls, and all of them together. -/
import Derived.Test.YtopcnhojkfeafaaAmKeep
import Derived.Test.YtopcnhojkfeafaaAmTr
set_option linter.unusedSimpArgs false
set_option linter.unusedVariables false
namespace Go.Proofs.Ytopcnhojkfeafaa.Am
open Go.RowKit

/-- A function with a body. -/
def FnOK (P : Program) (f : Nat) : Prop := ∃ fn c, P.funcs[f]? = some fn ∧ (fn.name == "runtime.NumGoroutine") = false ∧ fn.body = some c

def StateOK (P : Program) (f : Nat) (vs : List V) (M : Mem) (r : V) (M' : Mem) : Prop :=
  ∀ w Γ ys, Sim w Γ M → RAll w Γ vs ys → Calls P f ys.toArray w fun e w' => ∃ x Γ', e = .returned x ∧ Sim w' Γ' M' ∧ Ext All w Γ M w' Γ' M' ∧ RVal w' Γ' r x

/-- What a call that works in no memory but its own leaves: the old memory as it was; what it hands back: of new blocks, each its own; the rest of the new blocks stay as they are. -/
structure Made (w w' : World) (F : Nat → Prop) (r : V) (x : Value) (B : List Nat) : Prop where
  os : w'.os = w.os
  tape : w'.tape = w.tape
  output : w'.output = w.output
  size : w.heap.size ≤ w'.heap.size
  old : ∀ b, b < w.heap.size → w'.heap[b]? = w.heap[b]?
  new : ∀ b ∈ B, w.heap.size ≤ b ∧ b < w'.heap.size
  nodup : B.Nodup
  xv : XV w' (fun b => F b ∨ (w.heap.size ≤ b ∧ b < w'.heap.size ∧ b ∉ B)) r x B

def PureOK (P : Program) (f : Nat) (vs : List V) (r : V) : Prop :=
  ∀ w F ys, (∀ b, F b → b < w.heap.size) → RAll w (Env.lend F w) vs ys → Calls P f ys.toArray w fun e w' => ∃ x B, e = .returned x ∧ Made w w' F r x B

structure SoundCl (P : Program) (A : Pg) (cl : Cl) : Prop where
  fn : ∀ f vs M r M', cl f vs M = some (r, M') → FnOK P f
  state : ∀ f vs M r M', cl f vs M = some (r, M') → A.md f = .state → StateOK P f vs M r M'
  pure : ∀ f vs r M', cl f vs [] = some (r, M') → A.md f ≠ .state → PureOK P f vs r

section
variable {P : Program} {o : Oper} {a : Act} {w : World} {Γ : Env} {M : Mem} {tm : List V}

/-- What was made, taken over. -/
theorem Made.imp {w' : World} {r : V} {x : Value} {B : List Nat} (hS : Sim w Γ M) (h : Made w w' Γ.F r x B) :
    ∃ Γ1, Imp w Γ M w' Γ1 M B ∧ Γ1.F = fun b => Γ.F b ∨ (w.heap.size ≤ b ∧ b < w'.heap.size ∧ b ∉ B) := by
  refine ⟨{ Γ with F := fun b => Γ.F b ∨ (w.heap.size ≤ b ∧ b < w'.heap.size ∧ b ∉ B) }, ⟨?_, ?_, fun b hb => ⟨(h.new b hb).1, (h.new b hb).2, ?_, ?_⟩⟩, rfl⟩
  all_goals have he : Ext All w Γ M w' { Γ with F := fun b => Γ.F b ∨ (w.heap.size ≤ b ∧ b < w'.heap.size ∧ b ∉ B) } M := ⟨h.os, h.tape, h.output, h.size, rfl, fun b hb => .inl hb, fun b hb => by
      rcases hb with hb | hb
      · exact .inl hb
      · exact .inr (.inr hb.1), fun b hb => .inl hb, fun b hb _ => h.old b hb, fun n _ B hB => ⟨⟨B, hB, Later.refl _⟩, fun _ _ => rfl⟩⟩
  · refine ⟨fun m B' hM => ?_, hS.apart, hS.bound, hS.holes, hS.gens, Nat.le_trans hS.base h.size, fun b hb => ?_⟩
    · refine BlkR.mono hS he all hM (fun b hb => h.old b (hb.lt hS).1) (fun b hb => ?_) (hS.blk m B' hM)
      rintro (h1 | h1)
      · exact (hb.lt hS).2.2 h1
      · have := (hb.lt hS).1; omega
    · rcases hb with hb | hb
      · exact Nat.lt_of_lt_of_le (hS.Fb b hb) h.size
      · exact hb.2.1
  · exact he
  · rintro (h1 | h1)
    · have := hS.Fb b h1; have := (h.new b hb).1; omega
    · exact h1.2.2 hb
  · intro ho
    obtain ⟨n, hn⟩ := Owned.by' (Γ := Γ) (M := M) (b := b) ho
    have := (hn.lt hS).1
    have := (h.new b hb).1
    omega

theorem plain_imp {r : V} (h : plainV r = true) (M : Mem) : impV M 0 0 r = some (r, M) := by
  have h1 : ∀ c, plainC c = true → ∀ M st, impC M st c = some (c, M, st) := fun c hc M st => by cases c <;> first | rfl | cases hc
  have h2 : ∀ c, plainC c = true → ∀ M st, impP M st c = some (c, M, st) := fun c hc M st => by cases c <;> first | rfl | cases hc
  have h3 : ∀ cs : List C, cs.all plainC = true → ∀ M st, impL M st cs = some (cs, M, st) := by
    intro cs
    induction cs with
    | nil => intro _ M st; rfl
    | cons c cs ih =>
      intro hc M st
      simp only [List.all_cons, Bool.and_eq_true] at hc
      simp only [impL, h1 c hc.1, ih hc.2]
  have h4 : ∀ v : V, plainV1 v = true → ∀ M st, impV1 M st v = some (v, M, st) := by
    intro v hv M st
    cases v with
    | c c => simp [impV1, h2 c hv]
    | agg cs => simp [impV1, h3 cs hv]
    | tup vs => cases hv
    | none => rfl
    | any => rfl
  have h5 : ∀ vs : List V, vs.all plainV1 = true → ∀ M st, impVs M st vs = some (vs, M, st) := by
    intro cs
    induction cs with
    | nil => intro _ M st; rfl
    | cons c cs ih =>
      intro hc M st
      simp only [List.all_cons, Bool.and_eq_true] at hc
      simp only [impVs, h4 c hc.1, ih hc.2]
  cases r with
  | tup vs => simp [impV, h5 vs h]
  | c c => simp [impV, h4 (.c c) h]
  | agg cs => simp [impV, h4 (.agg cs) h]
  | none => simp [impV, impV1]
  | any => simp [impV, impV1]

theorem run_enter {f : Nat} (h : FnOK P f) (args : Array Value) (w : World) : (callFunc f args).run P w = .ok (.enter f args) w := by
  obtain ⟨fn, c, h1, h2, h3⟩ := h
  have h2' : ¬ fn.name = "runtime.NumGoroutine" := by simpa using h2
  simp [callFunc, h1, h2', h3]

theorem cutM_sound {E M M' : Mem} {w w' : World} {Γ Γ' : Env} {r r' : V} {x : Value} (hS : Sim w' Γ' M) (he : Ext All w Γ E w' Γ' M) (hr : RVal w' Γ' r x) (h : cutM E r M = some (r', M')) : ∃ Γ2, Sim w' Γ2 M' ∧ Ext All w Γ E w' Γ2 M' ∧ RVal w' Γ2 r' x := by
  unfold cutM at h
  split at h
  · rename_i hall
    simp only [Option.some.injEq, Prod.mk.injEq] at h
    obtain ⟨rfl, rfl⟩ := h
    have hg : ∀ m, (M.take E.length).getD m none = M.getD m none := fun m => by
      simp only [List.getD_eq_getElem?_getD, List.getElem?_take]
      split
      · rfl
      · rename_i hm
        cases hq : M[m]? with
        | none => rfl
        | some B =>
          have : B ∈ M.drop E.length := by
            refine List.mem_of_getElem? (i := m - E.length) ?_
            rw [List.getElem?_drop, ← hq]; congr 1; omega
          have := List.all_eq_true.1 hall B this
          cases B with
          | none => rfl
          | some B => cases this
    exact ⟨Γ', hS.congr hg, he.congr (fun _ => rfl) hg, hr⟩
  · split at h
    · rename_i r2 M2 h1 h2
      simp only [Option.some.injEq, Prod.mk.injEq] at h
      obtain ⟨rfl, rfl⟩ := h
      obtain ⟨k1, k2⟩ := keep_sim hS h2 he (fun n _ B hB => by rw [was_iff, hB]; rfl)
      exact ⟨_, k1, k2, keepR_sound hS h1 hr⟩
    · simp at h

theorem call_sound {A : Pg} {cl : Cl} (hcl : SoundCl P A cl) (hS : Sim w Γ M) (hT : Tm w Γ tm a) {fo : Operand} {as : Array Operand} {ts : Array TypeId} {fx : X} {xs : List X} {f st m : Nat} {v : V} {M' : Mem} (hop : o.op = .call ⟨.value fo, as, ts⟩) (hf : xOf fo = some fx)
    (hx : as.toList.mapM xOf = some xs) (hv : evX tm fx = .c (.func f)) (h : evCall A cl st m f (xs.map (evX tm)) M = some (v, M')) : OpOK P o a w Γ M v M' := by
  have hF := evX_R hT hf
  rw [hv] at hF
  have hfo : a.eval fo = .func (.func f) #[] #[] := by
    generalize a.eval fo = y at hF
    cases (show R w Γ _ _ from hF) with
    | im h => cases h; rfl
  have hR := RAll.of_map hT hx
  have hl : as.toList.map a.eval = (as.map a.eval).toList := by simp
  have key : FnOK P f → (Calls P f (as.toList.map a.eval).toArray w fun e w' => ∃ x Γ', e = .returned x ∧ Sim w' Γ' M' ∧ Ext All w Γ M w' Γ' M' ∧ RVal w' Γ' v x) → OpOK P o a w Γ M v M' := by
    intro hfn hc K Q hK
    have hrun : (execOp a.eval o).run P w = .ok (.enter f (as.map a.eval)) w := by
      simp [execOp, hop, resolve, hfo, Deferred.ofValue, invoke, run_enter hfn]
    unfold Oper.wp
    rw [hrun, Oper.upon_enter]
    have e : (as.toList.map a.eval).toArray = as.map a.eval := by
      apply Array.ext'
      exact hl
    rw [e] at hc
    refine hc.mono fun e w' ⟨x, Γ', e1, e2, e3, e4⟩ => ?_
    subst e1
    exact hK x w' Γ' e2 e3 e4
  have fin : ∀ {w' : World} {Γ1 : Env} {M1 : Mem} {st m : Nat} {r : V} {x : Value} {B : List Nat}, Sim w Γ1 M1 → Ext All w Γ M w Γ1 M1 → Made w w' Γ1.F r x B → impV M1 st m r = some (v, M') → ∃ x Γ', Ending.returned x = .returned x ∧ Sim w' Γ' M' ∧ Ext All w Γ M w' Γ' M' ∧ RVal w' Γ' v x := by
    intro w' Γ1 M1 st m r x B hS1 he hm hi
    obtain ⟨Γ2, i2, hF2⟩ := hm.imp hS1
    obtain ⟨Γ3, i3, r3⟩ := impV_sound hS1.base i2 hm.nodup hF2 hi hm.xv
    exact ⟨x, Γ3, rfl, i3.sim, he.trans i3.ext, r3⟩
  unfold evCall at h
  split at h
  · rename_i hmd
    split at h
    · rename_i r M1 hr
      refine key (hcl.fn _ _ _ _ _ hr) ((hcl.state f _ M r M1 hr hmd w Γ _ hS hR).mono fun e w' ⟨x, Γ', e1, s1, x1, r1⟩ => ?_)
      split at h
      · obtain ⟨Γ2, s2, x2, r2⟩ := cutM_sound s1 x1 r1 h
        exact ⟨x, Γ2, e1, s2, x2, r2⟩
      · simp only [Option.some.injEq, Prod.mk.injEq] at h
        obtain ⟨rfl, rfl⟩ := h
        exact ⟨x, Γ', e1, s1, x1, r1⟩
    · simp at h
  · rename_i al hmd
    split at h
    · rename_i vs' hlend
      split at h
      · rename_i r Mr hr
        have hpure := hcl.pure f vs' r Mr hr (by rw [hmd]; simp) w Γ.F _ hS.Fb (lendAll_sound hS hlend hR)
        refine key (hcl.fn _ _ _ _ _ hr) (hpure.mono fun e w' ⟨x, B, e1, e2⟩ => ?_)
        subst e1
        split at h
        · obtain ⟨x', Γ', _, h2⟩ := fin hS (Ext.refl _ _ _ _) e2 h
          obtain ⟨Γ2, i2, hF2⟩ := e2.imp hS
          obtain ⟨Γ3, i3, r3⟩ := impV_sound hS.base i2 e2.nodup hF2 h e2.xv
          exact ⟨x, Γ3, rfl, i3.sim, i3.ext, r3⟩
        · split at h
          · rename_i hp
            simp only [Option.some.injEq, Prod.mk.injEq] at h
            obtain ⟨rfl, rfl⟩ := h
            obtain ⟨Γ2, i2, hF2⟩ := e2.imp hS
            obtain ⟨Γ3, i3, r3⟩ := impV_sound hS.base i2 e2.nodup hF2 (plain_imp hp M) e2.xv
            exact ⟨x, Γ3, rfl, i3.sim, i3.ext, r3⟩
          · simp at h
      · simp at h
    · simp at h
  · rename_i hmd
    split at h
    · rename_i vs' M1 hg
      split at h
      · rename_i r Mr hr
        obtain ⟨Γ1, s1, e1, c1⟩ := giveVs_sound hS hg hR
        have hpure := hcl.pure f vs' r Mr hr (by rw [hmd]; simp) w Γ1.F _ s1.Fb (c1.RAll (Γ := Env.lend Γ1.F w) (fun _ h => h))
        refine key (hcl.fn _ _ _ _ _ hr) (hpure.mono fun e w' ⟨x, B, e2, e3⟩ => ?_)
        subst e2
        obtain ⟨Γ2, i2, hF2⟩ := e3.imp s1
        obtain ⟨Γ3, i3, r3⟩ := impV_sound s1.base i2 e3.nodup hF2 h e3.xv
        exact ⟨x, Γ3, rfl, i3.sim, e1.trans i3.ext, r3⟩
      · simp at h
    · simp at h

theorem callOp_eq {c : Call} {x : Callee} {args : Array Operand} {ts : Array TypeId} (h1 : c.callee = x) (h2 : c.args = args) (h3 : c.argTypes = ts) : c = ⟨x, args, ts⟩ := by
  subst h1; subst h2; subst h3; rfl

theorem arr_of {α : Type} {l : Array α} {xs : List α} (h : l.toList = xs) : l = xs.toArray := by
  subst h; simp

theorem evI_sound {A : Pg} {cl : Cl} (hcl : SoundCl P A cl) (hS : Sim w Γ M) (hT : Tm w Γ tm a) {i : I} {bs : Nat} {v : V} {M' : Mem} (htr : trI P o = some (erI i)) (hev : evI A cl bs tm M i = some (v, M')) : OpOK P o a w Γ M v M' := by
  unfold trI at htr
  split at htr
  · -- move
    rename_i x hop
    obtain ⟨x', hx, hi⟩ := Option.map_eq_some_iff.1 htr
    cases i <;> cases hi
    simp only [evI, Option.some.injEq, Prod.mk.injEq] at hev
    obtain ⟨rfl, rfl⟩ := hev
    exact mov_sound hS hT (.inl hop) hx
  · rename_i x hop
    obtain ⟨x', hx, hi⟩ := Option.map_eq_some_iff.1 htr
    cases i <;> cases hi
    simp only [evI, Option.some.injEq, Prod.mk.injEq] at hev
    obtain ⟨rfl, rfl⟩ := hev
    exact mov_sound hS hT (.inr hop) hx
  · -- pick
    rename_i c x y hop
    split at htr
    · rename_i c' x' y' hc hx hy
      have hi := Option.some.inj htr
      cases i <;> cases hi
      simp only [evI] at hev
      split at hev
      · rename_i b hb
        simp only [Option.some.injEq, Prod.mk.injEq] at hev
        obtain ⟨rfl, rfl⟩ := hev
        exact pick_sound hS hT hop hc hx hy hb
      · simp at hev
    · simp at htr
  · -- alloc
    rename_i t hop
    split at htr
    · rename_i k b z hinf
      have hi := Option.some.inj htr
      cases i <;> cases hi
      obtain ⟨M1, h1, he⟩ := Option.map_eq_some_iff.1 hev
      simp only [Prod.mk.injEq] at he
      obtain ⟨rfl, rfl⟩ := he
      exact alloc_sound hS hop hinf h1
    · simp at htr
  · -- box
    rename_i t x hop
    split at htr
    · rename_i k b z x' hinf hx
      have hi := Option.some.inj htr
      cases i <;> cases hi
      simp only [evI] at hev
      split at hev
      · rename_i cs hc
        split at hev
        · rename_i hl
          obtain ⟨M1, h1, he⟩ := Option.map_eq_some_iff.1 hev
          simp only [Prod.mk.injEq] at he
          obtain ⟨rfl, rfl⟩ := he
          exact box_sound hS hT hop hx hc hl h1
        · simp at hev
      · simp at hev
    · simp at htr
  · -- build
    rename_i t ps hop
    split at htr
    · rename_i fs hs
      split at htr
      · rename_i k b z qs hinf hq
        split at htr
        · rename_i hall
          have hi := Option.some.inj htr
          cases i <;> cases hi
          simp only [evI] at hev
          obtain ⟨cs, h1, he⟩ := Option.map_eq_some_iff.1 hev
          simp only [Prod.mk.injEq] at he
          obtain ⟨rfl, rfl⟩ := he
          exact build_sound hS hT hop hs hinf hq hall h1
        · simp at htr
      · simp at htr
    · split at htr
      · rename_i n e hs
        split at htr
        · rename_i k b z k' b' z' qs hinf hie hq
          have hi := Option.some.inj htr
          cases i <;> cases hi
          simp only [evI] at hev
          obtain ⟨cs, h1, he⟩ := Option.map_eq_some_iff.1 hev
          simp only [Prod.mk.injEq] at he
          obtain ⟨rfl, rfl⟩ := he
          exact buildA_sound hS hT hop hs hinf hie hq h1
        · simp at htr
      · simp at htr
  · -- buildSlice
    rename_i t len ps hop
    split at htr
    · rename_i e hs
      split at htr
      · rename_i k b z qs hinf hq
        split at htr
        · rename_i hle
          have hi := Option.some.inj htr
          cases i <;> cases hi
          simp only [evI] at hev
          split at hev
          · rename_i xs hf
            obtain ⟨M1, h1, he⟩ := Option.map_eq_some_iff.1 hev
            simp only [Prod.mk.injEq] at he
            obtain ⟨rfl, rfl⟩ := he
            exact buildSl_sound hS hT hop hs hinf hle hq hf h1
          · simp at hev
        · simp at htr
      · simp at htr
    · simp at htr
  · -- load
    rename_i t x hop
    split at htr
    · rename_i g k x' hg hk hx
      have hi := Option.some.inj htr
      cases i <;> cases hi
      simp only [evI] at hev
      split at hev
      · rename_i cs hc
        obtain ⟨v', h1, he⟩ := Option.map_eq_some_iff.1 hev
        simp only [Prod.mk.injEq] at he
        obtain ⟨rfl, rfl⟩ := he
        exact load_sound hS hT hop hg hk hx hc h1
      · simp at hev
    · simp at htr
  · -- store
    rename_i t x y hop
    split at htr
    · rename_i k x' y' hk hx hy
      have hi := Option.some.inj htr
      cases i <;> cases hi
      simp only [evI] at hev
      split at hev
      · rename_i cs hc
        split at hev
        · rename_i hl
          obtain ⟨M1, h1, he⟩ := Option.map_eq_some_iff.1 hev
          simp only [Prod.mk.injEq] at he
          obtain ⟨rfl, rfl⟩ := he
          exact store_sound hS hT hop hk hx hy hc hl h1
        · simp at hev
      · simp at hev
    · simp at htr
  · -- nilCheck
    rename_i x hop
    obtain ⟨x', hx, hi⟩ := Option.map_eq_some_iff.1 htr
    cases i <;> cases hi
    simp only [evI] at hev
    split at hev
    · rename_i n g idx off hv
      simp only [Option.some.injEq, Prod.mk.injEq] at hev
      obtain ⟨rfl, rfl⟩ := hev
      rw [← hv]
      exact nilck_sound hS hT hop hx (.inl ⟨n, g, idx, off, hv⟩)
    · rename_i cs off hv
      simp only [Option.some.injEq, Prod.mk.injEq] at hev
      obtain ⟨rfl, rfl⟩ := hev
      rw [← hv]
      exact nilck_sound hS hT hop hx (.inr ⟨cs, off, hv⟩)
    · simp at hev
  · -- binOp
    rename_i op t x y t' hop
    split at htr
    · rename_i op' x' y' ho hx hy
      have hi := Option.some.inj htr
      cases i <;> cases hi
      simp only [evI] at hev
      obtain ⟨c, h1, he⟩ := Option.map_eq_some_iff.1 hev
      simp only [Prod.mk.injEq] at he
      obtain ⟨rfl, rfl⟩ := he
      exact bin_sound hS hT hop ho hx hy h1
    · simp at htr
  · -- unOp
    rename_i op t x hop
    split at htr
    · rename_i x' hx
      have hi := Option.some.inj htr
      cases i <;> cases hi
      simp only [evI] at hev
      obtain ⟨c, h1, he⟩ := Option.map_eq_some_iff.1 hev
      simp only [Prod.mk.injEq] at he
      obtain ⟨rfl, rfl⟩ := he
      exact un_sound hS hT hop hx (.inl ⟨rfl, rfl⟩) h1
    · rename_i x' hx
      have hi := Option.some.inj htr
      cases i <;> cases hi
      simp only [evI] at hev
      obtain ⟨c, h1, he⟩ := Option.map_eq_some_iff.1 hev
      simp only [Prod.mk.injEq] at he
      obtain ⟨rfl, rfl⟩ := he
      exact un_sound hS hT hop hx (.inr (.inl ⟨rfl, rfl⟩)) h1
    · rename_i x' hx
      have hi := Option.some.inj htr
      cases i <;> cases hi
      simp only [evI] at hev
      obtain ⟨c, h1, he⟩ := Option.map_eq_some_iff.1 hev
      simp only [Prod.mk.injEq] at he
      obtain ⟨rfl, rfl⟩ := he
      exact un_sound hS hT hop hx (.inr (.inr ⟨rfl, rfl⟩)) h1
    · simp at htr
  · -- convert
    rename_i src dst x hop
    split at htr
    · rename_i d k x' hs hk hx
      have hi := Option.some.inj htr
      cases i <;> cases hi
      simp only [evI] at hev
      obtain ⟨c, h1, he⟩ := Option.map_eq_some_iff.1 hev
      simp only [Prod.mk.injEq] at he
      obtain ⟨rfl, rfl⟩ := he
      exact conv_sound hS hT hop hs hk hx h1
    · simp at htr
  · -- makeSlice
    rename_i t l c hop
    split at htr
    · rename_i e hs
      split at htr
      · rename_i k b z l' c' hinf hl hc
        have hi := Option.some.inj htr
        cases i <;> cases hi
        simp only [evI] at hev
        split at hev
        · rename_i l2 c2 hl2 hc2
          split at hev
          · rename_i hcnd
            obtain ⟨M1, h1, he⟩ := Option.map_eq_some_iff.1 hev
            simp only [Prod.mk.injEq] at he
            obtain ⟨rfl, rfl⟩ := he
            exact mksl_sound hS hT hop hs hinf hl hc hl2 hc2 hcnd.1 hcnd.2.1 hcnd.2.2 h1
          · simp at hev
        · simp at hev
      · simp at htr
    · simp at htr
  · -- slice
    rename_i t x lo hi' hop
    have fin : ∀ {k b : Nat} {z : List Z} {e : TypeId} {x' : X} {lo' hi2 : Option X}, sliceT P t = some e → infoT P e = some (k, b, z) → xOf x = some x' → ((lo = none ∧ lo' = none) ∨ ∃ x x', lo = some x ∧ lo' = some x' ∧ xOf x = some x') → ((hi' = none ∧ hi2 = none) ∨ ∃ x x', hi' = some x ∧ hi2 = some x' ∧ xOf x = some x') →
        I.slc k x' lo' hi2 = erI i → OpOK P o a w Γ M v M' := by
      intro k b z e x' lo' hi2 hs hinf hx hlo hhi hi
      cases i <;> cases hi
      simp only [evI] at hev
      split at hev
      · rename_i n hn
        split at hev
        · rename_i l h hl hh
          obtain ⟨v', h1, he⟩ := Option.map_eq_some_iff.1 hev
          simp only [Prod.mk.injEq] at he
          obtain ⟨rfl, rfl⟩ := he
          exact slc_sound hS hT hop hs hinf hx hlo hhi hn hl hh h1
        · simp at hev
      · simp at hev
    split at htr
    · rename_i e hs
      split at htr
      · rename_i k b z x' hinf hx hlo hhi
        rw [Option.map_eq_none_iff] at hlo hhi
        exact fin hs hinf hx (.inl ⟨hlo, rfl⟩) (.inl ⟨hhi, rfl⟩) (Option.some.inj htr)
      · rename_i k b z x' lo2 hinf hx hlo hhi
        rw [Option.map_eq_none_iff] at hhi
        obtain ⟨y, rfl, hy⟩ := Option.map_eq_some_iff.1 hlo
        exact fin hs hinf hx (.inr ⟨y, lo2, rfl, rfl, hy⟩) (.inl ⟨hhi, rfl⟩) (Option.some.inj htr)
      · rename_i k b z x' lo2 hinf hx hlo hhi
        rw [Option.map_eq_none_iff] at hlo
        obtain ⟨y, rfl, hy⟩ := Option.map_eq_some_iff.1 hhi
        exact fin hs hinf hx (.inl ⟨hlo, rfl⟩) (.inr ⟨y, lo2, rfl, rfl, hy⟩) (Option.some.inj htr)
      · rename_i k b z x' lo2 hi2 hinf hx hlo hhi
        obtain ⟨y, rfl, hy⟩ := Option.map_eq_some_iff.1 hlo
        obtain ⟨y2, rfl, hy2⟩ := Option.map_eq_some_iff.1 hhi
        exact fin hs hinf hx (.inr ⟨y, lo2, rfl, rfl, hy⟩) (.inr ⟨y2, hi2, rfl, rfl, hy2⟩) (Option.some.inj htr)
      · simp at htr
    · simp at htr
  · -- fieldAddr
    rename_i t x f hop
    split at htr
    · rename_i fs hs
      split at htr
      · rename_i fd hf
        split at htr
        · rename_i k x' hk hx
          split at htr
          · simp at htr
          · rename_i h0
            have hi := Option.some.inj htr
            cases i <;> cases hi
            simp only [evI] at hev
            split at hev
            · rename_i n g idx off hv
              simp only [Option.some.injEq, Prod.mk.injEq] at hev
              obtain ⟨rfl, rfl⟩ := hev
              exact faddr_sound hS hT hop hs hf hk h0 hx (.inl ⟨n, g, idx, off, hv, rfl⟩)
            · rename_i cs off hv
              simp only [Option.some.injEq, Prod.mk.injEq] at hev
              obtain ⟨rfl, rfl⟩ := hev
              exact faddr_sound hS hT hop hs hf hk h0 hx (.inr ⟨cs, off, hv, rfl⟩)
            · simp at hev
        · simp at htr
      · simp at htr
    · simp at htr
  · -- field
    rename_i t x f hop
    split at htr
    · rename_i fs hs
      split at htr
      · rename_i fd hf
        split at htr
        · rename_i g k x' hg hk hx
          have hi := Option.some.inj htr
          cases i <;> cases hi
          simp only [evI] at hev
          split at hev
          · rename_i cs hc
            by_cases hle : fd.offset + (if g = true then k else 1) ≤ cs.length
            · rw [if_pos hle] at hev
              obtain ⟨v', h1, he⟩ := Option.map_eq_some_iff.1 hev
              simp only [Prod.mk.injEq] at he
              obtain ⟨rfl, rfl⟩ := he
              exact field_sound hS hT hop hs hf hg hk hx hc hle h1
            · rw [if_neg hle] at hev; cases hev
          · simp at hev
        · simp at htr
      · simp at htr
    · simp at htr
  · -- indexAddr
    rename_i t x y hop
    split at htr
    · rename_i e hs
      split at htr
      · rename_i k b z x' y' hinf hx hy
        have hi := Option.some.inj htr
        cases i <;> cases hi
        simp only [evI] at hev
        split at hev
        · rename_i n g k' off len j hv hj
          split at hev
          · rename_i hc
            obtain ⟨h0, h1, rfl⟩ := hc
            simp only [Option.some.injEq, Prod.mk.injEq] at hev
            obtain ⟨rfl, rfl⟩ := hev
            exact ixs_sound hS hT hop hs hinf hx hy hj (.inl ⟨n, g, off, len, hv, h0, h1, rfl⟩)
          · simp at hev
        · rename_i t' k' xs j hv hj
          split at hev
          · rename_i hc
            obtain ⟨h0, h1, rfl⟩ := hc
            simp only [Option.some.injEq, Prod.mk.injEq] at hev
            obtain ⟨rfl, rfl⟩ := hev
            exact ixs_sound hS hT hop hs hinf hx hy hj (.inr ⟨t', xs, hv, h0, h1, rfl⟩)
          · simp at hev
        · simp at hev
      · simp at htr
    · split at htr
      · rename_i n e hs
        split at htr
        · rename_i k b z x' y' hinf hx hy
          have hi := Option.some.inj htr
          cases i <;> cases hi
          simp only [evI] at hev
          split at hev
          · rename_i n' g idx off j hv hj
            split at hev
            · rename_i hc
              simp only [Option.some.injEq, Prod.mk.injEq] at hev
              obtain ⟨rfl, rfl⟩ := hev
              exact ixa_sound hS hT hop hs hinf hx hy hj hc.1 hc.2 (.inl ⟨n', g, idx, off, hv, rfl⟩)
            · simp at hev
          · rename_i cs off j hv hj
            split at hev
            · rename_i hc
              simp only [Option.some.injEq, Prod.mk.injEq] at hev
              obtain ⟨rfl, rfl⟩ := hev
              exact ixa_sound hS hT hop hs hinf hx hy hj hc.1 hc.2 (.inr ⟨cs, off, hv, rfl⟩)
            · simp at hev
          · simp at hev
        · simp at htr
      · simp at htr
  · -- index
    rename_i t x y hop
    split at htr
    · rename_i n e hs
      split at htr
      · rename_i k b z g x' y' hinf hg hx hy
        split at htr
        · rename_i hgk
          have hi := Option.some.inj htr
          cases i <;> cases hi
          simp only [evI] at hev
          split at hev
          · rename_i cs j hc hj
            by_cases hcnd : 0 ≤ j ∧ j < n ∧ j.toNat * (if g = true then k else 1) + (if g = true then k else 1) ≤ cs.length
            · rw [if_pos hcnd] at hev
              obtain ⟨v', h1, he⟩ := Option.map_eq_some_iff.1 hev
              simp only [Prod.mk.injEq] at he
              obtain ⟨rfl, rfl⟩ := he
              exact index_sound hS hT hop hs hinf hg (fun hg0 => by rcases hgk with h | h; rw [h] at hg0; cases hg0; exact h) hx hy hc hj hcnd.1 hcnd.2.1 hcnd.2.2 h1
            · rw [if_neg hcnd] at hev; cases hev
          · simp at hev
        · simp at htr
      · simp at htr
    · simp at htr
  · -- extract
    rename_i x j hop
    obtain ⟨x', hx, hi⟩ := Option.map_eq_some_iff.1 htr
    cases i <;> cases hi
    simp only [evI] at hev
    split at hev
    · rename_i vs hv
      obtain ⟨v', h1, he⟩ := Option.map_eq_some_iff.1 hev
      simp only [Prod.mk.injEq] at he
      obtain ⟨rfl, rfl⟩ := he
      exact ext_sound hS hT hop hx hv h1
    · simp at hev
  · -- call
    rename_i c hop
    split at htr
    · rename_i fo hcal
      split at htr
      · rename_i fx xs hf hx
        have hi := Option.some.inj htr
        cases i <;> cases hi
        simp only [evI] at hev
        split at hev
        · rename_i f hv
          exact call_sound hcl hS hT (hop.trans (by rw [← callOp_eq hcal rfl rfl])) hf hx hv hev
        · simp at hev
      · simp at htr
    · rename_i b hcal
      split at htr
      · -- len
        rename_i x' hargs
        split at htr
        · rename_i t ht
          split at htr
          · rename_i e hs
            have hi := Option.some.inj htr
            cases i <;> cases hi
            simp only [evI] at hev
            obtain ⟨n, h1, he⟩ := Option.map_eq_some_iff.1 hev
            simp only [Prod.mk.injEq] at he
            obtain ⟨rfl, rfl⟩ := he
            have h1' : ∃ n0 : Nat, lenV (evX tm x') = some n0 ∧ n = n0 := by
              cases h : lenV (evX tm x') with
              | none => rw [h] at h1; cases h1
              | some n0 => rw [h] at h1; exact ⟨n0, rfl, (Option.some.inj h1).symm⟩
            obtain ⟨n0, h1n, rfl⟩ := h1'
            generalize hca : c.args.toList = as at hargs
            cases as with
            | nil => cases mapM_nil_some hargs
            | cons x as =>
              obtain ⟨x2, xs2, hx, hx2, e2⟩ := mapM_cons_some hargs
              injection e2 with e2 e3
              subst e2; subst e3
              cases as with
              | nil => exact len_sound hS hT (hop.trans (by rw [← callOp_eq hcal (arr_of hca) rfl])) ht hs hx h1n
              | cons y as =>
                obtain ⟨_, _, _, _, e4⟩ := mapM_cons_some hx2
                cases e4
          · simp at htr
        · simp at htr
      · -- append
        rename_i s' x' hargs
        split at htr
        · rename_i t u hts
          split at htr
          · rename_i e hs
            split at htr
            · rename_i htu
              subst htu
              split at htr
              · rename_i k b z hinf
                have hi := Option.some.inj htr
                cases i <;> cases hi
                simp only [evI] at hev
                generalize hca : c.args.toList = as at hargs
                cases as with
                | nil => cases mapM_nil_some hargs
                | cons x as =>
                  obtain ⟨x2, xs2, hx, hx2, e2⟩ := mapM_cons_some hargs
                  injection e2 with e2 e3
                  subst e2; subst e3
                  cases as with
                  | nil => cases mapM_nil_some hx2
                  | cons y as =>
                    obtain ⟨y2, ys2, hy, hy2, e4⟩ := mapM_cons_some hx2
                    injection e4 with e4 e5
                    subst e4; subst e5
                    cases as with
                    | nil => exact app_sound hS hT (hop.trans (by rw [← callOp_eq hcal (arr_of hca) (arr_of hts)])) hs hinf hx hy hev
                    | cons y as =>
                      obtain ⟨_, _, _, _, e6⟩ := mapM_cons_some hy2
                      cases e6
              · simp at htr
            · simp at htr
          · simp at htr
        · simp at htr
      · -- min
        rename_i xs hargs
        have hi := Option.some.inj htr
        cases i <;> cases hi
        simp only [evI] at hev
        split at hev
        · rename_i k n vs hv
          obtain ⟨m, h1, he⟩ := Option.map_eq_some_iff.1 hev
          simp only [Prod.mk.injEq] at he
          obtain ⟨rfl, rfl⟩ := he
          exact mn_sound hS hT (hop.trans (by rw [← callOp_eq hcal rfl rfl])) hargs hv h1
        · simp at hev
      · -- max
        rename_i xs hargs
        have hi := Option.some.inj htr
        cases i <;> cases hi
        simp only [evI] at hev
        split at hev
        · rename_i k n vs hv
          obtain ⟨m, h1, he⟩ := Option.map_eq_some_iff.1 hev
          simp only [Prod.mk.injEq] at he
          obtain ⟨rfl, rfl⟩ := he
          exact mx_sound hS hT (hop.trans (by rw [← callOp_eq hcal rfl rfl])) hargs hv h1
        · simp at hev
      · simp at htr
    · simp at htr
  · -- makeMap
    rename_i t hop
    have hi := Option.some.inj htr
    cases i <;> cases hi
    obtain ⟨M1, h1, he⟩ := Option.map_eq_some_iff.1 hev
    simp only [Prod.mk.injEq] at he
    obtain ⟨rfl, rfl⟩ := he
    exact mkmap_sound hS hop h1
  · -- lookup
    rename_i t m key ok hop
    split at htr
    · rename_i K e ht
      split at htr
      · rename_i kind inf m' key' hK hinf hm hk
        have fin : ∀ {g : Bool} {zs : List Z} {z : Value} {vz : V}, inf.zero = some z → RV1 w Γ vz z → mkV g (zs.map ofZ) = some vz → I.look ok g zs m' key' = erI i → OpOK P o a w Γ M v M' := by
          intro g0 zs z vz hz hvz hmk hi
          cases i <;> cases hi
          simp only [evI] at hev
          split at hev
          · rename_i n g kc hv1 hv2
            split at hev
            · rename_i g' es hM
              split at hev
              · rename_i hg
                subst hg
                have hl : ∀ {r : Option V}, lookM kc es = some r → _ := fun {r} => look_sound (r := r) hS hT hop ht hK hinf hz hvz hm hk hv1 hv2 hM
                split at hev
                · rename_i r hr
                  simp only [Option.some.injEq, Prod.mk.injEq] at hev
                  obtain ⟨rfl, rfl⟩ := hev
                  exact hl hr
                · rename_i hr
                  simp only [hmk, Option.map_some, Option.some.injEq, Prod.mk.injEq] at hev
                  obtain ⟨rfl, rfl⟩ := hev
                  exact hl hr
                · simp at hev
              · simp at hev
            · simp at hev
          · simp at hev
        split at htr
        · rename_i cs hz
          split at htr
          · rename_i h0
            have : cs = #[] := Array.eq_empty_of_size_eq_zero h0
            subst this
            exact fin hz ⟨[], rfl, trivial⟩ (vz := .agg []) rfl (Option.some.inj htr)
          · simp at htr
        · rename_i z hna hz
          split at htr
          · rename_i zz hzz
            exact fin hz (vz := .c (ofZ zz)) (zOf_R hzz) rfl (Option.some.inj htr)
          · simp at htr
        · simp at htr
      · simp at htr
    · simp at htr
  · -- mapUpdate
    rename_i t m key x hop
    split at htr
    · rename_i K e ht
      split at htr
      · rename_i kind m' key' x' hK hm hk hx
        have hi := Option.some.inj htr
        cases i <;> cases hi
        simp only [evI] at hev
        split at hev
        · rename_i n g kc cs hv1 hv2 hv3
          split at hev
          · rename_i g' es hM
            split at hev
            · rename_i hg
              subst hg
              obtain ⟨es', h1, he⟩ := Option.map_eq_some_iff.1 hev
              simp only [Prod.mk.injEq] at he
              obtain ⟨rfl, rfl⟩ := he
              exact upd_sound hS hT hop ht hK hm hk hx hv1 hv2 hv3 hM h1
            · simp at hev
          · simp at hev
        · simp at hev
      · simp at htr
    · simp at htr
  · simp at htr

end
end Go.Proofs.Ytopcnhojkfeafaa.Am
