/- AM: that what an instruction comes to is what Go's operation comes to: maps, the least and the greatest. -/
import Derived.Test.YtopcnhojkfeafaaAmOp7
set_option linter.unusedSimpArgs false
set_option linter.unusedVariables false
namespace Go.Proofs.Ytopcnhojkfeafaa.Am
open Go.RowKit

section
variable {P : Program} {o : Oper} {a : Act} {w : World} {Γ : Env} {M : Mem} {tm : List V}

theorem minL_sound (w : World) : ∀ {vs : List V} {ys : List Value} {k : IntKind} {m n : Int}, RAll w Γ vs ys → minL k m vs = some n → (ys.foldlM Builtin.min2 (.int k m)).run P w = .ok (.int k n) w
  | [], [], k, m, n, _, h => by simp only [minL, Option.some.injEq] at h; subst h; rfl
  | v :: vs, y :: ys, k, m, n, h, hm => by
    unfold minL at hm
    split at hm
    · simp at *
    · rename_i k' m' k2 n2 vs2 heq
      injection heq with e1 e2
      subst e1; subst e2
      split at hm
      · rename_i hk; subst hk
        rw [int_sound h.1]
        simp only [List.foldlM_cons, Sem.run_bind, Builtin.min2, Sem.run_pure, Result.andThen_ok]
        exact minL_sound w h.2 hm
      · simp at hm
    · simp at hm
  | [], _ :: _, _, _, _, h, _ => h.elim
  | _ :: _, [], _, _, _, h, _ => h.elim

theorem maxL_sound (w : World) : ∀ {vs : List V} {ys : List Value} {k : IntKind} {m n : Int}, RAll w Γ vs ys → maxL k m vs = some n → (ys.foldlM Builtin.max2 (.int k m)).run P w = .ok (.int k n) w
  | [], [], k, m, n, _, h => by simp only [maxL, Option.some.injEq] at h; subst h; rfl
  | v :: vs, y :: ys, k, m, n, h, hm => by
    unfold maxL at hm
    split at hm
    · simp at *
    · rename_i k' m' k2 n2 vs2 heq
      injection heq with e1 e2
      subst e1; subst e2
      split at hm
      · rename_i hk; subst hk
        rw [int_sound h.1]
        simp only [List.foldlM_cons, Sem.run_bind, Builtin.max2, Sem.run_pure, Result.andThen_ok]
        exact maxL_sound w h.2 hm
      · simp at hm
    · simp at hm
  | [], _ :: _, _, _, _, h, _ => h.elim
  | _ :: _, [], _, _, _, h, _ => h.elim

theorem mn_sound (hS : Sim w Γ M) (hT : Tm w Γ tm a) {xs : Array Operand} {ts : Array TypeId} {xs' : List X} {k : IntKind} {n m : Int} {vs : List V} (hop : o.op = .call ⟨.builtin .min, xs, ts⟩) (hx : xs.toList.mapM xOf = some xs') (h1 : xs'.map (evX tm) = .c (.int k n) :: vs)
    (h2 : minL k n vs = some m) : OpOK P o a w Γ M (.c (.int k m)) M := by
  have hR := RAll.of_map hT hx
  rw [h1] at hR
  have hl : xs.toList.map a.eval = (xs.map a.eval).toList := by simp
  rw [hl] at hR
  refine OpOK.same hS (x := .int k m) ?_ (int_R _ _)
  have : (Builtin.min_ ts o.type (xs.map a.eval)).run P w = .ok (.int k m) w := by
    unfold Builtin.min_
    revert hR
    generalize (xs.map a.eval).toList = ys
    intro hR
    match ys, hR with
    | [], hR => exact hR.elim
    | y :: ys, hR =>
      rw [int_sound hR.1]
      exact minL_sound w hR.2 h2
  simp [execOp, hop, resolve, invoke, builtin, this, Result.andThen]

theorem mx_sound (hS : Sim w Γ M) (hT : Tm w Γ tm a) {xs : Array Operand} {ts : Array TypeId} {xs' : List X} {k : IntKind} {n m : Int} {vs : List V} (hop : o.op = .call ⟨.builtin .max, xs, ts⟩) (hx : xs.toList.mapM xOf = some xs') (h1 : xs'.map (evX tm) = .c (.int k n) :: vs)
    (h2 : maxL k n vs = some m) : OpOK P o a w Γ M (.c (.int k m)) M := by
  have hR := RAll.of_map hT hx
  rw [h1] at hR
  have hl : xs.toList.map a.eval = (xs.map a.eval).toList := by simp
  rw [hl] at hR
  refine OpOK.same hS (x := .int k m) ?_ (int_R _ _)
  have : (Builtin.max_ ts o.type (xs.map a.eval)).run P w = .ok (.int k m) w := by
    unfold Builtin.max_
    revert hR
    generalize (xs.map a.eval).toList = ys
    intro hR
    match ys, hR with
    | [], hR => exact hR.elim
    | y :: ys, hR =>
      rw [int_sound hR.1]
      exact maxL_sound w hR.2 h2
  simp [execOp, hop, resolve, invoke, builtin, this, Result.andThen]

/-! ### Maps -/

theorem mkmap_sound (hS : Sim w Γ M) {t : TypeId} {n : Nat} {M' : Mem} (hop : o.op = .makeMap t none) (hset : setB M n (fun g => .map g []) = some M') : OpOK P o a w Γ M (.c (.mref n (genAt M n))) M' := by
  obtain ⟨hn, rfl⟩ := setB_some hset
  have hput : Put w Γ M { w with heap := w.heap.push (.map #[] 0) } n (genAt M n) (.at w.heap.size 0 0 0) := by
    refine ⟨hn.1, hn.2, .inl (fresh_old), fun g' hg => fresh_gen hS hn.2 _ (by omega), rfl, rfl, rfl, by simp, fun b hb _ => by rw [Array.getElem?_push]; simp; omega, ?_⟩
    intro b o k' tc' e
    injection e with e1 e2 e3 e4
    subst e1
    exact .inl ⟨Nat.le_refl _, by simp⟩
  have he := hput.ext (B := .map (genAt M n) []) rfl
  refine OpOK.value (x := .map (some w.heap.size)) ?_ (hput.sim hS rfl ?_) he (R.mref _ _ _ (Env.put_same _ _ _ _))
  · simp [execOp, hop, Instr.makeMap]
  · exact ⟨w.heap.size, #[], 0, Env.put_same _ _ _ _, hS.base, fun hF => by have := hS.Fb _ hF; omega, by simp, trivial⟩

theorem map_shape {n g : Nat} {x : Value} (h : RVal w Γ (.c (.mref n g)) x) : ∃ b, Γ.be n g = .at b 0 0 0 ∧ x = .map (some b) := by
  cases (show R w Γ _ _ from h) with
  | im h => cases h
  | mref n g b hbe => exact ⟨b, hbe, rfl⟩

theorem keyEq_some {c d : C} {x y : Value} {b : Bool} (h : R w Γ c x) (k : R w Γ d y) (he : keyEq c d = some b) (kind : IntKind) : Instr.sameNow (.int kind) x y = some b ∧ ∃ j m n, x = .int j m ∧ y = .int j n ∧ b = (m == n) := by
  unfold keyEq at he
  split at he
  · rename_i k1 m k2 n
    split at he
    · rename_i hk; subst hk
      simp only [Option.some.injEq] at he
      subst he
      rw [int_sound (show RVal w Γ (.c _) _ from h), int_sound (show RVal w Γ (.c _) _ from k)]
      exact ⟨by simp [Instr.sameNow], k1, m, n, rfl, rfl, rfl⟩
    · simp at he
  · simp at he

theorem look_found (kind : IntKind) {key : C} {x : Value} (hk : R w Γ key x) : ∀ {es : List (C × V)} {ms : List MapEntry} {r : Option V} (i : Nat), EntR w Γ es ms → lookM key es = some r →
    (r = none → Instr.findNow (.int kind) x ms i = some none) ∧ ∀ v, r = some v → ∃ j y, Instr.findNow (.int kind) x ms i = some (some (j, y)) ∧ RV1 w Γ v y
  | [], [], r, i, _, h => by
    simp only [lookM, Option.some.injEq] at h
    subst h
    exact ⟨fun _ => rfl, fun v h => by cases h⟩
  | (k, v) :: es, m :: ms, r, i, he, h => by
    unfold lookM at h
    split at h
    · rename_i hq
      simp only [Option.some.injEq] at h
      subst h
      have := (keyEq_some hk he.1 hq kind).1
      refine ⟨fun h => (by cases h), fun v' hv => ⟨i, m.val, ?_, ?_⟩⟩
      · simp [Instr.findNow, this]
      · injection hv with hv; subst hv; exact he.2.1
    · rename_i hq
      have h1 := (keyEq_some hk he.1 hq kind).1
      have ih := look_found kind hk (i + 1) he.2.2 h
      refine ⟨fun h => ?_, fun v hv => ?_⟩
      · simp only [Instr.findNow, h1]; exact ih.1 h
      · obtain ⟨j, y, h2, h3⟩ := ih.2 v hv
        exact ⟨j, y, by simp only [Instr.findNow, h1]; exact h2, h3⟩
    · simp at h
  | [], _ :: _, _, _, h, _ => h.elim
  | (_, _) :: _, [], _, _, h, _ => h.elim

theorem run_checkKey_int {t : TypeId} {k : IntKind} (h : P.underlying t = some (.int k)) (b : Bool) (n : Nat) (x : Value) : (Instr.checkKey b (n + 1) t x).run P w = .ok () w := by
  simp only [Instr.checkKey, Sem.run_bind, run_underlying h, Result.andThen_ok]
  rfl

theorem mapAt_some {n g : Nat} {es : List (C × V)} (h : mapAt M n = some (g, es)) : M.getD n none = some (.map g es) := by
  unfold mapAt at h
  split at h
  · rename_i hM
    simp only [Option.some.injEq, Prod.mk.injEq] at h
    rw [← h.1, ← h.2]; exact hM
  · simp at h

theorem map_at {n g : Nat} {es : List (C × V)} {b : Nat} (hS : Sim w Γ M) (hM : M.getD n none = some (.map g es)) (hbe : Γ.be n g = .at b 0 0 0) : ∃ ents clock, w.heap[b]? = some (.map ents clock) ∧ EntR w Γ es ents.toList := by
  obtain ⟨b', ents, clock, h1, h2, h3, h4, h5⟩ := hS.blk n _ hM
  rw [h1] at hbe
  injection hbe with e1
  subst e1
  exact ⟨ents, clock, h4, h5⟩

theorem look_sound (hS : Sim w Γ M) (hT : Tm w Γ tm a) {t K e : TypeId} {kind : IntKind} {i : TypeInfo} {z : Value} {vz : V} {m key : Operand} {m' key' : X} {ok : Bool} {n g : Nat} {kc : C} {es : List (C × V)} {r : Option V} (hop : o.op = .lookup t m key ok) (ht : P.underlying t = some (.map K e))
    (hK : intT P K = some kind) (hi : P.info? e = some i) (hz : i.zero = some z) (hvz : RV1 w Γ vz z) (hm : xOf m = some m') (hk : xOf key = some key') (h1 : evX tm m' = .c (.mref n g)) (h2 : evX tm key' = .c kc) (hM : mapAt M n = some (g, es)) (hl : lookM kc es = some r) :
    OpOK P o a w Γ M (if ok then .tup [r.getD vz, .c (.bool r.isSome)] else r.getD vz) M := by
  have hX := evX_R hT hm
  have hY := evX_R hT hk
  rw [h1] at hX; rw [h2] at hY
  obtain ⟨b, hbe, hme⟩ := map_shape hX
  obtain ⟨ents, clock, hheap, hent⟩ := map_at hS (mapAt_some hM) hbe
  have hki := intT_some hK
  have hf := look_found kind (show R w Γ kc _ from hY) 0 hent hl
  have hck := run_checkKey_int (w := w) hki ents.isEmpty 9999 (a.eval key)
  have hg : (getObj b).run P w = .ok (.map ents clock) w := by simp [getObj, Sem.run, hheap]
  cases r with
  | none =>
    have hn := hf.1 rfl
    have hrun : (Instr.lookup t (a.eval m) (a.eval key) ok).run P w = .ok (if ok then .tuple #[z, .bool false] else z) w := by
      rw [hme]
      simp only [Instr.lookup, Sem.run_bind, run_underlying ht, Result.andThen_ok, hg, Sem.run_pure, hck, Instr.findKey, run_underlying hki, hn, zeroValue, typeInfo, run_program, hi, hz]
      try (cases ok <;> rfl)
    refine OpOK.same hS (x := if ok then .tuple #[z, .bool false] else z) (by simp [execOp, hop, hrun]) ?_
    cases ok with
    | false =>
      cases vz with
      | tup vs => exact hvz.elim
      | _ => exact hvz
    | true => exact ⟨[z, .bool false], rfl, hvz, R.im (.bool _ _), trivial⟩
  | some v =>
    obtain ⟨j, y, hn, hv⟩ := hf.2 v rfl
    have hrun : (Instr.lookup t (a.eval m) (a.eval key) ok).run P w = .ok (if ok then .tuple #[y, .bool true] else y) w := by
      rw [hme]
      simp only [Instr.lookup, Sem.run_bind, run_underlying ht, Result.andThen_ok, hg, Sem.run_pure, hck, Instr.findKey, run_underlying hki, hn]
      try (cases ok <;> rfl)
    refine OpOK.same hS (x := if ok then .tuple #[y, .bool true] else y) (by simp [execOp, hop, hrun]) ?_
    cases ok with
    | false =>
      cases v with
      | tup vs => exact hv.elim
      | _ => exact hv
    | true => exact ⟨[y, .bool true], rfl, hv, R.im (.bool _ _), trivial⟩

theorem upd_found (kind : IntKind) {key : C} {x : Value} (hk : R w Γ key x) {v : V} {y : Value} (hv : RV1 w Γ v y) : ∀ {es es' : List (C × V)} {ms : List MapEntry} (i : Nat), EntR w Γ es ms → updM key v es = some es' →
    (Instr.findNow (.int kind) x ms i = some none ∧ ∀ clock, EntR w Γ es' (ms ++ [{ key := x, val := y, born := clock }])) ∨
    ∃ j z m, Instr.findNow (.int kind) x ms i = some (some (i + j, z)) ∧ ms[j]? = some m ∧ m.key = x ∧ EntR w Γ es' (ms.modify j fun e => { e with key := x, val := y })
  | [], es', [], i, _, h => by
    simp only [updM, Option.some.injEq] at h
    subst h
    exact .inl ⟨rfl, fun clock => ⟨hk, hv, trivial⟩⟩
  | (k, u) :: es, es', m :: ms, i, he, h => by
    unfold updM at h
    split at h
    · rename_i hq
      simp only [Option.some.injEq] at h
      subst h
      obtain ⟨h1, j, p, q, e1, e2, e3⟩ := keyEq_some hk he.1 hq kind
      refine .inr ⟨0, m.val, m, by simp [Instr.findNow, h1], rfl, ?_, hk, hv, he.2.2⟩
      rw [e1, e2]
      have : p = q := by simpa using e3.symm
      rw [this]
    · rename_i hq
      obtain ⟨es2, h2, rfl⟩ := Option.map_eq_some_iff.1 h
      have h1 := (keyEq_some hk he.1 hq kind).1
      rcases upd_found kind hk hv (i + 1) he.2.2 h2 with ⟨h3, h4⟩ | ⟨j, z, m', h3, h4, h5, h6⟩
      · exact .inl ⟨by simp only [Instr.findNow, h1]; exact h3, fun clock => ⟨he.1, he.2.1, h4 clock⟩⟩
      · refine .inr ⟨j + 1, z, m', ?_, h4, h5, he.1, he.2.1, h6⟩
        simp only [Instr.findNow, h1]
        rw [h3]
        congr 3; omega
    · simp at h
  | [], _, _ :: _, _, h, _ => h.elim
  | (_, _) :: _, _, [], _, h, _ => h.elim

theorem updM_key {kc : C} {v : V} : ∀ {es es' : List (C × V)}, updM kc v es = some es' → es ≠ [] → ∃ k n, kc = .int k n
  | [], _, _, h => absurd rfl h
  | (k, u) :: es, es', h, _ => by
    unfold updM at h
    have key : ∀ b, keyEq kc k = some b → ∃ k n, kc = .int k n := fun b hb => by
      unfold keyEq at hb
      split at hb
      · exact ⟨_, _, rfl⟩
      · simp at hb
    split at h
    · rename_i hq; exact key _ hq
    · rename_i hq; exact key _ hq
    · simp at h

theorem RV1.of_cells {v : V} {x : Value} {cs : List C} (h : RVal w Γ v x) (hc : v.cells = some cs) : RV1 w Γ v x := by
  cases v with
  | tup vs => simp [V.cells] at hc
  | _ => exact h

theorem putMap_sim (hS : Sim w Γ M) {n g b clock : Nat} {es es' : List (C × V)} {ents ents' : Array MapEntry} {clock' : Nat} (hM : M.getD n none = some (.map g es)) (hbe : Γ.be n g = .at b 0 0 0) (hheap : w.heap[b]? = some (.map ents clock)) (he : EntR w Γ es' ents'.toList) {w' : World}
    (hw : w' = { w with heap := w.heap.setIfInBounds b (.map ents' clock') }) : Sim w' Γ (M.set n (some (.map g es'))) ∧ Ext All w Γ M w' Γ (M.set n (some (.map g es'))) := by
  subst hw
  have hn : n < M.length := hS.bound n g (by rw [hbe]; simp)
  have hlt : b < w.heap.size := (Array.getElem?_eq_some_iff.1 hheap).1
  have hob : OwnedBy Γ M n b := ⟨_, 0, 0, 0, hM, rfl, hbe⟩
  have hput : Put w Γ M { w with heap := w.heap.setIfInBounds b (.map ents' clock') } n g (.at b 0 0 0) := by
    refine ⟨hn, by rw [hM]; simp, .inr ⟨_, hM, rfl, hbe⟩, fun g2 hg2 => hS.gens n _ hM g2 (fun hu => by have : g2 ≤ g := hu; omega), rfl, rfl, rfl, by simp, fun b' hb' ho => ?_, fun b2 o2 k2 tc2 e => ?_⟩
    · simp only [Array.getElem?_setIfInBounds]
      rw [if_neg (fun (e : b = b') => ho (e ▸ hob))]
    · injection e with e1; subst e1; exact .inr hob
  have hx := hput.ext (B := .map g es') rfl
  have hB := hob.lt hS
  have hs := hput.sim (B := .map g es') hS rfl ⟨b, ents', clock', Env.put_same _ _ _ _, hB.2.1, hB.2.2, by simp [hlt], he.mono hS hx all⟩
  rw [put_id hbe] at hs hx
  exact ⟨hs, hx⟩

theorem upd_sound (hS : Sim w Γ M) (hT : Tm w Γ tm a) {t K e : TypeId} {kind : IntKind} {m key x : Operand} {m' key' x' : X} {n g : Nat} {kc : C} {cs : List C} {es es' : List (C × V)} (hop : o.op = .mapUpdate t m key x) (ht : P.underlying t = some (.map K e))
    (hK : intT P K = some kind) (hm : xOf m = some m') (hk : xOf key = some key') (hx : xOf x = some x') (h1 : evX tm m' = .c (.mref n g)) (h2 : evX tm key' = .c kc) (h3 : (evX tm x').cells = some cs) (hM : mapAt M n = some (g, es)) (hl : updM kc (evX tm x') es = some es') :
    OpOK P o a w Γ M .none (M.set n (some (.map g es'))) := by
  have hX := evX_R hT hm
  have hY := evX_R hT hk
  have hZ := RV1.of_cells (evX_R hT hx) h3
  rw [h1] at hX; rw [h2] at hY
  obtain ⟨b, hbe, hme⟩ := map_shape hX
  obtain ⟨ents, clock, hheap, hent⟩ := map_at hS (mapAt_some hM) hbe
  have hki := intT_some hK
  have hck := run_checkKey_int (w := w) hki false 9999 (a.eval key)
  have hg : (getObj b).run P w = .ok (.map ents clock) w := by simp [getObj, Sem.run, hheap]
  rcases upd_found kind (show R w Γ kc _ from hY) hZ 0 hent hl with ⟨h4, h5⟩ | ⟨j, z, me, h4, h5, h6, h7⟩
  · obtain ⟨s1, s2⟩ := putMap_sim hS (mapAt_some hM) hbe hheap (ents' := ents.push { key := a.eval key, val := a.eval x, born := clock }) (clock' := clock + 1) (by simpa using h5 clock) rfl
    refine OpOK.skip ?_ s1 s2
    have hs : (setObj b (.map (ents.push { key := a.eval key, val := a.eval x, born := clock }) (clock + 1))).run P w = .ok () { w with heap := w.heap.setIfInBounds b (.map (ents.push { key := a.eval key, val := a.eval x, born := clock }) (clock + 1)) } := by simp [setObj, Sem.run, hheap]
    simp only [execOp, hop, hme, Instr.mapUpdate, Sem.run_bind, run_underlying ht, Result.andThen_ok, hg, Sem.run_pure, hck, Instr.findKey, run_underlying hki, h4, hs]
  · obtain ⟨s1, s2⟩ := putMap_sim hS (mapAt_some hM) hbe hheap (ents' := ents.modify j fun e => { e with key := a.eval key, val := a.eval x }) (clock' := clock) (by simpa using h7) rfl
    refine OpOK.skip ?_ s1 s2
    have hs : (setObj b (.map (ents.modify j fun e => { e with key := a.eval key, val := a.eval x }) clock)).run P w = .ok () { w with heap := w.heap.setIfInBounds b (.map (ents.modify j fun e => { e with key := a.eval key, val := a.eval x }) clock) } := by simp [setObj, Sem.run, hheap]
    have hb : Instr.sameBits 10000 (a.eval key) (a.eval key) = true := by
      have hne : es ≠ [] := by
        rintro rfl
        have : ents.toList = [] := by
          revert hent
          generalize ents.toList = ms
          intro hent
          cases ms with
          | nil => rfl
          | cons m ms => exact hent.elim
        rw [this] at h5
        simp at h5
      obtain ⟨q, n, rfl⟩ := updM_key hl hne
      rw [int_sound hY]
      simp [Instr.sameBits]
    have he : ((ents[j]?).map (·.key)).getD (a.eval key) = a.eval key := by
      have : ents[j]? = some me := by rw [← Array.getElem?_toList]; exact h5
      rw [this]; exact h6
    rw [Nat.zero_add] at h4
    simp only [execOp, hop, hme, Instr.mapUpdate, Sem.run_bind, run_underlying ht, Result.andThen_ok, hg, Sem.run_pure, hck, Instr.findKey, run_underlying hki, h4, he, Instr.keyThatStays, hb, if_true, hs]

end
end Go.Proofs.Ytopcnhojkfeafaa.Am
