/- AM: that what an instruction comes to is what Go's operation comes to: arithmetic, comparisons, slicing. -/
import Derived.Test.YtopcnhojkfeafaaAmOp2
import Derived.Laws.StructEq
set_option linter.unusedSimpArgs false
set_option linter.unusedVariables false
namespace Go.Proofs.Ytopcnhojkfeafaa.Am
open Go.RowKit

section
variable {P : Program} {o : Oper} {a : Act} {w : World} {Γ : Env} {M : Mem} {tm : List V}

/-- What a binary operation on values comes to. -/
def runBin (P : Program) (op : BinOp) (t : TypeId) (x y : Operand) (u v : Value) (w : World) : Result Value := (do eqGuard op t x y u v; binOp op t u v : Sem Value).run P w

theorem exec_bin {op : BinOp} {t t' : TypeId} {x y : Operand} (hop : o.op = .binOp op t x y t') {r : Value} {w' : World} (h : runBin P op t x y (a.eval x) (a.eval y) w = .ok r w') : (execOp a.eval o).run P w = .ok (.value r) w' := by
  have e : (execOp a.eval o).run P w = (runBin P op t x y (a.eval x) (a.eval y) w).andThen fun r w => .ok (.value r) w := by
    simp only [execOp, hop, runBin]
    rw [Sem.run_bind]
    rfl
  rw [e, h]
  rfl

theorem eqGuard_int (op : BinOp) (t : TypeId) (x y : Operand) (k k' : IntKind) (m n : Int) (w : World) : (eqGuard op t x y (.int k m) (.int k' n)).run P w = .ok () w := by
  cases op <;> rfl

theorem runBin_int (op : BinOp) (t : TypeId) (x y : Operand) (k k' : IntKind) (m n : Int) (w : World) : runBin P op t x y (.int k m) (.int k' n) w = (binOp op t (.int k m) (.int k' n)).run P w := by
  unfold runBin
  rw [Sem.run_bind, eqGuard_int]
  rfl

theorem evShift_sound {op : BinOp} {op' : B} {k k' : IntKind} {m n : Int} {c : C} {t : TypeId} (ho : (op = .shl ∧ op' = .shl) ∨ (op = .shr ∧ op' = .shr)) (h : evShift op' k m n = some c) :
    ∃ r, (binOp op t (.int k m) (.int k' n)).run P w = .ok r w ∧ R w Γ c r := by
  unfold evShift at h
  split at h
  · simp at h
  · rename_i hn
    rcases ho with ⟨rfl, rfl⟩ | ⟨rfl, rfl⟩
    · simp only [Option.some.injEq] at h; subst h
      refine ⟨.int k (k.wrap (m * 2 ^ (min n.toNat k.bits))), ?_, .im (.int _ _ _)⟩
      simp only [binOp, Op.shift, if_neg hn]
      rfl
    · simp only [Option.some.injEq] at h; subst h
      refine ⟨.int k (m.fdiv (2 ^ (min n.toNat k.bits))), ?_, .im (.int _ _ _)⟩
      simp only [binOp, Op.shift, if_neg hn]
      rfl

theorem evBinI_sound {op : BinOp} {op' : B} {k : IntKind} {m n : Int} {c : C} {t : TypeId} (ho : opOf P op t = some op') (h : evBinI op' k m n = some c) :
    ∃ r, (binOp op t (.int k m) (.int k n)).run P w = .ok r w ∧ R w Γ c r := by
  cases op with
  | add => simp only [opOf, Option.some.injEq] at ho; subst ho; simp only [evBinI, Option.some.injEq] at h; subst h; exact ⟨_, by simp [binOp, Op.intArith], .im (.int _ _ _)⟩
  | sub => simp only [opOf, Option.some.injEq] at ho; subst ho; simp only [evBinI, Option.some.injEq] at h; subst h; exact ⟨_, by simp [binOp, Op.intArith], .im (.int _ _ _)⟩
  | mul => simp only [opOf, Option.some.injEq] at ho; subst ho; simp only [evBinI, Option.some.injEq] at h; subst h; exact ⟨_, by simp [binOp, Op.intArith], .im (.int _ _ _)⟩
  | quo =>
    simp only [opOf, Option.some.injEq] at ho; subst ho; simp only [evBinI] at h
    split at h
    · simp at h
    · rename_i hn
      simp only [Option.some.injEq] at h; subst h
      exact ⟨_, by simp [binOp, Op.intDiv, hn], .im (.int _ _ _)⟩
  | rem =>
    simp only [opOf, Option.some.injEq] at ho; subst ho; simp only [evBinI] at h
    split at h
    · simp at h
    · rename_i hn
      simp only [Option.some.injEq] at h; subst h
      exact ⟨_, by simp [binOp, Op.intDiv, hn], .im (.int _ _ _)⟩
  | and => simp only [opOf, Option.some.injEq] at ho; subst ho; simp only [evBinI, Option.some.injEq] at h; subst h; exact ⟨_, by simp [binOp, Op.intBits, evBits], .im (.int _ _ _)⟩
  | or => simp only [opOf, Option.some.injEq] at ho; subst ho; simp only [evBinI, Option.some.injEq] at h; subst h; exact ⟨_, by simp [binOp, Op.intBits, evBits], .im (.int _ _ _)⟩
  | xor => simp only [opOf, Option.some.injEq] at ho; subst ho; simp only [evBinI, Option.some.injEq] at h; subst h; exact ⟨_, by simp [binOp, Op.intBits, evBits], .im (.int _ _ _)⟩
  | andNot => simp only [opOf, Option.some.injEq] at ho; subst ho; simp only [evBinI, Option.some.injEq] at h; subst h; exact ⟨_, by simp [binOp, Op.intBits, evBits], .im (.int _ _ _)⟩
  | shl => simp only [opOf, Option.some.injEq] at ho; subst ho; simp [evBinI] at h
  | shr => simp only [opOf, Option.some.injEq] at ho; subst ho; simp [evBinI] at h
  | lss => simp only [opOf, Option.some.injEq] at ho; subst ho; simp only [evBinI, Option.some.injEq] at h; subst h; exact ⟨_, by simp [binOp, Op.intCmp], .im (.bool _ _)⟩
  | leq => simp only [opOf, Option.some.injEq] at ho; subst ho; simp only [evBinI, Option.some.injEq] at h; subst h; exact ⟨_, by simp [binOp, Op.intCmp], .im (.bool _ _)⟩
  | gtr => simp only [opOf, Option.some.injEq] at ho; subst ho; simp only [evBinI, Option.some.injEq] at h; subst h; exact ⟨_, by simp [binOp, Op.intCmp], .im (.bool _ _)⟩
  | geq => simp only [opOf, Option.some.injEq] at ho; subst ho; simp only [evBinI, Option.some.injEq] at h; subst h; exact ⟨_, by simp [binOp, Op.intCmp], .im (.bool _ _)⟩
  | eql =>
    have : op' = .eql ∨ evBinI op' k m n = none := by
      simp only [opOf] at ho
      split at ho <;> first
        | (simp only [Option.some.injEq] at ho; subst ho; first | exact .inl rfl | exact .inr rfl)
        | (split at ho
           · simp only [Option.some.injEq] at ho; subst ho; exact .inr rfl
           · simp at ho)
        | simp at ho
    rcases this with rfl | e
    · simp only [evBinI, Option.some.injEq] at h; subst h; exact ⟨_, by simp [binOp, Op.intCmp], .im (.bool _ _)⟩
    · rw [e] at h; simp at h
  | neq =>
    have : op' = .neq ∨ evBinI op' k m n = none := by
      simp only [opOf] at ho
      split at ho <;> first
        | (simp only [Option.some.injEq] at ho; subst ho; first | exact .inl rfl | exact .inr rfl)
        | (split at ho
           · simp only [Option.some.injEq] at ho; subst ho; exact .inr rfl
           · simp at ho)
        | simp at ho
    rcases this with rfl | e
    · simp only [evBinI, Option.some.injEq] at h; subst h; exact ⟨_, by simp [binOp, Op.intCmp], .im (.bool _ _)⟩
    · rw [e] at h; simp at h

theorem equal_succ (t : TypeId) (u v : Value) : Op.equal t u v = Op.equalIn (9999 + 1) t u v := rfl

/-- The equality of values, at a type, where it is decided. -/
def EqRun (P : Program) (t : TypeId) (x y : Operand) (u v : Value) (w : World) (b : Bool) : Prop :=
  (∀ op, op = .eql ∨ op = .neq → (eqGuard op t x y u v).run P w = .ok () w) ∧ (Op.equal t u v).run P w = .ok b w ∧ (∀ op, op = .eql ∨ op = .neq → binOp op t u v = (if op = .eql then (do pure (.bool (← Op.equal t u v))) else (do pure (.bool (!(← Op.equal t u v))))))

theorem EqRun.eql {t : TypeId} {x y : Operand} {u v : Value} {b : Bool} (h : EqRun P t x y u v w b) : runBin P .eql t x y u v w = .ok (.bool b) w := by
  unfold runBin
  rw [Sem.run_bind, h.1 _ (.inl rfl), Result.andThen_ok, h.2.2 _ (.inl rfl)]
  simp [h.2.1]

theorem EqRun.neq {t : TypeId} {x y : Operand} {u v : Value} {b : Bool} (h : EqRun P t x y u v w b) : runBin P .neq t x y u v w = .ok (.bool (!b)) w := by
  unfold runBin
  rw [Sem.run_bind, h.1 _ (.inr rfl), Result.andThen_ok, h.2.2 _ (.inr rfl)]
  simp [h.2.1]

theorem EqRun.bool {t : TypeId} {x y : Operand} (ht : P.underlying t = some .bool) (u v : Bool) : EqRun P t x y (.bool u) (.bool v) w (u == v) := by
  refine ⟨fun op h => by rcases h with rfl | rfl <;> rfl, ?_, fun op h => by rcases h with rfl | rfl <;> rfl⟩
  rw [equal_succ]
  generalize 9999 = d
  simp only [Op.equalIn, Sem.run_bind, run_underlying ht, Result.andThen_ok]
  rfl

theorem EqRun.ptr {t e : TypeId} {x y : Operand} {c d : C} {u v : Value} {b : Bool} (ht : P.underlying t = some (.pointer e)) (hu : R w Γ c u) (hv : R w Γ d v) (h : eqPtr c d = some b) : EqRun P t x y u v w b := by
  have hN : ∀ {u}, R w Γ .nilptr u → u = .pointer none := fun h => by cases h with | im h => cases h; rfl
  have hP : ∀ {n g i off u}, R w Γ (.ptr n g i off) u → ∃ q, u = .pointer (some q) := fun h => by cases h with | im h => cases h | ptr => exact ⟨_, rfl⟩
  have hI : ∀ {cs off u}, R w Γ (.iptr cs off) u → ∃ q, u = .pointer (some q) := fun h => by cases h with | im h => cases h | iptr => exact ⟨_, rfl⟩
  have key : ∀ (u v : Option Addr) (b : Bool), (u = none ∨ v = none) → b = (u.isNone && v.isNone) → EqRun P t x y (.pointer u) (.pointer v) w b := by
    intro u v b huv hb
    refine ⟨fun op h => by rcases h with rfl | rfl <;> rfl, ?_, fun op h => ?_⟩
    · rw [equal_succ]
      generalize 9999 = d
      simp only [Op.equalIn, Sem.run_bind, run_underlying ht, Result.andThen_ok]
      rcases huv with rfl | rfl
      · simp [hb]
      · cases u <;> simp [hb]
    · rcases h with rfl | rfl <;> rfl
  unfold eqPtr at h
  split at h <;> first
    | (simp only [Option.some.injEq] at h; subst h)
    | simp at h
  · rw [hN hu, hN hv]; exact key _ _ _ (.inl rfl) rfl
  · obtain ⟨q, rfl⟩ := hP hv; rw [hN hu]; exact key _ _ _ (.inl rfl) rfl
  · obtain ⟨q, rfl⟩ := hP hu; rw [hN hv]; exact key _ _ _ (.inr rfl) rfl
  · obtain ⟨q, rfl⟩ := hI hv; rw [hN hu]; exact key _ _ _ (.inl rfl) rfl
  · obtain ⟨q, rfl⟩ := hI hu; rw [hN hv]; exact key _ _ _ (.inr rfl) rfl

theorem EqRun.sl {t e : TypeId} {x y : Operand} {c d : C} {u v : Value} {b : Bool} (ht : P.underlying t = some (.slice e)) (hu : R w Γ c u) (hv : R w Γ d v) (h : eqSl c d = some b) : EqRun P t x y u v w b := by
  have hN : ∀ {u}, R w Γ .nilsl u → u = .slice none 0 0 := fun h => by cases h with | im h => cases h; rfl
  have hI : ∀ {t k x xs u}, R w Γ (.imm t k (x :: xs)) u → ∃ q l c, u = .slice (some q) l c := fun h => by
    cases h with
    | im h => cases h with
      | imm => exact ⟨_, _, _, rfl⟩
  unfold eqSl at h
  split at h <;> first
    | (simp only [Option.some.injEq] at h; subst h)
    | simp at h
  · rw [hN hu, hN hv]
    refine ⟨fun op h => by rcases h with rfl | rfl <;> rfl, ?_, fun op h => by rcases h with rfl | rfl <;> rfl⟩
    rw [equal_succ]
    generalize 9999 = d
    simp only [Op.equalIn, Sem.run_bind, run_underlying ht, Result.andThen_ok]
    rfl
  · obtain ⟨q, l, c, rfl⟩ := hI hu; rw [hN hv]
    refine ⟨fun op h => by rcases h with rfl | rfl <;> rfl, ?_, fun op h => by rcases h with rfl | rfl <;> rfl⟩
    rw [equal_succ]
    generalize 9999 = d
    simp only [Op.equalIn, Sem.run_bind, run_underlying ht, Result.andThen_ok]
    rfl


/-! ### Structs of whole numbers -/

theorem intsT_some {t : TypeId} (h : intsT P t = true) : ∃ fs : Array Field, P.underlying t = some (.struct fs) ∧ (∀ (i : Nat) (f : Field), fs[i]? = some f → f.name ≠ "_" ∧ f.offset = i ∧ (∃ k, P.underlying f.type = some (.int k)) ∧ sizeT P f.type = some 1) ∧ P.stoodInHeld t = false ∧ P.eqGuardType P.depth t = false := by
  unfold intsT at h
  split at h
  · rename_i fs hs
    simp only [Bool.and_eq_true, Bool.not_eq_true', List.all_eq_true] at h
    refine ⟨fs, structT_some hs, fun i f hf => ?_, h.1.2, h.2⟩
    have hm : (f, i) ∈ fs.toList.zipIdx := by
      rw [List.mem_zipIdx_iff_getElem?]
      simpa using hf
    have := h.1.1 _ hm
    simp only [Bool.and_eq_true, bne_iff_ne, ne_eq, beq_iff_eq] at this
    obtain ⟨⟨⟨h1, h2⟩, h3⟩, h4⟩ := this
    obtain ⟨k, hk⟩ := Option.isSome_iff_exists.1 h3
    exact ⟨h1, h2, ⟨k, intT_some hk⟩, h4⟩
  · simp at h

theorem eqC_sound {c d : C} {u v : Value} {b : Bool} (hu : R w Γ c u) (hv : R w Γ d v) (h : eqC c d = some b) : ∃ k m n, u = .int k m ∧ v = .int k n ∧ b = (m == n) := by
  unfold eqC at h
  split at h
  · split at h
    · rename_i hk
      subst hk
      simp only [Option.some.injEq] at h; subst h
      exact ⟨_, _, _, int_sound hu, int_sound hv, rfl⟩
    · simp at h
  · simp at h

theorem aggT_int {t : TypeId} {k : IntKind} (h : P.underlying t = some (.int k)) : aggT P t = some false := by simp [aggT, h]

theorem eqFields_sound (d : Nat) (xs ys : List Value) : ∀ (fs : List Field) (i0 : Nat) (cs ds : List C) (b : Bool), (∀ (i : Nat) (f : Field), fs[i]? = some f → f.name ≠ "_" ∧ f.offset = i0 + i ∧ (∃ k, P.underlying f.type = some (.int k)) ∧ sizeT P f.type = some 1) →
    RL w Γ cs (xs.drop i0) → RL w Γ ds (ys.drop i0) → fs.length = cs.length → eqCs cs ds = some b → (Op.eqFields (d + 1) xs.toArray ys.toArray fs).run P w = .ok b w
  | [], i0, [], [], b, _, _, _, _, h => by
    simp only [eqCs, Option.some.injEq] at h; subst h; rfl
  | [], i0, _ :: _, _, b, _, _, _, hl, _ => by simp at hl
  | [], i0, [], _ :: _, b, _, _, _, _, h => by simp [eqCs] at h
  | f :: fs, i0, [], _, b, _, _, _, hl, _ => by simp at hl
  | f :: fs, i0, _ :: _, [], b, _, _, _, _, h => by simp [eqCs] at h
  | f :: fs, i0, c :: cs, e :: es, b, hf, hx, hy, hl, h => by
    obtain ⟨hn, ho, ⟨kk, hk⟩, hs⟩ := hf 0 f rfl
    simp only [Nat.add_zero] at ho
    have hxl := hx.length
    have hyl := hy.length
    have x0 := hx.get 0 (by simp)
    have y0 := hy.get 0 (by simp)
    simp only [List.getD_cons_zero, List.getD_eq_getElem?_getD, List.getElem?_drop, Nat.add_zero] at x0 y0
    have hx' : RL w Γ cs (xs.drop (i0 + 1)) := by
      have e1 : xs.drop i0 = xs[i0]?.getD undef :: xs.drop (i0 + 1) := by
        rw [List.drop_eq_getElem_cons (by simp at hxl; omega), List.getElem?_eq_getElem (by simp at hxl; omega)]; rfl
      rw [e1] at hx; exact hx.2
    have hy' : RL w Γ es (ys.drop (i0 + 1)) := by
      have e1 : ys.drop i0 = ys[i0]?.getD undef :: ys.drop (i0 + 1) := by
        rw [List.drop_eq_getElem_cons (by simp at hyl; omega), List.getElem?_eq_getElem (by simp at hyl; omega)]; rfl
      rw [e1] at hy; exact hy.2
    have px : (part f.type xs.toArray f.offset).run P w = .ok (xs[i0]?.getD undef) w := by
      rw [part_run (aggT_int hk) hs (by simp at hxl ⊢; omega), ho]
      simp [List.getD_eq_getElem?_getD, List.getElem?_take, List.getElem?_drop]
    have py : (part f.type ys.toArray f.offset).run P w = .ok (ys[i0]?.getD undef) w := by
      rw [part_run (aggT_int hk) hs (by simp at hyl ⊢; omega), ho]
      simp [List.getD_eq_getElem?_getD, List.getElem?_take, List.getElem?_drop]
    simp only [eqCs] at h
    cases hc : eqC c e with
    | none => simp [hc] at h
    | some b0 =>
      obtain ⟨k1, m, n, e1, e2, e3⟩ := eqC_sound (by simpa using x0) (by simpa using y0) hc
      simp only [hc] at h
      have hrun : (Op.eqFields (d + 1) xs.toArray ys.toArray (f :: fs)).run P w = if (!b0) = true then .ok false w else (Op.eqFields (d + 1) xs.toArray ys.toArray fs).run P w := by
        simp only [Op.eqFields, if_pos hn, Sem.run_bind, px, py, Result.andThen_ok, e1, e2, run_equalIn_int w d f.type k1 kk m n hk, Sem.run_ite, e3]
        rfl
      rw [hrun]
      cases b0 with
      | true =>
        simp only at h
        simp only [Bool.not_true, Bool.false_eq_true, if_false]
        exact eqFields_sound d xs ys fs (i0 + 1) cs es b (fun i f h => by
          have := hf (i + 1) f (by simpa using h)
          refine ⟨this.1, by rw [this.2.1]; omega, this.2.2⟩) hx' hy' (by simpa using hl) h
      | false =>
        simp only at h
        cases he : eqCs cs es with
        | none => simp [he] at h
        | some b1 =>
          simp only [he, Option.some.injEq] at h
          subst h
          simp

theorem EqRun.agg {t : TypeId} {x y : Operand} {cs ds : List C} {u v : Value} {b : Bool} {fs : Array Field} (ht : intsT P t = true) (hfs : P.underlying t = some (.struct fs)) (hu : RVal w Γ (.agg cs) u) (hv : RVal w Γ (.agg ds) v) (hl : cs.length = fs.size) (h : eqCs cs ds = some b) :
    (∀ op, op = .eql ∨ op = .neq → runBin P op t x y u v w = .ok (.bool (if op = .eql then b else !b)) w) := by
  obtain ⟨fs', hfs', hf, hst, hgd⟩ := intsT_some ht
  rw [hfs] at hfs'
  injection hfs' with hfs'; injection hfs' with hfs'; subst hfs'
  obtain ⟨us, rfl, hus⟩ := hu
  obtain ⟨vs, rfl, hvs⟩ := hv
  have hfo : P.fieldsOf t = fs := by simp [Program.fieldsOf, hfs]
  have hrun : (Op.equalIn 10000 t (.agg us.toArray) (.agg vs.toArray)).run P w = .ok b w := by
    rw [show (10000 : Nat) = 9998 + 1 + 1 from rfl]
    generalize 9998 = d
    rw [run_equalIn_struct w (d + 1) t _ _ (by rw [hfo]; exact hfs) hst, hfo]
    exact eqFields_sound d us vs fs.toList 0 cs ds b (fun i f h => by
      have := hf i f (by simpa using h)
      rw [Nat.zero_add]; exact this) (by simpa using hus) (by simpa using hvs) (by simp [hl]) h
  rintro op (rfl | rfl)
  · unfold runBin
    rw [Sem.run_bind, run_eqGuard_agg w .eql t x y _ _ hgd, Result.andThen_ok, run_eql_struct, hrun]
    rfl
  · unfold runBin
    rw [Sem.run_bind, run_eqGuard_agg w .neq t x y _ _ hgd, Result.andThen_ok, run_neq_struct, hrun]
    rfl

theorem bin_sound (hS : Sim w Γ M) (hT : Tm w Γ tm a) {op : BinOp} {op' : B} {t t' : TypeId} {x y : Operand} {x' y' : X} {c : C} (hop : o.op = .binOp op t x y t') (ho : opOf P op t = some op') (hx : xOf x = some x') (hy : xOf y = some y')
    (h : evBin op' (evX tm x') (evX tm y') = some c) : OpOK P o a w Γ M (.c c) M := by
  have hX := evX_R hT hx
  have hY := evX_R hT hy
  suffices ∃ r, runBin P op t x y (a.eval x) (a.eval y) w = .ok r w ∧ R w Γ c r by
    obtain ⟨r, h1, h2⟩ := this
    exact OpOK.same hS (exec_bin hop h1) h2
  generalize a.eval x = u at hX
  generalize a.eval y = v at hY
  generalize evX tm x' = vx at h hX
  generalize evX tm y' = vy at h hY
  -- a comparison's type
  have hcmp : ∀ {op'' : B}, op' = op'' → (op'' = .eqb ∨ op'' = .eqp ∨ op'' = .eqs ∨ (∃ n, op'' = .eqa n)) → op = .eql := by
    rintro _ rfl hh
    cases op <;> simp only [opOf, Option.some.injEq] at ho <;> first
      | rfl
      | (subst ho; rcases hh with hh | hh | hh | ⟨n, hh⟩ <;> cases hh)
      | (exfalso
         split at ho <;> first
          | (simp only [Option.some.injEq] at ho; subst ho; rcases hh with hh | hh | hh | ⟨n, hh⟩ <;> cases hh)
          | (split at ho
             · simp only [Option.some.injEq] at ho; subst ho; rcases hh with hh | hh | hh | ⟨n, hh⟩ <;> cases hh
             · simp at ho)
          | simp at ho)
  have hcmn : ∀ {op'' : B}, op' = op'' → (op'' = .neb ∨ op'' = .nep ∨ op'' = .nes ∨ (∃ n, op'' = .nea n)) → op = .neq := by
    rintro _ rfl hh
    cases op <;> simp only [opOf, Option.some.injEq] at ho <;> first
      | rfl
      | (subst ho; rcases hh with hh | hh | hh | ⟨n, hh⟩ <;> cases hh)
      | (exfalso
         split at ho <;> first
          | (simp only [Option.some.injEq] at ho; subst ho; rcases hh with hh | hh | hh | ⟨n, hh⟩ <;> cases hh)
          | (split at ho
             · simp only [Option.some.injEq] at ho; subst ho; rcases hh with hh | hh | hh | ⟨n, hh⟩ <;> cases hh
             · simp at ho)
          | simp at ho)
  have tyB : ∀ {op'' : B}, op' = op'' → (op'' = .eqb ∨ op'' = .neb) → P.underlying t = some .bool := by
    rintro _ rfl hh
    have : op = .eql ∨ op = .neq := by
      rcases hh with hh | hh
      · exact .inl (hcmp rfl (by simp [hh]))
      · exact .inr (hcmn rfl (by simp [hh]))
    rcases this with rfl | rfl <;>
    · simp only [opOf] at ho
      split at ho <;> first
        | (simp only [Option.some.injEq] at ho; subst ho; first | assumption | (rcases hh with hh | hh <;> cases hh))
        | (split at ho
           · simp only [Option.some.injEq] at ho; subst ho; rcases hh with hh | hh <;> cases hh
           · simp at ho)
        | simp at ho
  have tyP : ∀ {op'' : B}, op' = op'' → (op'' = .eqp ∨ op'' = .nep) → ∃ e, P.underlying t = some (.pointer e) := by
    rintro _ rfl hh
    have : op = .eql ∨ op = .neq := by
      rcases hh with hh | hh
      · exact .inl (hcmp rfl (by simp [hh]))
      · exact .inr (hcmn rfl (by simp [hh]))
    rcases this with rfl | rfl <;>
    · simp only [opOf] at ho
      split at ho <;> first
        | (simp only [Option.some.injEq] at ho; subst ho; first | exact ⟨_, by assumption⟩ | (rcases hh with hh | hh <;> cases hh))
        | (split at ho
           · simp only [Option.some.injEq] at ho; subst ho; rcases hh with hh | hh <;> cases hh
           · simp at ho)
        | simp at ho
  have tyS : ∀ {op'' : B}, op' = op'' → (op'' = .eqs ∨ op'' = .nes) → ∃ e, P.underlying t = some (.slice e) := by
    rintro _ rfl hh
    have : op = .eql ∨ op = .neq := by
      rcases hh with hh | hh
      · exact .inl (hcmp rfl (by simp [hh]))
      · exact .inr (hcmn rfl (by simp [hh]))
    rcases this with rfl | rfl <;>
    · simp only [opOf] at ho
      split at ho <;> first
        | (simp only [Option.some.injEq] at ho; subst ho; first | exact ⟨_, by assumption⟩ | (rcases hh with hh | hh <;> cases hh))
        | (split at ho
           · simp only [Option.some.injEq] at ho; subst ho; rcases hh with hh | hh <;> cases hh
           · simp at ho)
        | simp at ho
  have tyA : ∀ {op'' : B} {n : Nat}, op' = op'' → (op'' = .eqa n ∨ op'' = .nea n) → intsT P t = true ∧ ∃ fs, P.underlying t = some (.struct fs) ∧ fs.size = n := by
    rintro _ n rfl hh
    have : op = .eql ∨ op = .neq := by
      rcases hh with hh | hh
      · exact .inl (hcmp rfl (by simp [hh]))
      · exact .inr (hcmn rfl (by simp [hh]))
    rcases this with rfl | rfl <;>
    · simp only [opOf] at ho
      split at ho <;> first
        | (simp only [Option.some.injEq] at ho; subst ho; rcases hh with hh | hh <;> cases hh)
        | (split at ho
           · simp only [Option.some.injEq] at ho
             subst ho
             refine ⟨by assumption, _, by assumption, ?_⟩
             rcases hh with hh | hh <;> first | (injection hh) | cases hh
           · simp at ho)
        | simp at ho
  unfold evBin at h
  split at h
  · rename_i k m _ n
    have e1 := int_sound hX; have e2 := int_sound hY
    subst e1; subst e2
    have : op = .shl := by
      cases op <;> simp only [opOf, Option.some.injEq, reduceCtorEq] at ho <;> first
        | rfl
        | (exfalso
           split at ho <;> first
            | (simp only [Option.some.injEq, reduceCtorEq] at ho; done)
            | (split at ho <;> simp at ho; done)
            | (simp at ho; done))
    subst this
    rw [runBin_int]
    exact evShift_sound (.inl ⟨rfl, rfl⟩) h
  · rename_i k m _ n
    have e1 := int_sound hX; have e2 := int_sound hY
    subst e1; subst e2
    have : op = .shr := by
      cases op <;> simp only [opOf, Option.some.injEq, reduceCtorEq] at ho <;> first
        | rfl
        | (exfalso
           split at ho <;> first
            | (simp only [Option.some.injEq, reduceCtorEq] at ho; done)
            | (split at ho <;> simp at ho; done)
            | (simp at ho; done))
    subst this
    rw [runBin_int]
    exact evShift_sound (.inr ⟨rfl, rfl⟩) h
  · simp only [Option.some.injEq] at h; subst h
    have e := hcmp rfl (by simp); subst e
    rw [asB_sound hX rfl, asB_sound hY rfl]
    exact ⟨_, EqRun.eql (EqRun.bool (tyB rfl (by simp)) _ _), bool_R _⟩
  · simp only [Option.some.injEq] at h; subst h
    have e := hcmn rfl (by simp); subst e
    rw [asB_sound hX rfl, asB_sound hY rfl]
    exact ⟨_, EqRun.neq (EqRun.bool (tyB rfl (by simp)) _ _), bool_R _⟩
  · rename_i c1 c2
    cases he : eqPtr c1 c2 with
    | none => simp [he] at h
    | some b =>
      simp only [he, Option.map_some, Option.some.injEq] at h; subst h
      have e := hcmp rfl (by simp); subst e
      obtain ⟨e, hty⟩ := tyP rfl (by simp)
      exact ⟨_, EqRun.eql (EqRun.ptr hty hX hY he), bool_R _⟩
  · rename_i c1 c2
    cases he : eqPtr c1 c2 with
    | none => simp [he] at h
    | some b =>
      simp only [he, Option.map_some, Option.some.injEq] at h; subst h
      have e := hcmn rfl (by simp); subst e
      obtain ⟨e, hty⟩ := tyP rfl (by simp)
      exact ⟨_, EqRun.neq (EqRun.ptr hty hX hY he), bool_R _⟩
  · rename_i c1 c2
    cases he : eqSl c1 c2 with
    | none => simp [he] at h
    | some b =>
      simp only [he, Option.map_some, Option.some.injEq] at h; subst h
      have e := hcmp rfl (by simp); subst e
      obtain ⟨e, hty⟩ := tyS rfl (by simp)
      exact ⟨_, EqRun.eql (EqRun.sl hty hX hY he), bool_R _⟩
  · rename_i c1 c2
    cases he : eqSl c1 c2 with
    | none => simp [he] at h
    | some b =>
      simp only [he, Option.map_some, Option.some.injEq] at h; subst h
      have e := hcmn rfl (by simp); subst e
      obtain ⟨e, hty⟩ := tyS rfl (by simp)
      exact ⟨_, EqRun.neq (EqRun.sl hty hX hY he), bool_R _⟩
  · rename_i n c1 c2
    split at h
    · rename_i hlen
      cases he : eqCs c1 c2 with
      | none => simp [he] at h
      | some b =>
        simp only [he, Option.map_some, Option.some.injEq] at h; subst h
        have e := hcmp rfl (.inr (.inr (.inr ⟨n, rfl⟩))); subst e
        obtain ⟨hi, fs, hfs, hn⟩ := tyA rfl (.inl rfl)
        exact ⟨_, EqRun.agg hi hfs hX hY (by rw [hn]; exact hlen.1) he .eql (.inl rfl), bool_R _⟩
    · simp at h
  · rename_i n c1 c2
    split at h
    · rename_i hlen
      cases he : eqCs c1 c2 with
      | none => simp [he] at h
      | some b =>
        simp only [he, Option.map_some, Option.some.injEq] at h; subst h
        have e := hcmn rfl (.inr (.inr (.inr ⟨n, rfl⟩))); subst e
        obtain ⟨hi, fs, hfs, hn⟩ := tyA rfl (.inr rfl)
        exact ⟨_, EqRun.agg hi hfs hX hY (by rw [hn]; exact hlen.1) he .neq (.inr rfl), bool_R _⟩
    · simp at h
  · rename_i k m k' n _ _
    split at h
    · rename_i hk; subst hk
      have e1 := int_sound hX; have e2 := int_sound hY
      subst e1; subst e2
      rw [runBin_int]
      exact evBinI_sound ho h
    · simp at h
  · simp at h

end
end Go.Proofs.Ytopcnhojkfeafaa.Am
