/- AM: that what an instruction comes to is what Go's operation comes to: those that leave memory alone. -/
import Derived.Test.YtopcnhojkfeafaaAmOp
set_option linter.unusedSimpArgs false
set_option linter.unusedVariables false
namespace Go.Proofs.Ytopcnhojkfeafaa.Am
open Go.RowKit

section
variable {P : Program} {o : Oper} {a : Act} {w : World} {Γ : Env} {M : Mem} {tm : List V}

theorem asB_sound {v : V} {x : Value} {b : Bool} (h : RVal w Γ v x) (hb : asB v = some b) : x = .bool b := by
  unfold asB at hb
  split at hb
  · simp only [Option.some.injEq] at hb; subst hb
    cases (show R w Γ _ _ from h) with
    | im h => cases h; rfl
  · simp at hb

theorem int_sound {k : IntKind} {n : Int} {x : Value} (h : RVal w Γ (.c (.int k n)) x) : x = .int k n := by
  cases (show R w Γ _ _ from h) with
  | im h => cases h; rfl

theorem asI_sound {v : V} {x : Value} {n : Int} (h : RVal w Γ v x) (hn : asI v = some n) : ∃ k, x = .int k n := by
  unfold asI at hn
  split at hn
  · simp only [Option.some.injEq] at hn; subst hn
    exact ⟨_, int_sound h⟩
  · simp at hn

theorem bool_R (b : Bool) : RVal w Γ (.c (.bool b)) (.bool b) := R.im (.bool _ _)
theorem int_R (k : IntKind) (n : Int) : RVal w Γ (.c (.int k n)) (.int k n) := R.im (.int _ _ _)

theorem mov_sound (hS : Sim w Γ M) (hT : Tm w Γ tm a) {x : Operand} {x' : X} (hop : o.op = .move x ∨ o.op = .assign x) (hx : xOf x = some x') : OpOK P o a w Γ M (evX tm x') M := by
  refine OpOK.same hS (x := a.eval x) ?_ (evX_R hT hx)
  rcases hop with hop | hop <;> simp [execOp, hop]

theorem pick_sound (hS : Sim w Γ M) (hT : Tm w Γ tm a) {c x y : Operand} {c' x' y' : X} {b : Bool} (hop : o.op = .pick c x y) (hc : xOf c = some c') (hx : xOf x = some x') (hy : xOf y = some y') (hb : asB (evX tm c') = some b) :
    OpOK P o a w Γ M (if b then evX tm x' else evX tm y') M := by
  have h := asB_sound (evX_R hT hc) hb
  refine OpOK.same hS (x := if b then a.eval x else a.eval y) ?_ ?_
  · simp [execOp, hop, h, asBool]
  · cases b
    · exact evX_R hT hy
    · exact evX_R hT hx

theorem ptr_shape {n g i off : Nat} {x : Value} (h : RVal w Γ (.c (.ptr n g i off)) x) : ∃ b o k tc, Γ.be n g = .at b o k tc ∧ x = .pointer (some ⟨b, o + (i * k + off), none⟩) := by
  cases (show R w Γ _ _ from h) with
  | im h => cases h
  | ptr n g idx off b o k tc hb => exact ⟨b, o, k, tc, hb, rfl⟩

theorem iptr_shape {cs : List C} {off : Nat} {x : Value} (h : RVal w Γ (.c (.iptr cs off)) x) : ∃ (b o : Nat) (f : Nat → Value), (Γ.F b ∨ b < Γ.base) ∧ (∀ j, j < cs.length → w.cell? ⟨b, o + j, none⟩ = some (f j)) ∧
    (∀ j, j < cs.length → RI w Γ.F (fun b => b < Γ.base) true (cs.getD j .undef) (f j)) ∧ x = .pointer (some ⟨b, o + off, none⟩) := by
  cases (show R w Γ _ _ from h) with
  | im h => cases h
  | iptr cs off b o f hb hf hr => exact ⟨b, o, f, hb, hf, hr, rfl⟩

theorem nilck_sound (hS : Sim w Γ M) (hT : Tm w Γ tm a) {x : Operand} {x' : X} (hop : o.op = .nilCheck x) (hx : xOf x = some x') (h : (∃ n g i off, evX tm x' = .c (.ptr n g i off)) ∨ ∃ cs off, evX tm x' = .c (.iptr cs off)) :
    OpOK P o a w Γ M (evX tm x') M := by
  have hR := evX_R hT hx
  refine OpOK.same hS (x := a.eval x) ?_ hR
  rcases h with ⟨n, g, i, off, h⟩ | ⟨cs, off, h⟩
  · rw [h] at hR
    obtain ⟨b, o', k, tc, _, hx⟩ := ptr_shape hR
    simp [execOp, hop, hx]
  · rw [h] at hR
    obtain ⟨b, o', f, _, _, _, hx⟩ := iptr_shape hR
    simp [execOp, hop, hx]

theorem intT_some {t : TypeId} {k : IntKind} (h : intT P t = some k) : P.underlying t = some (.int k) := by
  unfold intT at h
  split at h
  · simp only [Option.some.injEq] at h; subst h; assumption
  · simp at h

theorem sliceT_some {t e : TypeId} (h : sliceT P t = some e) : P.underlying t = some (.slice e) := by
  unfold sliceT at h
  split at h
  · split at h
    · simp only [Option.some.injEq] at h; subst h; assumption
    · simp at h
  · simp at h

theorem structT_some {t : TypeId} {fs : Array Field} (h : structT P t = some fs) : P.underlying t = some (.struct fs) := by
  unfold structT at h
  split at h
  · simp only [Option.some.injEq] at h; subst h; assumption
  · simp at h

theorem arrT_some {t e : TypeId} {n : Nat} (h : arrT P t = some (n, e)) : P.underlying t = some (.array n e) := by
  unfold arrT at h
  split at h
  · simp only [Option.some.injEq, Prod.mk.injEq] at h; obtain ⟨rfl, rfl⟩ := h; assumption
  · simp at h

theorem infoT_some {t : TypeId} {k b : Nat} {zs : List Z} (h : infoT P t = some (k, b, zs)) : ∃ i z, P.info? t = some i ∧ i.zero = some z ∧ i.size = k ∧ i.bytes = b ∧ z.cells.toList.mapM zOf = some zs ∧ zs.length = k ∧ b ≤ 1024 := by
  unfold infoT at h
  split at h
  · rename_i i hi
    split at h
    · rename_i z hz
      split at h
      · rename_i zs' hzs
        split at h
        · rename_i hc
          simp only [Option.some.injEq, Prod.mk.injEq] at h
          obtain ⟨rfl, rfl, rfl⟩ := h
          exact ⟨i, z, hi, hz, rfl, rfl, hzs, hc.1, hc.2⟩
        · simp at h
      · simp at h
    · simp at h
  · simp at h

theorem infoT_size {t : TypeId} {k b : Nat} {zs : List Z} (h : infoT P t = some (k, b, zs)) : sizeT P t = some k := by
  obtain ⟨i, z, hi, _, hk, _⟩ := infoT_some h
  simp [sizeT, hi, hk]

theorem un_sound (hS : Sim w Γ M) (hT : Tm w Γ tm a) {op : UnOp} {t : TypeId} {x : Operand} {x' : X} {op' : U} {c : C} (hop : o.op = .unOp op t x) (hx : xOf x = some x')
    (ho : (op = .not ∧ op' = .not) ∨ (op = .neg ∧ op' = .neg) ∨ (op = .xor ∧ op' = .xor)) (h : evUn op' (evX tm x') = some c) : OpOK P o a w Γ M (.c c) M := by
  have hR := evX_R hT hx
  unfold evUn at h
  split at h
  · rename_i b hb
    rw [hb] at hR
    have e := asB_sound hR rfl
    rcases ho with ⟨rfl, _⟩ | ⟨_, h2⟩ | ⟨_, h2⟩
    · simp only [Option.some.injEq] at h; subst h
      exact OpOK.same hS (x := .bool (!b)) (by simp [execOp, hop, e, Op.unary]) (bool_R _)
    · cases h2
    · cases h2
  · rename_i k n hb
    rw [hb] at hR
    have e := int_sound hR
    rcases ho with ⟨_, h2⟩ | ⟨rfl, _⟩ | ⟨_, h2⟩
    · cases h2
    · simp only [Option.some.injEq] at h; subst h
      exact OpOK.same hS (x := .int k (k.wrap (0 - n))) (by simp [execOp, hop, e, Op.unary, Op.intArith]) (int_R _ _)
    · cases h2
  · rename_i k n hb
    rw [hb] at hR
    have e := int_sound hR
    rcases ho with ⟨_, h2⟩ | ⟨_, h2⟩ | ⟨rfl, _⟩
    · cases h2
    · cases h2
    · simp only [Option.some.injEq] at h; subst h
      exact OpOK.same hS (x := .int k (evBits .xor k (if k.signed then -1 else k.max) n)) (by simp [execOp, hop, e, Op.unary, Op.intBits, evBits]) (int_R _ _)
  · simp at h

theorem conv_sound (hS : Sim w Γ M) (hT : Tm w Γ tm a) {src dst : TypeId} {d : TypeDesc} {k : IntKind} {x : Operand} {x' : X} {n : Int} (hop : o.op = .convert src dst x) (hs : P.underlying src = some d) (hd : intT P dst = some k) (hx : xOf x = some x')
    (hn : asI (evX tm x') = some n) : OpOK P o a w Γ M (.c (.int k (k.wrap n))) M := by
  obtain ⟨k', e⟩ := asI_sound (evX_R hT hx) hn
  refine OpOK.same hS (x := .int k (k.wrap n)) ?_ (int_R _ _)
  simp [execOp, hop, e, convert, run_underlying hs, run_underlying (intT_some hd), Conv.intToInt]

theorem lenV_sound {v : V} {x : Value} {n : Nat} (hv : RVal w Γ v x) (h : lenV v = some n) : ∃ A cap, x = .slice A n cap ∧ n ≤ cap := by
  unfold lenV at h
  split at h
  · simp only [Option.some.injEq] at h; subst h
    cases (show R w Γ _ _ from hv) with
    | im h => cases h
    | ownN n g k h => exact ⟨_, _, rfl, Nat.le_refl _⟩
    | own n g off len b o k tc A cap h hc hl hA => exact ⟨_, _, rfl, hl⟩
  · simp only [Option.some.injEq] at h; subst h
    cases (show R w Γ _ _ from hv) with
    | im h => cases h with
      | immN l t k A cap => exact ⟨_, _, rfl, Nat.zero_le _⟩
      | imm l t k xs b o cap f hl hb h0 hc hk hf hr => exact ⟨_, _, rfl, hc⟩
  · simp only [Option.some.injEq] at h; subst h
    cases (show R w Γ _ _ from hv) with
    | im h => cases h; exact ⟨_, _, rfl, Nat.le_refl _⟩
  · simp at h

theorem len_sound (hS : Sim w Γ M) (hT : Tm w Γ tm a) {x : Operand} {x' : X} {t : TypeId} {e : TypeId} {n : Nat} {ts : Array TypeId} (hop : o.op = .call ⟨.builtin .len, #[x], ts⟩) (ht : ts[0]? = some t) (hs : sliceT P t = some e) (hx : xOf x = some x')
    (hn : lenV (evX tm x') = some n) : OpOK P o a w Γ M (.c (.int .i64 n)) M := by
  obtain ⟨A, cap, e1, _⟩ := lenV_sound (evX_R hT hx) hn
  refine OpOK.same hS (x := .int .i64 n) ?_ (int_R _ _)
  simp [execOp, hop, resolve, invoke, builtin, Builtin.len_, ht, e1, run_underlying (sliceT_some hs), goInt]

theorem RVs.get {w : World} {Γ : Env} : ∀ {vs : List V} {ys : List Value}, RVs w Γ vs ys → ∀ {i : Nat} {v : V}, vs[i]? = some v → ∃ y, ys[i]? = some y ∧ RVal w Γ v y
  | [], [], _, i, v, h => by simp at h
  | u :: vs, y :: ys, h, 0, v, hi => by
    simp only [List.getElem?_cons_zero, Option.some.injEq] at hi
    subst hi
    refine ⟨y, rfl, ?_⟩
    have h1 := h.1
    cases u with
    | tup us => exact h1.elim
    | c c => exact h1
    | agg cs => exact h1
    | none => exact h1
    | any => exact h1
  | u :: vs, y :: ys, h, i + 1, v, hi => by
    obtain ⟨y, h1, h2⟩ := RVs.get h.2 (i := i) (by simpa using hi)
    exact ⟨y, by simpa using h1, h2⟩
  | [], _ :: _, h, _, _, _ => h.elim
  | _ :: _, [], h, _, _, _ => h.elim

theorem ext_sound (hS : Sim w Γ M) (hT : Tm w Γ tm a) {x : Operand} {x' : X} {i : Nat} {vs : List V} {v : V} (hop : o.op = .extract x i) (hx : xOf x = some x') (ht : evX tm x' = .tup vs) (hi : vs[i]? = some v) : OpOK P o a w Γ M v M := by
  have hR := evX_R hT hx
  rw [ht] at hR
  obtain ⟨ys, e, hRs⟩ := hR
  obtain ⟨y, h1, h2⟩ := hRs.get hi
  refine OpOK.same hS (x := y) ?_ h2
  simp [execOp, hop, Instr.extract, e, h1]

theorem fieldPlace_run {f : Field} {k b o' : Nat} (hk : sizeT P f.type = some k) (h0 : k ≠ 0) : (fieldPlace ⟨b, o', none⟩ f).run P w = .ok ⟨b, o' + f.offset, none⟩ w := by
  simp [fieldPlace, run_sizeOf hk, h0, add_at]

theorem faddr_sound (hS : Sim w Γ M) (hT : Tm w Γ tm a) {t : TypeId} {fs : Array Field} {f : Field} {i k : Nat} {x : Operand} {x' : X} {v : V} (hop : o.op = .fieldAddr t x i) (hs : structT P t = some fs) (hf : fs[i]? = some f) (hk : sizeT P f.type = some k) (h0 : k ≠ 0)
    (hx : xOf x = some x') (hv : (∃ n g j off, evX tm x' = .c (.ptr n g j off) ∧ v = .c (.ptr n g j (off + f.offset))) ∨ ∃ cs off, evX tm x' = .c (.iptr cs off) ∧ v = .c (.iptr cs (off + f.offset))) : OpOK P o a w Γ M v M := by
  have hR := evX_R hT hx
  rcases hv with ⟨n, g, j, off, h, rfl⟩ | ⟨cs, off, h, rfl⟩
  · rw [h] at hR
    obtain ⟨b, o', k', tc, hb, e⟩ := ptr_shape hR
    refine OpOK.same hS (x := .pointer (some ⟨b, o' + (j * k' + (off + f.offset)), none⟩)) ?_ (R.ptr n g j (off + f.offset) b o' k' tc hb)
    simp [execOp, hop, Instr.fieldAt, run_underlying (structT_some hs), hf, e, Instr.sureAddr, fieldPlace_run hk h0]
    omega
  · rw [h] at hR
    obtain ⟨b, o', f', hb, hf', hr, e⟩ := iptr_shape hR
    refine OpOK.same hS (x := .pointer (some ⟨b, o' + (off + f.offset), none⟩)) ?_ (R.iptr cs (off + f.offset) b o' f' hb hf' hr)
    simp [execOp, hop, Instr.fieldAt, run_underlying (structT_some hs), hf, e, Instr.sureAddr, fieldPlace_run hk h0]
    omega

theorem RL.drop_take {cs : List C} {ys : List Value} (h : RL w Γ cs ys) (off k : Nat) (hk : off + k ≤ cs.length) : RL w Γ ((cs.drop off).take k) ((ys.drop off).take k) := by
  have hl := h.length
  refine RL.mk (by simp [hl]) fun j hj => ?_
  have hj' : j < k := by simp at hj; omega
  have := h.get (off + j) (by omega)
  simpa [List.getD_eq_getElem?_getD, List.getElem?_take, hj', List.getElem?_drop] using this

theorem part_run {t : TypeId} {g : Bool} {k off : Nat} {ys : List Value} (hg : aggT P t = some g) (hk : sizeT P t = some k) (h : off + (if g then k else 1) ≤ ys.length) :
    (part t ys.toArray off).run P w = .ok (if g then .agg ((ys.drop off).take (if g then k else 1)).toArray else ((ys.drop off).take (if g then k else 1)).getD 0 undef) w := by
  cases g with
  | true =>
    simp only [if_true] at h ⊢
    simp only [part, Sem.run_bind, run_isAgg hg, Result.andThen_ok, if_true, run_sizeOf hk, Sem.run_pure]
    congr 2
    apply Array.ext'
    simp [List.extract_eq_take_drop, List.drop_take]
  | false =>
    simp only [Bool.false_eq_true, if_false] at h ⊢
    have hl : off < ys.length := by omega
    simp only [part, Sem.run_bind, run_isAgg hg, Result.andThen_ok, Bool.false_eq_true, if_false]
    simp [List.getElem?_eq_getElem hl, List.getD_eq_getElem?_getD, List.getElem?_take, List.getElem?_drop]

theorem field_sound (hS : Sim w Γ M) (hT : Tm w Γ tm a) {t : TypeId} {fs : Array Field} {f : Field} {i k : Nat} {g : Bool} {x : Operand} {x' : X} {cs : List C} {v : V} (hop : o.op = .field t x i) (hs : structT P t = some fs) (hf : fs[i]? = some f) (hg : aggT P f.type = some g)
    (hk : sizeT P f.type = some k) (hx : xOf x = some x') (hc : evX tm x' = .agg cs) (hle : f.offset + (if g then k else 1) ≤ cs.length) (hv : mkV g ((cs.drop f.offset).take (if g then k else 1)) = some v) : OpOK P o a w Γ M v M := by
  have hR := evX_R hT hx
  rw [hc] at hR
  obtain ⟨ys, e, hRL⟩ := hR
  refine OpOK.same hS (x := if g then .agg ((ys.drop f.offset).take (if g then k else 1)).toArray else ((ys.drop f.offset).take (if g then k else 1)).getD 0 undef) ?_ (RVal.of_mk (hRL.drop_take _ _ hle) hv)
  simp only [execOp, hop, Instr.field, Sem.run_bind, run_underlying (structT_some hs), Result.andThen_ok, hf, e, asAgg, Sem.run_pure, part_run hg hk (by rw [← hRL.length]; exact hle)]

theorem index_sound (hS : Sim w Γ M) (hT : Tm w Γ tm a) {t e : TypeId} {n k : Nat} {b : Nat} {zs : List Z} {g : Bool} {x y : Operand} {x' y' : X} {cs : List C} {i : Int} {v : V} (hop : o.op = .index t x y) (hs : arrT P t = some (n, e)) (hi : infoT P e = some (k, b, zs))
    (hg : aggT P e = some g) (hgk : g = false → k = 1) (hx : xOf x = some x') (hy : xOf y = some y') (hc : evX tm x' = .agg cs) (hii : asI (evX tm y') = some i) (h0 : 0 ≤ i) (h1 : i < n)
    (hle : i.toNat * (if g then k else 1) + (if g then k else 1) ≤ cs.length) (hv : mkV g ((cs.drop (i.toNat * (if g then k else 1))).take (if g then k else 1)) = some v) : OpOK P o a w Γ M v M := by
  have hR := evX_R hT hx
  rw [hc] at hR
  obtain ⟨ys, e1, hRL⟩ := hR
  obtain ⟨kk, e2⟩ := asI_sound (evX_R hT hy) hii
  have hk := infoT_size hi
  have hgk' : (if g then k else 1) = k := by
    cases g
    · simp [hgk rfl]
    · rfl
  refine OpOK.same hS (x := if g then .agg ((ys.drop (i.toNat * (if g then k else 1))).take (if g then k else 1)).toArray else ((ys.drop (i.toNat * (if g then k else 1))).take (if g then k else 1)).getD 0 undef) ?_ (RVal.of_mk (hRL.drop_take _ _ hle) hv)
  simp only [execOp, hop, Instr.index, Sem.run_bind, e2, asIntOf, Sem.run_pure, Result.andThen_ok, run_underlying (arrT_some hs), e1]
  rw [if_pos ⟨h0, h1⟩]
  simp only [Sem.run_bind, run_sizeOf hk, Result.andThen_ok]
  rw [show i.toNat * k = i.toNat * (if g then k else 1) from by rw [hgk']]
  rw [part_run hg hk (by rw [← hRL.length]; exact hle)]
  rfl

theorem ixs_sound (hS : Sim w Γ M) (hT : Tm w Γ tm a) {t e : TypeId} {k : Nat} {b : Nat} {zs : List Z} {x y : Operand} {x' y' : X} {i : Int} {v : V} (hop : o.op = .indexAddr t x y) (hs : sliceT P t = some e) (hi : infoT P e = some (k, b, zs)) (hx : xOf x = some x') (hy : xOf y = some y')
    (hii : asI (evX tm y') = some i)
    (hv : (∃ n g off len, evX tm x' = .c (.own n g k off len) ∧ 0 ≤ i ∧ i < len ∧ v = .c (.ptr n g (off + i.toNat) 0)) ∨
      ∃ t' xs, evX tm x' = .c (.imm t' k xs) ∧ 0 ≤ i ∧ i < xs.length ∧ v = .c (.iptr (xs.getD i.toNat []) 0)) : OpOK P o a w Γ M v M := by
  have hR := evX_R hT hx
  obtain ⟨kk, e2⟩ := asI_sound (evX_R hT hy) hii
  have hk := infoT_size hi
  rcases hv with ⟨n, g, off, len, hc, h0, h1, rfl⟩ | ⟨t', xs, hc, h0, h1, rfl⟩
  · rw [hc] at hR
    generalize hax : a.eval x = X at hR
    cases (show R w Γ _ _ from hR) with
    | im h => cases h
    | ownN n g k h => omega
    | own n g off len b' o' k' tc A cap hb hcap hl hA =>
      have hA' := hA (by omega)
      refine OpOK.same hS (x := .pointer (some ⟨b', o' + ((off + i.toNat) * k + 0), none⟩)) ?_ (R.ptr n g (off + i.toNat) 0 b' o' k tc hb)
      have ha : a.eval x = .slice (some ⟨b', o' + off * k, none⟩) len cap := by
        rw [← hA']; exact hax
      simp only [execOp, hop, Instr.indexAt, Sem.run_bind, e2, asIntOf, Sem.run_pure, Result.andThen_ok, run_underlying (sliceT_some hs), ha]
      rw [if_pos ⟨h0, h1⟩]
      simp [run_sizeOf hk, add_at, Nat.add_mul]
      omega
  · rw [hc] at hR
    generalize hax : a.eval x = X at hR
    cases (show R w Γ _ _ from hR) with
    | im h =>
      cases h with
      | immN l t k A cap => simp at h1; omega
      | imm l t k xs b' o' cap f hl hb h0' hcap hkk hf hr =>
        have hlt : i.toNat < xs.length := by omega
        have hlen := hkk i.toNat hlt
        refine OpOK.same hS (x := .pointer (some ⟨b', o' + i.toNat * k + 0, none⟩)) ?_ (R.iptr (xs.getD i.toNat []) 0 b' (o' + i.toNat * k) (f i.toNat) ?_ ?_ ?_)
        · have ha : a.eval x = .slice (some ⟨b', o', none⟩) xs.length cap := hax
          simp only [execOp, hop, Instr.indexAt, Sem.run_bind, e2, asIntOf, Sem.run_pure, Result.andThen_ok, run_underlying (sliceT_some hs), ha]
          rw [if_pos ⟨h0, h1⟩]
          simp [run_sizeOf hk, add_at]
        · rcases hb with hb | hb
          · exact .inl hb
          · exact .inr hb.2
        · intro j hj
          rw [hlen] at hj
          rw [← hf _ j hlt hj]
          congr 2
          omega
        · intro j hj
          rw [hlen] at hj
          exact (hr _ j hlt hj).up

theorem ixa_sound (hS : Sim w Γ M) (hT : Tm w Γ tm a) {t e : TypeId} {n k : Nat} {b : Nat} {zs : List Z} {x y : Operand} {x' y' : X} {i : Int} {v : V} (hop : o.op = .indexAddr t x y) (hs : arrT P t = some (n, e)) (hi : infoT P e = some (k, b, zs)) (hx : xOf x = some x') (hy : xOf y = some y')
    (hii : asI (evX tm y') = some i) (h0 : 0 ≤ i) (h1 : i < n)
    (hv : (∃ n g j off, evX tm x' = .c (.ptr n g j off) ∧ v = .c (.ptr n g j (off + i.toNat * k))) ∨ ∃ cs off, evX tm x' = .c (.iptr cs off) ∧ v = .c (.iptr cs (off + i.toNat * k))) : OpOK P o a w Γ M v M := by
  have hR := evX_R hT hx
  obtain ⟨kk, e2⟩ := asI_sound (evX_R hT hy) hii
  have hk := infoT_size hi
  rcases hv with ⟨m, g, j, off, h, rfl⟩ | ⟨cs, off, h, rfl⟩
  · rw [h] at hR
    obtain ⟨b', o', k', tc, hb, e1⟩ := ptr_shape hR
    refine OpOK.same hS (x := .pointer (some ⟨b', o' + (j * k' + (off + i.toNat * k)), none⟩)) ?_ (R.ptr m g j (off + i.toNat * k) b' o' k' tc hb)
    simp only [execOp, hop, Instr.indexAt, Sem.run_bind, e2, asIntOf, Sem.run_pure, Result.andThen_ok, run_underlying (arrT_some hs), e1, Instr.sureAddr]
    rw [if_pos ⟨h0, h1⟩]
    simp [run_sizeOf hk, add_at]
    omega
  · rw [h] at hR
    obtain ⟨b', o', f', hb, hf', hr, e1⟩ := iptr_shape hR
    refine OpOK.same hS (x := .pointer (some ⟨b', o' + (off + i.toNat * k), none⟩)) ?_ (R.iptr cs (off + i.toNat * k) b' o' f' hb hf' hr)
    simp only [execOp, hop, Instr.indexAt, Sem.run_bind, e2, asIntOf, Sem.run_pure, Result.andThen_ok, run_underlying (arrT_some hs), e1, Instr.sureAddr]
    rw [if_pos ⟨h0, h1⟩]
    simp [run_sizeOf hk, add_at]
    omega

end
end Go.Proofs.Ytopcnhojkfeafaa.Am
