/- AM: that what an instruction comes to is what Go's operation comes to: those that make memory, or write it. -/
import Derived.Test.YtopcnhojkfeafaaAmOp3
import Derived.Laws.AppendOwn
import Derived.Laws.MakeOwn
set_option linter.unusedSimpArgs false
set_option linter.unusedVariables false
namespace Go.Proofs.Ytopcnhojkfeafaa.Am
open Go.RowKit

theorem idx_lt {i j n k : Nat} (hi : i < n) (hj : j < k) : i * k + j < n * k := by
  have h1 : (i + 1) * k ≤ n * k := Nat.mul_le_mul_right _ hi
  rw [Nat.succ_mul] at h1
  omega

/-- Elements laid out, cell by cell. -/
def Flat (w : World) (Γ : Env) (k : Nat) (xs : List (List C)) (vs : List Value) : Prop :=
  vs.length = xs.length * k ∧ (∀ i, i < xs.length → (xs.getD i []).length = k) ∧ (∀ i j, i < xs.length → j < k → R w Γ (at2 xs i j) (vs.getD (i * k + j) undef)) ∧ ∀ v ∈ vs, v.oneCell' = true

section
variable {P : Program} {o : Oper} {a : Act} {w : World} {Γ : Env} {M : Mem} {tm : List V}

theorem Flat.nil (k : Nat) : Flat w Γ k [] [] := ⟨by simp, fun i h => by simp at h, fun i j h => by simp at h, fun v h => by simp at h⟩

theorem Flat.mono {N : Nat → Prop} {w' : World} {Γ' : Env} {M' : Mem} (hS : Sim w Γ M) (he : Ext N w Γ M w' Γ' M') (hN : ∀ n B, M.getD n none = some B → N n) {k : Nat} {xs : List (List C)} {vs : List Value} (h : Flat w Γ k xs vs) : Flat w' Γ' k xs vs :=
  ⟨h.1, h.2.1, fun i j hi hj => (h.2.2.1 i j hi hj).mono hS he hN, h.2.2.2⟩

theorem at2_append_left {xs ys : List (List C)} {i j : Nat} (h : i < xs.length) : at2 (xs ++ ys) i j = at2 xs i j := by
  simp only [at2, List.getD_eq_getElem?_getD, List.getElem?_append_left h]

theorem at2_append_right {xs ys : List (List C)} {i j : Nat} (h : xs.length ≤ i) : at2 (xs ++ ys) i j = at2 ys (i - xs.length) j := by
  simp only [at2, List.getD_eq_getElem?_getD, List.getElem?_append_right h]

theorem getD_append_left' {xs ys : List (List C)} {i : Nat} (h : i < xs.length) : (xs ++ ys).getD i [] = xs.getD i [] := by
  simp only [List.getD_eq_getElem?_getD, List.getElem?_append_left h]

theorem getD_append_right' {xs ys : List (List C)} {i : Nat} (h : xs.length ≤ i) : (xs ++ ys).getD i [] = ys.getD (i - xs.length) [] := by
  simp only [List.getD_eq_getElem?_getD, List.getElem?_append_right h]

theorem Flat.append {k : Nat} {xs ys : List (List C)} {vs us : List Value} (h : Flat w Γ k xs vs) (g : Flat w Γ k ys us) : Flat w Γ k (xs ++ ys) (vs ++ us) := by
  obtain ⟨h1, h2, h3, h4⟩ := h
  obtain ⟨g1, g2, g3, g4⟩ := g
  refine ⟨by simp [h1, g1, Nat.add_mul], fun i hi => ?_, fun i j hi hj => ?_, fun v hv => ?_⟩
  · rcases Nat.lt_or_ge i xs.length with hlt | hge
    · rw [getD_append_left' hlt]; exact h2 i hlt
    · rw [getD_append_right' hge]; exact g2 _ (by simp at hi; omega)
  · rcases Nat.lt_or_ge i xs.length with hlt | hge
    · rw [at2_append_left hlt, List.getD_eq_getElem?_getD, List.getElem?_append_left (by rw [h1]; exact idx_lt hlt hj)]
      exact h3 i j hlt hj
    · rw [at2_append_right hge, List.getD_eq_getElem?_getD, List.getElem?_append_right (by rw [h1]; have := Nat.mul_le_mul_right k hge; omega)]
      have e : i * k + j - vs.length = (i - xs.length) * k + j := by
        rw [h1, Nat.sub_mul]
        have := Nat.mul_le_mul_right k hge
        omega
      rw [e]
      exact g3 (i - xs.length) j (by simp at hi; omega) hj
  · rcases List.mem_append.1 hv with hv | hv
    · exact h4 v hv
    · exact g4 v hv

theorem Flat.take {k : Nat} {xs : List (List C)} {vs : List Value} (h : Flat w Γ k xs vs) (n : Nat) : Flat w Γ k (xs.take n) (vs.take (n * k)) := by
  obtain ⟨h1, h2, h3, h4⟩ := h
  have hm : min n xs.length * k = min (n * k) (xs.length * k) := by
    rcases Nat.le_total n xs.length with hl | hl
    · rw [Nat.min_eq_left hl, Nat.min_eq_left (Nat.mul_le_mul_right _ hl)]
    · rw [Nat.min_eq_right hl, Nat.min_eq_right (Nat.mul_le_mul_right _ hl)]
  refine ⟨by simp only [List.length_take, h1, hm], fun i hi => ?_, fun i j hi hj => ?_, fun v hv => h4 v (List.mem_of_mem_take hv)⟩
  · rw [List.length_take] at hi
    have hi := Nat.lt_min.1 hi
    have e : (xs.take n).getD i [] = xs.getD i [] := by simp [List.getD_eq_getElem?_getD, List.getElem?_take, hi.1]
    rw [e]; exact h2 i hi.2
  · rw [List.length_take] at hi
    have hi := Nat.lt_min.1 hi
    have e : at2 (xs.take n) i j = at2 xs i j := by simp [at2, List.getD_eq_getElem?_getD, List.getElem?_take, hi.1]
    have e2 : (vs.take (n * k)).getD (i * k + j) undef = vs.getD (i * k + j) undef := by
      have := idx_lt hi.1 hj
      simp [List.getD_eq_getElem?_getD, List.getElem?_take, this]
    rw [e, e2]; exact h3 i j hi.2 hj

theorem Flat.drop {k : Nat} {xs : List (List C)} {vs : List Value} (h : Flat w Γ k xs vs) (n : Nat) : Flat w Γ k (xs.drop n) (vs.drop (n * k)) := by
  obtain ⟨h1, h2, h3, h4⟩ := h
  refine ⟨by simp [h1, Nat.sub_mul], fun i hi => ?_, fun i j hi hj => ?_, fun v hv => h4 v (List.mem_of_mem_drop hv)⟩
  · simp at hi
    have e : (xs.drop n).getD i [] = xs.getD (n + i) [] := by simp [List.getD_eq_getElem?_getD]
    rw [e]; exact h2 _ (by omega)
  · simp at hi
    have e : at2 (xs.drop n) i j = at2 xs (n + i) j := by simp [at2, List.getD_eq_getElem?_getD]
    have e2 : (vs.drop (n * k)).getD (i * k + j) undef = vs.getD ((n + i) * k + j) undef := by
      simp [List.getD_eq_getElem?_getD, Nat.add_mul, Nat.add_assoc]
    rw [e, e2]; exact h3 _ j (by omega) hj

theorem Flat.one {k : Nat} {cs : List C} {vs : List Value} (h : RL w Γ cs vs) (hk : cs.length = k) : Flat w Γ k [cs] vs := by
  refine ⟨by simp [← h.length, hk], fun i hi => ?_, fun i j hi hj => ?_, h.one⟩
  · simp at hi; subst hi; exact hk
  · simp at hi; subst hi
    simp only [Nat.zero_mul, Nat.zero_add]
    exact h.get j (by omega)

theorem Flat.replicate {k : Nat} {cs : List C} {vs : List Value} (h : RL w Γ cs vs) (hk : cs.length = k) : ∀ n, Flat w Γ k (List.replicate n cs) (List.replicate n vs).flatten
  | 0 => Flat.nil k
  | n + 1 => by
    rw [List.replicate_succ, List.replicate_succ, List.flatten_cons]
    exact (Flat.one h hk).append (Flat.replicate h hk n)

/-- What a row's block holds. -/
theorem RowR.flat {n k g : Nat} {xs : List (List C)} {b o' tc : Nat} {arr : Array Value}
    (h6 : arr.size = o' + tc * k) (h4 : xs.length ≤ tc) (h7 : ∀ i, i < xs.length → (xs.getD i []).length = k)
    (h8 : ∀ i j, i < xs.length → j < k → ∃ v, arr[o' + (i * k + j)]? = some v ∧ R w Γ (at2 xs i j) v) : Flat w Γ k xs ((arr.toList.drop o').take (xs.length * k)) := by
  have hle : xs.length * k ≤ tc * k := Nat.mul_le_mul_right _ h4
  refine ⟨by simp; omega, h7, fun i j hi hj => ?_, ?_⟩
  · obtain ⟨v, hv, hr⟩ := h8 i j hi hj
    have hlt := idx_lt hi hj
    have e : ((arr.toList.drop o').take (xs.length * k)).getD (i * k + j) undef = v := by
      simp [List.getD_eq_getElem?_getD, List.getElem?_take, hlt, hv]
    rw [e]; exact hr
  · intro v hv
    obtain ⟨m, hm, e⟩ := List.getElem_of_mem hv
    have hm' : m < xs.length * k := by simp at hm; omega
    have hk0 : 0 < k := by
      rcases Nat.eq_zero_or_pos k with h | h
      · subst h; simp at hm'
      · exact h
    obtain ⟨u, hu, hr⟩ := h8 (m / k) (m % k) (Nat.div_lt_of_lt_mul (by rw [Nat.mul_comm]; exact hm')) (Nat.mod_lt _ hk0)
    have hdm : m / k * k + m % k = m := by rw [Nat.mul_comm]; exact Nat.div_add_mod m k
    rw [hdm] at hu
    have e2 : v = u := by
      rw [← e]
      simp only [List.getElem_take, List.getElem_drop, Array.getElem_toList]
      have := (Array.getElem?_eq_some_iff.1 hu).2
      exact this
    rw [e2, oneC_eq]
    exact hr.one

theorem Flat.row {k : Nat} {xs : List (List C)} {vs : List Value} (h : Flat w Γ k xs vs) {arr : Array Value} {o' : Nat} (ha : ∀ m, m < vs.length → arr[o' + m]? = vs[m]?) : ∀ i j, i < xs.length → j < k → ∃ v, arr[o' + (i * k + j)]? = some v ∧ R w Γ (at2 xs i j) v := by
  intro i j hi hj
  have hlt : i * k + j < vs.length := by rw [h.1]; exact idx_lt hi hj
  refine ⟨vs.getD (i * k + j) undef, ?_, h.2.2.1 i j hi hj⟩
  rw [ha _ hlt, List.getD_eq_getElem?_getD, List.getElem?_eq_getElem hlt]
  rfl

theorem getD_of_getElem {M : Mem} {n : Nat} {x : Option Blk} (h : M[n]? = some x) : M.getD n none = x := by simp [List.getD_eq_getElem?_getD, h]

theorem fresh_gen (hS : Sim w Γ M) {n : Nat} (hh : M.getD n none ≠ some .hid) : ∀ g, genAt M n ≤ g → Γ.be n g = .unset := by
  intro g hg
  unfold genAt at hg
  cases h : M.getD n none with
  | none => exact hS.holes n h g
  | some B =>
    rw [h] at hg
    refine hS.gens n B h g (fun hu => ?_)
    have := hu.le (fun e => hh (by rw [h, e]))
    simp only [nextG] at hg; omega

theorem fresh_old {n : Nat} : ∀ B0, M.getD n none = some B0 → genB B0 < genAt M n := fun B0 h => by
  rw [genAt, h]; simp [nextG]

/-- A place where a block may be made. -/
def Site (M : Mem) (n : Nat) : Prop := n < M.length ∧ M.getD n none ≠ some .hid

/-- A new block of cells. -/
theorem newRow_put (hS : Sim w Γ M) {n : Nat} (hn : Site M n) {k tc : Nat} {xs : List (List C)} {vs : List Value} (hF : Flat w Γ k xs vs) (htc : xs.length ≤ tc) {arr : Array Value} {E : TypeId} (hsz : arr.size = tc * k)
    (ha : ∀ m, m < vs.length → arr[m]? = vs[m]?) {w' : World} (hh : w'.heap = w.heap.push (.cells arr E (0, 0))) (h1 : w'.os = w.os) (h2 : w'.tape = w.tape) (h3 : w'.output = w.output) :
    Sim w' (Γ.put n (genAt M n) (.at w.heap.size 0 k tc)) (M.set n (some (.row k (genAt M n) xs))) ∧ Ext All w Γ M w' (Γ.put n (genAt M n) (.at w.heap.size 0 k tc)) (M.set n (some (.row k (genAt M n) xs))) := by
  have hput : Put w Γ M w' n (genAt M n) (.at w.heap.size 0 k tc) := by
    refine ⟨hn.1, hn.2, .inl (fresh_old), fun g' hg => fresh_gen hS hn.2 _ (by omega), h1, h2, h3, by rw [hh]; simp, fun b hb _ => by rw [hh, Array.getElem?_push]; simp; omega, ?_⟩
    intro b o k' tc' e
    injection e with e1 e2 e3 e4
    subst e1
    exact .inl ⟨Nat.le_refl _, by rw [hh]; simp⟩
  have he := hput.ext (B := .row k (genAt M n) xs) rfl
  refine ⟨hput.sim hS rfl ?_, he⟩
  refine .inr ⟨w.heap.size, 0, tc, arr, E, Env.put_same _ _ _ _, hS.base, fun hF => by have := hS.Fb _ hF; omega, htc, by rw [hh]; simp, by omega, hF.2.1, ?_⟩
  intro i j hi hj
  obtain ⟨v, hv, hr⟩ := hF.row (arr := arr) (o' := 0) (fun m hm => by rw [Nat.zero_add]; exact ha m hm) i j hi hj
  exact ⟨v, hv, hr.mono hS he all⟩

/-- A block's row written anew, in place. -/
theorem setRow_put (hS : Sim w Γ M) {n k g g' : Nat} {xs xs' : List (List C)} {b o' tc : Nat} {arr arr' : Array Value} {E : TypeId} (hM : M.getD n none = some (.row k g xs)) (hbe : Γ.be n g = .at b o' k tc) (hheap : w.heap[b]? = some (.cells arr E (0, 0)))
    (hg : g' = g ∨ g' = g + 1) (hsz : arr'.size = o' + tc * k) {vs : List Value} (hF : Flat w Γ k xs' vs) (htc : xs'.length ≤ tc) (ha : ∀ m, m < vs.length → arr'[o' + m]? = vs[m]?) :
    Sim (w.setRow b arr') (Γ.put n g' (.at b o' k tc)) (M.set n (some (.row k g' xs'))) ∧ Ext All w Γ M (w.setRow b arr') (Γ.put n g' (.at b o' k tc)) (M.set n (some (.row k g' xs'))) := by
  have hlt : b < w.heap.size := (Array.getElem?_eq_some_iff.1 hheap).1
  have hn : n < M.length := hS.bound n g (by rw [hbe]; simp)
  have hob : OwnedBy Γ M n b := ⟨_, o', k, tc, hM, rfl, hbe⟩
  have hput : Put w Γ M (w.setRow b arr') n g' (.at b o' k tc) := by
    refine ⟨hn, by rw [hM]; simp, ?_, fun g2 hg2 => hS.gens n _ hM g2 (fun hu => by have : g2 ≤ g := hu; omega), rfl, rfl, rfl, by simp [World.setRow], fun b' hb' ho => ?_, fun b2 o2 k2 tc2 e => ?_⟩
    · rcases hg with rfl | rfl
      · exact .inr ⟨_, hM, rfl, hbe⟩
      · refine .inl fun B0 h0 => ?_
        rw [hM] at h0; injection h0 with h0; subst h0
        simp [genB]
    · exact setRow_other w b b' arr' (fun e => ho (e ▸ hob))
    · injection e with e1; subst e1; exact .inr hob
  have he := hput.ext (B := .row k g' xs') rfl
  refine ⟨hput.sim hS rfl ?_, he⟩
  have hB := hob.lt hS
  refine .inr ⟨b, o', tc, arr', E, Env.put_same _ _ _ _, hB.2.1, hB.2.2, htc, setRow_heap w b arr arr' E (0, 0) hheap, hsz, hF.2.1, fun i j hi hj => ?_⟩
  obtain ⟨v, hv, hr⟩ := hF.row ha i j hi hj
  exact ⟨v, hv, hr.mono hS he all⟩

theorem setB_some {n : Nat} {B : Nat → Blk} {M' : Mem} (h : setB M n B = some M') : Site M n ∧ M' = M.set n (some (B (genAt M n))) := by
  unfold setB at h
  split at h
  · simp at h
  · rename_i old hne ho
    simp only [Option.some.injEq] at h
    subst h
    refine ⟨⟨(List.getElem?_eq_some_iff.1 ho).1, fun e => hne ?_⟩, ?_⟩
    · rw [getD_of_getElem ho] at e; exact e
    rw [genAt, getD_of_getElem ho]
  · simp at h

theorem ptr_new {w' : World} {n g b k tc : Nat} (Γ : Env) : RVal w' (Γ.put n g (.at b 0 k tc)) (.c (.ptr n g 0 0)) (.pointer (some ⟨b, 0, none⟩)) := by
  have := R.ptr (w := w') (Γ := Γ.put n g (.at b 0 k tc)) n g 0 0 b 0 k tc (Env.put_same _ _ _ _)
  rw [show (0 : Nat) + (0 * k + 0) = 0 by omega] at this
  exact this

theorem alloc_sound (hS : Sim w Γ M) {t : TypeId} {k b n : Nat} {zs : List Z} {M' : Mem} (hop : o.op = .alloc t) (hi : infoT P t = some (k, b, zs)) (hset : setB M n (fun g => .row k g [zs.map ofZ]) = some M') : OpOK P o a w Γ M (.c (.ptr n (genAt M n) 0 0)) M' := by
  obtain ⟨i, z, h1, h2, h3, h4, h5, h6, h7⟩ := infoT_some hi
  obtain ⟨hn, rfl⟩ := setB_some hset
  have hRL : RL w Γ (zs.map ofZ) z.cells.toList := zOf_RL h5
  have hp := newRow_put hS hn (k := k) (tc := 1) (Flat.one hRL (by simp [h6])) (by simp) (arr := z.cells) (E := t) (by have := hRL.length; simp at this; simp [← this, h6]) (fun m hm => by simp)
    (w' := { w with heap := w.heap.push (.cells z.cells t (0, 0)) }) rfl rfl rfl rfl
  refine OpOK.value ?_ hp.1 hp.2 (ptr_new Γ)
  simp [execOp, hop, Instr.alloc, zeroValue, typeInfo, h1, h2, newVar, newRow]

theorem box_sound (hS : Sim w Γ M) (hT : Tm w Γ tm a) {t : TypeId} {k n : Nat} {x : Operand} {x' : X} {cs : List C} {M' : Mem} (hop : o.op = .box t x) (hx : xOf x = some x') (hc : (evX tm x').cells = some cs) (hk : cs.length = k)
    (hset : setB M n (fun g => .row k g [cs]) = some M') : OpOK P o a w Γ M (.c (.ptr n (genAt M n) 0 0)) M' := by
  obtain ⟨hn, rfl⟩ := setB_some hset
  have hRL := (evX_R hT hx).cells hc
  have hp := newRow_put hS hn (k := k) (tc := 1) (Flat.one hRL hk) (by simp) (arr := (a.eval x).cells) (E := t) (by have := hRL.length; simp at this; simp [← this, hk]) (fun m hm => by simp)
    (w' := { w with heap := w.heap.push (.cells (a.eval x).cells t (0, 0)) }) rfl rfl rfl rfl
  refine OpOK.value ?_ hp.1 hp.2 (ptr_new Γ)
  simp [execOp, hop, Instr.box, newVar, newRow]

/-! ### Parts laid into cells -/

theorem foldSet (off : Nat) : ∀ (vs : List Value) (s : Nat) (cur : Array Value), ((vs.zipIdx s).foldl (fun cs (p : Value × Nat) => cs.setIfInBounds (off + p.2) p.1) cur).size = cur.size ∧
    ∀ m, ((vs.zipIdx s).foldl (fun cs (p : Value × Nat) => cs.setIfInBounds (off + p.2) p.1) cur)[m]? = if off + s ≤ m ∧ m < off + s + vs.length ∧ m < cur.size then vs[m - (off + s)]? else cur[m]?
  | [], s, cur => ⟨rfl, fun m => by
    rw [if_neg (by simp; omega)]; rfl⟩
  | v :: vs, s, cur => by
    obtain ⟨h1, h2⟩ := foldSet off vs (s + 1) (cur.setIfInBounds (off + s) v)
    refine ⟨by simpa using h1, fun m => ?_⟩
    simp only [List.zipIdx_cons, List.foldl_cons]
    rw [h2 m]
    simp only [Array.size_setIfInBounds, Array.getElem?_setIfInBounds, List.length_cons]
    by_cases c1 : m = off + s
    · subst c1
      rw [if_neg (by omega)]
      by_cases c2 : off + s < cur.size
      · rw [if_pos rfl, if_pos c2, if_pos ⟨by omega, by omega, c2⟩]
        simp
      · rw [if_pos rfl, if_neg c2, if_neg (by omega), Array.getElem?_eq_none (by omega)]
    · by_cases c3 : off + (s + 1) ≤ m ∧ m < off + (s + 1) + vs.length ∧ m < cur.size
      · rw [if_pos c3, if_pos ⟨by omega, by omega, c3.2.2⟩]
        rw [show m - (off + s) = (m - (off + (s + 1))) + 1 by omega, List.getElem?_cons_succ]
      · rw [if_neg c3, if_neg (fun e => c1 e.symm), if_neg (by omega)]

theorem splice_length {cs new : List C} {off : Nat} (h : off + new.length ≤ cs.length) : (splice cs off new).length = cs.length := by
  unfold splice
  split
  · simp
  · simp; omega

theorem splice_get {cs new : List C} {off : Nat} (h : off + new.length ≤ cs.length) (m : Nat) : (splice cs off new)[m]? = if off ≤ m ∧ m < off + new.length then new[m - off]? else cs[m]? := by
  unfold splice
  split
  · rename_i c
    simp only [List.length_cons, List.length_nil, Nat.zero_add] at h ⊢
    rw [List.getElem?_set]
    by_cases e : off = m
    · subst e
      rw [if_pos rfl, if_pos (by omega), if_pos (by omega)]
      simp
    · rw [if_neg e, if_neg (by omega)]
  · rcases Nat.lt_or_ge m off with h1 | h1
    · rw [if_neg (by omega), List.append_assoc, List.getElem?_append_left (by simp; omega)]
      simp [h1]
    · rcases Nat.lt_or_ge m (off + new.length) with h2 | h2
      · rw [if_pos ⟨h1, h2⟩, List.append_assoc, List.getElem?_append_right (by simp; omega), List.getElem?_append_left (by simp; omega)]
        simp; congr 1; omega
      · rw [if_neg (by omega), List.getElem?_append_right (by simp; omega)]
        simp; congr 1; omega

theorem RL.splice {cs new : List C} {cur : Array Value} {vs : List Value} {off : Nat} (h : RL w Γ cs cur.toList) (g : RL w Γ new vs) (hle : off + new.length ≤ cs.length) :
    RL w Γ (splice cs off new) ((vs.zipIdx.foldl (fun cs (p : Value × Nat) => cs.setIfInBounds (off + p.2) p.1) cur)).toList := by
  obtain ⟨h1, h2⟩ := foldSet off vs 0 cur
  have hl := h.length
  have gl := g.length
  simp only [Array.length_toList] at hl
  refine RL.mk (by rw [splice_length hle, hl, Array.length_toList]; exact h1.symm) fun j hj => ?_
  rw [splice_length hle] at hj
  simp only [List.getD_eq_getElem?_getD, splice_get hle, Array.getElem?_toList]
  rw [h2 j]
  simp only [Nat.add_zero]
  by_cases c : off ≤ j ∧ j < off + new.length
  · rw [if_pos c, if_pos ⟨c.1, by omega, by omega⟩]
    have := g.get (j - off) (by omega)
    simpa [List.getD_eq_getElem?_getD] using this
  · rw [if_neg c, if_neg (by omega)]
    have := h.get j hj
    simpa [List.getD_eq_getElem?_getD] using this

theorem fill_sound (hT : Tm w Γ tm a) {place : Nat → Option (Nat × Nat)} : ∀ {ps : List (Nat × Operand)} {qs : List (Nat × Nat × X)} {cs cs' : List C} {cur : Array Value}, RL w Γ cs cur.toList →
    (ps.mapM fun (p : Nat × Operand) => match place p.1, xOf p.2 with
      | some (off, k), some x => some (off, k, x)
      | _, _ => none) = some qs → fill tm cs qs = some cs' → ∃ cur', Instr.fill place cur (ps.map fun (p : Nat × Operand) => (p.1, a.eval p.2)) = some cur' ∧ RL w Γ cs' cur'.toList
  | [], qs, cs, cs', cur, hRL, hq, hf => by
    rw [mapM_nil_some hq] at hf
    simp only [fill, Option.some.injEq] at hf
    subst hf
    exact ⟨cur, rfl, hRL⟩
  | p :: ps, qs, cs, cs', cur, hRL, hq, hf => by
    obtain ⟨q, qs', h1, h2, rfl⟩ := mapM_cons_some hq
    split at h1
    · rename_i off k x hp hx
      simp only [Option.some.injEq] at h1
      subst h1
      simp only [fill] at hf
      split at hf
      · rename_i new hn
        split at hf
        · rename_i hc
          have hR := (evX_R hT hx).cells hn
          have hsp := hRL.splice hR (off := off) (by omega)
          obtain ⟨cur', h3, h4⟩ := fill_sound hT hsp h2 hf
          refine ⟨cur', ?_, h4⟩
          have hl := hR.length
          have hl2 := hRL.length
          simp only [Array.length_toList] at hl hl2
          simp only [List.map_cons, Instr.fill, hp]
          rw [if_neg (by simp only [ne_eq, Bool.or_eq_true, decide_eq_true_eq, not_or, Decidable.not_not]; omega)]
          rw [← h3]
          congr 1
          rw [← Array.foldl_toList]
          simp
        · simp at hf
      · simp at hf
    · simp at h1

end
end Go.Proofs.Ytopcnhojkfeafaa.Am
