/- AM: regions in any order. -/
import Derived.Test.YtopcnhojkfeafaaAmRegion
set_option linter.unusedSimpArgs false
set_option linter.unusedVariables false
namespace Go.Proofs.Ytopcnhojkfeafaa.Am
open Go.RowKit

section
variable {P : Program} {w : World} {Γ : Env} {M : Mem} {tm : List V} {bs : Nat} {A : Pg} {cl : Cl}

/-- What is still to be done. -/
def rem (n : Nat) (listed : Array Bool) : List Nat := (List.range n).filter fun i => !listed.getD i true

def pick (os : List O) (l : List Nat) : List O := l.filterMap fun i => os[i]?

theorem getD_set {listed : Array Bool} {i j : Nat} (hi : i < listed.size) : (listed.setIfInBounds i true).getD j true = (decide (j = i) || listed.getD j true) := by
  simp only [Array.getD_eq_getD_getElem?, Array.getElem?_setIfInBounds]
  by_cases e : i = j
  · subst e; simp [hi]
  · simp [e, show ¬ (j = i) from fun h => e h.symm]

theorem rem_split {n i : Nat} {listed : Array Bool} (hs : listed.size = n) (hi : i ∈ rem n listed) :
    ∃ pre post, rem n listed = pre ++ i :: post ∧ (∀ p ∈ pre, p < i) ∧ rem n (listed.setIfInBounds i true) = pre ++ post := by
  obtain ⟨pre, post, e⟩ := List.append_of_mem hi
  have hp : (rem n listed).Pairwise (· < ·) := List.Pairwise.filter _ List.pairwise_lt_range
  rw [e, List.pairwise_append] at hp
  obtain ⟨h1, h2, h3⟩ := hp
  have hpre : ∀ p ∈ pre, p < i := fun p hp => h3 p hp i (by simp)
  have hpost : ∀ p ∈ post, i < p := fun p hp => (List.pairwise_cons.1 h2).1 p hp
  refine ⟨pre, post, e, hpre, ?_⟩
  have hlt : i < n := by
    have := (List.mem_filter.1 hi).1
    simpa using this
  have e1 : rem n (listed.setIfInBounds i true) = (rem n listed).filter (fun j => decide (j ≠ i)) := by
    unfold rem
    rw [List.filter_filter]
    congr 1
    funext j
    rw [getD_set (by omega)]
    by_cases h : j = i <;> simp [h]
  rw [e1, e, List.filter_append, List.filter_cons]
  rw [if_neg (by simp)]
  rw [List.filter_eq_self.2 (fun p hp => by have := hpre p hp; simp; omega), List.filter_eq_self.2 (fun p hp => by have := hpost p hp; simp; omega)]

theorem pick_all : ∀ os : List O, pick os (List.range os.length) = os
  | [] => rfl
  | o :: os => by
    have ih := pick_all os
    unfold pick at ih ⊢
    rw [List.length_cons, List.range_succ_eq_map, List.filterMap_cons, List.filterMap_map]
    simp only [List.getElem?_cons_zero]
    congr 1

def ancF (acc : List (List Nat)) (o : Oper) : List Nat := uniq ((o.after.toList.filter (fun e => Region.binds .any e)).flatMap fun e => e.on :: acc.getD e.on [])

theorem anc_fold : ∀ (l : List Oper) (acc : List (List Nat)), ∃ ys, l.foldl (fun acc o => acc ++ [ancF acc o]) acc = acc ++ ys ∧ ys.length = l.length ∧ ∀ (j : Nat) (o : Oper), l[j]? = some o → ys[j]? = some (ancF ((acc ++ ys).take (acc.length + j)) o)
  | [], acc => ⟨[], by simp, rfl, fun j o h => by simp at h⟩
  | o :: l, acc => by
    obtain ⟨ys, h1, h2, h3⟩ := anc_fold l (acc ++ [ancF acc o])
    refine ⟨ancF acc o :: ys, by rw [List.foldl_cons, h1]; simp, by simp [h2], fun j o' hj => ?_⟩
    cases j with
    | zero =>
      simp only [List.getElem?_cons_zero, Option.some.injEq] at hj
      subst hj
      simp
    | succ j =>
      simp only [List.getElem?_cons_succ] at hj ⊢
      rw [h3 j o' hj]
      have e : (acc ++ [ancF acc o]).length + j = acc.length + (j + 1) := by simp; omega
      rw [e]
      simp

theorem ancs_eq (l : List Oper) : ancs l = l.foldl (fun acc o => acc ++ [ancF acc o]) [] := rfl

theorem ancs_at {l : List Oper} {j : Nat} {o : Oper} (h : l[j]? = some o) : (ancs l)[j]? = some (ancF ((ancs l).take j) o) := by
  obtain ⟨ys, h1, h2, h3⟩ := anc_fold l []
  have e : ancs l = ys := by rw [ancs_eq, h1]; simp
  rw [e, h3 j o h]
  simp

theorem ancs_len (l : List Oper) : (ancs l).length = l.length := by
  obtain ⟨ys, h1, h2, h3⟩ := anc_fold l []
  rw [ancs_eq, h1]; simpa using h2

/-- Whatever is done, all that it waits for is done. -/
def Closed (l : List Oper) (listed : Array Bool) : Prop := ∀ j, j < l.length → listed.getD j true = true → ∀ m ∈ (ancs l).getD j [], listed.getD m true = true

theorem getD_false {listed : Array Bool} {m : Nat} (h : listed.getD m false = true) : listed.getD m true = true := by
  rw [Array.getD_eq_getD_getElem?] at h ⊢
  cases hq : listed[m]? with
  | none => rw [hq] at h; cases h
  | some b => rw [hq] at h; exact h

theorem ready_spec {ops : Array Oper} {listed : Array Bool} {i : Nat} (h : i ∈ Region.ready .any ops listed) : i ∈ rem ops.size listed ∧ ∃ o, ops[i]? = some o ∧ ∀ e ∈ o.after.toList, Region.binds .any e = true → listed.getD e.on false = true := by
  unfold Region.ready at h
  rw [List.mem_filter] at h
  obtain ⟨h1, h2⟩ := h
  simp only [Bool.and_eq_true] at h2
  refine ⟨List.mem_filter.2 ⟨h1, h2.1⟩, ?_⟩
  cases ho : ops[i]? with
  | none => rw [ho] at h2; simp at h2
  | some o =>
    rw [ho] at h2
    refine ⟨o, rfl, fun e he hb => ?_⟩
    have h3 := h2.2
    simp only [Option.map_some, Option.getD_some] at h3
    rw [← Array.all_toList, List.all_eq_true] at h3
    have := h3 e he
    simpa [hb] using this

theorem ready_of {ops : Array Oper} {listed : Array Bool} {i : Nat} {o : Oper} (h1 : i ∈ rem ops.size listed) (ho : ops[i]? = some o) (h : ∀ e ∈ o.after.toList, Region.binds .any e = true → listed.getD e.on false = true) : i ∈ Region.ready .any ops listed := by
  unfold Region.ready
  obtain ⟨h2, h3⟩ := List.mem_filter.1 h1
  rw [List.mem_filter]
  refine ⟨h2, ?_⟩
  simp only [Bool.and_eq_true]
  refine ⟨h3, ?_⟩
  rw [ho]
  simp only [Option.map_some, Option.getD_some]
  rw [← Array.all_toList, List.all_eq_true]
  intro e he
  cases hb : Region.binds .any e with
  | false => rfl
  | true => simp [h e he hb]

theorem Closed.anc {l : List Oper} {listed : Array Bool} {i : Nat} {o : Oper} (hc : Closed l listed) (ho : l[i]? = some o) (h : ∀ e ∈ o.after.toList, Region.binds .any e = true → listed.getD e.on false = true) :
    ∀ m ∈ (ancs l).getD i [], listed.getD m true = true := by
  intro m hm
  rw [List.getD_eq_getElem?_getD, ancs_at ho] at hm
  simp only [Option.getD_some, ancF, mem_uniq, List.mem_flatMap, List.mem_filter] at hm
  obtain ⟨e, ⟨he, hb⟩, hm⟩ := hm
  have h1 := getD_false (h e he hb)
  rcases List.mem_cons.1 hm with rfl | hm
  · exact h1
  · rw [List.getD_eq_getElem?_getD, List.getElem?_take] at hm
    split at hm
    · rename_i hlt
      have hl : i < l.length := (List.getElem?_eq_some_iff.1 ho).1
      refine hc e.on (by omega) h1 m ?_
      rw [List.getD_eq_getElem?_getD]; exact hm
    · simp at hm

theorem Closed.set {l : List Oper} {listed : Array Bool} {i : Nat} (hc : Closed l listed) (hi : i < listed.size) (h : ∀ m ∈ (ancs l).getD i [], listed.getD m true = true) : Closed l (listed.setIfInBounds i true) := by
  intro j hj hl m hm
  rw [getD_set hi] at hl ⊢
  by_cases e : j = i
  · subst e; simp [h m hm]
  · have : listed.getD j true = true := by simpa [e] using hl
    simp [hc j hj this m hm]

theorem any_sound (hcl : SoundCl P A cl) (hh : HoldCl A cl) {ops : Array Oper} {os : List O} (htr : ops.toList.mapM (trO P ops) = some (os.map erO)) (hdr : drawOK ops.toList os = true) {Q : Exit → Act → World → Prop} {D : Nat → Prop} {w0 : World} {Γ0 : Env} {M0 : Mem} {ds : List Deferred} {sf : St}
    (hQ : After Q D w0 Γ0 M0 ds .normal sf) : ∀ (fuel : Nat) (listed : Array Bool) (s : St) (a : Act) (w : World) (Γ : Env), listed.size = ops.size → Closed ops.toList listed → (rem ops.size listed).length = fuel →
      Sim w Γ s.2 → Ext D w0 Γ0 M0 w Γ s.2 → Tm w Γ s.1 a → a.defers = ds → evOs A cl bs (pick os (rem ops.size listed)) s = some sf → wpAny P .any ops Q fuel listed a w := by
  simp only [drawOK, Bool.and_eq_true] at hdr
  obtain ⟨⟨hd1, hd2⟩, hd3⟩ := hdr
  have hv : ∀ o ∈ os, ∃ v w, o.v = some (v, w) ∧ VS.sub w v = true := fun o ho => by
    have := List.all_eq_true.1 hd1 o ho
    split at this
    · rename_i v w h; exact ⟨v, w, h, this⟩
    · cases this
  have hlen := tr_length htr
  have hback : ∀ (i : Nat) (o : Oper), ops[i]? = some o → ∀ e ∈ o.after.toList, Region.binds .any e = true → e.on < i := fun i o ho e he hb => by
    have h1 : (o, i) ∈ ops.toList.zipIdx := by
      rw [List.mem_zipIdx_iff_getElem?]
      simpa using ho
    have := List.all_eq_true.1 hd2 (o, i) h1
    have := List.all_eq_true.1 this e he
    simpa [hb] using this
  have hind : ∀ (i p : Nat) (oi op : O), os[i]? = some oi → os[p]? = some op → p < i → p ∉ (ancs ops.toList).getD i [] → indep op oi = true := fun i p oi op hi hp hlt hn => by
    have hil : i < (ancs ops.toList).length := by
      rw [ancs_len]
      have := (List.getElem?_eq_some_iff.1 hi).1
      simp; omega
    have h1 : ((ancs ops.toList).getD i [], i) ∈ (ancs ops.toList).zipIdx := by
      rw [List.mem_zipIdx_iff_getElem?]
      simp [List.getD_eq_getElem?_getD, hil]
    have h2 := List.all_eq_true.1 hd3 _ h1
    have h3 := List.all_eq_true.1 h2 p (by simpa using hlt)
    simp only [Bool.or_eq_true, hi, hp] at h3
    rcases h3 with h3 | h3
    · exact absurd (by simpa using h3) hn
    · exact h3
  intro fuel
  induction fuel with
  | zero =>
    intro listed s a w Γ hsz hc hr hS he hT hd h
    have hr := List.eq_nil_of_length_eq_zero hr
    rw [hr] at h
    simp only [pick, List.filterMap_nil, evOs, Option.some.injEq] at h
    subst h
    refine ⟨?_, hQ a w Γ hS he hT hd⟩
    cases hq : Region.ready .any ops listed with
    | nil => rfl
    | cons i l =>
      have := (ready_spec (show i ∈ Region.ready .any ops listed by rw [hq]; simp)).1
      rw [hr] at this
      cases this
  | succ fuel ih =>
    intro listed s a w Γ hsz hc hr hS he hT hd h
    refine ⟨fun h0 => ?_, fun i hi => ?_⟩
    · -- there is one that is ready
      exfalso
      cases hq : rem ops.size listed with
      | nil => rw [hq] at hr; simp at hr
      | cons i l =>
        have hm : i ∈ rem ops.size listed := by rw [hq]; simp
        have hilt : i < ops.size := by
          have := (List.mem_filter.1 hm).1
          simpa using this
        have ho : ops[i]? = some ops[i] := Array.getElem?_eq_getElem hilt
        have hp : (rem ops.size listed).Pairwise (· < ·) := List.Pairwise.filter _ List.pairwise_lt_range
        have : i ∈ Region.ready .any ops listed := ready_of hm ho (fun e he hb => by
          have hlt := hback i _ ho e he hb
          have hlm : e.on < listed.size := by omega
          have : e.on ∉ rem ops.size listed := fun hmem => by
            rw [hq] at hmem hp
            rcases List.mem_cons.1 hmem with e1 | e1
            · omega
            · have := (List.pairwise_cons.1 hp).1 _ e1; omega
          have h1 : ¬ ((!listed.getD e.on true) = true) := fun hx => this (List.mem_filter.2 ⟨by simp; omega, hx⟩)
          have h2 : listed.getD e.on true = true := by simpa using h1
          rw [Array.getD_eq_getD_getElem?, Array.getElem?_eq_getElem hlm] at h2 ⊢
          exact h2)
        rw [h0] at this
        cases this
    · obtain ⟨hm, o, ho, haf⟩ := ready_spec hi
      obtain ⟨pre, post, e1, e2, e3⟩ := rem_split hsz hm
      obtain ⟨o', h1, h2⟩ := tr_at htr ho
      have hilt : i < ops.size := (Array.getElem?_eq_some_iff.1 ho).1
      have hanc := hc.anc (by rw [Array.getElem?_toList]; exact ho) haf
      obtain ⟨v, wr, hvo, hso⟩ := hv o' (List.mem_of_getElem? h1)
      rw [e1] at h
      have hpk : pick os (pre ++ i :: post) = pick os pre ++ o' :: pick os post := by
        simp only [pick, List.filterMap_append, List.filterMap_cons, h1]
      rw [hpk] at h
      obtain ⟨s1, k1, k2⟩ := front hh hvo hso (fun p hp => by
        simp only [pick, List.mem_filterMap] at hp
        obtain ⟨j, hj, hp⟩ := hp
        obtain ⟨v', w', q1, _⟩ := hv p (List.mem_of_getElem? hp)
        refine ⟨hind i j o' p h1 hp (e2 j hj) (fun hx => ?_), v', w', q1⟩
        have hx := hanc j hx
        have hjm : j ∈ rem ops.size listed := by rw [e1]; exact List.mem_append.2 (.inl hj)
        have := (List.mem_filter.1 hjm).2
        rw [hx] at this
        cases this) h
      have hpk2 : pick os pre ++ pick os post = pick os (rem ops.size (listed.setIfInBounds i true)) := by
        rw [e3]; simp [pick]
      rw [hpk2] at k2
      unfold wpOp
      rw [ho]
      refine evO_sound (bs := bs) hcl hh (tm' := s1.1) (M' := s1.2) hS hT h2 (fun vi wr' hq => by rw [hvo] at hq; injection hq with hq; injection hq with hq1 hq2; subst hq1; subst hq2; exact hso) k1 (fun a' w' Γ' s1' x1 t1 d1 => ?_)
      refine ih (listed.setIfInBounds i true) s1 a' w' Γ' (by simpa using hsz) (hc.set (by omega) hanc) ?_ s1' (he.trans (x1.mono (fun _ _ => trivial))) t1 (d1.trans hd) k2
      have hl := congrArg List.length e1
      have hl2 := congrArg List.length e3
      simp only [List.length_append, List.length_cons] at hl hl2
      omega

theorem Ext.same {w1 : World} (h1 : w1.heap = w.heap) (h2 : w1.os = w.os) (h3 : w1.tape = w.tape) (h4 : w1.output = w.output) (D : Nat → Prop) : Ext D w Γ M w1 Γ M :=
  ⟨h2, h3, h4, by rw [h1]; exact Nat.le_refl _, rfl, fun _ h => h, fun _ h => .inl h, fun _ h => .inl h, fun _ _ _ => by rw [h1], fun _ _ B h => ⟨⟨B, h, Later.refl _⟩, fun _ _ => rfl⟩⟩

theorem Sim.same {w1 : World} (hS : Sim w Γ M) (h1 : w1.heap = w.heap) (h2 : w1.os = w.os) (h3 : w1.tape = w.tape) (h4 : w1.output = w.output) : Sim w1 Γ M :=
  ⟨fun n B hM => BlkR.mono hS (Ext.same h1 h2 h3 h4 All) all hM (fun _ _ => by rw [h1]) (fun b hb => (hb.lt hS).2.2) (hS.blk n B hM), hS.apart, hS.bound, hS.holes, hS.gens, by rw [h1]; exact hS.base, by rw [h1]; exact hS.Fb⟩

theorem draw_sound (hm : P.follows .mixedOrders = true) (hcl : SoundCl P A cl) (hh : HoldCl A cl) {ops : Array Oper} {os : List O} {id : Nat} (htr : ops.toList.mapM (trO P ops) = some (os.map erO)) (hdr : drawOK ops.toList os = true) {Q : Exit → Act → World → Prop} {D : Nat → Prop} {w0 : World} {Γ0 : Env} {M0 : Mem} {ds : List Deferred} {s sf : St} {a : Act}
    (hQ : After Q D w0 Γ0 M0 ds .normal sf) (hS : Sim w Γ s.2) (he : Ext D w0 Γ0 M0 w Γ s.2) (hT : Tm w Γ s.1 a) (hd : a.defers = ds) (h : evOs A cl bs os s = some sf) : (Code.region id ops true).wp P Q a w := by
  have hl := tr_length htr
  have hrem : rem ops.size (Array.replicate ops.size false) = List.range ops.size := by
    unfold rem
    rw [List.filter_eq_self]
    intro i hi
    have : i < ops.size := by simpa using hi
    simp [Array.getD_eq_getD_getElem?, this]
  refine wp_region_any hm ?_
  have hx := Ext.same (w := w) (Γ := Γ) (M := s.2) (w1 := { w with drawn := w.drawn + 1 }) rfl rfl rfl rfl All
  refine any_sound (bs := bs) hcl hh htr hdr hQ ops.size _ s a _ Γ (by simp) (fun j hj hl m hm => ?_) (by rw [hrem]; simp) (hS.same rfl rfl rfl rfl) (he.trans (hx.mono (fun _ _ => trivial))) (hT.mono hS hx all) hd ?_
  · have : j < ops.size := by simpa using hj
    simp [Array.getD_eq_getD_getElem?, this] at hl
  · rw [hrem]
    have : pick os (List.range ops.size) = os := by
      rw [← hl]; exact pick_all os
    rw [this]
    exact h

end
end Go.Proofs.Ytopcnhojkfeafaa.Am
