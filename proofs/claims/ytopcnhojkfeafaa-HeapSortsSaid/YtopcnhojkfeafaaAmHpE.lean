/- AM: the heap's functions that change it: Remove, Put, Pop, New. -/
import Derived.Test.YtopcnhojkfeafaaAmHpD
set_option linter.unusedSimpArgs false
set_option linter.unusedVariables false
set_option maxRecDepth 100000
namespace Go.Proofs.Ytopcnhojkfeafaa.Am.Hp

/-- The last one gone. -/
def HS.cut (s : HS) (a : Nat) : HS := { s with len := s.len - 1, place := s.place.set a 0 }

theorem hasN_iff {s : HS} {id : Int} : hasN s.place id = true ↔ ∃ a : Nat, id = a ∧ (s.K a).isSome = true := by
  unfold hasN HS.K
  rw [decide_eq_true_eq]
  constructor
  · rintro ⟨h1, h2, h3⟩
    exact ⟨id.toNat, by omega, by simp [h3]⟩
  · rintro ⟨a, rfl, h⟩
    have h3 : 0 < s.place[a]?.getD 0 := by
      by_cases c : 0 < s.place[a]?.getD 0
      · exact c
      · simp [c] at h
    have : a < s.place.length := by
      by_cases c : a < s.place.length
      · exact c
      · rw [List.getElem?_eq_none (by omega)] at h3; simp at h3
    exact ⟨by omega, by omega, by simpa using h3⟩

theorem cut_spec {s : HS} (h : HP s) {i : Nat} (hi : i < s.len) : HP ((s.swp i (s.len - 1)).cut (s.at i)) ∧ (∀ b, ((s.swp i (s.len - 1)).cut (s.at i)).K b = if b = s.at i then none else s.K b) := by
  have hl : s.len - 1 < s.len := by omega
  obtain ⟨h1, h2⟩ := h.swp hi hl
  have ha := h.at hi
  have hat : (s.swp i (s.len - 1)).at (s.len - 1) = s.at i := by rw [at_swp h.toHV hi hl, if_pos rfl]
  have hlen : (s.swp i (s.len - 1)).len = s.len := rfl
  have hpl : (s.swp i (s.len - 1)).place.length = s.place.length := by simp [HS.swp, HS.swap]
  refine ⟨⟨⟨?_, ?_, ?_, ?_, fun m hm => ?_⟩, fun m hm => ?_, fun a hb => ?_⟩, fun b => ?_⟩
  · have := h1.hl; simp only [HS.cut]; omega
  · have := h1.kl; simpa [HS.cut] using this
  · have := h1.small; simpa [HS.cut] using this
  · have := h1.short; simp only [HS.cut]; omega
  · simp only [HS.cut, hlen] at hm
    obtain ⟨a, k1, k2, k3⟩ := h1.ids m (by omega)
    exact ⟨a, k1, by simpa [HS.cut] using k2, k3⟩
  · simp only [HS.cut, hlen] at hm
    have k := h1.pl m (by omega)
    show ((s.swp i (s.len - 1)).place.set (s.at i) 0)[(s.swp i (s.len - 1)).at m]? = _
    rw [List.getElem?_set, if_neg, k]
    intro e
    rw [← hat] at e
    have := h1.inj (by omega) (by omega) e
    omega
  · simp only [HS.cut, List.length_set] at hb
    show ((s.swp i (s.len - 1)).place.set (s.at i) 0)[a]? = _ ∨ _
    rw [List.getElem?_set]
    by_cases e : s.at i = a
    · subst e; left; rw [if_pos rfl, if_pos (by rw [hpl]; exact ha.2.1)]
    · rw [if_neg e]
      rcases h1.pz a hb with k | ⟨m, k1, k2⟩
      · exact .inl k
      · refine .inr ⟨m, ?_, k2⟩
        show m < s.len - 1
        by_cases c : m = s.len - 1
        · rw [c, hat] at k2; exact absurd k2 e
        · have : m < s.len := k1
          omega
  · have k := h2 b
    unfold HS.K at k ⊢
    show (if 0 < ((s.swp i (s.len - 1)).place.set (s.at i) 0)[b]?.getD 0 then some (s.key b) else none) = _
    rw [List.getElem?_set]
    by_cases e : s.at i = b
    · subst e
      have hz : (if s.at i < (s.swp i (s.len - 1)).place.length then some (0 : Int) else none) = some 0 := if_pos (by rw [hpl]; exact ha.2.1)
      rw [if_pos rfl, hz]
      simp
    · rw [if_neg e, if_neg (show ¬ b = s.at i from fun c => e c.symm)]
      exact k

theorem cut_near {s : HS} (h : HP s) (ho : Ord s) {i : Nat} (hi : i < s.len) : Near ((s.swp i (s.len - 1)).cut (s.at i)) i ∧ (i = s.len - 1 → Ord ((s.swp i (s.len - 1)).cut (s.at i))) := by
  have hl : s.len - 1 < s.len := by omega
  have ah : ∀ m q, m ≠ i → q ≠ i → m < s.len - 1 → q < s.len - 1 → ((s.swp i (s.len - 1)).cut (s.at i)).ahead m q = s.ahead m q := fun m q h1 h2 h3 h4 => by
    show (s.swp i (s.len - 1)).ahead m q = _
    rw [ahead_swp h.toHV hi hl, if_neg (show m ≠ s.len - 1 by omega), if_neg h1, if_neg (show q ≠ s.len - 1 by omega), if_neg h2]
    rfl
  refine ⟨⟨fun j j0 jl ji jp => ?_, fun j j0 jl jp i0 => ?_⟩, fun e j j0 jl => ?_⟩
  · have jl' : j < s.len - 1 := jl
    rw [ah j _ ji jp jl' (by omega)]
    exact ho j j0 (by omega)
  · have jl' : j < s.len - 1 := jl
    rw [ah j _ (by omega) (by omega) jl' (by omega)]
    have k1 := ho j j0 (by omega)
    have k2 := ho i i0 hi
    rw [jp] at k1
    exact h.toHV.lt_trans (by omega) hi (by omega) k2 k1
  · have jl' : j < s.len - 1 := jl
    rw [ah j _ (by omega) (by omega) jl' (by omega)]
    exact ho j j0 (by omega)

section
variable {p : Pos} {M : Mem} (hp : p.In M) (s : HS)
include hp
theorem mem_n : (s.mem p M)[p.n]? = some (some (.row 3 s.gn [[.own p.a s.ga 2 0 s.keys.length, .own p.b s.gb 1 0 s.place.length, .own p.c s.gc 1 0 s.len]])) := put4_n hp _ _ _ _
theorem mem_a : (s.mem p M)[p.a]? = some (some (.row 2 s.ga (s.keys.map encK))) := put4_a hp _ _ _ _
theorem mem_b : (s.mem p M)[p.b]? = some (some (.row 1 s.gb (s.place.map encI))) := put4_b hp _ _ _ _
theorem mem_c : (s.mem p M)[p.c]? = some (some (.row 1 s.gc (s.row.map encI))) := put4_c hp _ _ _ _
theorem mem_sn (l g : Nat) : (s.mem p M).set p.n (some (.row 3 s.gn [[.own p.a s.ga 2 0 s.keys.length, .own p.b s.gb 1 0 s.place.length, .own p.c g 1 0 l]])) = put4 p M (.row 3 s.gn [[.own p.a s.ga 2 0 s.keys.length, .own p.b s.gb 1 0 s.place.length, .own p.c g 1 0 l]]) s.Y s.Z s.W := put4_sn hp _ _ _ _ _
theorem mem_len' (l : Nat) : (s.mem p M).set p.n (some (.row 3 s.gn [[.own p.a s.ga 2 0 s.keys.length, .own p.b s.gb 1 0 s.place.length, .own p.c s.gc 1 0 l]])) = ({ s with len := l } : HS).mem p M := put4_sn hp _ _ _ _ _
theorem mem_place (l : List Int) (h : l.length = s.place.length) : (s.mem p M).set p.b (some (.row 1 s.gb (l.map encI))) = ({ s with place := l } : HS).mem p M := by
  unfold HS.mem HS.X HS.Y HS.Z HS.W
  rw [put4_sb hp]
  simp [h]
end
theorem swp_gn (s : HS) (i j : Nat) : (s.swp i j).gn = s.gn := rfl
theorem swp_ga (s : HS) (i j : Nat) : (s.swp i j).ga = s.ga := rfl
theorem swp_gb (s : HS) (i j : Nat) : (s.swp i j).gb = s.gb := rfl
theorem swp_gc (s : HS) (i j : Nat) : (s.swp i j).gc = s.gc := rfl
theorem swp_keys (s : HS) (i j : Nat) : (s.swp i j).keys = s.keys := rfl
theorem swp_pl (s : HS) (i j : Nat) : (s.swp i j).place.length = s.place.length := by simp [HS.swp, HS.swap]

/-- What a heap is behind a call. -/
structure After (s t : HS) : Prop where
  hp : HP t
  ord : Ord t
  keys : t.keys.length = s.keys.length
  pl : t.place.length = s.place.length
  gn : t.gn = s.gn
  ga : t.ga = s.ga
  gb : t.gb = s.gb

theorem remove_run {p : Pos} {M : Mem} (hp : p.In M) {s : HS} (h : HP s) (ho : Ord s) {a : Nat} (ha : (s.K a).isSome = true) :
    ∃ t, run Hp.hp 17 [.c (s.ptr p), .c (.int .i64 a)] (s.mem p M) = some (.c (.bool true), t.mem p M) ∧ After s t ∧ t.row.length = s.row.length ∧ t.len = s.len - 1 ∧ 0 < s.len ∧ ∀ b, t.K b = if b = a then none else s.K b := by
  obtain ⟨k, hk⟩ := Option.isSome_iff_exists.1 ha
  obtain ⟨i, hi, rfl, hk2⟩ := h.K_some hk
  have hasr := has_run s.keys s.place (s.row.take s.len) (s.at i) h.kl
  have e1 : hasN s.place (s.at i) = true := hasN_iff.2 ⟨_, rfl, ha⟩
  rw [e1] at hasr
  have hle := lend_heap hp h.hl
  have hl : s.len - 1 < s.len := by omega
  have hpi := h.pl i hi
  have w1 : IntKind.i64.wrap (i : Int) = i := by have := h.short; rw [wrap_i64] <;> omega
  have w2 : IntKind.i64.wrap ((s.len : Int) - 1) = ((s.len - 1 : Nat) : Int) := by have := h.short; rw [wrap_i64] <;> omega
  have sw := swp_run hp h.toHV hi hl
  obtain ⟨c1, c2⟩ := cut_spec h hi
  obtain ⟨c3, c4⟩ := cut_near h ho hi
  have hq := h.at hi
  have l1 : s.at i < s.place.length := hq.2.1
  have l2 : s.at i < (s.swp i (s.len - 1)).place.length := by rw [swp_pl]; exact l1
  have hw := (h.swp hi hl).1.hl
  obtain ⟨t, ht⟩ : ∃ t, t = s.swp i (s.len - 1) := ⟨_, rfl⟩
  have tgn : s.gn = t.gn := by rw [ht]; rfl
  have tlen : s.len = t.len := by rw [ht]; rfl
  rw [← ht] at sw c1 c2 c3 c4 l2 hw
  have hsl : s.len - 1 ≤ t.len := by rw [← tlen]; omega
  have hslice : (s.len : Int) - 1 = ((s.len - 1 : Nat) : Int) := by omega
  have hpl2 : (t.place.set (s.at i) 0).length = ({ t with len := s.len - 1 } : HS).place.length := by simp
  have hcut : ({ keys := t.keys, place := t.place.set (s.at i) 0, row := t.row, len := s.len - 1, gn := t.gn, ga := t.ga, gb := t.gb, gc := t.gc } : HS) = t.cut (s.at i) := by simp [HS.cut, ← tlen]
  by_cases hc : i < s.len - 1
  · have hi' : i < (t.cut (s.at i)).len := by show i < t.len - 1; omega
    obtain ⟨j, j1, j2, j3, j4, j5, j6⟩ := up_spec (i + 1) c1 hi' (Nat.lt_succ_self i) c3
    have ur := up_run hp c1.toHV hi'
    have urow := (c1.toHV.at hi').1
    have udef : (t.cut (s.at i)).row = t.row := rfl
    have j1' : j < (HS.up (i + 1) (t.cut (s.at i)) i).len := by rw [j4.len]; exact j1
    obtain ⟨d1, d2, d3⟩ := down_spec ((HS.up (i + 1) (t.cut (s.at i)) i).len - j) j3 j1' (Nat.le_refl _) j5 j6
    have dr := down_run hp j3.toHV j1'
    have jpl := j3.pl j j1'
    rw [j2] at jpl
    generalize hu0 : t.cut (s.at i) = u0 at *
    generalize hu1 : HS.up (i + 1) u0 i = u1 at *
    have g0 : s.gn = u0.gn := by rw [← hu0, tgn]; rfl
    have g1 : u0.gn = u1.gn := j4.gn.symm
    have hlu : u0.at i < u1.place.length := lt_some jpl
    have w3 : IntKind.i64.wrap (j : Int) = j := by have := j3.short; rw [wrap_i64] <;> omega
    have hc' : (i : Int) < ((s.len - 1 : Nat) : Int) := by omega
    have lu : s.len - 1 = u0.len := by rw [← hu0, tlen]; rfl
    have hS := j4.trans d2
    have p0 : s.ptr p = u0.ptr p := by simp [HS.ptr, g0]
    have p1 : u0.ptr p = u1.ptr p := by simp [HS.ptr, g1]
    have hiu : i < u0.len := hi'
    have tg0 : t.gn = u0.gn := by rw [← hu0]; rfl
    refine ⟨_, ?_, ⟨d1, d3, by rw [hS.keys, ← hu0, ht]; rfl, by rw [hS.pl, ← hu0, ht]; simp [HS.cut, HS.swp, HS.swap], by rw [hS.gn, ← hu0, ht]; rfl, by rw [hS.ga, ← hu0, ht]; rfl, by rw [hS.gb, ← hu0, ht]; rfl⟩, by rw [hS.row, ← hu0, ht]; simp [HS.cut, HS.swp, HS.swap], by rw [hS.len, ← lu], by omega, fun b => by rw [hS.K]; exact c2 b⟩
    refine run_of_W (af := c17) rfl rfl rfl (by simp [c17]) ?_
    simp [-getElem?_pos, -List.map_set, c17, c17r0, c17r1, c17r2, c17r3, c17r4, c17r5, c17r6, c17r7, c17r8, c17r9, c17r10, c17r11, hp_md, hpMd, hle, hasr, nck_ptr, fa_ptr, mem_n hp, mem_a hp, mem_b hp, mem_c hp, ldB_I hpi, l1, l2, w1, w2, sw, mem_len, tgn, mem_len' hp, hsl, stB_I, hc, hc', mem_place hp, hcut]
    rw [← p0] at ur
    rw [← p1, ← p0] at dr
    refine ⟨tg0, hiu, ?_⟩
    simp [-getElem?_pos, -List.map_set, hp_md, hpMd, ldB_I urow, ur, mem_n hp, mem_a hp, mem_b hp, mem_c hp, mem_len, nck_ptr, fa_ptr, tgn, tg0, g1, ldB_I jpl, hlu, w3, dr]
  · refine ⟨_, ?_, ⟨c1, c4 (by omega), by simp [ht, HS.cut, HS.swp, HS.swap], by simp [ht, HS.cut, HS.swp, HS.swap], by simp [ht, HS.cut, HS.swp, HS.swap], by simp [ht, HS.cut, HS.swp, HS.swap], by simp [ht, HS.cut, HS.swp, HS.swap]⟩, by simp [ht, HS.cut, HS.swp, HS.swap], by simp [ht, HS.cut, HS.swp, HS.swap], by omega, c2⟩
    have hc' : ¬ (i : Int) < ((s.len - 1 : Nat) : Int) := by omega
    refine run_of_W (af := c17) rfl rfl rfl (by simp [c17]) ?_
    simp [-getElem?_pos, -List.map_set, c17, c17r0, c17r1, c17r2, c17r3, c17r4, c17r5, c17r6, c17r7, c17r11, hp_md, hpMd, hle, hasr, nck_ptr, fa_ptr, mem_n hp, mem_a hp, mem_b hp, mem_c hp, ldB_I hpi, l1, l2, w1, w2, sw, mem_len, tgn, mem_len' hp, hsl, stB_I, hc, hc', mem_place hp]
    simp [HS.cut, ← tlen]

theorem remove0_run {p : Pos} {M : Mem} (hp : p.In M) {s : HS} (h : HP s) {id : Int} (ha : hasN s.place id = false) : run Hp.hp 17 [.c (s.ptr p), .c (.int .i64 id)] (s.mem p M) = some (.c (.bool false), s.mem p M) := by
  have hasr := has_run s.keys s.place (s.row.take s.len) id h.kl
  rw [ha] at hasr
  have hle := lend_heap hp h.hl
  refine run_of_W (af := c17) rfl rfl rfl (by simp [c17]) ?_
  simp [c17, c17r0, c17r1, c17r2, hp_md, hpMd, hle, hasr]

theorem take_at {s : HS} (h : HV s) (h0 : 0 < s.len) : s.row.take s.len = (s.at 0 : Int) :: (s.row.take s.len).drop 1 := by
  have h1 := (h.at h0).1
  have := h.hl
  cases hr : s.row with
  | nil => rw [hr] at h1; simp at h1
  | cons x l =>
    rw [hr] at h1
    simp only [List.getElem?_cons_zero, Option.some.injEq] at h1
    cases hn : s.len with
    | zero => omega
    | succ n => simp [h1]

theorem pop0_run {p : Pos} {M : Mem} (hp : p.In M) {s : HS} (h : HP s) (h0 : s.len = 0) : run Hp.hp 19 [.c (s.ptr p)] (s.mem p M) = some (.tup [.c (.int .i64 0), .c (.bool false)], s.mem p M) := by
  have hle := lend_heap hp h.hl
  rw [h0, List.take_zero] at hle
  have mr := min0_run s.keys s.place
  refine run_of_W (af := c19) rfl rfl rfl (by simp [c19]) ?_
  simp [c19, c19r0, c19r1, c19r2, c19r3, c19r4, hp_md, hpMd, hle, mr]

theorem pop_run {p : Pos} {M : Mem} (hp : p.In M) {s : HS} (h : HP s) (ho : Ord s) (h0 : 0 < s.len) :
    ∃ t, run Hp.hp 19 [.c (s.ptr p)] (s.mem p M) = some (.tup [.c (.int .i64 (s.at 0)), .c (.bool true)], t.mem p M) ∧ After s t ∧ t.row.length = s.row.length ∧ t.len = s.len - 1 ∧ ∀ b, t.K b = if b = s.at 0 then none else s.K b := by
  have hle := lend_heap hp h.hl
  have mr := min_run s.keys s.place (s.at 0) ((s.row.take s.len).drop 1)
  rw [← take_at h.toHV h0] at mr
  obtain ⟨t, h1, h2, h3, h4, _, h5⟩ := remove_run hp h ho (a := s.at 0) (by rw [h.K_at h0]; rfl)
  refine ⟨t, ?_, h2, h3, h4, h5⟩
  refine run_of_W (af := c19) rfl rfl rfl (by simp [c19]) ?_
  simp [c19, c19r0, c19r1, c19r2, c19r3, c19r4, hp_md, hpMd, hle, mr, h1]

/-! ### Put -/

theorem put_old {s : HS} (h : HP s) (ho : Ord s) {i : Nat} (hi : i < s.len) {k : Int × Int} (hk : KOK k) :
    HP { s with keys := s.keys.set (s.at i) k } ∧ Near { s with keys := s.keys.set (s.at i) k } i ∧ ∀ b, ({ s with keys := s.keys.set (s.at i) k } : HS).K b = if b = s.at i then some k else s.K b := by
  have ha := h.at hi
  have hak : s.at i < s.keys.length := by rw [h.kl]; exact ha.2.1
  have key : ∀ b, b ≠ s.at i → ({ s with keys := s.keys.set (s.at i) k } : HS).key b = s.key b := fun b hb => by
    simp [HS.key, List.getElem?_set, Ne.symm hb]
  have keyi : ({ s with keys := s.keys.set (s.at i) k } : HS).key (s.at i) = k := by
    simp [HS.key, hak]
  have ah : ∀ m q, m ≠ i → q ≠ i → m < s.len → q < s.len → ({ s with keys := s.keys.set (s.at i) k } : HS).ahead m q = s.ahead m q := fun m q h1 h2 h3 h4 => by
    show lt3 (s.at m) (s.at q) (({ s with keys := s.keys.set (s.at i) k } : HS).key (s.at m)) (({ s with keys := s.keys.set (s.at i) k } : HS).key (s.at q)) = _
    rw [key _ (fun e => h1 (h.inj h3 hi e)), key _ (fun e => h2 (h.inj h4 hi e))]
    rfl
  refine ⟨⟨⟨h.hl, by simp [h.kl], h.small, h.short, fun m hm => ?_⟩, h.pl, h.pz⟩, ⟨fun j j0 jl ji jp => ?_, fun j j0 jl jp i0 => ?_⟩, fun b => ?_⟩
  · have hm' := h.at hm
    refine ⟨s.at m, hm'.1, hm'.2.1, ?_⟩
    by_cases e : s.at i = s.at m
    · exact ⟨k, by simp [← e, hak], hk⟩
    · exact ⟨s.key (s.at m), by simp only [List.getElem?_set, if_neg e]; exact hm'.2.2.1, hm'.2.2.2⟩
  · rw [ah j _ ji jp jl (Nat.lt_of_le_of_lt (by omega) jl)]
    exact ho j j0 jl
  · have jl' : j < s.len := jl
    rw [ah j _ (by omega) (by omega) jl' (by omega)]
    have k1 := ho j j0 jl'
    rw [jp] at k1
    exact h.toHV.lt_trans (by omega) hi jl' (ho i i0 hi) k1
  · unfold HS.K
    by_cases e : b = s.at i
    · subst e
      rw [if_pos rfl, keyi]
      show (if 0 < s.place[s.at i]?.getD 0 then some k else none) = _
      rw [h.pl i hi, Option.getD_some, if_pos (by omega)]
    · rw [if_neg e, key b e]

def HS.push (s : HS) (a : Nat) (k : Int × Int) : HS := { s with keys := s.keys.set a k, place := s.place.set a ((s.len : Int) + 1), row := s.row.take s.len ++ [(a : Int)] ++ s.row.drop (s.len + 1), len := s.len + 1, gc := s.gc + 1 }

theorem push_row (s : HS) (h : HV s) (a : Nat) (k : Int × Int) (m : Nat) (hm : m < s.len + 1) : (s.push a k).row[m]? = if m = s.len then some (a : Int) else s.row[m]? := by
  have := h.hl
  simp only [HS.push]
  by_cases e : m = s.len
  · subst e
    rw [if_pos rfl, List.getElem?_append_left (by simp; omega), List.getElem?_append_right (by simp; omega)]
    simp [this]
  · rw [if_neg e, List.getElem?_append_left (by simp; omega), List.getElem?_append_left (by simp; omega), List.getElem?_take_of_lt (by omega)]

theorem put_new {s : HS} (h : HP s) (ho : Ord s) {a : Nat} (ha : s.place[a]? = some 0) (hs : s.len < 1024) {k : Int × Int} (hk : KOK k) :
    HP (s.push a k) ∧ Near (s.push a k) s.len ∧ ∀ b, (s.push a k).K b = if b = a then some k else s.K b := by
  have hal := lt_some ha
  have hak : a < s.keys.length := by rw [h.kl]; exact hal
  have hne : ∀ m, m < s.len → s.at m ≠ a := fun m hm e => by
    have := h.pl m hm
    rw [e, ha] at this
    simp only [Option.some.injEq] at this
    omega
  have atm : ∀ m, m < s.len + 1 → (s.push a k).at m = if m = s.len then a else s.at m := fun m hm => by
    unfold HS.at
    rw [push_row s h.toHV a k m hm]
    split <;> simp
  have key : ∀ b, b ≠ a → (s.push a k).key b = s.key b := fun b hb => by
    simp [HS.key, HS.push, List.getElem?_set, Ne.symm hb]
  have keya : (s.push a k).key a = k := by simp [HS.key, HS.push, hak]
  have ah : ∀ m q, m < s.len → q < s.len → (s.push a k).ahead m q = s.ahead m q := fun m q h3 h4 => by
    show lt3 ((s.push a k).at m) ((s.push a k).at q) ((s.push a k).key ((s.push a k).at m)) ((s.push a k).key ((s.push a k).at q)) = _
    rw [atm m (by omega), atm q (by omega), if_neg (by omega), if_neg (by omega), key _ (hne m h3), key _ (hne q h4)]
    rfl
  have plm : ∀ b, (s.push a k).place[b]? = if b = a then some ((s.len : Int) + 1) else s.place[b]? := fun b => by
    simp only [HS.push, List.getElem?_set]
    by_cases e : a = b
    · subst e; simp [hal]
    · rw [if_neg e, if_neg (show ¬ b = a from fun c => e c.symm)]
  have rl : (s.push a k).row.length ≥ s.len + 1 := by have := h.hl; simp [HS.push]; omega
  refine ⟨⟨⟨rl, by simp [HS.push, h.kl], by simpa [HS.push] using h.small, by show s.len + 1 ≤ 1024; omega, fun m hm => ?_⟩, fun m hm => ?_, fun b hb => ?_⟩, ⟨fun j j0 jl ji jp => ?_, fun j j0 jl jp i0 => ?_⟩, fun b => ?_⟩
  · have hm' : m < s.len + 1 := hm
    rw [push_row s h.toHV a k m hm']
    by_cases e : m = s.len
    · rw [if_pos e]
      exact ⟨a, rfl, by simpa [HS.push] using hal, k, by simp [HS.push, hak], hk⟩
    · rw [if_neg e]
      have hq := h.at (show m < s.len by omega)
      refine ⟨s.at m, hq.1, by simpa [HS.push] using hq.2.1, s.key (s.at m), ?_, hq.2.2.2⟩
      simp only [HS.push, List.getElem?_set, if_neg (Ne.symm (hne m (by omega)))]
      exact hq.2.2.1
  · have hm' : m < s.len + 1 := hm
    rw [plm, atm m hm']
    by_cases e : m = s.len
    · rw [if_pos e, if_pos rfl, e]
    · rw [if_neg e, if_neg (hne m (by omega))]
      exact h.pl m (by omega)
  · rw [plm]
    by_cases e : b = a
    · exact .inr ⟨s.len, Nat.lt_succ_self _, by rw [atm _ (by omega), if_pos rfl, e]⟩
    · rw [if_neg e]
      rcases h.pz b (by simpa [HS.push] using hb) with c | ⟨m, c1, c2⟩
      · exact .inl c
      · exact .inr ⟨m, Nat.lt_succ_of_lt c1, by rw [atm m (by omega), if_neg (by omega)]; exact c2⟩
  · have jl' : j < s.len + 1 := jl
    rw [ah j _ (by omega) (by omega)]
    exact ho j j0 (by omega)
  · have jl' : j < s.len + 1 := jl
    omega
  · unfold HS.K
    rw [plm]
    by_cases e : b = a
    · subst e
      rw [if_pos rfl, if_pos rfl, keya]
      simp only [Option.getD_some]
      rw [if_pos (by omega)]
    · rw [if_neg e, if_neg e, key b e]

end Go.Proofs.Ytopcnhojkfeafaa.Am.Hp
