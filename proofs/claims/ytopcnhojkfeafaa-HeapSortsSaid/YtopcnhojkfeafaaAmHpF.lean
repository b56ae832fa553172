/- AM: the heap's Put, New; calls from loops. -/
import Derived.Test.YtopcnhojkfeafaaAmHpE
set_option linter.unusedSimpArgs false
set_option linter.unusedVariables false
set_option maxRecDepth 100000
namespace Go.Proofs.Ytopcnhojkfeafaa.Am.Hp

theorem Pos.In.app {p : Pos} {M : Mem} (h : p.In M) (T : Mem) : p.In (M ++ T) := by
  have := h.n; have := h.a; have := h.b; have := h.c
  exact ⟨by simp; omega, by simp; omega, by simp; omega, by simp; omega, h.na, h.nb, h.nc, h.ab, h.ac, h.bc⟩
theorem Pos.In.set {p : Pos} {M : Mem} (h : p.In M) (q : Nat) (B : Option Blk) : p.In (M.set q B) := by
  exact ⟨by simpa using h.n, by simpa using h.a, by simpa using h.b, by simpa using h.c, h.na, h.nb, h.nc, h.ab, h.ac, h.bc⟩

theorem mem_app {p : Pos} {M : Mem} (h : p.In M) (s : HS) (T : Mem) : s.mem p M ++ T = s.mem p (M ++ T) := by
  have := h.n; have := h.a; have := h.b; have := h.c
  simp only [HS.mem, put4]
  rw [List.set_append_left _ _ h.n, List.set_append_left _ _ (by simpa using h.a), List.set_append_left _ _ (by simpa using h.b), List.set_append_left _ _ (by simpa using h.c)]

theorem mem_o {p : Pos} {M : Mem} (s : HS) {q : Nat} (h1 : q ≠ p.n) (h2 : q ≠ p.a) (h3 : q ≠ p.b) (h4 : q ≠ p.c) : (s.mem p M)[q]? = M[q]? := by
  simp [HS.mem, put4, List.getElem?_set, Ne.symm h1, Ne.symm h2, Ne.symm h3, Ne.symm h4]
theorem mem_so {p : Pos} {M : Mem} (s : HS) {q : Nat} (B : Option Blk) (h1 : q ≠ p.n) (h2 : q ≠ p.a) (h3 : q ≠ p.b) (h4 : q ≠ p.c) : (s.mem p M).set q B = s.mem p (M.set q B) := by
  simp only [HS.mem, put4]
  rw [List.set_comm _ _ h4.symm, List.set_comm _ _ h3.symm, List.set_comm _ _ h2.symm, List.set_comm _ _ h1.symm]

theorem app_own {M : Mem} {n g k len st : Nat} {xs ys : List (List C)} {x : V} (h : M[n]? = some (some (.row k g xs))) (hy : elems M k x = some ys) (hl : xs.length + ys.length ≤ limit) (h1 : len = xs.length ∨ len + ys.length ≤ xs.length) (h2 : len ≤ xs.length) :
    evApp M st k (.c (.own n g k 0 len)) x = some (.c (.own n (g + 1) k 0 (len + ys.length)), M.set n (some (.row k (g + 1) (xs.take len ++ ys ++ xs.drop (len + ys.length))))) := by
  have e : rowAt M n = some (k, g, xs) := by rw [rowAt_eq, h]; rfl
  unfold evApp
  simp only [hy, e]
  rw [if_pos ⟨trivial, trivial, trivial, trivial, hl⟩]
  by_cases c : len = xs.length
  · rw [if_pos c]
    subst c
    rw [List.take_of_length_le (Nat.le_refl _), List.drop_of_length_le (by omega), List.append_nil]
  · rw [if_neg c, if_pos (by omega)]

theorem mem_keys {p : Pos} {M : Mem} (hp : p.In M) (s : HS) (l : List (Int × Int)) (h : l.length = s.keys.length) : (s.mem p M).set p.a (some (.row 2 s.ga (l.map encK))) = ({ s with keys := l } : HS).mem p M := by
  unfold HS.mem HS.X HS.Y HS.Z HS.W
  rw [put4_sa hp]
  simp [h]

theorem stB_K {l : List (Int × Int)} {i : Nat} (h : i < l.length) (x y : Int) (M : Mem) (n g : Nat) : stB (some (some (.row 2 g (l.map encK)))) M n g i 0 [.int .u64 x, .int .u64 y] = some (M.set n (some (.row 2 g ((l.set i (x, y)).map encK)))) := by
  have e := List.getElem?_eq_getElem h
  simp [-getElem?_pos, stB_row, h, e, encK]

theorem mem_W {p : Pos} {M : Mem} (s : HS) (W' : Blk) : (s.mem p M).set p.c (some W') = put4 p M (.row 3 s.gn [[.own p.a s.ga 2 0 s.keys.length, .own p.b s.gb 1 0 s.place.length, .own p.c s.gc 1 0 s.len]]) s.Y s.Z W' := put4_sc _ _ _ _ _
theorem mem_pushed {p : Pos} {M : Mem} (s : HS) (a : Nat) : put4 p M (.row 3 s.gn [[.own p.a s.ga 2 0 s.keys.length, .own p.b s.gb 1 0 s.place.length, .own p.c (s.gc + 1) 1 0 (s.len + 1)]]) s.Y s.Z (.row 1 (s.gc + 1) ((s.row.map encI).take s.len ++ [.int .i64 (a : Int)] :: (s.row.map encI).drop (s.len + 1))) = ({ s with row := s.row.take s.len ++ (a : Int) :: s.row.drop (s.len + 1), len := s.len + 1, gc := s.gc + 1 } : HS).mem p M := by
  simp [HS.mem, HS.X, HS.Y, HS.Z, HS.W, List.map_take, List.map_drop, encI]

theorem put_bad {p : Pos} {M : Mem} (hp : p.In M) {s : HS} (h : HV s) (h0 : 0 < s.keys.length) {id num den : Int} (hb : ¬ (0 ≤ id ∧ id < s.keys.length ∧ den ≠ 0)) : run Hp.hp 15 [.c (s.ptr p), .c (.int .i64 id), .c (.int .u64 num), .c (.int .u64 den)] (s.mem p M) = some (.c (.int .i64 1), s.mem p (M ++ [none, none])) := by
  have hne : s.keys ≠ [] := fun e => by rw [e] at h0; simp at h0
  refine run_of_W (af := c15) rfl rfl rfl (by simp [c15]) ?_
  have hin := hp.app [none, none]
  simp [-getElem?_pos, c15, c15r0, c15r1, c15r2, c15r3, c15r4, hp_md, hpMd, nck_ptr, fa_ptr, eqp_ptr, mem_app hp, mem_n hin, hne, mem_len]
  repeat' ((first | refine Wc_dec.2 ⟨fun h => ?_, fun h => ?_⟩ | refine Wg_dec.2 ⟨fun h => ?_, fun h => ?_⟩ | refine Wg_dec'.2 ⟨fun h => ?_, fun h => ?_⟩) <;> try simp [-getElem?_pos, *, hp_md, hpMd, nck_ptr, fa_ptr, mem_n hin])
  all_goals omega


theorem put_ok {p : Pos} {M : Mem} (hp : p.In M) {s : HS} (h : HP s) (ho : Ord s) {a : Nat} {k : Int × Int} (hk : KOK k) (ha : a < s.place.length) (hs : s.len < 1024) (hrow : s.row.length ≤ 1024) :
    ∃ t T, run Hp.hp 15 [.c (s.ptr p), .c (.int .i64 a), .c (.int .u64 k.1), .c (.int .u64 k.2)] (s.mem p M) = some (.c (.int .i64 0), t.mem p (M ++ T)) ∧ After s t ∧ t.len = (if (s.K a).isSome then s.len else s.len + 1) ∧ t.row.length ≤ max s.row.length (s.len + 1) ∧ ∀ b, t.K b = if b = a then some k else s.K b := by
  have hkl : a < s.keys.length := by rw [h.kl]; exact ha
  have h0 : s.keys ≠ [] := fun e => by rw [e] at hkl; simp at hkl
  have n1 : ¬ ((a : Int) < 0) := by omega
  have n2 : ¬ ((s.keys.length : Int) ≤ (a : Int)) := by omega
  have n3 : ¬ k.2 = 0 := by have := hk.2.2; omega
  have hin := hp.app [none, none]
  rcases h.pz a ha with hz | ⟨i, hi, rfl⟩
  · obtain ⟨q1, q2, q3⟩ := put_new h ho hz hs hk
    obtain ⟨u, hu⟩ : ∃ u : HS, u = s.push a k := ⟨_, rfl⟩
    rw [← hu] at q1 q2 q3
    have hi' : s.len < u.len := by rw [hu]; exact Nat.lt_succ_self _
    have uat : u.at s.len = a := by
      have := push_row s h.toHV a k s.len (by omega)
      rw [if_pos rfl, ← hu] at this
      simp [HS.at, this]
    obtain ⟨B, hB⟩ : ∃ B : Option Blk, B = some (.row 1 0 [[.int .i64 (a : Int)]]) := ⟨_, rfl⟩
    have hin2 := hp.app [B, none]
    obtain ⟨j, j1, j2, j3, j4, j5, j6⟩ := up_spec (s.len + 1) q1 hi' (Nat.lt_succ_self _) q2
    have ur := up_run hin2 q1.toHV hi'
    have j1' : j < (HS.up (s.len + 1) u s.len).len := by rw [j4.len]; exact j1
    obtain ⟨d1, d2, d3⟩ := down_spec ((HS.up (s.len + 1) u s.len).len - j) j3 j1' (Nat.le_refl _) j5 j6
    have dr := down_run hin2 j3.toHV j1'
    have jpl := j3.pl j j1'
    have upl := q1.pl s.len hi'
    rw [uat] at upl
    rw [j2, uat] at jpl
    generalize hu1 : HS.up (s.len + 1) u s.len = u1 at *
    have g0 : s.gn = u.gn := by rw [hu]; rfl
    have g1 : u.gn = u1.gn := j4.gn.symm
    have w1 : IntKind.i64.wrap (s.len : Int) = s.len := by have := h.short; rw [wrap_i64] <;> omega
    have w3 : IntKind.i64.wrap (j : Int) = j := by have := j3.short; rw [wrap_i64] <;> omega
    have p0 : s.ptr p = u.ptr p := by simp [HS.ptr, g0]
    have p1 : u.ptr p = u1.ptr p := by simp [HS.ptr, g1]
    have hlu : a < u1.place.length := lt_some jpl
    rw [← p0] at ur
    rw [← p1, ← p0] at dr
    have hS := j4.trans d2
    have isK : (s.K a).isSome = false := by simp [HS.K, hz]
    have o1 : M.length ≠ p.n := by have := hp.n; omega
    have o2 : M.length ≠ p.a := by have := hp.a; omega
    have o3 : M.length ≠ p.b := by have := hp.b; omega
    have o4 : M.length ≠ p.c := by have := hp.c; omega
    have onone : (M ++ [none, none] : Mem)[M.length]? = some none := by simp
    obtain ⟨s1, hs1⟩ : ∃ s1 : HS, s1 = { keys := s.keys.set a (k.1, k.2), place := s.place, row := s.row, len := s.len, gn := s.gn, ga := s.ga, gb := s.gb, gc := s.gc } := ⟨_, rfl⟩
    have sg : s.gn = s1.gn := by rw [hs1]
    have s1z : s1.place[a]? = some 0 := by rw [hs1]; exact hz
    have s1l : a < s1.place.length := by rw [hs1]; exact ha
    have s1n : s.len = s1.len := by rw [hs1]
    have := h.hl
    have elm : elems (s1.mem p (M ++ [B, none])) 1 (.c (.own M.length 0 1 0 1)) = some [[.int .i64 (a : Int)]] := by
      have e : rowAt (s1.mem p (M ++ [B, none])) M.length = some (1, 0, [[.int .i64 (a : Int)]]) := by
        rw [rowAt_eq, mem_o _ o1 o2 o3 o4, hB]
        simp [rowB]
      simp [elems, e]
    have app := app_own (st := M.length + 1) (len := s1.len) (mem_c hin2 s1) elm (by rw [hs1]; simp [limit]; omega) (by rw [hs1]; simp; omega) (by rw [hs1]; simpa using this)
    have hfin : ({ keys := s1.keys, place := s1.place.set a ((s1.len : Int) + 1), row := s1.row.take s1.len ++ (a : Int) :: s1.row.drop (s1.len + 1), len := s1.len + 1, gn := s1.gn, ga := s1.ga, gb := s1.gb, gc := s1.gc + 1 } : HS) = u := by rw [hs1, hu]; simp [HS.push]
    refine ⟨_, [B, none], ?_, ⟨d1, d3, by rw [hS.keys, hu]; simp [HS.push], by rw [hS.pl, hu]; simp [HS.push], by rw [hS.gn, hu]; rfl, by rw [hS.ga, hu]; rfl, by rw [hS.gb, hu]; rfl⟩, by rw [hS.len, hu, isK]; rfl, ?_, fun b => by rw [hS.K]; exact q3 b⟩
    · refine run_of_W (af := c15) rfl rfl rfl (by simp [c15]) ?_
      simp [-getElem?_pos, -List.map_set, c15, c15r0, c15r1, c15r2, c15r3, c15r4, c15r5, c15r6, c15r7, c15r8, hp_md, hpMd, nck_ptr, fa_ptr, eqp_ptr, mem_app hp, mem_n hin, mem_a hin, mem_b hin, mem_c hin, h0, n1, n2, n3, hkl, mem_len, stB_K hkl, mem_keys hin, ← hs1]
      refine ⟨sg, s1l, ?_⟩
      simp [-getElem?_pos, -List.map_set, hp_md, hpMd, nck_ptr, fa_ptr, mem_n hin, mem_a hin, mem_b hin, mem_c hin, mem_n hin2, mem_a hin2, mem_b hin2, mem_c hin2, mem_len, ldB_I s1z, s1l, fillSl, onone, mem_o _ o1 o2 o3 o4, mem_so _ _ o1 o2 o3 o4, ← hB, app, sg, mem_W, put4_n hin2, put4_sn hin2, mem_pushed, stB_I s1l, mem_place hin2, hfin]
      have sgu : s1.gn = u.gn := by rw [← sg]; exact g0
      have ul2 : a < u.place.length := lt_some upl
      simp [-getElem?_pos, -List.map_set, c15r9, c15r10, c15r11, c15r12, hp_md, hpMd, nck_ptr, fa_ptr, mem_n hin2, mem_a hin2, mem_b hin2, mem_c hin2, ldB_I upl, w1, ur, g0, g1, ldB_I jpl, hlu, ul2, w3, dr, mem_len]
    · rw [hS.row, hu]
      have := h.hl
      simp [HS.push]
      omega
  · obtain ⟨q1, q2, q3⟩ := put_old h ho hi hk
    obtain ⟨u, hu⟩ : ∃ u : HS, u = { s with keys := s.keys.set (s.at i) k } := ⟨_, rfl⟩
    have hpi := h.pl i hi
    have upl : u.place[s.at i]? = some ((i : Int) + 1) := by rw [hu]; exact hpi
    have ul : s.at i < u.place.length := by rw [hu]; exact ha
    have uat : u.at i = s.at i := by rw [hu]; rfl
    rw [← hu] at q1 q2 q3
    have hi' : i < u.len := by rw [hu]; exact hi
    obtain ⟨j, j1, j2, j3, j4, j5, j6⟩ := up_spec (i + 1) q1 hi' (Nat.lt_succ_self i) q2
    have ur := up_run hin q1.toHV hi'
    have j1' : j < (HS.up (i + 1) u i).len := by rw [j4.len]; exact j1
    obtain ⟨d1, d2, d3⟩ := down_spec ((HS.up (i + 1) u i).len - j) j3 j1' (Nat.le_refl _) j5 j6
    have dr := down_run hin j3.toHV j1'
    have jpl := j3.pl j j1'
    rw [j2, uat] at jpl
    generalize hu1 : HS.up (i + 1) u i = u1 at *
    have g0 : s.gn = u.gn := by rw [hu]
    have g1 : u.gn = u1.gn := j4.gn.symm
    have w1 : IntKind.i64.wrap (i : Int) = i := by have := h.short; rw [wrap_i64] <;> omega
    have w3 : IntKind.i64.wrap (j : Int) = j := by have := j3.short; rw [wrap_i64] <;> omega
    have p0 : s.ptr p = u.ptr p := by simp [HS.ptr, g0]
    have p1 : u.ptr p = u1.ptr p := by simp [HS.ptr, g1]
    have hlu : s.at i < u1.place.length := lt_some jpl
    have hi0 : ¬ ((i : Int) + 1 = 0) := by omega
    rw [← p0] at ur
    rw [← p1, ← p0] at dr
    have hset : ({ keys := s.keys.set (s.at i) (k.1, k.2), place := s.place, row := s.row, len := s.len, gn := s.gn, ga := s.ga, gb := s.gb, gc := s.gc } : HS) = u := by rw [hu]
    have hS := j4.trans d2
    have isK : (s.K (s.at i)).isSome = true := by rw [h.K_at hi]; rfl
    refine ⟨_, [none, none], ?_, ⟨d1, d3, by rw [hS.keys, hu]; simp, by rw [hS.pl, hu], by rw [hS.gn, hu], by rw [hS.ga, hu], by rw [hS.gb, hu]⟩, by rw [hS.len, hu, isK]; rfl, ?_, fun b => by rw [hS.K]; exact q3 b⟩
    · refine run_of_W (af := c15) rfl rfl rfl (by simp [c15]) ?_
      simp [-getElem?_pos, -List.map_set, c15, c15r0, c15r1, c15r2, c15r3, c15r4, c15r5, c15r6, c15r7, c15r8, c15r9, c15r10, c15r11, c15r12, hp_md, hpMd, nck_ptr, fa_ptr, eqp_ptr, mem_app hp, mem_n hin, mem_a hin, mem_b hin, mem_c hin, h0, n1, n2, n3, hkl, mem_len, stB_K hkl, mem_keys hin, hset]
      refine ⟨g0, ul, ?_⟩
      simp [-getElem?_pos, -List.map_set, hp_md, hpMd, nck_ptr, fa_ptr, mem_n hin, mem_a hin, mem_b hin, mem_c hin, ldB_I upl, hi0, w1, ur, g0, g1, ldB_I jpl, hlu, ul, w3, dr, mem_len]
    · rw [hS.row, hu]
      exact Nat.le_max_left _ _

/-! ### Calls from loops: what was made there goes -/

theorem keepM_spec (E N : Mem) : ∀ (E0 N0 R : Mem), R.length = E0.length → E0.length ≤ N0.length → (∀ i, i < E0.length → (E0[i]? = some none ∧ R[i]? = some none) ∨ ∃ B B1 B2, E0[i]? = some (some B) ∧ N0[i]? = some (some B1) ∧ keepB E N B1 = some B2 ∧ R[i]? = some (some B2)) → keepM E N E0 N0 = some R
  | [], N0, R, h1, h2, h => by
    have : R = [] := List.eq_nil_of_length_eq_zero h1
    subst this
    cases N0 <;> rfl
  | e :: E0, [], R, h1, h2, h => by simp at h2
  | e :: E0, b :: N0, [], h1, h2, h => by simp at h1
  | e :: E0, b :: N0, r :: R, h1, h2, h => by
    have ih := keepM_spec E N E0 N0 R (by simpa using h1) (by simpa using h2) (fun i hi => by simpa using h (i + 1) (by simpa using hi))
    rcases h 0 (by simp) with ⟨k1, k2⟩ | ⟨B, B1, B2, k1, k2, k3, k4⟩
    · simp only [List.getElem?_cons_zero, Option.some.injEq] at k1 k2
      subst k1; subst k2
      simp only [keepM, ih, Option.map_some]
    · simp only [List.getElem?_cons_zero, Option.some.injEq] at k1 k2 k4
      subst k1; subst k2; subst k4
      simp only [keepM, k3, ih]

theorem keepB_still (E N : Mem) (k g : Nat) (xs : List (List C)) (h : ∀ cs ∈ xs, cs.all still = true) : keepB E N (.row k g xs) = some (.row k g xs) := by
  show (xs.mapM fun (cs : List C) => cs.mapM (keepC E N)).map (fun xs => Blk.row k g xs) = _
  rw [mapM_still (keepC E N) (fun c hc => keepC_still E N c hc) h]; rfl
theorem keepV_flat (E N : Mem) (v : V) (h : (match v with | .c c => flat c | .agg cs => cs.all flat | _ => false) = true) : keepV E N v = some v := by
  have fs : ∀ c, flat c = true → keepC E N c = some c := fun c hc => by cases c <;> simp_all [flat, keepC]
  cases v with
  | c c => simp only at h; simp [keepV, mapV, fs c h]
  | agg cs =>
    simp only at h
    simp only [keepV, mapV]
    rw [flat_mapM (keepC E N) fs cs h]; rfl
  | _ => simp at h
theorem keepR_flat (E N : Mem) (r : V) (h : flatV r = true) : keepR E N r = some r := by
  cases r with
  | c c => exact keepV_flat E N (.c c) h
  | agg cs => exact keepV_flat E N (.agg cs) h
  | tup vs =>
    simp only [flatV] at h
    simp only [keepR]
    have : vs.mapM (keepV E N) = some vs := by
      induction vs with
      | nil => rfl
      | cons v vs ih =>
        simp only [List.all_cons, Bool.and_eq_true] at h
        rw [List.mapM_cons, keepV_flat E N v h.1, ih h.2]; rfl
    rw [this]; rfl
  | _ => simp [flatV] at h

theorem was_some {E : Mem} {n : Nat} {B : Blk} (h : E[n]? = some (some B)) : was E n = true := by
  unfold was
  rw [List.getD_eq_getElem?_getD, h]; rfl

/-- Memory beside a heap holds nothing that a call could let go. -/
def Calm (p : Pos) (M : Mem) : Prop := ∀ i B, M[i]? = some (some B) → i ≠ p.n → i ≠ p.a → i ≠ p.b → i ≠ p.c → ∀ E N, keepB E N B = some B

theorem keep_heap {p : Pos} {M : Mem} (hp : p.In M) (hc : Calm p M) (s t : HS) (N N0 : Mem) (hN : N0.length ≥ M.length) (h : ∀ i, i < M.length → N0[i]? = (t.mem p M)[i]?) : keepM (s.mem p M) N (s.mem p M) N0 = some (t.mem p M) := by
  refine keepM_spec _ _ _ _ _ (by rw [mem_len, mem_len]) (by rw [mem_len]; exact hN) (fun i hi => ?_)
  rw [mem_len] at hi
  rw [h i hi]
  have ea := was_some (mem_a hp s)
  have eb := was_some (mem_b hp s)
  have ec := was_some (mem_c hp s)
  by_cases e1 : i = p.n
  · subst e1
    refine .inr ⟨_, _, _, mem_n hp s, mem_n hp t, ?_, mem_n hp t⟩
    simp [keepB, keepC, mem_a hp, mem_b hp, mem_c hp]
  · by_cases e2 : i = p.a
    · subst e2
      exact .inr ⟨_, _, _, mem_a hp s, mem_a hp t, keepB_still _ _ _ _ _ (encK_still _), mem_a hp t⟩
    · by_cases e3 : i = p.b
      · subst e3
        exact .inr ⟨_, _, _, mem_b hp s, mem_b hp t, keepB_still _ _ _ _ _ (encI_still _), mem_b hp t⟩
      · by_cases e4 : i = p.c
        · subst e4
          exact .inr ⟨_, _, _, mem_c hp s, mem_c hp t, keepB_still _ _ _ _ _ (encI_still _), mem_c hp t⟩
        · rw [mem_o _ e1 e2 e3 e4, mem_o _ e1 e2 e3 e4]
          cases hM : M[i]? with
          | none => exact absurd (List.getElem?_eq_none_iff.1 hM) (by omega)
          | some B =>
            cases B with
            | none => exact .inl ⟨rfl, rfl⟩
            | some B => exact .inr ⟨B, B, B, rfl, rfl, hc i B hM e1 e2 e3 e4 _ _, rfl⟩

theorem cutM_heap {p : Pos} {M : Mem} (hp : p.In M) (hc : Calm p M) (s t : HS) (T : Mem) (r : V) (hr : flatV r = true) : cutM (s.mem p M) r (t.mem p (M ++ T)) = some (r, t.mem p M) := by
  rw [← mem_app hp]
  have hl : (s.mem p M).length = (t.mem p M).length := by rw [mem_len, mem_len]
  unfold cutM
  split
  · rw [hl, List.take_left]
  · rw [keepR_flat _ _ r hr, keep_heap hp hc s t _ _ (by rw [List.length_append, mem_len]; omega) (fun i hi => List.getElem?_append_left (by rw [mem_len]; exact hi))]

/-! ### New -/

theorem new_bad {n : Int} (h : ¬ (1 ≤ n ∧ n ≤ 1024)) : run Hp.hp 12 [.c (.int .i64 n)] [] = some (.tup [.c .nilptr, .c (.int .i64 1)], []) := by
  refine run_of_W (af := c12) rfl rfl rfl (by simp [c12]) ?_
  simp [c12, c12r0, c12r1, c12r2, hp_md, hpMd]
  repeat' ((first | refine Wc_dec.2 ⟨fun h => ?_, fun h => ?_⟩ | refine Wg_dec.2 ⟨fun h => ?_, fun h => ?_⟩ | refine Wg_dec'.2 ⟨fun h => ?_, fun h => ?_⟩) <;> try simp [*, hp_md, hpMd])
  · simp [retE, nodupB, topsV, topsV1, topsP, topsC, expV, expV1, expP, expC, frz]
  · omega
  · simp [retE, nodupB, topsV, topsV1, topsP, topsC, expV, expV1, expP, expC, frz]

theorem frz_flat (t : Bool) (ok : Nat → Bool) (M : Mem) (d : Nat) (c : C) (h : flat c = true) : frz t ok M (d + 1) c = some c := by cases c <;> simp_all [flat, frz]
theorem mapM_flat : ∀ {xs : List (List C)} (f : C → Option C), (∀ c, flat c = true → f c = some c) → (∀ cs ∈ xs, cs.all flat = true) → xs.mapM (fun (cs : List C) => cs.mapM f) = some xs
  | [], _, _, _ => rfl
  | cs :: xs, f, hf, h => by
    rw [List.mapM_cons, flat_mapM f hf cs (h cs List.mem_cons_self), mapM_flat f hf (fun cs hc => h cs (List.mem_cons_of_mem _ hc))]; rfl
theorem expC_own {M : Mem} {l : List Nat} {n g k len : Nat} {xs : List (List C)} (h : M[n]? = some (some (.row k g xs))) (hl : len ≤ xs.length) (hf : ∀ cs ∈ xs, cs.all flat = true) : expC M l (.own n g k 0 len) = some (.fresh k (xs.take len)) := by
  have e : rowAt M n = some (k, g, xs) := by rw [rowAt_eq, h]; rfl
  simp only [expC, e]
  rw [if_pos ⟨trivial, trivial, by omega⟩, List.drop_zero]
  rw [mapM_flat (frz false (fun n => !l.contains n) M depth) (fun c hc => frz_flat _ _ M 5 c hc) (fun cs hc => hf cs (List.mem_of_mem_take hc))]
  rfl

theorem new_run {n : Nat} (h1 : 1 ≤ n) (h2 : n ≤ 1024) : run Hp.hp 12 [.c (.int .i64 n)] [] = some (.tup [.c (.fptr [.fresh 2 (List.replicate n [.int .u64 0, .int .u64 0]), .fresh 1 (List.replicate n [.int .i64 0]), .nilsl]), .c (.int .i64 0)], []) := by
  refine run_of_W (af := c12) rfl rfl rfl (by simp [c12]) ?_
  have n1 : ¬ (n : Int) < 1 := by omega
  have n2 : ¬ (1024 : Int) < n := by omega
  have n3 : (n : Int) ≤ (16777216 : Int) := by omega
  simp [-getElem?_pos, c12, c12r0, c12r1, c12r3, hp_md, hpMd, n1, n2, n3, limit]
  have e1 := expC_own (l := [2, 0, 1]) (M := [some (Blk.row 2 0 (List.replicate n [C.int IntKind.u64 0, C.int IntKind.u64 0])), some (Blk.row 1 0 (List.replicate n [C.int IntKind.i64 0])), some (Blk.row 3 0 [[C.own 0 0 2 0 n, C.own 1 0 1 0 n, C.nilsl]])]) (n := 0) (g := 0) (k := 2) (len := n) rfl (by simp) (fun cs hc => by rw [List.eq_of_mem_replicate hc]; rfl)
  have e2 := expC_own (l := [2, 0, 1]) (M := [some (Blk.row 2 0 (List.replicate n [C.int IntKind.u64 0, C.int IntKind.u64 0])), some (Blk.row 1 0 (List.replicate n [C.int IntKind.i64 0])), some (Blk.row 3 0 [[C.own 0 0 2 0 n, C.own 1 0 1 0 n, C.nilsl]])]) (n := 1) (g := 0) (k := 1) (len := n) rfl (by simp) (fun cs hc => by rw [List.eq_of_mem_replicate hc]; rfl)
  rw [List.take_of_length_le (by simp)] at e1 e2
  have e3 : expC [some (Blk.row 2 0 (List.replicate n [C.int IntKind.u64 0, C.int IntKind.u64 0])), some (Blk.row 1 0 (List.replicate n [C.int IntKind.i64 0])), some (Blk.row 3 0 [[C.own 0 0 2 0 n, C.own 1 0 1 0 n, C.nilsl]])] [2, 0, 1] .nilsl = some .nilsl := rfl
  simp [retE, nodupB, topsV, topsV1, topsP, topsC, expV, expV1, expP, rowAt_eq, rowB, e1, e2, e3, flat_exp]

end Go.Proofs.Ytopcnhojkfeafaa.Am.Hp
