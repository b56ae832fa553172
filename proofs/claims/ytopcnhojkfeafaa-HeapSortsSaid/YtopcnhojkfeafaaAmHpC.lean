/- AM: the heap's functions that change it: memory. -/
import Derived.Test.YtopcnhojkfeafaaAmHpB
set_option linter.unusedSimpArgs false
set_option linter.unusedVariables false
set_option maxRecDepth 100000
namespace Go.Proofs.Ytopcnhojkfeafaa.Am.Hp

/-- Where a heap's four blocks lie. -/
structure Pos where
  n : Nat
  a : Nat
  b : Nat
  c : Nat

structure Pos.In (p : Pos) (M : Mem) : Prop where
  n : p.n < M.length
  a : p.a < M.length
  b : p.b < M.length
  c : p.c < M.length
  na : p.n ≠ p.a
  nb : p.n ≠ p.b
  nc : p.n ≠ p.c
  ab : p.a ≠ p.b
  ac : p.a ≠ p.c
  bc : p.b ≠ p.c

def put4 (p : Pos) (M : Mem) (X Y Z W : Blk) : Mem := (((M.set p.n (some X)).set p.a (some Y)).set p.b (some Z)).set p.c (some W)

section
variable {p : Pos} {M : Mem} (h : p.In M) (X Y Z W X' : Blk)
include h
theorem put4_n : (put4 p M X Y Z W)[p.n]? = some (some X) := by
  simp [put4, List.getElem?_set, h.n, h.na.symm, h.nb.symm, h.nc.symm]
theorem put4_a : (put4 p M X Y Z W)[p.a]? = some (some Y) := by
  simp [put4, List.getElem?_set, h.a, h.ab.symm, h.ac.symm]
theorem put4_b : (put4 p M X Y Z W)[p.b]? = some (some Z) := by
  simp [put4, List.getElem?_set, h.b, h.bc.symm]
theorem put4_c : (put4 p M X Y Z W)[p.c]? = some (some W) := by
  simp [put4, List.getElem?_set, h.c]
theorem put4_sn : (put4 p M X Y Z W).set p.n (some X') = put4 p M X' Y Z W := by
  unfold put4
  rw [List.set_comm _ _ h.nc.symm, List.set_comm _ _ h.nb.symm, List.set_comm _ _ h.na.symm, List.set_set]
theorem put4_sa : (put4 p M X Y Z W).set p.a (some X') = put4 p M X X' Z W := by
  unfold put4
  rw [List.set_comm _ _ h.ac.symm, List.set_comm _ _ h.ab.symm, List.set_set]
theorem put4_sb : (put4 p M X Y Z W).set p.b (some X') = put4 p M X Y X' W := by
  unfold put4
  rw [List.set_comm _ _ h.bc.symm, List.set_set]
omit h in
theorem put4_sc : (put4 p M X Y Z W).set p.c (some X') = put4 p M X Y Z X' := by
  unfold put4
  rw [List.set_set]
omit h in
theorem put4_len : (put4 p M X Y Z W).length = M.length := by simp [put4]
end

/-- A heap as it lies in memory. -/
structure HS where
  keys : List (Int × Int)
  place : List Int
  row : List Int
  len : Nat
  gn : Nat
  ga : Nat
  gb : Nat
  gc : Nat

def HS.X (p : Pos) (s : HS) : Blk := .row 3 s.gn [[.own p.a s.ga 2 0 s.keys.length, .own p.b s.gb 1 0 s.place.length, .own p.c s.gc 1 0 s.len]]
def HS.Y (s : HS) : Blk := .row 2 s.ga (s.keys.map encK)
def HS.Z (s : HS) : Blk := .row 1 s.gb (s.place.map encI)
def HS.W (s : HS) : Blk := .row 1 s.gc (s.row.map encI)
def HS.mem (p : Pos) (M : Mem) (s : HS) : Mem := put4 p M (s.X p) s.Y s.Z s.W

/-- The heap, as a pointer. -/
def HS.ptr (p : Pos) (s : HS) : C := .ptr p.n s.gn 0 0

theorem nck_ptr (p : Pos) (s : HS) : nckE (.c (s.ptr p)) = some (s.ptr p) := rfl
theorem fa_ptr (p : Pos) (s : HS) (o : Nat) : faE o (.c (s.ptr p)) = some (.ptr p.n s.gn 0 o) := by simp [HS.ptr]
theorem eqp_ptr (p : Pos) (s : HS) : evBin .eqp (.c (s.ptr p)) (.c .nilptr) = some (.bool false) := rfl

/-- Swapped. -/
def HS.swap (s : HS) (i j : Nat) (a b : Nat) : HS := { s with row := (s.row.set i (b : Int)).set j a, place := (s.place.set b ((i : Int) + 1)).set a ((j : Int) + 1) }

theorem ldB_I {l : List Int} {i : Nat} {x : Int} (h : l[i]? = some x) (g : Nat) : ldB (some (some (.row 1 g (l.map encI)))) g i false 0 1 = some (.c (.int .i64 x)) := by
  have h2 := lt_some h
  simp [-getElem?_pos, ldB_row, h2, h, encI]
theorem stB_I {l : List Int} {i : Nat} (h : i < l.length) (x : Int) (M : Mem) (n g : Nat) : stB (some (some (.row 1 g (l.map encI)))) M n g i 0 [.int .i64 x] = some (M.set n (some (.row 1 g ((l.set i x).map encI)))) := by
  have e := List.getElem?_eq_getElem h
  simp [-getElem?_pos, stB_row, h, e, encI]

theorem swap_run {p : Pos} {M : Mem} (hp : p.In M) {s : HS} {i j a b : Nat} (hi : i < s.len) (hj : j < s.len) (hl : s.len ≤ s.row.length) (ha : s.row[i]? = some (a : Int)) (hb : s.row[j]? = some (b : Int)) (la : a < s.place.length) (lb : b < s.place.length)
    (h1 : (i : Int) + 1 ≤ 9223372036854775807) (h2 : (j : Int) + 1 ≤ 9223372036854775807) :
    run Hp.hp 64 [.c (s.ptr p), .c (.int .i64 i), .c (.int .i64 j)] (s.mem p M) = some (.tup [], (s.swap i j a b).mem p M) := by
  refine run_of_W (af := c64) rfl rfl rfl (by simp [c64]) ?_
  have e1 : IntKind.i64.wrap ((i : Int) + 1) = (i : Int) + 1 := wrap_i64 (by omega) (by omega)
  have e2 : IntKind.i64.wrap ((j : Int) + 1) = (j : Int) + 1 := wrap_i64 (by omega) (by omega)
  have l1 : i < s.row.length := by omega
  have l2 : j < s.row.length := by omega
  have f1 : ((s.row.set i (b : Int)).set j a)[i]? = some (b : Int) := by
    by_cases e : i = j
    · subst e
      rw [ha] at hb
      simp only [Option.some.injEq, Int.natCast_inj] at hb
      subst hb
      simp [l1]
    · simp [List.getElem?_set, l1, Ne.symm e]
  have f2 : ((s.row.set i (b : Int)).set j a)[j]? = some (a : Int) := by simp [l2]
  simp [-getElem?_pos, -List.getElem?_set_self, -List.map_set, c64, c64r0, c64r1, hp_md, hpMd, HS.mem, HS.ptr, HS.X, HS.Y, HS.Z, HS.W, put4_n hp, put4_a hp, put4_b hp, put4_c hp, put4_sb hp, put4_sc, put4_len, ldB_I ha, ldB_I hb, ldB_I f1, ldB_I f2, stB_I, hi, hj, l1, l2, la, lb, e1, e2]
  simp [HS.swap]

theorem mapM_still : ∀ {xs : List (List C)} (f : C → Option C), (∀ c, still c = true → f c = some c) → (∀ cs ∈ xs, cs.all still = true) → xs.mapM (fun (cs : List C) => cs.mapM f) = some xs
  | [], _, _, _ => rfl
  | cs :: xs, f, hf, h => by
    rw [List.mapM_cons, still_mapM f hf cs (h cs List.mem_cons_self), mapM_still f hf (fun cs hc => h cs (List.mem_cons_of_mem _ hc))]; rfl

theorem frz_own {M : Mem} {n g k len : Nat} {xs : List (List C)} (h : M[n]? = some (some (.row k g xs))) (hl : len ≤ xs.length) (hs : ∀ cs ∈ xs, cs.all still = true) (d : Nat) : frz true (fun _ => true) M (d + 1 + 1) (.own n g k 0 len) = some (.imm true k (xs.take len)) := by
  have e : rowAt M n = some (k, g, xs) := by rw [rowAt_eq, h]; rfl
  unfold frz
  simp only [e, if_true, and_self, Nat.zero_add, hl, List.drop_zero]
  rw [mapM_still _ (fun c hc => frz_still _ M d c hc) (fun cs hc => hs cs (List.mem_of_mem_take hc))]
  rfl

theorem encI_still (l : List Int) : ∀ cs ∈ l.map encI, cs.all still = true := by
  intro cs h
  obtain ⟨x, _, rfl⟩ := List.mem_map.1 h
  rfl
theorem encK_still (l : List (Int × Int)) : ∀ cs ∈ l.map encK, cs.all still = true := by
  intro cs h
  obtain ⟨x, _, rfl⟩ := List.mem_map.1 h
  rfl

/-- A heap, lent to a function that changes nothing. -/
theorem lend_heap {p : Pos} {M : Mem} (hp : p.In M) {s : HS} (hl : s.len ≤ s.row.length) : lendV (s.mem p M) (.c (s.ptr p)) = some (.c (hv s.keys s.place (s.row.take s.len))) := by
  have h1 : rowAt (s.mem p M) p.n = some (3, s.gn, [[.own p.a s.ga 2 0 s.keys.length, .own p.b s.gb 1 0 s.place.length, .own p.c s.gc 1 0 s.len]]) := by
    rw [rowAt_eq, HS.mem, put4_n hp]; rfl
  have h2 : (s.mem p M)[p.a]? = some (some (.row 2 s.ga (s.keys.map encK))) := put4_a hp _ _ _ _
  have h3 : (s.mem p M)[p.b]? = some (some (.row 1 s.gb (s.place.map encI))) := put4_b hp _ _ _ _
  have h4 : (s.mem p M)[p.c]? = some (some (.row 1 s.gc (s.row.map encI))) := put4_c hp _ _ _ _
  have k2 := frz_own h2 (len := s.keys.length) (by simp) (encK_still _) 4
  have k3 := frz_own h3 (len := s.place.length) (by simp) (encI_still _) 4
  have k4 := frz_own h4 (len := s.len) (by simpa using hl) (encI_still _) 4
  unfold lendV HS.ptr
  simp only [h1, if_true, List.getElem?_cons_zero, List.mapM_cons, List.mapM_nil]
  rw [show depth = 4 + 1 + 1 from rfl, k2, k3, k4]
  simp [hv, List.map_take, List.take_of_length_le]

/-- A heap whose ids have keys. -/
structure HV (s : HS) : Prop where
  hl : s.len ≤ s.row.length
  kl : s.keys.length = s.place.length
  small : s.place.length ≤ 1024
  short : s.len ≤ 1024
  ids : ∀ i, i < s.len → ∃ a : Nat, s.row[i]? = some (a : Int) ∧ a < s.place.length ∧ ∃ k, s.keys[a]? = some k ∧ KOK k

/-- Who stands at a place; an id's key. -/
def HS.at (s : HS) (i : Nat) : Nat := (s.row[i]?.getD 0).toNat
def HS.key (s : HS) (a : Nat) : Int × Int := s.keys[a]?.getD (0, 0)
def HS.ahead (s : HS) (i j : Nat) : Bool := lt3 (s.at i) (s.at j) (s.key (s.at i)) (s.key (s.at j))
def HS.swp (s : HS) (i j : Nat) : HS := s.swap i j (s.at i) (s.at j)

theorem HV.at {s : HS} (h : HV s) {i : Nat} (hi : i < s.len) : s.row[i]? = some (s.at i : Int) ∧ s.at i < s.place.length ∧ s.keys[s.at i]? = some (s.key (s.at i)) ∧ KOK (s.key (s.at i)) := by
  obtain ⟨a, h1, h2, k, h3, h4⟩ := h.ids i hi
  have e : s.at i = a := by simp [HS.at, h1]
  have e2 : s.key a = k := by simp [HS.key, h3]
  rw [e, e2]
  exact ⟨h1, h2, h3, h4⟩

theorem HV.swp {s : HS} (h : HV s) {i j : Nat} (hi : i < s.len) (hj : j < s.len) : HV (s.swp i j) := by
  have h1 := h.at hi
  have h2 := h.at hj
  have l := h.hl
  refine ⟨by simpa [HS.swp, HS.swap] using h.hl, by simpa [HS.swp, HS.swap] using h.kl, by simpa [HS.swp, HS.swap] using h.small, h.short, fun m hm => ?_⟩
  have hm' : m < s.len := hm
  have h3 := h.at hm'
  simp only [HS.swp, HS.swap, List.length_set]
  by_cases e : j = m
  · subst e
    exact ⟨s.at i, by simp [List.getElem?_set, show j < s.row.length by omega], h1.2.1, _, h1.2.2⟩
  · by_cases e2 : i = m
    · subst e2
      exact ⟨s.at j, by simp [List.getElem?_set, e, show i < s.row.length by omega], h2.2.1, _, h2.2.2⟩
    · exact ⟨s.at m, by simp [List.getElem?_set, e, e2]; exact h3.1, h3.2.1, _, h3.2.2⟩

theorem swp_run {p : Pos} {M : Mem} (hp : p.In M) {s : HS} (h : HV s) {i j : Nat} (hi : i < s.len) (hj : j < s.len) : run Hp.hp 64 [.c (s.ptr p), .c (.int .i64 i), .c (.int .i64 j)] (s.mem p M) = some (.tup [], (s.swp i j).mem p M) := by
  have h1 := h.at hi
  have h2 := h.at hj
  have := h.short
  exact swap_run hp hi hj h.hl h1.1 h2.1 h1.2.1 h2.2.1 (by omega) (by omega)

theorem aheadS_run {s : HS} (h : HV s) {i j : Nat} (hi : i < s.len) (hj : j < s.len) : run Hp.hp 105 [.c (hv s.keys s.place (s.row.take s.len)), .c (.int .i64 i), .c (.int .i64 j)] [] = some (.c (.bool (s.ahead i j)), []) := by
  have h1 := h.at hi
  have h2 := h.at hj
  exact ahead_run (by rw [List.getElem?_take_of_lt hi]; exact h1.1) (by rw [List.getElem?_take_of_lt hj]; exact h2.1) h1.2.2.1 h2.2.2.1 h1.2.2.2 h2.2.2.2

theorem mem_len (p : Pos) (M : Mem) (s : HS) : (s.mem p M).length = M.length := put4_len _ _ _ _
theorem swp_ptr (p : Pos) (s : HS) (i j : Nat) : (s.swp i j).ptr p = s.ptr p := rfl

/-- Brought up. -/
def HS.up : Nat → HS → Nat → HS
  | 0, s, _ => s
  | f + 1, s, i => if 0 < i ∧ s.ahead i ((i - 1) / 2) = true then HS.up f (s.swp i ((i - 1) / 2)) ((i - 1) / 2) else s

theorem up_run {p : Pos} {M : Mem} (hp : p.In M) {s : HS} (h : HV s) {i : Nat} (hi : i < s.len) : run Hp.hp 61 [.c (s.ptr p), .c (.int .i64 i)] (s.mem p M) = some (.tup [], (HS.up (i + 1) s i).mem p M) := by
  refine run_of_W (af := c61) rfl rfl rfl (by simp [c61]) ?_
  simp [c61]
  refine W_loop (σ := HS × Nat × Nat) (fun x => (mk 23 [(0, .c (s.ptr p)), (1, .c (.int .i64 x.2.1))], x.1.mem p M)) (fun x => HV x.1 ∧ x.2.1 < x.1.len ∧ x.1.ptr p = s.ptr p ∧ x.2.1 < x.2.2 ∧ HS.up x.2.2 x.1 x.2.1 = HS.up (i + 1) s i) (fun x => x.2.1) (s, i, i + 1) ?_ ?_ ?_
  · simp [c61l0a]
  · exact ⟨h, hi, rfl, Nat.lt_succ_self _, rfl⟩
  · rintro ⟨t, j, f⟩ ⟨hv1, hj, hpt, hf, hup⟩
    simp only at hv1 hj hpt hf hup
    obtain ⟨f, rfl⟩ : ∃ g, f = g + 1 := ⟨f - 1, by omega⟩
    have hle := lend_heap hp hv1.hl
    rw [hpt] at hle
    by_cases h0 : 0 < j
    · have q1 : (j : Int) > 0 := by omega
      have q2 : IntKind.i64.wrap ((j : Int) - 1) = ((j - 1 : Nat) : Int) := by rw [wrap_i64] <;> (have := hv1.short; omega)
      have q3 : IntKind.i64.wrap (((j - 1 : Nat) : Int) / 2) = (((j - 1) / 2 : Nat) : Int) := by
        rw [wrap_i64] <;> (have := hv1.short; omega)
      have ah := aheadS_run hv1 hj (show (j - 1) / 2 < t.len by omega)
      have sw := swp_run hp hv1 hj (show (j - 1) / 2 < t.len by omega)
      rw [hpt] at sw
      cases hah : t.ahead j ((j - 1) / 2) with
      | true =>
        rw [hah] at ah
        simp [-Int.natCast_ediv, c61l0, c61l0a, c61r0, c61r1, c61r2, hp_md, hpMd, h0, q1, q2, q3, hle, ah, sw, mem_len]
        refine ⟨_, _, ⟨hv1.swp hj (show (j - 1) / 2 < t.len by omega), ?_, ?_, f, ?_, ?_⟩, ?_, rfl, rfl⟩
        · show (j - 1) / 2 < t.len
          omega
        · exact hpt
        · omega
        · rw [← hup]
          simp only [HS.up, h0, hah, and_self, if_true]
        · omega
      | false =>
        rw [hah] at ah
        simp [-Int.natCast_ediv, c61l0, c61l0a, c61r0, c61r1, c61r2, hp_md, hpMd, h0, q1, q2, q3, hle, ah]
        rw [← hup]
        simp [HS.up, hah]
    · simp [c61l0, c61l0a, c61r0, hp_md, hpMd, h0]
      rw [← hup]
      simp [HS.up, h0]

def HS.lst (s : HS) (l k : Nat) : Nat := if k < s.len ∧ s.ahead k l = true then k else l
def HS.least (s : HS) (i : Nat) : Nat → Nat
  | 0 => i
  | m + 1 => s.lst (s.least i m) (2 * i + (m + 1))
/-- Brought down. -/
def HS.down : Nat → HS → Nat → HS
  | 0, s, _ => s
  | f + 1, s, i => if s.least i 2 = i then s else HS.down f (s.swp i (s.least i 2)) (s.least i 2)

theorem HS.least_lt {s : HS} {i : Nat} (hi : i < s.len) : ∀ m, s.least i m < s.len
  | 0 => hi
  | m + 1 => by
    simp only [HS.least, HS.lst]
    split
    · rename_i h; exact h.1
    · exact HS.least_lt hi m
theorem HS.least_le (s : HS) (i : Nat) : ∀ m, i ≤ s.least i m
  | 0 => Nat.le_refl _
  | m + 1 => by
    simp only [HS.least, HS.lst]
    split
    · omega
    · exact HS.least_le s i m

theorem down_run {p : Pos} {M : Mem} (hp : p.In M) {s : HS} (h : HV s) {i : Nat} (hi : i < s.len) : run Hp.hp 62 [.c (s.ptr p), .c (.int .i64 i)] (s.mem p M) = some (.tup [], (HS.down (s.len - i) s i).mem p M) := by
  refine run_of_W (af := c62) rfl rfl rfl (by simp [c62]) ?_
  simp [c62]
  refine W_loop (σ := HS × Nat × Nat) (fun x => (mk 41 [(0, .c (s.ptr p)), (1, .c (.int .i64 x.2.1))], x.1.mem p M)) (fun x => HV x.1 ∧ x.2.1 < x.1.len ∧ x.1.ptr p = s.ptr p ∧ x.1.len - x.2.1 ≤ x.2.2 ∧ HS.down x.2.2 x.1 x.2.1 = HS.down (s.len - i) s i) (fun x => x.1.len - x.2.1) (s, i, s.len - i) ?_ ?_ ?_
  · simp [c62l0a]
  · exact ⟨h, hi, rfl, Nat.le_refl _, rfl⟩
  · rintro ⟨t, j, f⟩ ⟨hv1, hj, hpt, hf, hup⟩
    simp only at hv1 hj hpt hf hup
    obtain ⟨f, rfl⟩ : ∃ g, f = g + 1 := ⟨f - 1, by omega⟩
    have hle := lend_heap hp hv1.hl
    rw [hpt] at hle
    have hs := hv1.short
    have q1 : IntKind.i64.wrap (2 * (j : Int)) = 2 * (j : Int) := by rw [wrap_i64] <;> omega
    have q2 : IntKind.i64.wrap (2 * (j : Int) + 1) = 2 * (j : Int) + 1 := by rw [wrap_i64] <;> omega
    have q3 : IntKind.i64.wrap (2 * (j : Int) + 2) = 2 * (j : Int) + 2 := by rw [wrap_i64] <;> omega
    simp [c62l0, c62r0, c62r1, q1, q2, q3]
    refine W_loop (σ := Nat) (fun m => (mk 41 [(0, .c (s.ptr p)), (1, .c (.int .i64 j)), (4, .c (.int .i64 (t.least j m))), (14, .agg [.int .i64 (2 * (j : Int) + 1), .int .i64 (2 * (j : Int) + 2)]), (15, .c (.int .i64 m))], t.mem p M)) (fun m => m ≤ 2) (fun m => 2 - m) 0 ?_ ?_ ?_
    · simp [c62l1a, HS.least]
    · omega
    · intro m hm
      by_cases h2 : m < 2
      · have g : ((m : Int)) < 2 := by omega
        have w : IntKind.i64.wrap ((m : Int) + 1) = (m : Int) + 1 := by rw [wrap_i64] <;> omega
        have gi : ([C.int .i64 (2 * (j : Int) + 1), C.int .i64 (2 * (j : Int) + 2)] : List C)[m]? = some (.int .i64 (2 * (j : Int) + ((m : Int) + 1))) := by
          rcases (show m = 0 ∨ m = 1 by omega) with rfl | rfl <;> simp
        have hlen : ((List.map encI (List.take t.len t.row)).length) = t.len := by simp [hv1.hl]
        have fin : ∀ l' : Nat, l' = t.least j (m + 1) → ∃ y, y ≤ 2 ∧ 2 - y < 2 - m ∧ ((mk 41 [(0, V.c (HS.ptr p s)), (1, V.c (C.int IntKind.i64 (j : Int))), (4, V.c (C.int IntKind.i64 (l' : Int))), (14, V.agg [C.int IntKind.i64 (2 * (j : Int) + 1), C.int IntKind.i64 (2 * (j : Int) + 2)]), (15, V.c (C.int IntKind.i64 ((m : Int) + 1)))], HS.mem p M t) : St) = (mk 41 [(0, V.c (HS.ptr p s)), (1, V.c (C.int IntKind.i64 (j : Int))), (4, V.c (C.int IntKind.i64 (t.least j y : Int))), (14, V.agg [C.int IntKind.i64 (2 * (j : Int) + 1), C.int IntKind.i64 (2 * (j : Int) + 2)]), (15, V.c (C.int IntKind.i64 (y : Int)))], HS.mem p M t) := by
          intro l' e
          subst e
          exact ⟨m + 1, by omega, by omega, by simp⟩
        have hmn : (HS.mem p M t)[p.n]? = some (some (t.X p)) := put4_n hp _ _ _ _
        have hgn : t.gn = s.gn := by simpa [HS.ptr] using hpt
        by_cases hk : 2 * j + (m + 1) < t.len
        · have hk' : 2 * (j : Int) + ((m : Int) + 1) < (t.len : Int) := by omega
          have ah := aheadS_run hv1 hk (HS.least_lt hj m)
          push_cast at ah
          cases hah : t.ahead (2 * j + (m + 1)) (t.least j m) with
          | true =>
            rw [hah] at ah
            simp [-getElem?_pos, c62l1, c62l1a, c62r2, c62r3, c62r4, c62r5, c62r6, hp_md, hpMd, h2, g, w, gi, hle, ah, nck_ptr, fa_ptr, hmn, HS.X, hgn, hk']
            have := fin (2 * j + (m + 1)) (by simp only [HS.least, HS.lst, hk, hah, and_self, if_true])
            simpa using this
          | false =>
            rw [hah] at ah
            simp [-getElem?_pos, c62l1, c62l1a, c62r2, c62r3, c62r4, c62r5, c62r6, hp_md, hpMd, h2, g, w, gi, hle, ah, nck_ptr, fa_ptr, hmn, HS.X, hgn, hk']
            have := fin (t.least j m) (by simp [HS.least, HS.lst, hah])
            simpa using this
        · have hk' : ¬ 2 * (j : Int) + ((m : Int) + 1) < (t.len : Int) := by omega
          simp [-getElem?_pos, c62l1, c62l1a, c62r2, c62r3, c62r4, c62r5, c62r6, hp_md, hpMd, h2, g, w, gi, nck_ptr, fa_ptr, hmn, HS.X, hgn, hk']
          have := fin (t.least j m) (by simp [HS.least, HS.lst, hk])
          simpa using this
      · have g : ¬ ((m : Int)) < 2 := by omega
        have e : m = 2 := by omega
        subst e
        by_cases hl : t.least j 2 = j
        · simp [c62l1, c62l1a, c62r2, c62l0a, c62r7, hp_md, hpMd, hl]
          rw [← hup]
          simp only [HS.down, hl, if_true]
        · have hl' : ¬ ((t.least j 2 : Nat) : Int) = (j : Int) := by omega
          have sw := swp_run hp hv1 hj (HS.least_lt hj 2)
          rw [hpt] at sw
          simp [c62l1, c62l1a, c62r2, c62l0a, c62r7, c62r8, c62r9, hp_md, hpMd, hl, hl', sw, mem_len]
          have h5 := HS.least_le t j 2
          have h6 := HS.least_lt hj 2
          refine ⟨_, _, ⟨hv1.swp hj h6, h6, hpt, f, ?_, ?_⟩, ?_, rfl, rfl⟩
          · show t.len ≤ f + t.least j 2
            omega
          · rw [← hup]
            simp only [HS.down, hl, if_false]
          · show t.len - t.least j 2 < t.len - j
            omega

end Go.Proofs.Ytopcnhojkfeafaa.Am.Hp
