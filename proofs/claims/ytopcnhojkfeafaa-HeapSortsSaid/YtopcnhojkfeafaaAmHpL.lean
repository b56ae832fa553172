/- HeapSorts: the walk through the law. -/
import Derived.Test.YtopcnhojkfeafaaAmHpK
import Derived.Test.YtopcnhojkfeafaaAmWm
set_option linter.unusedSimpArgs false
set_option linter.unusedVariables false
set_option maxRecDepth 100000
namespace Go.Proofs.Ytopcnhojkfeafaa.Am.Hp

def none7 : Mem := [none, none, none, none, none, none, none]
theorem hP_in7 {M : Mem} (h : M.length = 7) : hP.In M := by
  constructor <;> simp [hP, h]

structure Good (s : HS) (n : Nat) : Prop where
  hp : HP s
  ord : Ord s
  N : s.place.length = n
  row : s.row.length ≤ 1024
  gn : s.gn = 0

theorem calm7 : Calm hP none7 := by
  intro i B hi
  have hlt := lt_some hi
  simp only [none7, List.length_cons, List.length_nil] at hlt
  match i, hlt with
  | 0, _ => simp [none7] at hi
  | 1, _ => simp [none7] at hi
  | 2, _ => simp [none7] at hi
  | 3, _ => simp [none7] at hi
  | 4, _ => simp [none7] at hi
  | 5, _ => simp [none7] at hi
  | 6, _ => simp [none7] at hi

/-- Any Put, from a loop. -/
theorem put_call {s : HS} {n : Nat} (h : Good s n) (h0 : 0 < n) (hs : s.len < 1000) (id num den : Int) (hu : U64 num ∧ U64 den) : ∃ (t : HS) (r : Int), backS 0 (s.mem hP none7) (run Hp.hp 15 [.c (s.ptr hP), .c (.int .i64 id), .c (.int .u64 num), .c (.int .u64 den)] (s.mem hP none7)) = some (.c (.int .i64 r), t.mem hP none7) ∧ Good t n ∧ t.len ≤ s.len + 1 := by
  have hin := hP_in7 (M := none7) rfl
  by_cases hok : 0 ≤ id ∧ id < n ∧ 0 < den
  · obtain ⟨g1, g2, g3⟩ := hok
    obtain ⟨a, rfl⟩ : ∃ a : Nat, id = a := ⟨id.toNat, by omega⟩
    obtain ⟨t, T, p1, p2, p3, p4, p5⟩ := put_ok hin h.hp h.ord (k := (num, den)) ⟨hu.1, hu.2, g3⟩ (a := a) (by rw [h.N]; omega) (by omega) h.row
    refine ⟨t, 0, ?_, ⟨p2.hp, p2.ord, p2.pl.trans h.N, by have := h.row; omega, p2.gn.trans h.gn⟩, by rw [p3]; split <;> omega⟩
    simp only at p1
    rw [p1, backS_cut, cutM_heap hin calm7 s t T _ rfl]
  · have kn : s.keys.length = n := by rw [h.hp.kl, h.N]
    have hd := hu.2
    unfold U64 at hd
    have pb := put_bad hin h.hp.toHV (by omega) (id := id) (num := num) (den := den) (by rw [kn]; intro c; exact hok ⟨c.1, c.2.1, by omega⟩)
    refine ⟨s, 1, ?_, h, by omega⟩
    rw [pb, backS_cut, cutM_heap hin calm7 s s _ _ rfl]

theorem lt3_total {a b : Int} {ka kb : Int × Int} (h : a ≠ b) (h1 : lt3 b a kb ka = false) : lt3 a b ka kb = true := by
  rw [lt3_false] at h1
  rw [lt3_iff]
  omega

theorem n7_5 : none7[5]? = some none := rfl
theorem n7s5 (B : Option Blk) : none7.set 5 B = [none, none, none, none, none, B, none] := rfl

theorem sorts_loop {s : HS} {n : Nat} (hG : Good s 64) (hn : s.len = n) (hle : n ≤ 1000) {ks : List K} {Q : Ex → St → Prop} (hQ : ∀ (t : HS) (es : List (Int × V)), Good t 64 → t.len = 0 → Wx hp 0 (.exit 2) ks (mk 144 [(2, .any), (3, .c (t.ptr hP))], t.mem hP [none, none, none, none, none, some (.map 0 (ents es)), none]) Q) :
    W hp 0 (.loop c4l1a c4l1) ks (mk 144 [(3, .c (s.ptr hP)), (6, .c (.int .i64 n)), (7, .c (.mref 5 0)), (8, .c (.int .i64 0)), (9, .c (.int .u64 0)), (10, .c (.int .u64 1)), (11, .c (.int .i64 0))], s.mem hP [none, none, none, none, none, some (.map 0 []), none]) Q := by
  refine W_loop (σ := HS × List (Int × V) × Nat × Int × Int × Int) (fun x => (mk 144 [(3, .c (x.1.ptr hP)), (6, .c (.int .i64 n)), (7, .c (.mref 5 0)), (8, .c (.int .i64 x.2.2.2.1)), (9, .c (.int .u64 x.2.2.2.2.1)), (10, .c (.int .u64 x.2.2.2.2.2)), (11, .c (.int .i64 x.2.2.1))], x.1.mem hP [none, none, none, none, none, some (.map 0 (ents x.2.1)), none]))
    (fun x => Good x.1 64 ∧ x.1.len + x.2.2.1 = n ∧ (∀ a : Nat, (x.1.K a).isSome = true → entAt a x.2.1 = none) ∧ (0 < x.2.2.1 → ∀ (a : Nat) k, x.1.K a = some k → lt3 x.2.2.2.1 a (x.2.2.2.2.1, x.2.2.2.2.2) k = true) ∧ U64 x.2.2.2.2.1 ∧ U64 x.2.2.2.2.2) (fun x => n - x.2.2.1) (s, [], 0, 0, 0, 1) ?_ ?_ ?_
  · have hin := hP_in7 (M := [none, none, none, none, none, some (.map 0 []), none]) rfl
    simp [-getElem?_pos, c4l1a, HS.ptr, ents, mem_n hin]
  · exact ⟨hG, by simpa using hn, fun a _ => rfl, fun h => by simp at h, by simp [U64], by simp [U64]⟩
  · rintro ⟨s, es, i, last, num, den⟩ ⟨hG, hn, hes, hord, hu1, hu2⟩
    simp only at hG hn hes hord hu1 hu2
    by_cases hi : i < n
    · have h0 : 0 < s.len := by omega
      have hi' : (i : Int) < (n : Int) := by omega
      have hin := hP_in7 (M := [none, none, none, none, none, some (.map 0 (ents es)), none]) rfl
      have hle := lend_heap hin hG.hp.hl
      have mr := min_run s.keys s.place (s.at 0) ((s.row.take s.len).drop 1)
      rw [← take_at hG.hp.toHV h0] at mr
      have hK := hG.hp.K_at h0
      have kr := key_run s.keys s.place (s.row.take s.len) (s.at 0) hG.hp.kl
      rw [hasN_iff.2 ⟨s.at 0, rfl, by rw [hK]; rfl⟩] at kr
      have hkey : (s.keys[((s.at 0 : Nat) : Int).toNat]?.getD (0, 0)) = s.key (s.at 0) := by simp [HS.key]
      simp only [hkey, if_true] at kr
      obtain ⟨t, t1, t2, t3, t4, t5⟩ := pop_run hin hG.hp hG.ord h0
      have tp : t.ptr hP = s.ptr hP := by simp [HS.ptr, t2.gn]
      have hk := (hG.hp.at h0).2.2.2
      have hm := hes (s.at 0) (by rw [hK]; rfl)
      obtain ⟨k, hkk⟩ : ∃ k, s.key (s.at 0) = k := ⟨_, rfl⟩
      rw [hkk] at kr hk hK
      obtain ⟨ka, kb⟩ := k
      have cr := refcmp_run num den ka kb hu1 hu2 hk.1 hk.2.1
      have w1 : IntKind.i64.wrap ((i : Int) + 1) = (i : Int) + 1 := by rw [wrap_i64] <;> omega
      have fin : ∃ y : HS × List (Int × V) × Nat × Int × Int × Int, (Good y.1 64 ∧ y.1.len + y.2.2.1 = n ∧ (∀ a : Nat, (y.1.K a).isSome = true → entAt a y.2.1 = none) ∧ (0 < y.2.2.1 → ∀ (a : Nat) k, y.1.K a = some k → lt3 y.2.2.2.1 a (y.2.2.2.2.1, y.2.2.2.2.2) k = true) ∧ U64 y.2.2.2.2.1 ∧ U64 y.2.2.2.2.2) ∧ n - y.2.2.1 < n - i ∧ ((mk 144 [(3, .c (s.ptr hP)), (6, .c (.int .i64 n)), (7, .c (.mref 5 0)), (8, .c (.int .i64 (s.at 0))), (9, .c (.int .u64 ka)), (10, .c (.int .u64 kb)), (11, .c (.int .i64 ((i : Int) + 1)))], t.mem hP [none, none, none, none, none, some (.map 0 (ents (entPut (s.at 0) (.c (.bool true)) es))), none]) : St) = (mk 144 [(3, .c (y.1.ptr hP)), (6, .c (.int .i64 n)), (7, .c (.mref 5 0)), (8, .c (.int .i64 y.2.2.2.1)), (9, .c (.int .u64 y.2.2.2.2.1)), (10, .c (.int .u64 y.2.2.2.2.2)), (11, .c (.int .i64 y.2.2.1))], y.1.mem hP [none, none, none, none, none, some (.map 0 (ents y.2.1)), none]) := by
        refine ⟨(t, entPut (s.at 0) (.c (.bool true)) es, i + 1, s.at 0, ka, kb), ⟨⟨t2.hp, t2.ord, t2.pl.trans hG.N, by rw [t3]; exact hG.row, t2.gn.trans hG.gn⟩, by simp only; omega, fun a ha => ?_, fun _ a k ha => ?_, hk.1, hk.2.1⟩, by simp only; omega, by simp [tp]⟩
        · rw [t5] at ha
          by_cases e : a = s.at 0
          · rw [if_pos e] at ha; cases ha
          · rw [if_neg e] at ha
            rw [entAt_put, if_neg (by omega)]
            exact hes a ha
        · simp only at ha ⊢
          rw [t5] at ha
          by_cases e : a = s.at 0
          · rw [if_pos e] at ha; cases ha
          · rw [if_neg e] at ha
            obtain ⟨j, j1, j2, j3⟩ := hG.hp.K_some ha
            have := Ord.min hG.hp.toHV hG.ord j j1
            rw [ahead_lt, HS.lt, j2, j3, hkk] at this
            exact lt3_total (by omega) this
      by_cases c0 : 0 < i
      · have c0' : (0 : Int) < (i : Int) := by omega
        have ho := hord c0 (s.at 0) (ka, kb) hK
        rw [lt3_iff] at ho
        simp only at ho
        rw [← cmpI_lt, ← cmpI_eq] at ho
        rcases ho with h | ⟨h, h2⟩
        · have q1 : ¬ 0 < cmpI num den ka kb := by omega
          have q2 : ¬ cmpI num den ka kb = 0 := by omega
          simp [-getElem?_pos, c4l1, c4l1a, c4r12, c4r13, c4r14, c4r15, c4r16, c4r18, c4r19, c4r21, c4r22, c4r23, hp_md, hpMd, hi', hle, mr, kr, t1, mem_len, hm, c0, c0', cr, mo5, ms5, w1, q1, q2]
          obtain ⟨⟨a, b, c, d, e, f⟩, f1, f2, f3⟩ := fin
          simp only [Prod.mk.injEq] at f3
          exact ⟨a, b, c, d, e, f, by simpa using f1, f2, f3.1, f3.2⟩
        · have q2 : ¬ ((s.at 0 : Nat) : Int) ≤ last := by omega
          rw [h] at cr
          simp [-getElem?_pos, c4l1, c4l1a, c4r12, c4r13, c4r14, c4r15, c4r16, c4r18, c4r19, c4r21, c4r22, c4r23, hp_md, hpMd, hi', hle, mr, kr, t1, mem_len, hm, c0, c0', cr, mo5, ms5, w1, q2]
          obtain ⟨⟨a, b, c, d, e, f⟩, f1, f2, f3⟩ := fin
          simp only [Prod.mk.injEq] at f3
          exact ⟨a, b, c, d, e, f, by simpa using f1, f2, f3.1, f3.2⟩
      · have c0' : ¬ (0 : Int) < (i : Int) := by omega
        simp [-getElem?_pos, c4l1, c4l1a, c4r12, c4r13, c4r14, c4r15, c4r16, c4r18, c4r19, c4r21, c4r22, c4r23, hp_md, hpMd, hi', hle, mr, kr, t1, mem_len, hm, c0, c0', cr, mo5, ms5, w1]
        obtain ⟨⟨a, b, c, d, e, f⟩, f1, f2, f3⟩ := fin
        simp only [Prod.mk.injEq] at f3
        exact ⟨a, b, c, d, e, f, by simpa using f1, f2, f3.1, f3.2⟩
    · have hi' : ¬ (i : Int) < (n : Int) := by omega
      have := hQ s es hG (by omega)
      simp [-getElem?_pos, c4l1, c4l1a, c4r12, hi']
      exact this

theorem new_good : Good (HS.new 64) 64 := by
  have h := new_rel (n := 64) (by omega)
  exact ⟨h.hp, h.ord, h.N, h.row, h.gn⟩

theorem new_mem7 (n : Nat) : (HS.new n).mem hP none7 = [some (.row 2 0 (List.replicate n [.int .u64 0, .int .u64 0])), some (.row 1 0 (List.replicate n [.int .i64 0])), some (.row 3 0 [[.own 0 0 2 0 n, .own 1 0 1 0 n, .own 4 0 1 0 0]]), none, some (.row 1 0 []), none, none] := by
  simp [HS.mem, put4, hP, none7, HS.X, HS.Y, HS.Z, HS.W, HS.new, List.map_replicate, encK, encI]

theorem sorts_run {acts : List ActI} {lc : C} (hlc : Sl 4 (acts.map encA) lc) (hu : ∀ a ∈ acts, U64 a.2.2.1 ∧ U64 a.2.2.2) : run Hp.hp 4 [.c lc] [] = some (.c (.bool true), []) := by
  refine run_of_W (af := c4) rfl rfl rfl (by simp [c4]) ?_
  have nr := new_run (n := 64) (by omega) (by omega)
  have hnm := new_mem7 64
  have hpt : (HS.new 64).ptr hP = .ptr 2 0 0 0 := rfl
  obtain ⟨r64, hr64⟩ : ∃ r, r = List.replicate 64 [C.int .u64 0, C.int .u64 0] := ⟨_, rfl⟩
  obtain ⟨i64, hi64⟩ : ∃ r, r = List.replicate 64 [C.int .i64 0] := ⟨_, rfl⟩
  have e64 : r64.length = 64 := by rw [hr64]; simp
  have f64 : i64.length = 64 := by rw [hi64]; simp
  rw [← hr64, ← hi64] at nr hnm
  have nr' : run Hp.hp 12 [.c (.int .i64 64)] [] = some (.tup [.c (.fptr [.fresh 2 r64, .fresh 1 i64, .nilsl]), .c (.int .i64 0)], []) := nr
  simp [-getElem?_pos, c4, c4r0, c4r1, c4r2, c4r4, hp_md, hpMd, nr', e64, f64]
  refine W_loop (σ := HS × Nat) (fun x => (mk 144 [(0, .c lc), (3, .c (x.1.ptr hP)), (5, .c (.int .i64 x.2))], x.1.mem hP none7)) (fun x => Good x.1 64 ∧ x.1.len ≤ x.2 ∧ x.2 ≤ 200) (fun x => 200 - x.2) (HS.new 64, 0) ?_ ?_ ?_
  · simp only [hnm, hpt]
    simp [-getElem?_pos, c4l0a]
  · exact ⟨new_good, by simp [HS.new], by simp⟩
  · rintro ⟨s, i⟩ ⟨hG, hl, hi⟩
    simp only at hG hl hi
    have hin := hP_in7 (M := none7) rfl
    by_cases h1 : i < acts.length ∧ i < 200
    · obtain ⟨h1, h2⟩ := h1
      obtain ⟨⟨kind, aid, num, den⟩, hx⟩ : ∃ a, acts[i]? = some a := ⟨_, List.getElem?_eq_getElem h1⟩
      obtain ⟨t, r, p1, p2, p3⟩ := put_call hG (by omega) (by omega) aid num den (hu _ (List.mem_of_getElem? hx))
      have h1' : (i : Int) < (acts.length : Int) := by omega
      have h2' : (i : Int) < 200 := by omega
      have w1 : IntKind.i64.wrap ((i : Int) + 1) = (i : Int) + 1 := by rw [wrap_i64] <;> omega
      have tp : t.ptr hP = s.ptr hP := by simp [HS.ptr, p2.gn, hG.gn]
      simp [-getElem?_pos, c4l0, c4l0a, c4r5, c4r6, c4r7, hp_md, hpMd, hlc.len, hlc.ixs, h1, h1', h2', hx, encA, mem_len, p1, w1]
      exact ⟨t, i + 1, ⟨p2, by omega, by omega⟩, by omega, by simp [tp], rfl⟩
    · have fin : ∀ (t : HS) (es : List (Int × V)), Good t 64 → t.len = 0 → Wx hp 0 (.exit 2) [K.blk 2, K.seq (AC.keep [3] (.seq (.region c4r24) (.keep [3, 21] (.seq (.region c4r25) .ret))))] (mk 144 [(2, .any), (3, .c (t.ptr hP))], t.mem hP [none, none, none, none, none, some (.map 0 (ents es)), none]) (fun e s => (∀ (id : Nat), ¬e = Ex.exit id) ∧ ((evRV s (RV.tmp 2)).bind fun v => retE (Md.pure false) v s.snd) = some (V.c (C.bool true), [])) := by
        intro t es hG' h0
        have hin' := hP_in7 (M := [none, none, none, none, none, some (.map 0 (ents es)), none]) rfl
        have pr := pop0_run hin' hG'.hp h0
        have hle' := lend_heap hin' hG'.hp.hl
        have lr' := Hp.len_run t.keys t.place (t.row.take t.len)
        rw [h0, List.take_zero] at hle' lr'
        simp at lr'
        simp [-getElem?_pos, c4r24, c4r25, hp_md, hpMd, pr, hle', lr', awake_run]
      have hle := lend_heap hin hG.hp.hl
      have lr : run Hp.hp 23 [.c (hv s.keys s.place (s.row.take s.len))] [] = some (.c (.int .i64 s.len), []) := by
        have := Hp.len_run s.keys s.place (s.row.take s.len)
        rw [List.length_take, Nat.min_eq_left hG.hp.hl] at this
        exact this
      by_cases h2 : i < acts.length
      · have h2' : (i : Int) < (acts.length : Int) := by omega
        have h3' : ¬ (i : Int) < 200 := by omega
        simp [-getElem?_pos, c4l0, c4l0a, c4r5, c4r8, c4r9, c4r10, c4r11, hp_md, hpMd, hlc.len, h2', h2, h3', hle, lr, mo5, ms5, n7_5, n7s5]
        exact sorts_loop hG rfl (by omega) fin
      · have h2' : ¬ (i : Int) < (acts.length : Int) := by omega
        simp [-getElem?_pos, c4l0, c4l0a, c4r5, c4r8, c4r9, c4r10, c4r11, hp_md, hpMd, hlc.len, h2', h2, hle, lr, mo5, ms5, n7_5, n7s5]
        exact sorts_loop hG rfl (by omega) fin

end Go.Proofs.Ytopcnhojkfeafaa.Am.Hp
