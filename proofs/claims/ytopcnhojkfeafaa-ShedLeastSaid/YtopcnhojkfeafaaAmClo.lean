/- AM: slices.Clone of the program's wants: of none at all too. -/
import Derived.Test.YtopcnhojkfeafaaChecked
import Derived.Test.YtopcnhojkfeafaaAmSh
import Derived.Test.YtopcnhojkfeafaaAmSrtA
import Derived.Test.YtopcnhojkfeafaaAmGen
import Derived.Test.YtopcnhojkfeafaaAmLim
import Derived.Shelf.SlicesE.Clone
set_option linter.unusedSimpArgs false
set_option linter.unusedVariables false
set_option maxRecDepth 100000
namespace Go.Proofs
open Go.Shelf Go.RowKit Go.Lib
def Ytopcnhojkfeafaa.cloneW_ren : Ren where
  f := fun x => match x with
    | 41 => 130
    | n => n
  t := fun x => match x with
    | 22 => 80
    | 23 => 62
    | 4 => 4
    | n => n
  g := fun x => x

theorem Ytopcnhojkfeafaa.cloneW : SlLaysE0.n41 Try.prog Ytopcnhojkfeafaa.cloneW_ren where
  mixed := by kernel_rfl
  f41 := ⟨"slices.Clone[[]dogwatch/api.Want,dogwatch/api.Want]", by decide, Try.func130.trans (congrArg some (by kernel_rfl))⟩
  t4 := Try.underlying4
  a4 := Try.isAgg4
  z4 := Try.sizeOf4
  v4 := Try.zeroValue4
  t22 := Try.underlying80
  a22 := Try.isAgg80
  z22 := Try.sizeOf80
  v22 := Try.zeroValue80

end Go.Proofs
namespace Go.Proofs.Ytopcnhojkfeafaa.Am
open Go.Shelf Go.RowKit Go.Lib

section
variable {P : Program} {ρ : Ren}
set_option maxHeartbeats 2000000 in
set_option maxRecDepth 100000 in
theorem clone_empty (L : SlLaysE0.n41 P ρ) (i0 : TypeInfo) (z : Value) (size bytes : Nat) (hi : P.info? (ρ.t 23) = some i0) (hz0 : i0.zero = some z) (hz1 : i0.size = size) (hz2 : i0.bytes = bytes) (hzs : z.cells.size = size) (hsz : 0 < size)
    (z23 : ∀ w, (Go.sizeOf (ρ.t 23)).run P w = .ok size w) (ad : Addr) (c : Nat) (w : World) :
    Calls P (ρ.f 41) #[.slice (some ad) 0 c] w fun e w' => ∃ v', e = .returned v' ∧ w'.ownsRow w.heap.size (ρ.t 23) size v' 0 [] ∧ Below w.heap.size w w' := by
  have mixed := L.mixed; have t4 := L.t4; have a4 := L.a4; have z4 := L.z4; have v4 := L.v4; have t22 := L.t22; have a22 := L.a22; have z22 := L.z22; have v22 := L.v22
  have q22 : ∀ (w : World) (a : Option Addr) (n c n' c' : Nat), (binOp .eql (ρ.t 22) (.slice a n c) (.slice none n' c')).run P w = .ok (.bool a.isNone) w := fun w a n c n' c' => Lib.run_eql_slice_nil w _ _ a n c n' c' L.t22
  have u22 : ∀ w, Sem.run P (underlying (ρ.t 22)) w = .ok (TypeDesc.slice (ρ.t 23)) w := run_underlying t22
  obtain ⟨_, _, FG⟩ := L.f41
  go_enter FG, SlBodyN.n41_ntmps ρ
  go_wp2_with (at_builtin; refine wpList_append_own _ rfl _ _ (ρ.t 22) rfl w.heap.size (ρ.t 23) i0 z size bytes t22 hi hz0 hz1 hz2 hzs hsz _ _ _ rfl (World.ownsRow_made w #[] 0 (Nat.le_refl _) (Nat.zero_le _) (by simp)) ad 0 c [] rfl ?qc1 ?qc2 ?qc3 ?qc4 ?qc5 ?qc6 ?_)
  case qc1 => simp
  case qc2 => intro j u hj; simp at hj
  case qc3 => intro u hu; simp at hu
  case qc4 => simp [maxLen]
  case qc5 => simp
  case qc6 => simp
  intro v' w1 hown hgrow hnil
  go_wp2
  go_ret
  refine ⟨v', rfl, by simpa using hown, ?_⟩
  exact ((Below.refl _ w).alloc (Nat.le_refl _) _).grown hgrow (by simp) (by intro k hk; simp [Value.ownBlock] at hk; omega)
end

noncomputable def wantI : TypeInfo := (Try.prog.info? 62).get (by kernel_rfl)

theorem clone_calls_empty (ad : Addr) (c : Nat) (w : World) : Calls Try.prog 130 #[.slice (some ad) 0 c] w fun e w' => ∃ A cap, e = .returned (.slice A 0 cap) ∧ Below w.heap.size w w' := by
  refine (clone_empty Ytopcnhojkfeafaa.cloneW wantI (.agg #[.int .i64 0, .int .i64 0]) 2 16 (by kernel_rfl) (by kernel_rfl) (by kernel_rfl) (by kernel_rfl) rfl (by decide) Try.sizeOf62 ad c w).mono ?_
  rintro e w' ⟨v', rfl, ⟨_, h⟩, hb⟩
  rcases h with ⟨rfl, _⟩ | ⟨g, cap, cur, rfl, _⟩
  · exact ⟨_, _, rfl, hb⟩
  · exact ⟨_, _, rfl, hb⟩

theorem clone_calls_nil (n c : Nat) (w : World) : Calls Try.prog 130 #[.slice none n c] w fun e w' => e = .returned (.slice none 0 0) ∧ w' = w :=
  AnyE.slices_Clone_nil Ytopcnhojkfeafaa.cloneW n c w

/-! ### A copy, by the code, where the slice is not empty -/

/-- The one function. -/
def cl0 : Pg := ⟨fun f => match f with | 130 => some c130 | _ => none, fun _ => .pure true, fun _ => none⟩

theorem clone_nil0 : run cl0 130 [.c .nilsl] [] = some (.c .nilsl, []) := by
  refine run_of_W (af := c130) rfl rfl rfl (by simp [c130]) ?_
  have q : evBin .eqs (.c .nilsl) (.c .nilsl) = some (.bool true) := rfl
  have m : cl0.md 130 = .pure true := rfl
  simp [-getElem?_pos, c130, c130r0, c130r1, c130r2, q, m]
  simp [retE, nodupB, topsV, topsV1, topsP, topsC, expV, expV1, expP, expC, frz]

theorem encP_flat (l : List (Int × Int)) : ∀ cs ∈ l.map encP, cs.all flat = true := by
  intro cs h
  obtain ⟨x, _, rfl⟩ := List.mem_map.1 h
  rfl

theorem clone_run0 (x : Int × Int) (l : List (Int × Int)) (t : Bool) (hl : (x :: l).length ≤ 100000) : run cl0 130 [.c (.imm t 2 ((x :: l).map encP))] [] = some (.c (.fresh 2 ((x :: l).map encP)), []) := by
  refine run_of_W (af := c130) rfl rfl rfl (by simp [c130]) ?_
  have q : evBin .eqs (.c (.imm t 2 ((x :: l).map encP))) (.c .nilsl) = some (.bool false) := rfl
  have m : cl0.md 130 = .pure true := rfl
  obtain ⟨xs, hxs⟩ : ∃ xs, xs = (x :: l).map encP := ⟨_, rfl⟩
  have hlen : xs.length ≤ 16777216 := by rw [hxs]; simp at hl ⊢; omega
  have hf : ∀ cs ∈ xs, cs.all flat = true := by rw [hxs]; exact encP_flat _
  rw [← hxs] at q ⊢
  simp [-getElem?_pos, c130, c130r0, c130r1, c130r3, q, m, fillSl, hlen]
  have e1 := Gen.expC_own (l := [0]) (M := [some (.row 2 1 xs), none]) (n := 0) (g := 1) (k := 2) (len := xs.length) rfl (Nat.le_refl _) hf
  rw [List.take_length] at e1
  simp [retE, nodupB, topsV, topsV1, topsP, topsC, expV, expV1, expP, e1]

theorem cl0_ok : PgOK Try.prog cl0 := by
  refine ⟨rfl, fun f af h => ?_, fun f p h => by simp [cl0] at h⟩
  simp only [cl0] at h
  split at h
  · injection h with h; subst h; exact ok130
  · cases h

theorem clone_prim {A : Pg} (hm : A.md 130 = .pure true) : PrimOK Try.prog A 130 primClone := by
  have pure0 : ∀ {vs r}, run cl0 130 vs [] = some (r, []) → PureOK Try.prog 130 vs r := fun {vs r} h => by
    obtain ⟨n, hn⟩ := run_some.1 h
    exact (runF_sound cl0_ok n).1.pure 130 vs r [] hn (by simp [cl0])
  refine ⟨⟨_, _, Try.func130, by kernel_rfl, rfl⟩, fun h => absurd (hm.symm.trans h) (by simp), fun h => absurd (hm.symm.trans h) (by simp), fun _ vs r M' h => ?_⟩
  unfold primClone at h
  split at h
  · simp only [Option.some.injEq, Prod.mk.injEq] at h
    obtain ⟨rfl, rfl⟩ := h
    exact pure0 clone_nil0
  · rename_i t k
    split at h
    · rename_i hk
      subst hk
      simp only [Option.some.injEq, Prod.mk.injEq] at h
      obtain ⟨rfl, rfl⟩ := h
      intro w F ys hF hA
      match ys, hA with
      | [y1], hA =>
        have h1 := hA.1
        have : ∃ p cap, y1 = .slice p 0 cap := by
          cases h1 with
          | im h =>
            cases h with
            | immN _ _ _ A cap => exact ⟨A, cap, rfl⟩
            | imm _ _ _ _ _ _ _ _ hl hb h0 => simp at h0
        obtain ⟨p, cap, rfl⟩ := this
        cases p with
        | none =>
          refine (clone_calls_nil 0 cap w).mono ?_
          rintro e w' ⟨rfl, rfl⟩
          exact ⟨_, [], rfl, rfl, rfl, rfl, Nat.le_refl _, fun _ _ => rfl, fun b hb => by simp at hb, List.nodup_nil, .inl (.im (.immN _ _ _ _ _))⟩
        | some ad =>
          refine (clone_calls_empty ad cap w).mono ?_
          rintro e w' ⟨A2, c2, rfl, hb⟩
          exact ⟨_, [], rfl, hb.os, hb.tape, hb.output, hb.size, hb.block, fun b hb => by simp at hb, List.nodup_nil, .inl (.im (.immN _ _ _ _ _))⟩
    · simp at h
  · rename_i t k x xs
    split at h
    · rename_i hk
      obtain ⟨rfl, hlen⟩ := hk
      split at h
      · rename_i d hd
        simp only [Option.some.injEq, Prod.mk.injEq] at h
        obtain ⟨rfl, rfl⟩ := h
        have e := ofRows_some hd
        cases d with
        | nil => simp at e
        | cons y d =>
          rw [e]
          rw [e] at hlen
          exact pure0 (clone_run0 y d t (by simpa using hlen))
      · simp at h
    · simp at h
  · simp at h

end Go.Proofs.Ytopcnhojkfeafaa.Am
