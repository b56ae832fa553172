/- AM: slices.SortFunc of the program's wants by their units: as the kit has it. -/
import Derived.Test.YtopcnhojkfeafaaChecked
import Derived.Test.YtopcnhojkfeafaaAmSrtA
import Derived.Shelf.SlSortCmp.NoneTotal
import Derived.Shelf.SlicesG.Cmp
import Derived.Shelf.Lay
import Derived.Ground.SlsfProg
import Derived.Ground.SlgcProg
set_option linter.unusedSimpArgs false
set_option linter.unusedVariables false
namespace Go.Proofs
open Go.Shelf Go.RowKit Go.Lib Go.Sort
shelf_lay_g SlLaysF0.n6 Slsf 6 at Try 131 as Ytopcnhojkfeafaa.sortW
shelf_lay_g SlLaysC2.n5 Slgc 5 at Try 124 as Ytopcnhojkfeafaa.cmpI
end Go.Proofs
namespace Go.Proofs.Ytopcnhojkfeafaa.Am
open Go.Shelf Go.RowKit Go.Lib Go.Sort

def encW (x : Int × Int) : List Value := [.int .i64 x.1, .int .i64 x.2]
abbrev cfW : Int × Int → Int × Int → Int := fun x y => Lib.compareInt x.1 y.1

set_option maxHeartbeats 1000000 in
theorem closure132 (x y : Int × Int) (W : World) : Calls Try.prog 132 #[.agg #[.int .i64 x.1, .int .i64 x.2], .agg #[.int .i64 y.1, .int .i64 y.2]] W fun e w' => e = .returned (.int .i64 (Lib.compareInt x.1 y.1)) ∧ ∃ q os', w' = grow (W.drewN q) os' := by
  have hcon := fun W' => AnyG.cmp_Compare_int Ytopcnhojkfeafaa.cmpI x.1 y.1 W'
  change ∀ W', Calls Try.prog 124 _ _ _ at hcon
  generalize Lib.compareInt x.1 y.1 = r at hcon ⊢
  go_enter Try.func132, Try.ntmps132
  go_wp2_with (go_at_call 124; refine (hcon _).mono ?_; rintro e w' ⟨rfl, rfl⟩)
  go_ret
  exact ⟨rfl, 0, _, by rw [alloc_eq_grow, alloc_eq_grow, grow_grow]; rfl⟩

theorem cmpLaysW (blk off size : Nat) (w : World) : CmpLays Try.prog 132 #[] encW 2 cfW blk off size w :=
  fun _ _ _ _ x y => closure132 x y _

theorem ltW (x y : Int × Int) : ltOf cfW x y = decide (x.1 < y.1) := by
  unfold ltOf cfW Lib.compareInt
  by_cases h1 : x.1 < y.1
  · simp [h1]
  · by_cases h2 : y.1 < x.1 <;> simp [h1, h2]

theorem swoW : SWO (ltOf cfW) where
  irrefl x := by rw [ltW]; simp
  trans x y z h1 h2 := by rw [ltW] at *; simp at *; omega
  ntrans x y z h1 h2 := by rw [ltW] at *; simp at *; omega

theorem sort_calls (blk off cap : Nat) (d : Array (Int × Int)) (w : World) (hH : HoldsK encW 2 w blk off d) (hblk : blk < w.heap.size) (hsz : d.size < 4611686018427387904) :
    Calls Try.prog 131 #[.slice (some ⟨blk, off, none⟩) d.size cap, .func (.func 132) #[] #[]] w fun e w' => e = .returned (.tuple #[]) ∧ ∃ d' n os, PermIn 0 d.size d d' ∧ SortedIn (ltOf cfW) 0 d.size d' ∧ w' = sortWorldK encW 2 w blk off n d' os := by
  have eg : ∀ args w, (callFunc 132 args).run Try.prog w = .ok (.enter 132 args) w := enters_of Try.func132 (by kernel_rfl) rfl
  exact AnyQ.slices_SortFunc Ytopcnhojkfeafaa.sortW 2 Try.isAgg62 Try.sizeOf62 encW (fun _ => rfl) (fun x v hv => by simp [encW] at hv; rcases hv with rfl | rfl <;> rfl) cfW swoW 132 #[] blk off cap d w eg (cmpLaysW blk off d.size w) hH hblk hsz

theorem sort_none (p : Option Addr) (cap : Nat) (w : World) : Calls Try.prog 131 #[.slice p 0 cap, .func (.func 132) #[] #[]] w fun e w' => e = .returned (.tuple #[]) ∧ w' = w :=
  AnyF.slices_SortFunc_none Ytopcnhojkfeafaa.sortW p cap _ w

/-- What the row holds behind it. -/
theorem sorted_is {d : List (Int × Int)} (hn : (d.map (·.1)).Nodup) {d' : Array (Int × Int)} (hp : PermIn 0 d.toArray.size d.toArray d') (hs : SortedIn (ltOf cfW) 0 d.toArray.size d') : d'.toList = isort d := by
  obtain ⟨h1, _, h2⟩ := hp
  have e1 : d'.extract 0 d.toArray.size = d' := by rw [← h1]; exact Array.extract_size
  rw [e1, Array.extract_size] at h2
  refine isort_unique hn h2 ?_
  rw [List.pairwise_iff_getElem]
  intro i j hi hj hij
  have := hs i j (Nat.zero_le _) hij (by rw [← h1]; simpa using hj)
  rw [ltW] at this
  have hi' : i < d'.size := by simpa using hi
  have hj' : j < d'.size := by simpa using hj
  rw [getElem!_pos d' i hi', getElem!_pos d' j hj'] at this
  simp only [decide_eq_false_iff_not, Int.not_lt] at this
  simpa using this

end Go.Proofs.Ytopcnhojkfeafaa.Am
