/- AM: slices.SortFunc of the program's wants by their units: as the kit has it. -/
import Derived.Test.YtopcnhojkfeafaaChecked
import Derived.Test.YtopcnhojkfeafaaAmSrtA
import Derived.Shelf.SlSortCmp.NoneTotal
import Derived.Shelf.SlicesG.Cmp
set_option linter.unusedSimpArgs false
set_option linter.unusedVariables false
namespace Go.Proofs
open Go.Shelf Go.RowKit Go.Lib Go.Sort
def Ytopcnhojkfeafaa.cmpI_ren : Ren where
  f := fun x => match x with
    | 5 => 124
    | 7 => 147
    | n => n
  t := fun x => match x with
    | 22 => 3
    | 3 => 3
    | 4 => 4
    | n => n
  g := fun x => x

theorem Ytopcnhojkfeafaa.cmpI : SlLaysC2.n5 Try.prog Ytopcnhojkfeafaa.cmpI_ren where
  mixed := by kernel_rfl
  f5 := ⟨"cmp.Compare[int]", by decide, Try.func124.trans (congrArg some (by kernel_rfl))⟩
  f7 := ⟨"cmp.isNaN[int]", by decide, Try.func147.trans (congrArg some (by kernel_rfl))⟩
  t3 := Try.underlying3
  a3 := Try.isAgg3
  z3 := Try.sizeOf3
  v3 := Try.zeroValue3
  t4 := Try.underlying4
  a4 := Try.isAgg4
  z4 := Try.sizeOf4
  v4 := Try.zeroValue4
  t22 := Try.underlying3
  a22 := Try.isAgg3
  z22 := Try.sizeOf3
  v22 := Try.zeroValue3

def Ytopcnhojkfeafaa.sortW_ren : Ren where
  f := fun x => match x with
    | 6 => 131
    | 15 => 151
    | 14 => 150
    | 28 => 165
    | 29 => 166
    | 20 => 157
    | 21 => 158
    | 22 => 159
    | 23 => 160
    | 24 => 161
    | 25 => 162
    | 26 => 163
    | 27 => 164
    | 46 => 170
    | 47 => 171
    | 48 => 172
    | 49 => 173
    | 50 => 174
    | 57 => 177
    | n => n
  t := fun x => match x with
    | 22 => 80
    | 24 => 62
    | 25 => 162
    | 3 => 3
    | 39 => 140
    | 0 => 0
    | 53 => 50
    | 55 => 29
    | 4 => 4
    | 46 => 188
    | 45 => 187
    | 50 => 39
    | 5 => 5
    | 9 => 9
    | 66 => 197
    | 70 => 201
    | 76 => 204
    | 77 => 205
    | n => n
  g := fun x => x

theorem Ytopcnhojkfeafaa.sortW : SlLaysF0.n6 Try.prog Ytopcnhojkfeafaa.sortW_ren where
  mixed := by kernel_rfl
  f6 := ⟨"slices.SortFunc[[]dogwatch/api.Want,dogwatch/api.Want]", by decide, Try.func131.trans (congrArg some (by kernel_rfl))⟩
  f14 := ⟨"slices.pdqsortCmpFunc[dogwatch/api.Want]", by decide, Try.func150.trans (congrArg some (by kernel_rfl))⟩
  f15 := Try.func151.trans (congrArg some (by kernel_rfl))
  f20 := ⟨"slices.insertionSortCmpFunc[dogwatch/api.Want]", by decide, Try.func157.trans (congrArg some (by kernel_rfl))⟩
  f21 := ⟨"slices.heapSortCmpFunc[dogwatch/api.Want]", by decide, Try.func158.trans (congrArg some (by kernel_rfl))⟩
  f22 := ⟨"slices.breakPatternsCmpFunc[dogwatch/api.Want]", by decide, Try.func159.trans (congrArg some (by kernel_rfl))⟩
  f23 := ⟨"slices.choosePivotCmpFunc[dogwatch/api.Want]", by decide, Try.func160.trans (congrArg some (by kernel_rfl))⟩
  f24 := ⟨"slices.reverseRangeCmpFunc[dogwatch/api.Want]", by decide, Try.func161.trans (congrArg some (by kernel_rfl))⟩
  f25 := ⟨"slices.partialInsertionSortCmpFunc[dogwatch/api.Want]", by decide, Try.func162.trans (congrArg some (by kernel_rfl))⟩
  f26 := ⟨"slices.partitionEqualCmpFunc[dogwatch/api.Want]", by decide, Try.func163.trans (congrArg some (by kernel_rfl))⟩
  f27 := ⟨"slices.partitionCmpFunc[dogwatch/api.Want]", by decide, Try.func164.trans (congrArg some (by kernel_rfl))⟩
  f28 := Try.func165.trans (congrArg some (by kernel_rfl))
  f29 := Try.func166.trans (congrArg some (by kernel_rfl))
  f46 := ⟨"slices.siftDownCmpFunc[dogwatch/api.Want]", by decide, Try.func170.trans (congrArg some (by kernel_rfl))⟩
  f47 := Try.func171.trans (congrArg some (by kernel_rfl))
  f48 := Try.func172.trans (congrArg some (by kernel_rfl))
  f49 := ⟨"slices.medianAdjacentCmpFunc[dogwatch/api.Want]", by decide, Try.func173.trans (congrArg some (by kernel_rfl))⟩
  f50 := ⟨"slices.medianCmpFunc[dogwatch/api.Want]", by decide, Try.func174.trans (congrArg some (by kernel_rfl))⟩
  f57 := ⟨"slices.order2CmpFunc[dogwatch/api.Want]", by decide, Try.func177.trans (congrArg some (by kernel_rfl))⟩
  t0 := Try.underlying0
  a0 := Try.isAgg0
  z0 := Try.sizeOf0
  v0 := Try.zeroValue0
  t3 := Try.underlying3
  a3 := Try.isAgg3
  z3 := Try.sizeOf3
  v3 := Try.zeroValue3
  t4 := Try.underlying4
  a4 := Try.isAgg4
  z4 := Try.sizeOf4
  v4 := Try.zeroValue4
  t5 := Try.underlying5
  a5 := Try.isAgg5
  z5 := Try.sizeOf5
  v5 := Try.zeroValue5
  t9 := Try.underlying9
  a9 := Try.isAgg9
  z9 := Try.sizeOf9
  v9 := Try.zeroValue9
  t22 := Try.underlying80
  a22 := Try.isAgg80
  z22 := Try.sizeOf80
  v22 := Try.zeroValue80
  t25 := Try.underlying162
  a25 := Try.isAgg162
  z25 := Try.sizeOf162
  v25 := Try.zeroValue162
  t39 := Try.underlying140
  a39 := Try.isAgg140
  z39 := Try.sizeOf140
  v39 := Try.zeroValue140
  t45 := Try.underlying187
  a45 := Try.isAgg187
  z45 := Try.sizeOf187
  v45 := Try.zeroValue187
  t46 := Try.underlying188
  a46 := Try.isAgg188
  z46 := Try.sizeOf188
  v46 := Try.zeroValue188
  t50 := Try.underlying39
  a50 := Try.isAgg39
  z50 := Try.sizeOf39
  v50 := Try.zeroValue39
  t53 := Try.underlying50
  a53 := Try.isAgg50
  z53 := Try.sizeOf50
  v53 := Try.zeroValue50
  t55 := Try.underlying29
  a55 := Try.isAgg29
  z55 := Try.sizeOf29
  v55 := Try.zeroValue29
  t66 := Try.underlying197
  a66 := Try.isAgg197
  z66 := Try.sizeOf197
  v66 := Try.zeroValue197
  t70 := Try.underlying201
  a70 := Try.isAgg201
  z70 := Try.sizeOf201
  v70 := Try.zeroValue201
  t76 := Try.underlying204
  a76 := Try.isAgg204
  z76 := Try.sizeOf204
  v76 := Try.zeroValue204
  t77 := Try.underlying205
  a77 := Try.isAgg205
  z77 := Try.sizeOf205
  v77 := Try.zeroValue205

end Go.Proofs
namespace Go.Proofs.Ytopcnhojkfeafaa.Am
open Go.Shelf Go.RowKit Go.Lib Go.Sort

def encW (x : Int × Int) : List Value := [.int .i64 x.1, .int .i64 x.2]
abbrev cfW : Int × Int → Int × Int → Int := fun x y => Lib.compareInt x.1 y.1

set_option maxHeartbeats 1000000 in
theorem closure132 (x y : Int × Int) (W : World) : Calls Try.prog 132 #[.agg #[.int .i64 x.1, .int .i64 x.2], .agg #[.int .i64 y.1, .int .i64 y.2]] W fun e w' => e = .returned (.int .i64 (Lib.compareInt x.1 y.1)) ∧ ∃ q os', w' = grow (W.drewN q) os' := by
  have hcon := fun W' => AnyG.cmp_Compare_int Ytopcnhojkfeafaa.cmpI x.1 y.1 W'
  change ∀ W', Calls Try.prog 124 _ _ _ at hcon
  generalize Lib.compareInt x.1 y.1 = r at hcon ⊢
  go_enter Try.func132, Try.ntmps132
  go_wp2_with (go_at_call 124; refine (hcon _).mono ?_; rintro e w' ⟨rfl, rfl⟩)
  go_ret
  exact ⟨rfl, 0, _, by rw [alloc_eq_grow, alloc_eq_grow, grow_grow]; rfl⟩

theorem cmpLaysW (blk off size : Nat) (w : World) : CmpLays Try.prog 132 #[] encW 2 cfW blk off size w :=
  fun _ _ _ _ x y => closure132 x y _

theorem ltW (x y : Int × Int) : ltOf cfW x y = decide (x.1 < y.1) := by
  unfold ltOf cfW Lib.compareInt
  by_cases h1 : x.1 < y.1
  · simp [h1]
  · by_cases h2 : y.1 < x.1 <;> simp [h1, h2]

theorem swoW : SWO (ltOf cfW) where
  irrefl x := by rw [ltW]; simp
  trans x y z h1 h2 := by rw [ltW] at *; simp at *; omega
  ntrans x y z h1 h2 := by rw [ltW] at *; simp at *; omega

theorem sort_calls (blk off cap : Nat) (d : Array (Int × Int)) (w : World) (hH : HoldsK encW 2 w blk off d) (hblk : blk < w.heap.size) (hsz : d.size < 4611686018427387904) :
    Calls Try.prog 131 #[.slice (some ⟨blk, off, none⟩) d.size cap, .func (.func 132) #[] #[]] w fun e w' => e = .returned (.tuple #[]) ∧ ∃ d' n os, PermIn 0 d.size d d' ∧ SortedIn (ltOf cfW) 0 d.size d' ∧ w' = sortWorldK encW 2 w blk off n d' os := by
  have eg : ∀ args w, (callFunc 132 args).run Try.prog w = .ok (.enter 132 args) w := enters_of Try.func132 (by kernel_rfl) rfl
  exact AnyQ.slices_SortFunc Ytopcnhojkfeafaa.sortW 2 Try.isAgg62 Try.sizeOf62 encW (fun _ => rfl) (fun x v hv => by simp [encW] at hv; rcases hv with rfl | rfl <;> rfl) cfW swoW 132 #[] blk off cap d w eg (cmpLaysW blk off d.size w) hH hblk hsz

theorem sort_none (p : Option Addr) (cap : Nat) (w : World) : Calls Try.prog 131 #[.slice p 0 cap, .func (.func 132) #[] #[]] w fun e w' => e = .returned (.tuple #[]) ∧ w' = w :=
  AnyF.slices_SortFunc_none Ytopcnhojkfeafaa.sortW p cap _ w

/-- What the row holds behind it. -/
theorem sorted_is {d : List (Int × Int)} (hn : (d.map (·.1)).Nodup) {d' : Array (Int × Int)} (hp : PermIn 0 d.toArray.size d.toArray d') (hs : SortedIn (ltOf cfW) 0 d.toArray.size d') : d'.toList = isort d := by
  obtain ⟨h1, _, h2⟩ := hp
  have e1 : d'.extract 0 d.toArray.size = d' := by rw [← h1]; exact Array.extract_size
  rw [e1, Array.extract_size] at h2
  refine isort_unique hn h2 ?_
  rw [List.pairwise_iff_getElem]
  intro i j hi hj hij
  have := hs i j (Nat.zero_le _) hij (by rw [← h1]; simpa using hj)
  rw [ltW] at this
  have hi' : i < d'.size := by simpa using hi
  have hj' : j < d'.size := by simpa using hj
  rw [getElem!_pos d' i hi', getElem!_pos d' j hj'] at this
  simp only [decide_eq_false_iff_not, Int.not_lt] at this
  simpa using this

end Go.Proofs.Ytopcnhojkfeafaa.Am
