/- AM: shed's functions: Choose, Cost; the statements' examples. -/
import Derived.Test.YtopcnhojkfeafaaAmShG
set_option linter.unusedSimpArgs false
set_option linter.unusedVariables false
set_option maxRecDepth 100000
namespace Go.Proofs.Ytopcnhojkfeafaa.Am.Sh
open Am.Gen

theorem Choose_fail {c : C} (f need e : Int) (hst : still c = true) (h : run sh 95 [.c (.int .i64 f), .c (.int .i64 need), .c c] [] = some (.tup [.c .nilsl, .c (.int .i64 0), .c (.int .i64 e)], [])) :
    run sh 46 [.c (.int .i64 f), .c (.int .i64 need), .c c] [] = some (.tup [.c .nilsl, .c (.int .i64 e)], []) := by
  refine run_of_W (af := c46) rfl rfl rfl (by simp [c46]) ?_
  simp [-getElem?_pos, c46, c46r0, c46r1, c46r2, sh_md, shMd, hst, h]
  simp [retE, nodupB, topsV, topsV1, topsP, topsC, expV, expV1, expP, expC, frz]

theorem Choose_ok {c : C} (f need s : Int) (out : List Int) (hst : still c = true) (h : run sh 95 [.c (.int .i64 f), .c (.int .i64 need), .c c] [] = some (.tup [.c (.fresh 1 (out.map encI)), .c (.int .i64 s), .c (.int .i64 0)], [])) :
    run sh 46 [.c (.int .i64 f), .c (.int .i64 need), .c c] [] = some (.tup [.c (.fresh 1 (out.map encI)), .c (.int .i64 0)], []) := by
  refine run_of_W (af := c46) rfl rfl rfl (by simp [c46]) ?_
  simp [-getElem?_pos, -List.mapM_map, c46, c46r0, c46r1, c46r2, sh_md, shMd, hst, h]
  have x1 := Gen.expC_own (l := [0]) (M := [some (.row 1 0 (out.map encI))]) (n := 0) (g := 0) (k := 1) (len := out.length) rfl (by simp) (encI_flat _)
  rw [List.take_of_length_le (by simp)] at x1
  simp [retE, nodupB, topsV, topsV1, topsP, topsC, expV, expV1, expP, x1, flat_exp]

theorem Cost_fail {c : C} (f need e : Int) (hst : still c = true) (h : run sh 95 [.c (.int .i64 f), .c (.int .i64 need), .c c] [] = some (.tup [.c .nilsl, .c (.int .i64 0), .c (.int .i64 e)], [])) :
    run sh 47 [.c (.int .i64 f), .c (.int .i64 need), .c c] [] = some (.tup [.c (.int .i64 0), .c (.int .i64 e)], []) := by
  refine run_of_W (af := c47) rfl rfl rfl (by simp [c47]) ?_
  simp [-getElem?_pos, c47, c47r0, c47r1, c47r2, sh_md, shMd, hst, h]

theorem Cost_ok {c : C} (f need s : Int) (out : List Int) (hst : still c = true) (h : run sh 95 [.c (.int .i64 f), .c (.int .i64 need), .c c] [] = some (.tup [.c (.fresh 1 (out.map encI)), .c (.int .i64 s), .c (.int .i64 0)], [])) :
    run sh 47 [.c (.int .i64 f), .c (.int .i64 need), .c c] [] = some (.tup [.c (.int .i64 s), .c (.int .i64 0)], []) := by
  refine run_of_W (af := c47) rfl rfl rfl (by simp [c47]) ?_
  simp [-getElem?_pos, -List.mapM_map, c47, c47r0, c47r1, c47r2, sh_md, shMd, hst, h]

theorem awake_run : run sh 45 [] [] = some (.c (.bool true), []) := run_some.2 ⟨100, by kernel_rfl⟩

end Go.Proofs.Ytopcnhojkfeafaa.Am.Sh
