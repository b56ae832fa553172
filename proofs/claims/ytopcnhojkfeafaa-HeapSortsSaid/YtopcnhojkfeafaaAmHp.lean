/- AM: the heap's functions, as the machine runs them: the page. -/
import Derived.Test.YtopcnhojkfeafaaAmHeap
import Derived.Test.YtopcnhojkfeafaaAmNum
set_option linter.unusedSimpArgs false
set_option maxRecDepth 100000
namespace Go.Proofs.Ytopcnhojkfeafaa.Am.Hp

def hpCode : Nat → Option AF
  | 3 => some c3 | 4 => some c4 | 12 => some c12 | 13 => some c13 | 14 => some c14 | 15 => some c15 | 16 => some c16 | 17 => some c17 | 18 => some c18 | 19 => some c19 | 20 => some c20 | 21 => some c21 | 22 => some c22 | 23 => some c23 | 24 => some c24
  | 61 => some c61 | 62 => some c62 | 63 => some c63 | 64 => some c64 | 65 => some c65 | 66 => some c66 | 105 => some c105 | 106 => some c106 | 107 => some c107 | 139 => some c139 | 154 => some c154 | _ => none

def hpMd : Nat → Md
  | 15 | 17 | 19 | 61 | 62 | 64 => .state
  | 12 | 14 | 16 => .pure true
  | _ => .pure false

def hp : Pg := ⟨hpCode, hpMd, fun _ => none⟩

theorem hp_md (n : Nat) : hp.md n = hpMd n := rfl

end Go.Proofs.Ytopcnhojkfeafaa.Am.Hp
