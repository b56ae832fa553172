/- AM: the code of some of the program's functions, as the machine reads it; checked against the program. -/
import Derived.Test.YtopcnhojkfeafaaChecked
import Derived.Test.YtopcnhojkfeafaaAmTr
import Derived.ProofKit
set_option maxRecDepth 100000
namespace Go.Proofs.Ytopcnhojkfeafaa.Am
open Go.RowKit

/-! dogwatch/dogwatchref08.Is -/
def c108r0 : List O := [
  ⟨(some 2), none, .mov (.k (.bool false)), none⟩]
def c108r1 : List O := [
  ⟨(some 3), none, .mov (.t 0), none⟩,
  ⟨(some 4), none, .bin .geq (.t 3) (.k (.int .i64 1)), none⟩,
  ⟨(some 5), none, .mov (.t 4), none⟩,
  ⟨(some 6), (some (5, true)), .mov (.t 0), none⟩,
  ⟨(some 7), (some (5, true)), .bin .leq (.t 6) (.k (.int .i64 200)), none⟩,
  ⟨(some 8), none, .pick (.t 5) (.t 7) (.k (.bool false)), none⟩,
  ⟨(some 9), none, .mov (.t 8), none⟩,
  ⟨(some 10), (some (9, false)), .mov (.t 0), none⟩,
  ⟨(some 11), (some (9, false)), .bin .geq (.t 10) (.k (.int .i64 1001)), none⟩,
  ⟨(some 12), (some (9, false)), .mov (.t 11), none⟩,
  ⟨(some 13), (some (12, true)), .mov (.t 0), none⟩,
  ⟨(some 14), (some (12, true)), .bin .leq (.t 13) (.k (.int .i64 1040)), none⟩,
  ⟨(some 15), (some (9, false)), .pick (.t 12) (.t 14) (.k (.bool false)), none⟩,
  ⟨(some 16), none, .pick (.t 9) (.k (.bool true)) (.t 15), none⟩,
  ⟨(some 2), none, .mov (.t 16), none⟩]
def c108 : AF := ⟨17, 0, [.tmp 2], (.keep [0] (.seq (.region c108r0) (.keep [0] (.seq (.region c108r1) .ret))))⟩
theorem ok108 : okF Try.prog 108 c108 = true := by kernel_rfl

/-! dogwatch/order.Kind -/
def c134r0 : List O := [
  ⟨(some 2), none, .mov (.k (.int .i64 0)), none⟩,
  ⟨(some 3), none, .mov (.k (.bool false)), none⟩,
  ⟨(some 4), none, .mov (.k (.bool false)), none⟩]
def c134r1 : List O := [
  ⟨(some 6), none, .mov (.t 0), none⟩,
  ⟨(some 7), none, .bin .geq (.t 6) (.k (.int .i64 1)), none⟩,
  ⟨(some 8), none, .mov (.t 7), none⟩,
  ⟨(some 9), (some (8, true)), .mov (.t 0), none⟩,
  ⟨(some 10), (some (8, true)), .bin .leq (.t 9) (.k (.int .i64 200)), none⟩,
  ⟨(some 11), none, .pick (.t 8) (.t 10) (.k (.bool false)), none⟩,
  ⟨(some 5), none, .mov (.t 11), none⟩]
def c134r2 : List O := [
  ⟨(some 12), none, .mov (.t 0), none⟩,
  ⟨(some 2), none, .mov (.t 12), none⟩,
  ⟨(some 3), none, .mov (.k (.bool false)), none⟩,
  ⟨(some 4), none, .mov (.k (.bool true)), none⟩]
def c134r3 : List O := [
  ⟨(some 14), none, .mov (.t 0), none⟩,
  ⟨(some 15), none, .bin .gtr (.t 14) (.k (.int .i64 1000)), none⟩,
  ⟨(some 16), none, .mov (.t 15), none⟩,
  ⟨(some 17), (some (16, true)), .mov (.t 0), none⟩,
  ⟨(some 18), (some (16, true)), .bin .leq (.t 17) (.k (.int .i64 1040)), none⟩,
  ⟨(some 19), none, .pick (.t 16) (.t 18) (.k (.bool false)), none⟩,
  ⟨(some 13), none, .mov (.t 19), none⟩]
def c134r4 : List O := [
  ⟨(some 20), none, .mov (.t 0), none⟩,
  ⟨(some 21), none, .bin .sub (.t 20) (.k (.int .i64 1000)), none⟩,
  ⟨(some 2), none, .mov (.t 21), none⟩,
  ⟨(some 3), none, .mov (.k (.bool true)), none⟩,
  ⟨(some 4), none, .mov (.k (.bool true)), none⟩]
def c134r5 : List O := [
  ⟨(some 2), none, .mov (.k (.int .i64 0)), none⟩,
  ⟨(some 3), none, .mov (.k (.bool false)), none⟩,
  ⟨(some 4), none, .mov (.k (.bool false)), none⟩]
def c134 : AF := ⟨22, 0, [.tmp 2, .tmp 3, .tmp 4], (.keep [0] (.seq (.region c134r0) (.keep [0] (.seq (.block 0 (.seq (.region c134r1) (.keep [0, 5] (.cond (.t 5) (.seq (.region c134r2) .ret) (.seq (.region c134r3) (.keep [0, 13] (.cond (.t 13) (.seq (.region c134r4) .ret) .skip))))))) (.keep [] (.seq (.region c134r5) .ret))))))⟩
theorem ok134 : okF Try.prog 134 c134 = true := by kernel_rfl

/-! dogwatch/fixq.Add -/
def c149r0 : List O := [
  ⟨(some 4), none, .mov (.k (.int .i64 0)), none⟩,
  ⟨(some 5), none, .mov (.k (.int .i64 0)), none⟩]
def c149r1 : List O := [
  ⟨(some 7), none, .mov (.t 0), none⟩,
  ⟨(some 8), none, .mov (.t 1), none⟩,
  ⟨(some 9), none, .bin .add (.t 7) (.t 8), none⟩,
  ⟨(some 6), none, .mov (.t 9), none⟩]
def c149r2 : List O := [
  ⟨(some 10), none, .mov (.t 0), none⟩,
  ⟨(some 11), none, .bin .geq (.t 10) (.k (.int .i64 0)), none⟩,
  ⟨(some 12), none, .mov (.t 1), none⟩,
  ⟨(some 13), none, .bin .geq (.t 12) (.k (.int .i64 0)), none⟩,
  ⟨(some 14), none, .bin .eqb (.t 11) (.t 13), none⟩,
  ⟨(some 15), none, .mov (.t 14), none⟩,
  ⟨(some 16), (some (15, true)), .mov (.t 6), none⟩,
  ⟨(some 17), (some (15, true)), .bin .geq (.t 16) (.k (.int .i64 0)), none⟩,
  ⟨(some 18), (some (15, true)), .mov (.t 0), none⟩,
  ⟨(some 19), (some (15, true)), .bin .geq (.t 18) (.k (.int .i64 0)), none⟩,
  ⟨(some 20), (some (15, true)), .bin .neb (.t 17) (.t 19), none⟩,
  ⟨(some 21), none, .pick (.t 15) (.t 20) (.k (.bool false)), none⟩]
def c149r3 : List O := [
  ⟨(some 4), none, .mov (.k (.int .i64 0)), none⟩,
  ⟨(some 5), none, .mov (.k (.int .i64 5)), none⟩]
def c149r4 : List O := [
  ⟨(some 22), none, .mov (.t 6), none⟩,
  ⟨(some 4), none, .mov (.t 22), none⟩,
  ⟨(some 5), none, .mov (.k (.int .i64 0)), none⟩]
def c149 : AF := ⟨23, 0, [.tmp 4, .tmp 5], (.keep [0, 1] (.seq (.region c149r0) (.keep [0, 1] (.seq (.region c149r1) (.keep [0, 1, 6] (.seq (.seq (.region c149r2) (.keep [6, 21] (.cond (.t 21) (.seq (.region c149r3) .ret) .skip))) (.keep [6] (.seq (.region c149r4) .ret))))))))⟩
theorem ok149 : okF Try.prog 149 c149 = true := by kernel_rfl

/-! dogwatch/dogwatchref08.Check -/
def c96r0 : List O := [
  ⟨(some 4), none, .mov (.k (.int .i64 0)), none⟩]
def c96r1 : List O := [
  ⟨(some 7), none, .mov (.t 0), none⟩,
  ⟨(some 8), none, .bin .lss (.t 7) (.k (.int .i64 2)), none⟩,
  ⟨(some 9), none, .mov (.t 8), none⟩,
  ⟨(some 10), (some (9, false)), .mov (.t 0), none⟩,
  ⟨(some 11), (some (9, false)), .bin .gtr (.t 10) (.k (.int .i64 64)), none⟩,
  ⟨(some 12), none, .pick (.t 9) (.k (.bool true)) (.t 11), none⟩]
def c96r2 : List O := [
  ⟨(some 4), none, .mov (.k (.int .i64 1)), none⟩]
def c96r3 : List O := [
  ⟨(some 5), none, .mov (.k (.int .i64 0)), none⟩]
def c96r4 : List O := [
  ⟨(some 13), none, .mov (.t 5), none⟩,
  ⟨(some 14), none, .mov (.t 1), none⟩,
  ⟨(some 15), none, .len (.t 14), none⟩,
  ⟨(some 16), none, .bin .lss (.t 13) (.t 15), none⟩]
def c96r5 : List O := [
  ⟨(some 19), none, .mov (.t 1), none⟩,
  ⟨(some 20), none, .mov (.t 5), none⟩,
  ⟨(some 21), none, .ixs 2 (.t 19) (.t 20), none⟩,
  ⟨(some 22), none, .faddr 0 (.t 21), none⟩,
  ⟨(some 23), none, .load false 1 (.t 22), none⟩,
  ⟨(some 24), none, .call 0 0 (.k (.func 108)) [(.t 23)], none⟩,
  ⟨(some 25), none, .un .not (.t 24), none⟩]
def c96r6 : List O := [
  ⟨(some 4), none, .mov (.k (.int .i64 20)), none⟩]
def c96r7 : List O := [
  ⟨(some 26), none, .mov (.t 1), none⟩,
  ⟨(some 27), none, .mov (.t 5), none⟩,
  ⟨(some 28), none, .ixs 2 (.t 26) (.t 27), none⟩,
  ⟨(some 29), none, .faddr 1 (.t 28), none⟩,
  ⟨(some 30), none, .load false 1 (.t 29), none⟩,
  ⟨(some 31), none, .bin .lss (.t 30) (.k (.int .i64 1)), none⟩,
  ⟨(some 32), none, .mov (.t 31), none⟩,
  ⟨(some 33), (some (32, false)), .mov (.t 1), none⟩,
  ⟨(some 34), (some (32, false)), .mov (.t 5), none⟩,
  ⟨(some 35), (some (32, false)), .ixs 2 (.t 33) (.t 34), none⟩,
  ⟨(some 36), (some (32, false)), .faddr 1 (.t 35), none⟩,
  ⟨(some 37), (some (32, false)), .load false 1 (.t 36), none⟩,
  ⟨(some 38), (some (32, false)), .mov (.t 0), none⟩,
  ⟨(some 39), (some (32, false)), .bin .gtr (.t 37) (.t 38), none⟩,
  ⟨(some 40), none, .pick (.t 32) (.k (.bool true)) (.t 39), none⟩]
def c96r8 : List O := [
  ⟨(some 4), none, .mov (.k (.int .i64 21)), none⟩]
def c96r9 : List O := [
  ⟨(some 6), none, .mov (.k (.int .i64 0)), none⟩]
def c96r10 : List O := [
  ⟨(some 41), none, .mov (.t 6), none⟩,
  ⟨(some 42), none, .mov (.t 5), none⟩,
  ⟨(some 43), none, .bin .lss (.t 41) (.t 42), none⟩]
def c96r11 : List O := [
  ⟨(some 46), none, .mov (.t 1), (some (.only [], .only []))⟩,
  ⟨(some 47), none, .mov (.t 6), (some (.only [], .only []))⟩,
  ⟨(some 48), none, .ixs 2 (.t 46) (.t 47), (some (.only [], .only []))⟩,
  ⟨(some 49), none, .faddr 0 (.t 48), (some (.only [], .only []))⟩,
  ⟨(some 50), none, .load false 1 (.t 49), (some (.but [], .only []))⟩,
  ⟨(some 51), none, .mov (.t 1), (some (.only [], .only []))⟩,
  ⟨(some 52), none, .mov (.t 5), (some (.only [], .only []))⟩,
  ⟨(some 53), none, .ixs 2 (.t 51) (.t 52), (some (.only [], .only []))⟩,
  ⟨(some 54), none, .faddr 0 (.t 53), (some (.only [], .only []))⟩,
  ⟨(some 55), none, .load false 1 (.t 54), (some (.but [], .only []))⟩,
  ⟨(some 56), none, .bin .eql (.t 50) (.t 55), (some (.only [], .only []))⟩]
def c96r12 : List O := [
  ⟨(some 4), none, .mov (.k (.int .i64 11)), none⟩]
def c96r13 : List O := [
  ⟨(some 44), none, .mov (.t 6), none⟩,
  ⟨(some 45), none, .bin .add (.t 44) (.k (.int .i64 1)), none⟩,
  ⟨(some 6), none, .mov (.t 45), none⟩]
def c96l1 : AC := (.seq (.seq (.region c96r10) (.keep [0, 1, 5, 6, 43] (.cond (.t 43) .skip (.exit 2)))) (.keep [0, 1, 5, 6] (.seq (.block 3 (.seq (.region c96r11) (.keep [0, 1, 5, 6, 56] (.cond (.t 56) (.seq (.region c96r12) .ret) .skip)))) (.keep [0, 1, 5, 6] (.region c96r13)))))
def c96l1a : Ann := ⟨[0, 1, 5, 6], [0, 1, 4, 5], [], false⟩
def c96r14 : List O := [
  ⟨(some 17), none, .mov (.t 5), none⟩,
  ⟨(some 18), none, .bin .add (.t 17) (.k (.int .i64 1)), none⟩,
  ⟨(some 5), none, .mov (.t 18), none⟩]
def c96l0 : AC := (.seq (.seq (.region c96r4) (.keep [0, 1, 5, 16] (.cond (.t 16) .skip (.exit 0)))) (.keep [0, 1, 5] (.seq (.block 1 (.seq (.seq (.region c96r5) (.keep [0, 1, 5, 25] (.cond (.t 25) (.seq (.region c96r6) .ret) .skip))) (.keep [0, 1, 5] (.seq (.seq (.region c96r7) (.keep [0, 1, 5, 40] (.cond (.t 40) (.seq (.region c96r8) .ret) .skip))) (.keep [0, 1, 5] (.seq (.region c96r9) (.keep [0, 1, 5, 6] (.block 2 (.loop c96l1a c96l1))))))))) (.keep [0, 1, 5] (.region c96r14)))))
def c96l0a : Ann := ⟨[0, 1, 5], [4], [], false⟩
def c96r15 : List O := [
  ⟨(some 4), none, .mov (.k (.int .i64 0)), none⟩]
def c96 : AF := ⟨57, 0, [.tmp 4], (.keep [0, 1] (.seq (.region c96r0) (.keep [0, 1] (.seq (.seq (.region c96r1) (.keep [0, 1, 12] (.cond (.t 12) (.seq (.region c96r2) .ret) .skip))) (.keep [0, 1] (.seq (.seq (.region c96r3) (.keep [0, 1, 5] (.block 0 (.loop c96l0a c96l0)))) (.keep [] (.seq (.region c96r15) .ret))))))))⟩
theorem ok96 : okF Try.prog 96 c96 = true := by kernel_rfl

/-! dogwatch/order.Check -/
def c97r0 : List O := [
  ⟨(some 4), none, .mov (.k (.int .i64 0)), none⟩]
def c97r1 : List O := [
  ⟨(some 13), none, .mov (.t 0), none⟩,
  ⟨(some 14), none, .bin .lss (.t 13) (.k (.int .i64 2)), none⟩,
  ⟨(some 15), none, .mov (.t 14), none⟩,
  ⟨(some 16), (some (15, false)), .mov (.t 0), none⟩,
  ⟨(some 17), (some (15, false)), .bin .gtr (.t 16) (.k (.int .i64 64)), none⟩,
  ⟨(some 18), none, .pick (.t 15) (.k (.bool true)) (.t 17), none⟩]
def c97r2 : List O := [
  ⟨(some 4), none, .mov (.k (.int .i64 1)), none⟩]
def c97r3 : List O := [
  ⟨(some 19), none, .mkmap 0, none⟩,
  ⟨(some 5), none, .mov (.t 19), none⟩]
def c97r4 : List O := [
  ⟨(some 20), none, .mov (.t 1), none⟩,
  ⟨(some 21), none, .len (.t 20), none⟩,
  ⟨(some 22), none, .mov (.k (.int .i64 0)), none⟩]
def c97r5 : List O := [
  ⟨(some 23), none, .bin .lss (.t 22) (.t 21), none⟩]
def c97r6 : List O := [
  ⟨(some 24), none, .ixs 2 (.t 20) (.t 22), none⟩,
  ⟨(some 25), none, .load true 2 (.t 24), none⟩,
  ⟨(some 7), none, .alloc 1 2 [.int .i64 0, .int .i64 0], none⟩,
  ⟨none, none, .store 2 (.t 7) (.t 25), none⟩]
def c97r7 : List O := [
  ⟨(some 27), none, .faddr 0 (.t 7), none⟩,
  ⟨(some 28), none, .load false 1 (.t 27), none⟩,
  ⟨(some 29), none, .call 2 0 (.k (.func 134)) [(.t 28)], none⟩,
  ⟨(some 26), none, .mov (.t 29), none⟩,
  ⟨(some 30), none, .ext (.t 26) 0, none⟩,
  ⟨(some 31), none, .ext (.t 26) 1, none⟩,
  ⟨(some 32), none, .ext (.t 26) 2, none⟩,
  ⟨(some 8), none, .mov (.t 30), none⟩,
  ⟨(some 9), none, .mov (.t 31), none⟩,
  ⟨(some 10), none, .mov (.t 32), none⟩]
def c97r8 : List O := [
  ⟨(some 33), none, .mov (.t 10), none⟩,
  ⟨(some 34), none, .un .not (.t 33), none⟩]
def c97r9 : List O := [
  ⟨(some 4), none, .mov (.k (.int .i64 20)), none⟩]
def c97r10 : List O := [
  ⟨(some 35), none, .faddr 1 (.t 7), none⟩,
  ⟨(some 36), none, .load false 1 (.t 35), none⟩,
  ⟨(some 37), none, .bin .lss (.t 36) (.k (.int .i64 1)), none⟩,
  ⟨(some 38), none, .mov (.t 37), none⟩,
  ⟨(some 39), (some (38, false)), .faddr 1 (.t 7), none⟩,
  ⟨(some 40), (some (38, false)), .load false 1 (.t 39), none⟩,
  ⟨(some 41), (some (38, false)), .mov (.t 0), none⟩,
  ⟨(some 42), (some (38, false)), .bin .gtr (.t 40) (.t 41), none⟩,
  ⟨(some 43), none, .pick (.t 38) (.k (.bool true)) (.t 42), none⟩]
def c97r11 : List O := [
  ⟨(some 4), none, .mov (.k (.int .i64 21)), none⟩]
def c97r12 : List O := [
  ⟨(some 45), none, .mov (.t 5), none⟩,
  ⟨(some 46), none, .faddr 0 (.t 7), none⟩,
  ⟨(some 47), none, .load false 1 (.t 46), none⟩,
  ⟨(some 48), none, .look true true [] (.t 45) (.t 47), none⟩,
  ⟨(some 44), none, .mov (.t 48), none⟩,
  ⟨(some 49), none, .ext (.t 44) 0, none⟩,
  ⟨(some 50), none, .ext (.t 44) 1, none⟩,
  ⟨(some 11), none, .alloc 2 0 [], none⟩,
  ⟨none, none, .store 0 (.t 11) (.t 49), none⟩,
  ⟨(some 12), none, .mov (.t 50), none⟩]
def c97r13 : List O := [
  ⟨(some 51), none, .mov (.t 12), none⟩]
def c97r14 : List O := [
  ⟨(some 4), none, .mov (.k (.int .i64 11)), none⟩]
def c97r15 : List O := [
  ⟨(some 52), none, .mov (.t 5), none⟩,
  ⟨(some 53), none, .faddr 0 (.t 7), none⟩,
  ⟨(some 54), none, .load false 1 (.t 53), none⟩,
  ⟨(some 55), none, .build [] [], none⟩,
  ⟨none, none, .upd (.t 52) (.t 54) (.t 55), none⟩]
def c97r16 : List O := [
  ⟨(some 56), none, .bin .add (.t 22) (.k (.int .i64 1)), none⟩,
  ⟨(some 22), none, .mov (.t 56), none⟩]
def c97l0 : AC := (.seq (.region c97r5) (.keep [0, 5, 20, 21, 22, 23] (.seq (.cond (.t 23) .skip (.exit 0)) (.keep [0, 5, 20, 21, 22] (.seq (.block 1 (.seq (.region c97r6) (.keep [0, 5, 7, 20, 21, 22] (.seq (.seq (.region c97r7) (.keep [0, 5, 7, 10, 20, 21, 22] (.seq (.region c97r8) (.keep [0, 5, 7, 20, 21, 22, 34] (.cond (.t 34) (.seq (.region c97r9) .ret) .skip))))) (.keep [0, 5, 7, 20, 21, 22] (.seq (.seq (.region c97r10) (.keep [0, 5, 7, 20, 21, 22, 43] (.cond (.t 43) (.seq (.region c97r11) .ret) .skip))) (.keep [0, 5, 7, 20, 21, 22] (.seq (.seq (.region c97r12) (.keep [0, 5, 7, 12, 20, 21, 22] (.seq (.region c97r13) (.keep [0, 5, 7, 20, 21, 22, 51] (.cond (.t 51) (.seq (.region c97r14) .ret) .skip))))) (.keep [0, 5, 7, 20, 21, 22] (.region c97r15)))))))))) (.keep [0, 5, 20, 21, 22] (.region c97r16)))))))
def c97l0a : Ann := ⟨[0, 5, 20, 21, 22], [4], [], true⟩
def c97r17 : List O := [
  ⟨(some 4), none, .mov (.k (.int .i64 0)), none⟩]
def c97 : AF := ⟨57, 3, [.tmp 4], (.keep [0, 1] (.seq (.region c97r0) (.keep [0, 1] (.seq (.seq (.region c97r1) (.keep [0, 1, 18] (.cond (.t 18) (.seq (.region c97r2) .ret) .skip))) (.keep [0, 1] (.seq (.region c97r3) (.keep [0, 1, 5] (.seq (.seq (.region c97r4) (.keep [0, 5, 20, 21, 22] (.block 0 (.loop c97l0a c97l0)))) (.keep [] (.seq (.region c97r17) .ret))))))))))⟩
theorem ok97 : okF Try.prog 97 c97 = true := by kernel_rfl

/-! dogwatch/dogwatchref41.Why -/
def c48r0 : List O := [
  ⟨(some 4), none, .mov (.k (.int .i64 0)), none⟩]
def c48r1 : List O := [
  ⟨(some 6), none, .mov (.t 0), none⟩,
  ⟨(some 7), none, .mov (.t 1), none⟩,
  ⟨(some 8), none, .call 0 0 (.k (.func 96)) [(.t 6), (.t 7)], none⟩,
  ⟨(some 5), none, .mov (.t 8), none⟩]
def c48r2 : List O := [
  ⟨(some 9), none, .mov (.t 5), none⟩,
  ⟨(some 10), none, .bin .eql (.t 9) (.k (.int .i64 0)), none⟩,
  ⟨(some 11), none, .mov (.t 10), none⟩,
  ⟨(some 12), (some (11, true)), .mov (.t 1), none⟩,
  ⟨(some 13), (some (11, true)), .len (.t 12), none⟩,
  ⟨(some 14), (some (11, true)), .bin .gtr (.t 13) (.k (.int .i64 64)), none⟩,
  ⟨(some 15), none, .pick (.t 11) (.t 14) (.k (.bool false)), none⟩]
def c48r3 : List O := [
  ⟨(some 4), none, .mov (.k (.int .i64 4)), none⟩]
def c48r4 : List O := [
  ⟨(some 16), none, .mov (.t 5), none⟩,
  ⟨(some 4), none, .mov (.t 16), none⟩]
def c48 : AF := ⟨17, 0, [.tmp 4], (.keep [0, 1] (.seq (.region c48r0) (.keep [0, 1] (.seq (.region c48r1) (.keep [1, 5] (.seq (.seq (.region c48r2) (.keep [5, 15] (.cond (.t 15) (.seq (.region c48r3) .ret) .skip))) (.keep [5] (.seq (.region c48r4) .ret))))))))⟩
theorem ok48 : okF Try.prog 48 c48 = true := by kernel_rfl

/-! dogwatch/shed.Check -/
def c49r0 : List O := [
  ⟨(some 4), none, .mov (.k (.int .i64 0)), none⟩]
def c49r1 : List O := [
  ⟨(some 6), none, .mov (.t 0), none⟩,
  ⟨(some 7), none, .mov (.t 1), none⟩,
  ⟨(some 8), none, .call 0 0 (.k (.func 97)) [(.t 6), (.t 7)], none⟩,
  ⟨(some 5), none, .mov (.t 8), none⟩]
def c49r2 : List O := [
  ⟨(some 9), none, .mov (.t 5), none⟩,
  ⟨(some 10), none, .bin .neq (.t 9) (.k (.int .i64 0)), none⟩]
def c49r3 : List O := [
  ⟨(some 11), none, .mov (.t 5), none⟩,
  ⟨(some 4), none, .mov (.t 11), none⟩]
def c49r4 : List O := [
  ⟨(some 12), none, .mov (.t 1), none⟩,
  ⟨(some 13), none, .len (.t 12), none⟩,
  ⟨(some 14), none, .bin .gtr (.t 13) (.k (.int .i64 64)), none⟩]
def c49r5 : List O := [
  ⟨(some 4), none, .mov (.k (.int .i64 4)), none⟩]
def c49r6 : List O := [
  ⟨(some 4), none, .mov (.k (.int .i64 0)), none⟩]
def c49 : AF := ⟨15, 0, [.tmp 4], (.keep [0, 1] (.seq (.region c49r0) (.keep [0, 1] (.seq (.seq (.region c49r1) (.keep [1, 5] (.seq (.region c49r2) (.keep [1, 5, 10] (.cond (.t 10) (.seq (.region c49r3) .ret) .skip))))) (.keep [1] (.seq (.seq (.region c49r4) (.keep [14] (.cond (.t 14) (.seq (.region c49r5) .ret) .skip))) (.keep [] (.seq (.region c49r6) .ret))))))))⟩
theorem ok49 : okF Try.prog 49 c49 = true := by kernel_rfl

/-! dogwatch/dogwatchref41.Sum -/
def c50r0 : List O := [
  ⟨(some 2), none, .mov (.k (.int .i64 0)), none⟩]
def c50r1 : List O := [
  ⟨(some 3), none, .mov (.k (.int .i64 0)), none⟩]
def c50r2 : List O := [
  ⟨(some 4), none, .mov (.k (.int .i64 0)), none⟩]
def c50r3 : List O := [
  ⟨(some 5), none, .mov (.t 4), none⟩,
  ⟨(some 6), none, .mov (.t 0), none⟩,
  ⟨(some 7), none, .len (.t 6), none⟩,
  ⟨(some 8), none, .bin .lss (.t 5) (.t 7), none⟩]
def c50r4 : List O := [
  ⟨(some 11), none, .mov (.t 3), none⟩,
  ⟨(some 12), none, .mov (.t 0), none⟩,
  ⟨(some 13), none, .mov (.t 4), none⟩,
  ⟨(some 14), none, .ixs 2 (.t 12) (.t 13), none⟩,
  ⟨(some 15), none, .faddr 1 (.t 14), none⟩,
  ⟨(some 16), none, .load false 1 (.t 15), none⟩,
  ⟨(some 17), none, .bin .add (.t 11) (.t 16), none⟩,
  ⟨(some 3), none, .mov (.t 17), none⟩]
def c50r5 : List O := [
  ⟨(some 9), none, .mov (.t 4), none⟩,
  ⟨(some 10), none, .bin .add (.t 9) (.k (.int .i64 1)), none⟩,
  ⟨(some 4), none, .mov (.t 10), none⟩]
def c50l0 : AC := (.seq (.seq (.region c50r3) (.keep [0, 3, 4, 8] (.cond (.t 8) .skip (.exit 0)))) (.keep [0, 3, 4] (.seq (.block 1 (.region c50r4)) (.keep [0, 3, 4] (.region c50r5)))))
def c50l0a : Ann := ⟨[0, 3, 4], [3], [], false⟩
def c50r6 : List O := [
  ⟨(some 18), none, .mov (.t 3), none⟩,
  ⟨(some 2), none, .mov (.t 18), none⟩]
def c50 : AF := ⟨19, 0, [.tmp 2], (.keep [0] (.seq (.region c50r0) (.keep [0] (.seq (.region c50r1) (.keep [0, 3] (.seq (.seq (.region c50r2) (.keep [0, 3, 4] (.block 0 (.loop c50l0a c50l0)))) (.keep [3] (.seq (.region c50r6) .ret))))))))⟩
theorem ok50 : okF Try.prog 50 c50 = true := by kernel_rfl

/-! dogwatch/order.Total -/
def c129r0 : List O := [
  ⟨(some 2), none, .mov (.k (.int .i64 0)), none⟩,
  ⟨(some 3), none, .mov (.k (.int .i64 0)), none⟩]
def c129r1 : List O := [
  ⟨(some 4), none, .mov (.k (.int .i64 0)), none⟩]
def c129r2 : List O := [
  ⟨(some 9), none, .mov (.t 0), none⟩,
  ⟨(some 10), none, .len (.t 9), none⟩,
  ⟨(some 11), none, .mov (.k (.int .i64 0)), none⟩]
def c129r3 : List O := [
  ⟨(some 12), none, .bin .lss (.t 11) (.t 10), none⟩]
def c129r4 : List O := [
  ⟨(some 13), none, .ixs 2 (.t 9) (.t 11), none⟩,
  ⟨(some 14), none, .load true 2 (.t 13), none⟩,
  ⟨(some 6), none, .alloc 0 2 [.int .i64 0, .int .i64 0], none⟩,
  ⟨none, none, .store 2 (.t 6) (.t 14), none⟩]
def c129r5 : List O := [
  ⟨(some 16), none, .mov (.t 4), none⟩,
  ⟨(some 17), none, .faddr 1 (.t 6), none⟩,
  ⟨(some 18), none, .load false 1 (.t 17), none⟩,
  ⟨(some 19), none, .call 1 0 (.k (.func 149)) [(.t 16), (.t 18)], none⟩,
  ⟨(some 15), none, .mov (.t 19), none⟩,
  ⟨(some 20), none, .ext (.t 15) 0, none⟩,
  ⟨(some 21), none, .ext (.t 15) 1, none⟩,
  ⟨(some 7), none, .mov (.t 20), none⟩,
  ⟨(some 8), none, .mov (.t 21), none⟩]
def c129r6 : List O := [
  ⟨(some 22), none, .mov (.t 8), none⟩,
  ⟨(some 23), none, .bin .neq (.t 22) (.k (.int .i64 0)), none⟩]
def c129r7 : List O := [
  ⟨(some 24), none, .mov (.t 8), none⟩,
  ⟨(some 2), none, .mov (.k (.int .i64 0)), none⟩,
  ⟨(some 3), none, .mov (.t 24), none⟩]
def c129r8 : List O := [
  ⟨(some 25), none, .mov (.t 7), none⟩,
  ⟨(some 4), none, .mov (.t 25), none⟩]
def c129r9 : List O := [
  ⟨(some 26), none, .bin .add (.t 11) (.k (.int .i64 1)), none⟩,
  ⟨(some 11), none, .mov (.t 26), none⟩]
def c129l0 : AC := (.seq (.region c129r3) (.keep [4, 9, 10, 11, 12] (.seq (.cond (.t 12) .skip (.exit 0)) (.keep [4, 9, 10, 11] (.seq (.block 1 (.seq (.region c129r4) (.keep [4, 6, 9, 10, 11] (.seq (.region c129r5) (.keep [7, 8, 9, 10, 11] (.seq (.seq (.region c129r6) (.keep [7, 8, 9, 10, 11, 23] (.cond (.t 23) (.seq (.region c129r7) .ret) .skip))) (.keep [7, 9, 10, 11] (.region c129r8)))))))) (.keep [4, 9, 10, 11] (.region c129r9)))))))
def c129l0a : Ann := ⟨[4, 9, 10, 11], [2, 3, 4], [], true⟩
def c129r10 : List O := [
  ⟨(some 27), none, .mov (.t 4), none⟩,
  ⟨(some 2), none, .mov (.t 27), none⟩,
  ⟨(some 3), none, .mov (.k (.int .i64 0)), none⟩]
def c129 : AF := ⟨28, 1, [.tmp 2, .tmp 3], (.keep [0] (.seq (.region c129r0) (.keep [0] (.seq (.region c129r1) (.keep [0, 4] (.seq (.seq (.region c129r2) (.keep [4, 9, 10, 11] (.block 0 (.loop c129l0a c129l0)))) (.keep [4] (.seq (.region c129r10) .ret))))))))⟩
theorem ok129 : okF Try.prog 129 c129 = true := by kernel_rfl

/-! cmp.isNaN[int] -/
def c147r0 : List O := [
  ⟨(some 2), none, .mov (.k (.bool false)), none⟩]
def c147r1 : List O := [
  ⟨(some 3), none, .mov (.t 0), none⟩,
  ⟨(some 4), none, .mov (.t 0), none⟩,
  ⟨(some 5), none, .bin .neq (.t 3) (.t 4), none⟩,
  ⟨(some 2), none, .mov (.t 5), none⟩]
def c147 : AF := ⟨6, 0, [.tmp 2], (.keep [0] (.seq (.region c147r0) (.keep [0] (.seq (.region c147r1) .ret))))⟩
theorem ok147 : okF Try.prog 147 c147 = true := by kernel_rfl

/-! cmp.isNaN[uint64] -/
def c175r0 : List O := [
  ⟨(some 2), none, .mov (.k (.bool false)), none⟩]
def c175r1 : List O := [
  ⟨(some 3), none, .mov (.t 0), none⟩,
  ⟨(some 4), none, .mov (.t 0), none⟩,
  ⟨(some 5), none, .bin .neq (.t 3) (.t 4), none⟩,
  ⟨(some 2), none, .mov (.t 5), none⟩]
def c175 : AF := ⟨6, 0, [.tmp 2], (.keep [0] (.seq (.region c175r0) (.keep [0] (.seq (.region c175r1) .ret))))⟩
theorem ok175 : okF Try.prog 175 c175 = true := by kernel_rfl

/-! cmp.Compare[int] -/
def c124r0 : List O := [
  ⟨(some 4), none, .mov (.k (.int .i64 0)), none⟩]
def c124r1 : List O := [
  ⟨(some 7), none, .mov (.t 0), none⟩,
  ⟨(some 8), none, .call 0 0 (.k (.func 147)) [(.t 7)], none⟩,
  ⟨(some 5), none, .mov (.t 8), none⟩]
def c124r2 : List O := [
  ⟨(some 9), none, .mov (.t 1), none⟩,
  ⟨(some 10), none, .call 0 0 (.k (.func 147)) [(.t 9)], none⟩,
  ⟨(some 6), none, .mov (.t 10), none⟩]
def c124r3 : List O := [
  ⟨(some 11), none, .mov (.t 5), none⟩]
def c124r4 : List O := [
  ⟨(some 12), none, .mov (.t 6), none⟩]
def c124r5 : List O := [
  ⟨(some 4), none, .mov (.k (.int .i64 0)), none⟩]
def c124r6 : List O := [
  ⟨(some 4), none, .mov (.k (.int .i64 (-1))), none⟩]
def c124r7 : List O := [
  ⟨(some 13), none, .mov (.t 6), none⟩]
def c124r8 : List O := [
  ⟨(some 4), none, .mov (.k (.int .i64 1)), none⟩]
def c124r9 : List O := [
  ⟨(some 14), none, .mov (.t 0), none⟩,
  ⟨(some 15), none, .mov (.t 1), none⟩,
  ⟨(some 16), none, .bin .lss (.t 14) (.t 15), none⟩]
def c124r10 : List O := [
  ⟨(some 4), none, .mov (.k (.int .i64 (-1))), none⟩]
def c124r11 : List O := [
  ⟨(some 17), none, .mov (.t 0), none⟩,
  ⟨(some 18), none, .mov (.t 1), none⟩,
  ⟨(some 19), none, .bin .gtr (.t 17) (.t 18), none⟩]
def c124r12 : List O := [
  ⟨(some 4), none, .mov (.k (.int .i64 1)), none⟩]
def c124r13 : List O := [
  ⟨(some 4), none, .mov (.k (.int .i64 0)), none⟩]
def c124 : AF := ⟨20, 0, [.tmp 4], (.keep [0, 1] (.seq (.region c124r0) (.keep [0, 1] (.seq (.region c124r1) (.keep [0, 1, 5] (.seq (.region c124r2) (.keep [0, 1, 5, 6] (.seq (.seq (.region c124r3) (.keep [0, 1, 6, 11] (.cond (.t 11) (.seq (.seq (.region c124r4) (.keep [12] (.cond (.t 12) (.seq (.region c124r5) .ret) .skip))) (.keep [] (.seq (.region c124r6) .ret))) .skip))) (.keep [0, 1, 6] (.seq (.seq (.region c124r7) (.keep [0, 1, 13] (.cond (.t 13) (.seq (.region c124r8) .ret) .skip))) (.keep [0, 1] (.seq (.seq (.region c124r9) (.keep [0, 1, 16] (.cond (.t 16) (.seq (.region c124r10) .ret) .skip))) (.keep [0, 1] (.seq (.seq (.region c124r11) (.keep [19] (.cond (.t 19) (.seq (.region c124r12) .ret) .skip))) (.keep [] (.seq (.region c124r13) .ret))))))))))))))))⟩
theorem ok124 : okF Try.prog 124 c124 = true := by kernel_rfl

/-! cmp.Compare[uint64] -/
def c168r0 : List O := [
  ⟨(some 4), none, .mov (.k (.int .i64 0)), none⟩]
def c168r1 : List O := [
  ⟨(some 7), none, .mov (.t 0), none⟩,
  ⟨(some 8), none, .call 0 0 (.k (.func 175)) [(.t 7)], none⟩,
  ⟨(some 5), none, .mov (.t 8), none⟩]
def c168r2 : List O := [
  ⟨(some 9), none, .mov (.t 1), none⟩,
  ⟨(some 10), none, .call 0 0 (.k (.func 175)) [(.t 9)], none⟩,
  ⟨(some 6), none, .mov (.t 10), none⟩]
def c168r3 : List O := [
  ⟨(some 11), none, .mov (.t 5), none⟩]
def c168r4 : List O := [
  ⟨(some 12), none, .mov (.t 6), none⟩]
def c168r5 : List O := [
  ⟨(some 4), none, .mov (.k (.int .i64 0)), none⟩]
def c168r6 : List O := [
  ⟨(some 4), none, .mov (.k (.int .i64 (-1))), none⟩]
def c168r7 : List O := [
  ⟨(some 13), none, .mov (.t 6), none⟩]
def c168r8 : List O := [
  ⟨(some 4), none, .mov (.k (.int .i64 1)), none⟩]
def c168r9 : List O := [
  ⟨(some 14), none, .mov (.t 0), none⟩,
  ⟨(some 15), none, .mov (.t 1), none⟩,
  ⟨(some 16), none, .bin .lss (.t 14) (.t 15), none⟩]
def c168r10 : List O := [
  ⟨(some 4), none, .mov (.k (.int .i64 (-1))), none⟩]
def c168r11 : List O := [
  ⟨(some 17), none, .mov (.t 0), none⟩,
  ⟨(some 18), none, .mov (.t 1), none⟩,
  ⟨(some 19), none, .bin .gtr (.t 17) (.t 18), none⟩]
def c168r12 : List O := [
  ⟨(some 4), none, .mov (.k (.int .i64 1)), none⟩]
def c168r13 : List O := [
  ⟨(some 4), none, .mov (.k (.int .i64 0)), none⟩]
def c168 : AF := ⟨20, 0, [.tmp 4], (.keep [0, 1] (.seq (.region c168r0) (.keep [0, 1] (.seq (.region c168r1) (.keep [0, 1, 5] (.seq (.region c168r2) (.keep [0, 1, 5, 6] (.seq (.seq (.region c168r3) (.keep [0, 1, 6, 11] (.cond (.t 11) (.seq (.seq (.region c168r4) (.keep [12] (.cond (.t 12) (.seq (.region c168r5) .ret) .skip))) (.keep [] (.seq (.region c168r6) .ret))) .skip))) (.keep [0, 1, 6] (.seq (.seq (.region c168r7) (.keep [0, 1, 13] (.cond (.t 13) (.seq (.region c168r8) .ret) .skip))) (.keep [0, 1] (.seq (.seq (.region c168r9) (.keep [0, 1, 16] (.cond (.t 16) (.seq (.region c168r10) .ret) .skip))) (.keep [0, 1] (.seq (.seq (.region c168r11) (.keep [19] (.cond (.t 19) (.seq (.region c168r12) .ret) .skip))) (.keep [] (.seq (.region c168r13) .ret))))))))))))))))⟩
theorem ok168 : okF Try.prog 168 c168 = true := by kernel_rfl

/-! cmp.Or[int] -/
def c167r0 : List O := [
  ⟨(some 2), none, .mov (.k (.int .i64 0)), none⟩]
def c167r1 : List O := [
  ⟨(some 3), none, .mov (.k (.int .i64 0)), none⟩]
def c167r2 : List O := [
  ⟨(some 6), none, .mov (.t 0), none⟩,
  ⟨(some 7), none, .len (.t 6), none⟩,
  ⟨(some 8), none, .mov (.k (.int .i64 0)), none⟩]
def c167r3 : List O := [
  ⟨(some 9), none, .bin .lss (.t 8) (.t 7), none⟩]
def c167r4 : List O := [
  ⟨(some 10), none, .ixs 1 (.t 6) (.t 8), none⟩,
  ⟨(some 11), none, .load false 1 (.t 10), none⟩,
  ⟨(some 5), none, .mov (.t 11), none⟩]
def c167r5 : List O := [
  ⟨(some 12), none, .mov (.t 5), none⟩,
  ⟨(some 13), none, .mov (.t 3), none⟩,
  ⟨(some 14), none, .bin .neq (.t 12) (.t 13), none⟩]
def c167r6 : List O := [
  ⟨(some 15), none, .mov (.t 5), none⟩,
  ⟨(some 2), none, .mov (.t 15), none⟩]
def c167r7 : List O := [
  ⟨(some 16), none, .bin .add (.t 8) (.k (.int .i64 1)), none⟩,
  ⟨(some 8), none, .mov (.t 16), none⟩]
def c167l0 : AC := (.seq (.region c167r3) (.keep [3, 6, 7, 8, 9] (.seq (.cond (.t 9) .skip (.exit 0)) (.keep [3, 6, 7, 8] (.seq (.block 1 (.seq (.region c167r4) (.keep [3, 5, 6, 7, 8] (.seq (.region c167r5) (.keep [3, 5, 6, 7, 8, 14] (.cond (.t 14) (.seq (.region c167r6) .ret) .skip)))))) (.keep [3, 6, 7, 8] (.region c167r7)))))))
def c167l0a : Ann := ⟨[3, 6, 7, 8], [2, 3], [], false⟩
def c167r8 : List O := [
  ⟨(some 17), none, .mov (.t 3), none⟩,
  ⟨(some 2), none, .mov (.t 17), none⟩]
def c167 : AF := ⟨18, 0, [.tmp 2], (.keep [0] (.seq (.region c167r0) (.keep [0] (.seq (.region c167r1) (.keep [0, 3] (.seq (.seq (.region c167r2) (.keep [3, 6, 7, 8] (.block 0 (.loop c167l0a c167l0)))) (.keep [3] (.seq (.region c167r8) .ret))))))))⟩
theorem ok167 : okF Try.prog 167 c167 = true := by kernel_rfl

/-! (dogwatch/shed.choice).better -/
def c152r0 : List O := [
  ⟨(some 2), none, .box 0 3 (.t 0), none⟩,
  ⟨(some 3), none, .box 1 3 (.t 1), none⟩,
  ⟨(some 4), none, .mov (.k (.bool false)), none⟩]
def c152r1 : List O := [
  ⟨(some 5), none, .faddr 0 (.t 3), none⟩,
  ⟨(some 6), none, .load false 1 (.t 5), none⟩,
  ⟨(some 7), none, .un .not (.t 6), none⟩]
def c152r2 : List O := [
  ⟨(some 4), none, .mov (.k (.bool true)), none⟩]
def c152r3 : List O := [
  ⟨(some 8), none, .faddr 1 (.t 2), (some (.only [], .only []))⟩,
  ⟨(some 9), none, .load false 1 (.t 8), (some (.only [0], .only []))⟩,
  ⟨(some 10), none, .faddr 1 (.t 3), (some (.only [], .only []))⟩,
  ⟨(some 11), none, .load false 1 (.t 10), (some (.only [1], .only []))⟩,
  ⟨(some 12), none, .call 2 0 (.k (.func 124)) [(.t 9), (.t 11)], (some (.but [], .only []))⟩,
  ⟨(some 13), none, .faddr 2 (.t 3), (some (.only [], .only []))⟩,
  ⟨(some 14), none, .load false 1 (.t 13), (some (.only [1], .only []))⟩,
  ⟨(some 15), none, .faddr 2 (.t 2), (some (.only [], .only []))⟩,
  ⟨(some 16), none, .load false 1 (.t 15), (some (.only [0], .only []))⟩,
  ⟨(some 17), none, .call 2 0 (.k (.func 168)) [(.t 14), (.t 16)], (some (.but [], .but []))⟩,
  ⟨(some 18), none, .buildSl 2 1 [.int .i64 0] 2 [(0, (.t 12)), (1, (.t 17))], (some (.but [], .but []))⟩,
  ⟨(some 19), none, .call 3 0 (.k (.func 167)) [(.t 18)], (some (.but [], .but []))⟩,
  ⟨(some 20), none, .bin .lss (.t 19) (.k (.int .i64 0)), (some (.only [], .only []))⟩,
  ⟨(some 4), none, .mov (.t 20), (some (.only [], .only []))⟩]
def c152 : AF := ⟨21, 3, [.tmp 4], (.keep [0, 1] (.seq (.region c152r0) (.keep [2, 3] (.seq (.seq (.region c152r1) (.keep [2, 3, 7] (.cond (.t 7) (.seq (.region c152r2) .ret) .skip))) (.keep [2, 3] (.seq (.region c152r3) .ret))))))⟩
theorem ok152 : okF Try.prog 152 c152 = true := by kernel_rfl

/-! dogwatch/shed.sums -/
def c133r0 : List O := [
  ⟨(some 4), none, .mov (.k (.nilsl)), none⟩]
def c133r1 : List O := [
  ⟨(some 11), none, .mov (.t 1), none⟩,
  ⟨(some 12), none, .bin .add (.t 11) (.k (.int .i64 1)), none⟩,
  ⟨(some 13), none, .mksl 0 3 [.bool false, .int .i64 0, .int .u64 0] (.t 12) (.t 12), none⟩,
  ⟨(some 5), none, .mov (.t 13), none⟩]
def c133r2 : List O := [
  ⟨(some 14), none, .mov (.t 5), none⟩,
  ⟨(some 15), none, .build [.bool false, .int .i64 0, .int .u64 0] [(0, 1, (.k (.bool true)))], none⟩,
  ⟨(some 16), none, .ixs 3 (.t 14) (.k (.int .i64 0)), none⟩,
  ⟨none, none, .store 3 (.t 16) (.t 15), none⟩]
def c133r3 : List O := [
  ⟨(some 17), none, .mov (.t 0), none⟩,
  ⟨(some 18), none, .len (.t 17), none⟩,
  ⟨(some 19), none, .mov (.k (.int .i64 0)), none⟩]
def c133r4 : List O := [
  ⟨(some 20), none, .bin .lss (.t 19) (.t 18), none⟩]
def c133r5 : List O := [
  ⟨(some 21), none, .mov (.t 19), none⟩,
  ⟨(some 22), none, .ixs 2 (.t 17) (.t 19), none⟩,
  ⟨(some 23), none, .load true 2 (.t 22), none⟩,
  ⟨(some 7), none, .alloc 1 2 [.int .i64 0, .int .i64 0], none⟩,
  ⟨(some 6), none, .mov (.t 21), none⟩,
  ⟨none, none, .store 2 (.t 7) (.t 23), none⟩]
def c133r6 : List O := [
  ⟨(some 24), none, .mov (.t 1), none⟩,
  ⟨(some 8), none, .mov (.t 24), none⟩]
def c133r7 : List O := [
  ⟨(some 25), none, .mov (.t 8), none⟩,
  ⟨(some 26), none, .faddr 1 (.t 7), none⟩,
  ⟨(some 27), none, .load false 1 (.t 26), none⟩,
  ⟨(some 28), none, .bin .geq (.t 25) (.t 27), none⟩]
def c133r8 : List O := [
  ⟨(some 31), none, .mov (.t 5), none⟩,
  ⟨(some 32), none, .mov (.t 8), none⟩,
  ⟨(some 33), none, .faddr 1 (.t 7), none⟩,
  ⟨(some 34), none, .load false 1 (.t 33), none⟩,
  ⟨(some 35), none, .bin .sub (.t 32) (.t 34), none⟩,
  ⟨(some 36), none, .ixs 3 (.t 31) (.t 35), none⟩,
  ⟨(some 37), none, .load true 3 (.t 36), none⟩,
  ⟨(some 9), none, .alloc 2 3 [.bool false, .int .i64 0, .int .u64 0], none⟩,
  ⟨none, none, .store 3 (.t 9) (.t 37), none⟩]
def c133r9 : List O := [
  ⟨(some 38), none, .faddr 0 (.t 9), none⟩,
  ⟨(some 39), none, .load false 1 (.t 38), none⟩,
  ⟨(some 40), none, .un .not (.t 39), none⟩]
def c133r10 : List O := [
  ⟨(some 41), none, .faddr 1 (.t 9), (some (.only [], .only []))⟩,
  ⟨(some 42), none, .load false 1 (.t 41), (some (.only [2], .only []))⟩,
  ⟨(some 43), none, .bin .add (.t 42) (.k (.int .i64 1)), (some (.only [], .only []))⟩,
  ⟨(some 44), none, .faddr 2 (.t 9), (some (.only [], .only []))⟩,
  ⟨(some 45), none, .load false 1 (.t 44), (some (.only [2], .only []))⟩,
  ⟨(some 46), none, .mov (.t 6), (some (.only [], .only []))⟩,
  ⟨(some 47), none, .bin .sub (.k (.int .i64 63)) (.t 46), (some (.only [], .only []))⟩,
  ⟨(some 48), none, .bin .shl (.k (.int .u64 1)) (.t 47), (some (.only [], .only []))⟩,
  ⟨(some 49), none, .bin .or (.t 45) (.t 48), (some (.only [], .only []))⟩,
  ⟨(some 50), none, .build [.bool false, .int .i64 0, .int .u64 0] [(0, 1, (.k (.bool true))), (1, 1, (.t 43)), (2, 1, (.t 49))], (some (.only [], .only []))⟩,
  ⟨(some 10), none, .alloc 3 3 [.bool false, .int .i64 0, .int .u64 0], (some (.only [3], .only [3]))⟩,
  ⟨none, none, .store 3 (.t 10) (.t 50), (some (.but [], .but []))⟩]
def c133r11 : List O := [
  ⟨(some 51), none, .load true 3 (.t 10), (some (.only [3], .only []))⟩,
  ⟨(some 52), none, .mov (.t 5), (some (.only [], .only []))⟩,
  ⟨(some 53), none, .mov (.t 8), (some (.only [], .only []))⟩,
  ⟨(some 54), none, .ixs 3 (.t 52) (.t 53), (some (.only [], .only []))⟩,
  ⟨(some 55), none, .load true 3 (.t 54), (some (.but [], .only []))⟩,
  ⟨(some 56), none, .call 4 0 (.k (.func 152)) [(.t 51), (.t 55)], (some (.but [], .but []))⟩]
def c133r12 : List O := [
  ⟨(some 57), none, .mov (.t 5), none⟩,
  ⟨(some 58), none, .mov (.t 8), none⟩,
  ⟨(some 59), none, .load true 3 (.t 10), none⟩,
  ⟨(some 60), none, .ixs 3 (.t 57) (.t 58), none⟩,
  ⟨none, none, .store 3 (.t 60) (.t 59), none⟩]
def c133r13 : List O := [
  ⟨(some 29), none, .mov (.t 8), none⟩,
  ⟨(some 30), none, .bin .sub (.t 29) (.k (.int .i64 1)), none⟩,
  ⟨(some 8), none, .mov (.t 30), none⟩]
def c133l1 : AC := (.seq (.seq (.region c133r7) (.keep [1, 5, 6, 7, 8, 17, 18, 19, 28] (.cond (.t 28) .skip (.exit 2)))) (.keep [1, 5, 6, 7, 8, 17, 18, 19] (.seq (.block 3 (.seq (.region c133r8) (.keep [1, 5, 6, 7, 8, 9, 17, 18, 19] (.seq (.seq (.region c133r9) (.keep [1, 5, 6, 7, 8, 9, 17, 18, 19, 40] (.cond (.t 40) (.exit 3) .skip))) (.keep [1, 5, 6, 7, 8, 9, 17, 18, 19] (.seq (.region c133r10) (.keep [1, 5, 6, 7, 8, 10, 17, 18, 19] (.seq (.region c133r11) (.keep [1, 5, 6, 7, 8, 10, 17, 18, 19, 56] (.cond (.t 56) (.region c133r12) .skip)))))))))) (.keep [1, 5, 6, 7, 8, 17, 18, 19] (.region c133r13)))))
def c133l1a : Ann := ⟨[1, 5, 6, 7, 8, 17, 18, 19], [1, 5, 17, 18, 19], [], true⟩
def c133r14 : List O := [
  ⟨(some 61), none, .bin .add (.t 19) (.k (.int .i64 1)), none⟩,
  ⟨(some 19), none, .mov (.t 61), none⟩]
def c133l0 : AC := (.seq (.region c133r4) (.keep [1, 5, 17, 18, 19, 20] (.seq (.cond (.t 20) .skip (.exit 0)) (.keep [1, 5, 17, 18, 19] (.seq (.block 1 (.seq (.region c133r5) (.keep [1, 5, 6, 7, 17, 18, 19] (.seq (.region c133r6) (.keep [1, 5, 6, 7, 8, 17, 18, 19] (.block 2 (.loop c133l1a c133l1))))))) (.keep [1, 5, 17, 18, 19] (.region c133r14)))))))
def c133l0a : Ann := ⟨[1, 5, 17, 18, 19], [5], [], true⟩
def c133r15 : List O := [
  ⟨(some 62), none, .mov (.t 5), none⟩,
  ⟨(some 4), none, .mov (.t 62), none⟩]
def c133 : AF := ⟨63, 4, [.tmp 4], (.keep [0, 1] (.seq (.region c133r0) (.keep [0, 1] (.seq (.region c133r1) (.keep [0, 1, 5] (.seq (.region c133r2) (.keep [0, 1, 5] (.seq (.seq (.region c133r3) (.keep [1, 5, 17, 18, 19] (.block 0 (.loop c133l0a c133l0)))) (.keep [5] (.seq (.region c133r15) .ret))))))))))⟩
theorem ok133 : okF Try.prog 133 c133 = true := by kernel_rfl

/-! slices.Clone[[]dogwatch/api.Want,dogwatch/api.Want] -/
def c130r0 : List O := [
  ⟨(some 2), none, .mov (.k (.nilsl)), none⟩]
def c130r1 : List O := [
  ⟨(some 3), none, .mov (.t 0), none⟩,
  ⟨(some 4), none, .bin .eqs (.t 3) (.k (.nilsl)), none⟩]
def c130r2 : List O := [
  ⟨(some 2), none, .mov (.k (.nilsl)), none⟩]
def c130r3 : List O := [
  ⟨(some 5), none, .buildSl 0 2 [.int .i64 0, .int .i64 0] 0 [], none⟩,
  ⟨(some 6), none, .mov (.t 0), none⟩,
  ⟨(some 7), none, .app 1 2 (.t 5) (.t 6), none⟩,
  ⟨(some 2), none, .mov (.t 7), none⟩]
def c130 : AF := ⟨8, 2, [.tmp 2], (.keep [0] (.seq (.region c130r0) (.keep [0] (.seq (.seq (.region c130r1) (.keep [0, 4] (.cond (.t 4) (.seq (.region c130r2) .ret) .skip))) (.keep [0] (.seq (.region c130r3) .ret))))))⟩
theorem ok130 : okF Try.prog 130 c130 = true := by kernel_rfl

/-! dogwatch/shed.choose$1 -/
def c132r0 : List O := [
  ⟨(some 2), none, .box 0 2 (.t 0), none⟩,
  ⟨(some 3), none, .box 1 2 (.t 1), none⟩,
  ⟨(some 4), none, .mov (.k (.int .i64 0)), none⟩]
def c132r1 : List O := [
  ⟨(some 5), none, .faddr 0 (.t 2), none⟩,
  ⟨(some 6), none, .load false 1 (.t 5), none⟩,
  ⟨(some 7), none, .faddr 0 (.t 3), none⟩,
  ⟨(some 8), none, .load false 1 (.t 7), none⟩,
  ⟨(some 9), none, .call 2 0 (.k (.func 124)) [(.t 6), (.t 8)], none⟩,
  ⟨(some 4), none, .mov (.t 9), none⟩]
def c132 : AF := ⟨10, 2, [.tmp 4], (.keep [0, 1] (.seq (.region c132r0) (.keep [2, 3] (.seq (.region c132r1) .ret))))⟩
theorem ok132 : okF Try.prog 132 c132 = true := by kernel_rfl

/-! dogwatch/shed.choose -/
def c95r0 : List O := [
  ⟨(some 6), none, .mov (.k (.nilsl)), none⟩,
  ⟨(some 7), none, .mov (.k (.int .i64 0)), none⟩,
  ⟨(some 8), none, .mov (.k (.int .i64 0)), none⟩]
def c95r1 : List O := [
  ⟨(some 17), none, .mov (.t 0), none⟩,
  ⟨(some 18), none, .mov (.t 2), none⟩,
  ⟨(some 19), none, .call 0 0 (.k (.func 49)) [(.t 17), (.t 18)], none⟩,
  ⟨(some 9), none, .mov (.t 19), none⟩]
def c95r2 : List O := [
  ⟨(some 20), none, .mov (.t 9), none⟩,
  ⟨(some 21), none, .bin .neq (.t 20) (.k (.int .i64 0)), none⟩]
def c95r3 : List O := [
  ⟨(some 22), none, .mov (.t 9), none⟩,
  ⟨(some 6), none, .mov (.k (.nilsl)), none⟩,
  ⟨(some 7), none, .mov (.k (.int .i64 0)), none⟩,
  ⟨(some 8), none, .mov (.t 22), none⟩]
def c95r4 : List O := [
  ⟨(some 24), none, .mov (.t 2), none⟩,
  ⟨(some 25), none, .call 0 0 (.k (.func 129)) [(.t 24)], none⟩,
  ⟨(some 23), none, .mov (.t 25), none⟩,
  ⟨(some 26), none, .ext (.t 23) 0, none⟩,
  ⟨(some 27), none, .ext (.t 23) 1, none⟩,
  ⟨(some 10), none, .mov (.t 26), none⟩,
  ⟨(some 11), none, .mov (.t 27), none⟩]
def c95r5 : List O := [
  ⟨(some 29), none, .mov (.t 1), none⟩,
  ⟨(some 30), none, .bin .lss (.t 29) (.k (.int .i64 0)), none⟩,
  ⟨(some 28), none, .mov (.t 30), none⟩]
def c95r6 : List O := [
  ⟨(some 6), none, .mov (.k (.nilsl)), none⟩,
  ⟨(some 7), none, .mov (.k (.int .i64 0)), none⟩,
  ⟨(some 8), none, .mov (.k (.int .i64 1)), none⟩]
def c95r7 : List O := [
  ⟨(some 32), none, .mov (.t 1), none⟩,
  ⟨(some 33), none, .mov (.t 10), none⟩,
  ⟨(some 34), none, .bin .gtr (.t 32) (.t 33), none⟩,
  ⟨(some 31), none, .mov (.t 34), none⟩]
def c95r8 : List O := [
  ⟨(some 6), none, .mov (.k (.nilsl)), none⟩,
  ⟨(some 7), none, .mov (.k (.int .i64 0)), none⟩,
  ⟨(some 8), none, .mov (.k (.int .i64 12)), none⟩]
def c95r9 : List O := [
  ⟨(some 35), none, .mov (.t 2), none⟩,
  ⟨(some 36), none, .call 0 1 (.k (.func 130)) [(.t 35)], none⟩,
  ⟨(some 2), none, .mov (.t 36), none⟩]
def c95r10 : List O := [
  ⟨(some 37), none, .mov (.t 2), none⟩,
  ⟨(some 38), none, .call 1 1 (.k (.func 131)) [(.t 37), (.k (.func 132))], none⟩]
def c95r11 : List O := [
  ⟨(some 39), none, .mov (.t 2), none⟩,
  ⟨(some 40), none, .mov (.t 10), none⟩,
  ⟨(some 41), none, .call 1 1 (.k (.func 133)) [(.t 39), (.t 40)], none⟩,
  ⟨(some 12), none, .mov (.t 41), none⟩]
def c95r12 : List O := [
  ⟨(some 42), none, .mov (.t 1), none⟩,
  ⟨(some 13), none, .mov (.t 42), none⟩]
def c95r13 : List O := [
  ⟨(some 43), none, .mov (.t 12), none⟩,
  ⟨(some 44), none, .mov (.t 13), none⟩,
  ⟨(some 45), none, .ixs 3 (.t 43) (.t 44), none⟩,
  ⟨(some 46), none, .faddr 0 (.t 45), none⟩,
  ⟨(some 47), none, .load false 1 (.t 46), none⟩,
  ⟨(some 48), none, .un .not (.t 47), none⟩]
def c95r14 : List O := [
  ⟨(some 49), none, .mov (.t 13), none⟩,
  ⟨(some 50), none, .bin .add (.t 49) (.k (.int .i64 1)), none⟩,
  ⟨(some 13), none, .mov (.t 50), none⟩]
def c95l0 : AC := (.seq (.seq (.region c95r13) (.keep [2, 12, 13, 48] (.cond (.t 48) .skip (.exit 1)))) (.keep [2, 12, 13] (.block 2 (.region c95r14))))
def c95l0a : Ann := ⟨[2, 12, 13], [2, 12, 13], [], false⟩
def c95r15 : List O := [
  ⟨(some 14), none, .mov (.k (.nilsl)), none⟩]
def c95r16 : List O := [
  ⟨(some 51), none, .mov (.t 2), none⟩,
  ⟨(some 52), none, .len (.t 51), none⟩,
  ⟨(some 53), none, .mov (.k (.int .i64 0)), none⟩]
def c95r17 : List O := [
  ⟨(some 54), none, .bin .lss (.t 53) (.t 52), none⟩]
def c95r18 : List O := [
  ⟨(some 55), none, .mov (.t 53), none⟩,
  ⟨(some 56), none, .ixs 2 (.t 51) (.t 53), none⟩,
  ⟨(some 57), none, .load true 2 (.t 56), none⟩,
  ⟨(some 16), none, .alloc 3 2 [.int .i64 0, .int .i64 0], none⟩,
  ⟨(some 15), none, .mov (.t 55), none⟩,
  ⟨none, none, .store 2 (.t 16) (.t 57), none⟩]
def c95r19 : List O := [
  ⟨(some 58), none, .mov (.t 12), none⟩,
  ⟨(some 59), none, .mov (.t 13), none⟩,
  ⟨(some 60), none, .ixs 3 (.t 58) (.t 59), none⟩,
  ⟨(some 61), none, .faddr 2 (.t 60), none⟩,
  ⟨(some 62), none, .load false 1 (.t 61), none⟩,
  ⟨(some 63), none, .mov (.t 15), none⟩,
  ⟨(some 64), none, .bin .sub (.k (.int .i64 63)) (.t 63), none⟩,
  ⟨(some 65), none, .bin .shr (.t 62) (.t 64), none⟩,
  ⟨(some 66), none, .bin .and (.t 65) (.k (.int .u64 1)), none⟩,
  ⟨(some 67), none, .bin .eql (.t 66) (.k (.int .u64 1)), none⟩]
def c95r20 : List O := [
  ⟨(some 68), none, .mov (.t 14), none⟩,
  ⟨(some 69), none, .faddr 0 (.t 16), none⟩,
  ⟨(some 70), none, .load false 1 (.t 69), none⟩,
  ⟨(some 71), none, .buildSl 4 1 [.int .i64 0] 1 [(0, (.t 70))], none⟩,
  ⟨(some 72), none, .app 5 1 (.t 68) (.t 71), none⟩,
  ⟨(some 14), none, .mov (.t 72), none⟩]
def c95r21 : List O := [
  ⟨(some 73), none, .bin .add (.t 53) (.k (.int .i64 1)), none⟩,
  ⟨(some 53), none, .mov (.t 73), none⟩]
def c95l1 : AC := (.seq (.region c95r17) (.keep [12, 13, 14, 51, 52, 53, 54] (.seq (.cond (.t 54) .skip (.exit 3)) (.keep [12, 13, 14, 51, 52, 53] (.seq (.block 4 (.seq (.region c95r18) (.keep [12, 13, 14, 15, 16, 51, 52, 53] (.seq (.region c95r19) (.keep [12, 13, 14, 16, 51, 52, 53, 67] (.cond (.t 67) (.region c95r20) .skip)))))) (.keep [12, 13, 14, 51, 52, 53] (.region c95r21)))))))
def c95l1a : Ann := ⟨[12, 13, 14, 51, 52, 53], [13, 14], [(14, none, 1, 2)], true⟩
def c95r22 : List O := [
  ⟨(some 74), none, .mov (.t 14), none⟩,
  ⟨(some 75), none, .mov (.t 13), none⟩,
  ⟨(some 6), none, .mov (.t 74), none⟩,
  ⟨(some 7), none, .mov (.t 75), none⟩,
  ⟨(some 8), none, .mov (.k (.int .i64 0)), none⟩]
def c95 : AF := ⟨76, 6, [.tmp 6, .tmp 7, .tmp 8], (.keep [0, 1, 2] (.seq (.region c95r0) (.keep [0, 1, 2] (.seq (.seq (.region c95r1) (.keep [1, 2, 9] (.seq (.region c95r2) (.keep [1, 2, 9, 21] (.cond (.t 21) (.seq (.region c95r3) .ret) .skip))))) (.keep [1, 2] (.seq (.region c95r4) (.keep [1, 2, 10] (.seq (.block 0 (.seq (.region c95r5) (.keep [1, 2, 10, 28] (.cond (.t 28) (.seq (.region c95r6) .ret) (.seq (.region c95r7) (.keep [1, 2, 10, 31] (.cond (.t 31) (.seq (.region c95r8) .ret) .skip))))))) (.keep [1, 2, 10] (.seq (.region c95r9) (.keep [1, 2, 10] (.seq (.region c95r10) (.keep [1, 2, 10] (.seq (.region c95r11) (.keep [1, 2, 12] (.seq (.region c95r12) (.keep [2, 12, 13] (.seq (.block 1 (.loop c95l0a c95l0)) (.keep [2, 12, 13] (.seq (.region c95r15) (.keep [2, 12, 13, 14] (.seq (.seq (.region c95r16) (.keep [12, 13, 14, 51, 52, 53] (.block 3 (.loop c95l1a c95l1)))) (.keep [13, 14] (.seq (.region c95r22) .ret))))))))))))))))))))))))⟩
theorem ok95 : okF Try.prog 95 c95 = true := by kernel_rfl

/-! dogwatch/shed.Choose -/
def c46r0 : List O := [
  ⟨(some 6), none, .mov (.k (.nilsl)), none⟩,
  ⟨(some 7), none, .mov (.k (.int .i64 0)), none⟩]
def c46r1 : List O := [
  ⟨(some 12), none, .mov (.t 0), none⟩,
  ⟨(some 13), none, .mov (.t 1), none⟩,
  ⟨(some 14), none, .mov (.t 2), none⟩,
  ⟨(some 15), none, .call 0 1 (.k (.func 95)) [(.t 12), (.t 13), (.t 14)], none⟩,
  ⟨(some 11), none, .mov (.t 15), none⟩,
  ⟨(some 16), none, .ext (.t 11) 0, none⟩,
  ⟨(some 17), none, .ext (.t 11) 1, none⟩,
  ⟨(some 18), none, .ext (.t 11) 2, none⟩,
  ⟨(some 8), none, .mov (.t 16), none⟩,
  ⟨(some 9), none, .mov (.t 17), none⟩,
  ⟨(some 10), none, .mov (.t 18), none⟩]
def c46r2 : List O := [
  ⟨(some 19), none, .mov (.t 8), none⟩,
  ⟨(some 20), none, .mov (.t 10), none⟩,
  ⟨(some 6), none, .mov (.t 19), none⟩,
  ⟨(some 7), none, .mov (.t 20), none⟩]
def c46 : AF := ⟨21, 1, [.tmp 6, .tmp 7], (.keep [0, 1, 2] (.seq (.region c46r0) (.keep [0, 1, 2] (.seq (.region c46r1) (.keep [8, 10] (.seq (.region c46r2) .ret))))))⟩
theorem ok46 : okF Try.prog 46 c46 = true := by kernel_rfl

/-! dogwatch/shed.Cost -/
def c47r0 : List O := [
  ⟨(some 6), none, .mov (.k (.int .i64 0)), none⟩,
  ⟨(some 7), none, .mov (.k (.int .i64 0)), none⟩]
def c47r1 : List O := [
  ⟨(some 12), none, .mov (.t 0), none⟩,
  ⟨(some 13), none, .mov (.t 1), none⟩,
  ⟨(some 14), none, .mov (.t 2), none⟩,
  ⟨(some 15), none, .call 0 1 (.k (.func 95)) [(.t 12), (.t 13), (.t 14)], none⟩,
  ⟨(some 11), none, .mov (.t 15), none⟩,
  ⟨(some 16), none, .ext (.t 11) 0, none⟩,
  ⟨(some 17), none, .ext (.t 11) 1, none⟩,
  ⟨(some 18), none, .ext (.t 11) 2, none⟩,
  ⟨(some 8), none, .mov (.t 16), none⟩,
  ⟨(some 9), none, .mov (.t 17), none⟩,
  ⟨(some 10), none, .mov (.t 18), none⟩]
def c47r2 : List O := [
  ⟨(some 19), none, .mov (.t 9), none⟩,
  ⟨(some 20), none, .mov (.t 10), none⟩,
  ⟨(some 6), none, .mov (.t 19), none⟩,
  ⟨(some 7), none, .mov (.t 20), none⟩]
def c47 : AF := ⟨21, 1, [.tmp 6, .tmp 7], (.keep [0, 1, 2] (.seq (.region c47r0) (.keep [0, 1, 2] (.seq (.region c47r1) (.keep [9, 10] (.seq (.region c47r2) .ret))))))⟩
theorem ok47 : okF Try.prog 47 c47 = true := by kernel_rfl

/-! dogwatch/dogwatchref03.Same -/
def c52r0 : List O := [
  ⟨(some 4), none, .mov (.k (.bool false)), none⟩]
def c52r1 : List O := [
  ⟨(some 6), none, .mov (.t 0), none⟩,
  ⟨(some 7), none, .len (.t 6), none⟩,
  ⟨(some 8), none, .mov (.t 1), none⟩,
  ⟨(some 9), none, .len (.t 8), none⟩,
  ⟨(some 10), none, .bin .neq (.t 7) (.t 9), none⟩]
def c52r2 : List O := [
  ⟨(some 4), none, .mov (.k (.bool false)), none⟩]
def c52r3 : List O := [
  ⟨(some 5), none, .mov (.k (.int .i64 0)), none⟩]
def c52r4 : List O := [
  ⟨(some 11), none, .mov (.t 5), none⟩,
  ⟨(some 12), none, .mov (.t 0), none⟩,
  ⟨(some 13), none, .len (.t 12), none⟩,
  ⟨(some 14), none, .bin .lss (.t 11) (.t 13), none⟩]
def c52r5 : List O := [
  ⟨(some 17), none, .mov (.t 0), (some (.only [], .only []))⟩,
  ⟨(some 18), none, .mov (.t 5), (some (.only [], .only []))⟩,
  ⟨(some 19), none, .ixs 1 (.t 17) (.t 18), (some (.only [], .only []))⟩,
  ⟨(some 20), none, .load false 1 (.t 19), (some (.but [], .only []))⟩,
  ⟨(some 21), none, .mov (.t 1), (some (.only [], .only []))⟩,
  ⟨(some 22), none, .mov (.t 5), (some (.only [], .only []))⟩,
  ⟨(some 23), none, .ixs 1 (.t 21) (.t 22), (some (.only [], .only []))⟩,
  ⟨(some 24), none, .load false 1 (.t 23), (some (.but [], .only []))⟩,
  ⟨(some 25), none, .bin .neq (.t 20) (.t 24), (some (.only [], .only []))⟩]
def c52r6 : List O := [
  ⟨(some 4), none, .mov (.k (.bool false)), none⟩]
def c52r7 : List O := [
  ⟨(some 15), none, .mov (.t 5), none⟩,
  ⟨(some 16), none, .bin .add (.t 15) (.k (.int .i64 1)), none⟩,
  ⟨(some 5), none, .mov (.t 16), none⟩]
def c52l0 : AC := (.seq (.seq (.region c52r4) (.keep [0, 1, 5, 14] (.cond (.t 14) .skip (.exit 0)))) (.keep [0, 1, 5] (.seq (.block 1 (.seq (.region c52r5) (.keep [0, 1, 5, 25] (.cond (.t 25) (.seq (.region c52r6) .ret) .skip)))) (.keep [0, 1, 5] (.region c52r7)))))
def c52l0a : Ann := ⟨[0, 1, 5], [4], [], false⟩
def c52r8 : List O := [
  ⟨(some 4), none, .mov (.k (.bool true)), none⟩]
def c52 : AF := ⟨26, 0, [.tmp 4], (.keep [0, 1] (.seq (.region c52r0) (.keep [0, 1] (.seq (.seq (.region c52r1) (.keep [0, 1, 10] (.cond (.t 10) (.seq (.region c52r2) .ret) .skip))) (.keep [0, 1] (.seq (.seq (.region c52r3) (.keep [0, 1, 5] (.block 0 (.loop c52l0a c52l0)))) (.keep [] (.seq (.region c52r8) .ret))))))))⟩
theorem ok52 : okF Try.prog 52 c52 = true := by kernel_rfl

/-! dogwatch/dogwatchref41.Units -/
def c53r0 : List O := [
  ⟨(some 2), none, .mov (.k (.nilsl)), none⟩]
def c53r1 : List O := [
  ⟨(some 5), none, .buildSl 0 1 [.int .i64 0] 0 [], none⟩,
  ⟨(some 3), none, .mov (.t 5), none⟩]
def c53r2 : List O := [
  ⟨(some 4), none, .mov (.k (.int .i64 1)), none⟩]
def c53r3 : List O := [
  ⟨(some 6), none, .mov (.t 4), none⟩,
  ⟨(some 7), none, .bin .leq (.t 6) (.k (.int .i64 1040)), none⟩]
def c53r4 : List O := [
  ⟨(some 10), none, .mov (.t 0), none⟩,
  ⟨(some 11), none, .mov (.t 4), none⟩,
  ⟨(some 12), none, .call 2 0 (.k (.func 99)) [(.t 10), (.t 11)], none⟩]
def c53r5 : List O := [
  ⟨(some 13), none, .mov (.t 3), none⟩,
  ⟨(some 14), none, .mov (.t 4), none⟩,
  ⟨(some 15), none, .buildSl 2 1 [.int .i64 0] 1 [(0, (.t 14))], none⟩,
  ⟨(some 16), none, .app 3 1 (.t 13) (.t 15), none⟩,
  ⟨(some 3), none, .mov (.t 16), none⟩]
def c53r6 : List O := [
  ⟨(some 8), none, .mov (.t 4), none⟩,
  ⟨(some 9), none, .bin .add (.t 8) (.k (.int .i64 1)), none⟩,
  ⟨(some 4), none, .mov (.t 9), none⟩]
def c53l0 : AC := (.seq (.seq (.region c53r3) (.keep [0, 3, 4, 7] (.cond (.t 7) .skip (.exit 0)))) (.keep [0, 3, 4] (.seq (.block 1 (.seq (.region c53r4) (.keep [0, 3, 4, 12] (.cond (.t 12) (.region c53r5) .skip)))) (.keep [0, 3, 4] (.region c53r6)))))
def c53l0a : Ann := ⟨[0, 3, 4], [3], [(3, none, 1, 1)], true⟩
def c53r7 : List O := [
  ⟨(some 17), none, .mov (.t 3), none⟩,
  ⟨(some 2), none, .mov (.t 17), none⟩]
def c53 : AF := ⟨18, 4, [.tmp 2], (.keep [0] (.seq (.region c53r0) (.keep [0] (.seq (.region c53r1) (.keep [0, 3] (.seq (.seq (.region c53r2) (.keep [0, 3, 4] (.block 0 (.loop c53l0a c53l0)))) (.keep [3] (.seq (.region c53r7) .ret))))))))⟩
theorem ok53 : okF Try.prog 53 c53 = true := by kernel_rfl

/-! dogwatch/dogwatchlaw41.chosen -/
def c54r0 : List O := [
  ⟨(some 4), none, .mov (.k (.nilsl)), none⟩]
def c54r1 : List O := [
  ⟨(some 5), none, .mov (.k (.nilsl)), none⟩]
def c54r2 : List O := [
  ⟨(some 6), none, .mov (.k (.int .i64 0)), none⟩]
def c54r3 : List O := [
  ⟨(some 8), none, .mov (.t 6), none⟩,
  ⟨(some 9), none, .mov (.t 0), none⟩,
  ⟨(some 10), none, .len (.t 9), none⟩,
  ⟨(some 11), none, .bin .lss (.t 8) (.t 10), none⟩]
def c54r4 : List O := [
  ⟨(some 7), none, .mov (.k (.int .i64 0)), none⟩]
def c54r5 : List O := [
  ⟨(some 14), none, .mov (.t 7), none⟩,
  ⟨(some 15), none, .mov (.t 1), none⟩,
  ⟨(some 16), none, .len (.t 15), none⟩,
  ⟨(some 17), none, .bin .lss (.t 14) (.t 16), none⟩]
def c54r6 : List O := [
  ⟨(some 20), none, .mov (.t 1), (some (.only [], .only []))⟩,
  ⟨(some 21), none, .mov (.t 7), (some (.only [], .only []))⟩,
  ⟨(some 22), none, .ixs 1 (.t 20) (.t 21), (some (.only [], .only []))⟩,
  ⟨(some 23), none, .load false 1 (.t 22), (some (.but [], .only []))⟩,
  ⟨(some 24), none, .mov (.t 0), (some (.only [], .only []))⟩,
  ⟨(some 25), none, .mov (.t 6), (some (.only [], .only []))⟩,
  ⟨(some 26), none, .ixs 2 (.t 24) (.t 25), (some (.only [], .only []))⟩,
  ⟨(some 27), none, .faddr 0 (.t 26), (some (.only [], .only []))⟩,
  ⟨(some 28), none, .load false 1 (.t 27), (some (.but [], .only []))⟩,
  ⟨(some 29), none, .bin .eql (.t 23) (.t 28), (some (.only [], .only []))⟩]
def c54r7 : List O := [
  ⟨(some 30), none, .mov (.t 5), none⟩,
  ⟨(some 31), none, .mov (.t 0), none⟩,
  ⟨(some 32), none, .mov (.t 6), none⟩,
  ⟨(some 33), none, .ixs 2 (.t 31) (.t 32), none⟩,
  ⟨(some 34), none, .load true 2 (.t 33), none⟩,
  ⟨(some 35), none, .buildSl 2 2 [.int .i64 0, .int .i64 0] 1 [(0, (.t 34))], none⟩,
  ⟨(some 36), none, .app 3 2 (.t 30) (.t 35), none⟩,
  ⟨(some 5), none, .mov (.t 36), none⟩]
def c54r8 : List O := [
  ⟨(some 18), none, .mov (.t 7), none⟩,
  ⟨(some 19), none, .bin .add (.t 18) (.k (.int .i64 1)), none⟩,
  ⟨(some 7), none, .mov (.t 19), none⟩]
def c54l1 : AC := (.seq (.seq (.region c54r5) (.keep [0, 1, 5, 6, 7, 17] (.cond (.t 17) .skip (.exit 2)))) (.keep [0, 1, 5, 6, 7] (.seq (.block 3 (.seq (.region c54r6) (.keep [0, 1, 5, 6, 7, 29] (.cond (.t 29) (.region c54r7) .skip)))) (.keep [0, 1, 5, 6, 7] (.region c54r8)))))
def c54l1a : Ann := ⟨[0, 1, 5, 6, 7], [0, 1, 5, 6], [(5, none, 2, 1)], true⟩
def c54r9 : List O := [
  ⟨(some 12), none, .mov (.t 6), none⟩,
  ⟨(some 13), none, .bin .add (.t 12) (.k (.int .i64 1)), none⟩,
  ⟨(some 6), none, .mov (.t 13), none⟩]
def c54l0 : AC := (.seq (.seq (.region c54r3) (.keep [0, 1, 5, 6, 11] (.cond (.t 11) .skip (.exit 0)))) (.keep [0, 1, 5, 6] (.seq (.block 1 (.seq (.region c54r4) (.keep [0, 1, 5, 6, 7] (.block 2 (.loop c54l1a c54l1))))) (.keep [0, 1, 5, 6] (.region c54r9)))))
def c54l0a : Ann := ⟨[0, 1, 5, 6], [5], [(5, none, 2, 0)], true⟩
def c54r10 : List O := [
  ⟨(some 37), none, .mov (.t 5), none⟩,
  ⟨(some 4), none, .mov (.t 37), none⟩]
def c54 : AF := ⟨38, 4, [.tmp 4], (.keep [0, 1] (.seq (.region c54r0) (.keep [0, 1] (.seq (.region c54r1) (.keep [0, 1, 5] (.seq (.seq (.region c54r2) (.keep [0, 1, 5, 6] (.block 0 (.loop c54l0a c54l0)))) (.keep [5] (.seq (.region c54r10) .ret))))))))⟩
theorem ok54 : okF Try.prog 54 c54 = true := by kernel_rfl

/-! dogwatch/dogwatchref41.has -/
def c99r0 : List O := [
  ⟨(some 4), none, .mov (.k (.bool false)), none⟩]
def c99r1 : List O := [
  ⟨(some 5), none, .mov (.k (.int .i64 0)), none⟩]
def c99r2 : List O := [
  ⟨(some 6), none, .mov (.t 5), none⟩,
  ⟨(some 7), none, .mov (.t 0), none⟩,
  ⟨(some 8), none, .len (.t 7), none⟩,
  ⟨(some 9), none, .bin .lss (.t 6) (.t 8), none⟩]
def c99r3 : List O := [
  ⟨(some 12), none, .mov (.t 0), none⟩,
  ⟨(some 13), none, .mov (.t 5), none⟩,
  ⟨(some 14), none, .ixs 2 (.t 12) (.t 13), none⟩,
  ⟨(some 15), none, .faddr 0 (.t 14), none⟩,
  ⟨(some 16), none, .load false 1 (.t 15), none⟩,
  ⟨(some 17), none, .mov (.t 1), none⟩,
  ⟨(some 18), none, .bin .eql (.t 16) (.t 17), none⟩]
def c99r4 : List O := [
  ⟨(some 4), none, .mov (.k (.bool true)), none⟩]
def c99r5 : List O := [
  ⟨(some 10), none, .mov (.t 5), none⟩,
  ⟨(some 11), none, .bin .add (.t 10) (.k (.int .i64 1)), none⟩,
  ⟨(some 5), none, .mov (.t 11), none⟩]
def c99l0 : AC := (.seq (.seq (.region c99r2) (.keep [0, 1, 5, 9] (.cond (.t 9) .skip (.exit 0)))) (.keep [0, 1, 5] (.seq (.block 1 (.seq (.region c99r3) (.keep [0, 1, 5, 18] (.cond (.t 18) (.seq (.region c99r4) .ret) .skip)))) (.keep [0, 1, 5] (.region c99r5)))))
def c99l0a : Ann := ⟨[0, 1, 5], [4], [], false⟩
def c99r6 : List O := [
  ⟨(some 4), none, .mov (.k (.bool false)), none⟩]
def c99 : AF := ⟨19, 0, [.tmp 4], (.keep [0, 1] (.seq (.region c99r0) (.keep [0, 1] (.seq (.seq (.region c99r1) (.keep [0, 1, 5] (.block 0 (.loop c99l0a c99l0)))) (.keep [] (.seq (.region c99r6) .ret))))))⟩
theorem ok99 : okF Try.prog 99 c99 = true := by kernel_rfl

/-! dogwatch/dogwatchref41.Better -/
def c135r0 : List O := [
  ⟨(some 4), none, .mov (.k (.bool false)), none⟩]
def c135r1 : List O := [
  ⟨(some 6), none, .mov (.t 0), none⟩,
  ⟨(some 7), none, .call 0 0 (.k (.func 50)) [(.t 6)], none⟩,
  ⟨(some 8), none, .mov (.t 1), none⟩,
  ⟨(some 9), none, .call 0 0 (.k (.func 50)) [(.t 8)], none⟩,
  ⟨(some 10), none, .bin .neq (.t 7) (.t 9), none⟩]
def c135r2 : List O := [
  ⟨(some 11), none, .mov (.t 0), none⟩,
  ⟨(some 12), none, .call 0 0 (.k (.func 50)) [(.t 11)], none⟩,
  ⟨(some 13), none, .mov (.t 1), none⟩,
  ⟨(some 14), none, .call 0 0 (.k (.func 50)) [(.t 13)], none⟩,
  ⟨(some 15), none, .bin .lss (.t 12) (.t 14), none⟩,
  ⟨(some 4), none, .mov (.t 15), none⟩]
def c135r3 : List O := [
  ⟨(some 16), none, .mov (.t 0), none⟩,
  ⟨(some 17), none, .len (.t 16), none⟩,
  ⟨(some 18), none, .mov (.t 1), none⟩,
  ⟨(some 19), none, .len (.t 18), none⟩,
  ⟨(some 20), none, .bin .neq (.t 17) (.t 19), none⟩]
def c135r4 : List O := [
  ⟨(some 21), none, .mov (.t 0), none⟩,
  ⟨(some 22), none, .len (.t 21), none⟩,
  ⟨(some 23), none, .mov (.t 1), none⟩,
  ⟨(some 24), none, .len (.t 23), none⟩,
  ⟨(some 25), none, .bin .lss (.t 22) (.t 24), none⟩,
  ⟨(some 4), none, .mov (.t 25), none⟩]
def c135r5 : List O := [
  ⟨(some 5), none, .mov (.k (.int .i64 1)), none⟩]
def c135r6 : List O := [
  ⟨(some 26), none, .mov (.t 5), none⟩,
  ⟨(some 27), none, .bin .leq (.t 26) (.k (.int .i64 1040)), none⟩]
def c135r7 : List O := [
  ⟨(some 30), none, .mov (.t 0), none⟩,
  ⟨(some 31), none, .mov (.t 5), none⟩,
  ⟨(some 32), none, .call 0 0 (.k (.func 99)) [(.t 30), (.t 31)], none⟩,
  ⟨(some 33), none, .mov (.t 1), none⟩,
  ⟨(some 34), none, .mov (.t 5), none⟩,
  ⟨(some 35), none, .call 0 0 (.k (.func 99)) [(.t 33), (.t 34)], none⟩,
  ⟨(some 36), none, .bin .neb (.t 32) (.t 35), none⟩]
def c135r8 : List O := [
  ⟨(some 37), none, .mov (.t 0), none⟩,
  ⟨(some 38), none, .mov (.t 5), none⟩,
  ⟨(some 39), none, .call 0 0 (.k (.func 99)) [(.t 37), (.t 38)], none⟩,
  ⟨(some 4), none, .mov (.t 39), none⟩]
def c135r9 : List O := [
  ⟨(some 28), none, .mov (.t 5), none⟩,
  ⟨(some 29), none, .bin .add (.t 28) (.k (.int .i64 1)), none⟩,
  ⟨(some 5), none, .mov (.t 29), none⟩]
def c135l0 : AC := (.seq (.seq (.region c135r6) (.keep [0, 1, 5, 27] (.cond (.t 27) .skip (.exit 0)))) (.keep [0, 1, 5] (.seq (.block 1 (.seq (.region c135r7) (.keep [0, 1, 5, 36] (.cond (.t 36) (.seq (.region c135r8) .ret) .skip)))) (.keep [0, 1, 5] (.region c135r9)))))
def c135l0a : Ann := ⟨[0, 1, 5], [4], [], false⟩
def c135r10 : List O := [
  ⟨(some 4), none, .mov (.k (.bool false)), none⟩]
def c135 : AF := ⟨40, 0, [.tmp 4], (.keep [0, 1] (.seq (.region c135r0) (.keep [0, 1] (.seq (.seq (.region c135r1) (.keep [0, 1, 10] (.cond (.t 10) (.seq (.region c135r2) .ret) .skip))) (.keep [0, 1] (.seq (.seq (.region c135r3) (.keep [0, 1, 20] (.cond (.t 20) (.seq (.region c135r4) .ret) .skip))) (.keep [0, 1] (.seq (.seq (.region c135r5) (.keep [0, 1, 5] (.block 0 (.loop c135l0a c135l0)))) (.keep [] (.seq (.region c135r10) .ret))))))))))⟩
theorem ok135 : okF Try.prog 135 c135 = true := by kernel_rfl

/-! dogwatch/dogwatchref41.best -/
def c98r0 : List O := [
  ⟨(some 8), none, .mov (.k (.nilsl)), none⟩,
  ⟨(some 9), none, .mov (.k (.bool false)), none⟩]
def c98r1 : List O := [
  ⟨(some 15), none, .mov (.t 2), none⟩,
  ⟨(some 16), none, .mov (.t 1), none⟩,
  ⟨(some 17), none, .len (.t 16), none⟩,
  ⟨(some 18), none, .bin .eql (.t 15) (.t 17), none⟩]
def c98r2 : List O := [
  ⟨(some 19), none, .mov (.t 3), none⟩,
  ⟨(some 20), none, .mov (.t 3), none⟩,
  ⟨(some 21), none, .call 0 0 (.k (.func 50)) [(.t 20)], none⟩,
  ⟨(some 22), none, .mov (.t 0), none⟩,
  ⟨(some 23), none, .bin .geq (.t 21) (.t 22), none⟩,
  ⟨(some 8), none, .mov (.t 19), none⟩,
  ⟨(some 9), none, .mov (.t 23), none⟩]
def c98r3 : List O := [
  ⟨(some 25), none, .mov (.t 0), none⟩,
  ⟨(some 26), none, .mov (.t 1), none⟩,
  ⟨(some 27), none, .mov (.t 2), none⟩,
  ⟨(some 28), none, .bin .add (.t 27) (.k (.int .i64 1)), none⟩,
  ⟨(some 29), none, .mov (.t 3), none⟩,
  ⟨(some 30), none, .call 0 1 (.k (.func 98)) [(.t 25), (.t 26), (.t 28), (.t 29)], none⟩,
  ⟨(some 24), none, .mov (.t 30), none⟩,
  ⟨(some 31), none, .ext (.t 24) 0, none⟩,
  ⟨(some 32), none, .ext (.t 24) 1, none⟩,
  ⟨(some 10), none, .mov (.t 31), none⟩,
  ⟨(some 11), none, .mov (.t 32), none⟩]
def c98r4 : List O := [
  ⟨(some 33), none, .buildSl 1 2 [.int .i64 0, .int .i64 0] 0 [], (some (.only [1], .only [1]))⟩,
  ⟨(some 34), none, .mov (.t 3), (some (.only [], .only []))⟩,
  ⟨(some 35), none, .app 2 2 (.t 33) (.t 34), (some (.but [3], .only [2, 1]))⟩,
  ⟨(some 36), none, .mov (.t 1), (some (.only [], .only []))⟩,
  ⟨(some 37), none, .mov (.t 2), (some (.only [], .only []))⟩,
  ⟨(some 38), none, .ixs 2 (.t 36) (.t 37), (some (.only [], .only []))⟩,
  ⟨(some 39), none, .load true 2 (.t 38), (some (.but [1, 2, 1], .only []))⟩,
  ⟨(some 40), none, .buildSl 3 2 [.int .i64 0, .int .i64 0] 1 [(0, (.t 39))], (some (.only [3], .only [3]))⟩,
  ⟨(some 41), none, .app 4 2 (.t 35) (.t 40), (some (.but [], .but []))⟩,
  ⟨(some 12), none, .mov (.t 41), (some (.only [], .only []))⟩]
def c98r5 : List O := [
  ⟨(some 43), none, .mov (.t 0), none⟩,
  ⟨(some 44), none, .mov (.t 1), none⟩,
  ⟨(some 45), none, .mov (.t 2), none⟩,
  ⟨(some 46), none, .bin .add (.t 45) (.k (.int .i64 1)), none⟩,
  ⟨(some 47), none, .mov (.t 12), none⟩,
  ⟨(some 48), none, .call 5 1 (.k (.func 98)) [(.t 43), (.t 44), (.t 46), (.t 47)], none⟩,
  ⟨(some 42), none, .mov (.t 48), none⟩,
  ⟨(some 49), none, .ext (.t 42) 0, none⟩,
  ⟨(some 50), none, .ext (.t 42) 1, none⟩,
  ⟨(some 13), none, .mov (.t 49), none⟩,
  ⟨(some 14), none, .mov (.t 50), none⟩]
def c98r6 : List O := [
  ⟨(some 51), none, .mov (.t 11), none⟩,
  ⟨(some 52), none, .un .not (.t 51), none⟩,
  ⟨(some 53), none, .mov (.t 52), none⟩,
  ⟨(some 54), (some (53, false)), .mov (.t 14), none⟩,
  ⟨(some 55), (some (53, false)), .mov (.t 54), none⟩,
  ⟨(some 56), (some (55, true)), .mov (.t 13), none⟩,
  ⟨(some 57), (some (55, true)), .mov (.t 10), none⟩,
  ⟨(some 58), (some (55, true)), .call 6 0 (.k (.func 135)) [(.t 56), (.t 57)], none⟩,
  ⟨(some 59), (some (53, false)), .pick (.t 55) (.t 58) (.k (.bool false)), none⟩,
  ⟨(some 60), none, .pick (.t 53) (.k (.bool true)) (.t 59), none⟩]
def c98r7 : List O := [
  ⟨(some 61), none, .mov (.t 13), none⟩,
  ⟨(some 62), none, .mov (.t 14), none⟩,
  ⟨(some 8), none, .mov (.t 61), none⟩,
  ⟨(some 9), none, .mov (.t 62), none⟩]
def c98r8 : List O := [
  ⟨(some 63), none, .mov (.t 10), none⟩,
  ⟨(some 64), none, .mov (.t 11), none⟩,
  ⟨(some 8), none, .mov (.t 63), none⟩,
  ⟨(some 9), none, .mov (.t 64), none⟩]
def c98 : AF := ⟨65, 6, [.tmp 8, .tmp 9], (.keep [0, 1, 2, 3] (.seq (.region c98r0) (.keep [0, 1, 2, 3] (.seq (.seq (.region c98r1) (.keep [0, 1, 2, 3, 18] (.cond (.t 18) (.seq (.region c98r2) .ret) .skip))) (.keep [0, 1, 2, 3] (.seq (.region c98r3) (.keep [0, 1, 2, 3, 10, 11] (.seq (.region c98r4) (.keep [0, 1, 2, 10, 11, 12] (.seq (.region c98r5) (.keep [10, 11, 13, 14] (.seq (.seq (.region c98r6) (.keep [10, 11, 13, 14, 60] (.cond (.t 60) (.seq (.region c98r7) .ret) .skip))) (.keep [10, 11] (.seq (.region c98r8) .ret))))))))))))))⟩
theorem ok98 : okF Try.prog 98 c98 = true := by kernel_rfl

/-! dogwatch/dogwatchref41.Choose -/
def c51r0 : List O := [
  ⟨(some 4), none, .mov (.k (.nilsl)), none⟩,
  ⟨(some 5), none, .mov (.k (.bool false)), none⟩]
def c51r1 : List O := [
  ⟨(some 6), none, .mov (.t 0), none⟩,
  ⟨(some 7), none, .mov (.t 1), none⟩,
  ⟨(some 8), none, .buildSl 0 2 [.int .i64 0, .int .i64 0] 0 [], none⟩,
  ⟨(some 9), none, .call 1 1 (.k (.func 98)) [(.t 6), (.t 7), (.k (.int .i64 0)), (.t 8)], none⟩,
  ⟨(some 10), none, .ext (.t 9) 0, none⟩,
  ⟨(some 11), none, .ext (.t 9) 1, none⟩,
  ⟨(some 4), none, .mov (.t 10), none⟩,
  ⟨(some 5), none, .mov (.t 11), none⟩]
def c51 : AF := ⟨12, 2, [.tmp 4, .tmp 5], (.keep [0, 1] (.seq (.region c51r0) (.keep [0, 1] (.seq (.region c51r1) .ret))))⟩
theorem ok51 : okF Try.prog 51 c51 = true := by kernel_rfl

/-! dogwatch/dogwatchlaw41.awake -/
def c45r0 : List O := [
  ⟨(some 0), none, .mov (.k (.bool false)), none⟩]
def c45r1 : List O := [
  ⟨(some 8), none, .build [.int .i64 0, .int .i64 0] [(0, 1, (.k (.int .i64 1))), (1, 1, (.k (.int .i64 5)))], none⟩,
  ⟨(some 9), none, .build [.int .i64 0, .int .i64 0] [(0, 1, (.k (.int .i64 2))), (1, 1, (.k (.int .i64 3)))], none⟩,
  ⟨(some 10), none, .build [.int .i64 0, .int .i64 0] [(0, 1, (.k (.int .i64 3))), (1, 1, (.k (.int .i64 3)))], none⟩,
  ⟨(some 11), none, .build [.int .i64 0, .int .i64 0] [(0, 1, (.k (.int .i64 4))), (1, 1, (.k (.int .i64 2)))], none⟩,
  ⟨(some 12), none, .buildSl 0 2 [.int .i64 0, .int .i64 0] 4 [(0, (.t 8)), (1, (.t 9)), (2, (.t 10)), (3, (.t 11))], none⟩,
  ⟨(some 1), none, .mov (.t 12), none⟩]
def c45r2 : List O := [
  ⟨(some 14), none, .mov (.t 1), none⟩,
  ⟨(some 15), none, .call 1 1 (.k (.func 46)) [(.k (.int .i64 8)), (.k (.int .i64 5)), (.t 14)], none⟩,
  ⟨(some 13), none, .mov (.t 15), none⟩,
  ⟨(some 16), none, .ext (.t 13) 0, none⟩,
  ⟨(some 17), none, .ext (.t 13) 1, none⟩,
  ⟨(some 2), none, .mov (.t 16), none⟩,
  ⟨(some 3), none, .mov (.t 17), none⟩]
def c45r3 : List O := [
  ⟨(some 19), none, .mov (.t 1), none⟩,
  ⟨(some 20), none, .call 2 1 (.k (.func 46)) [(.k (.int .i64 8)), (.k (.int .i64 6)), (.t 19)], none⟩,
  ⟨(some 18), none, .mov (.t 20), none⟩,
  ⟨(some 21), none, .ext (.t 18) 0, none⟩,
  ⟨(some 22), none, .ext (.t 18) 1, none⟩,
  ⟨(some 4), none, .mov (.t 21), none⟩,
  ⟨(some 5), none, .mov (.t 22), none⟩]
def c45r4 : List O := [
  ⟨(some 24), none, .mov (.t 1), none⟩,
  ⟨(some 25), none, .call 3 0 (.k (.func 47)) [(.k (.int .i64 8)), (.k (.int .i64 4)), (.t 24)], none⟩,
  ⟨(some 23), none, .mov (.t 25), none⟩,
  ⟨(some 26), none, .ext (.t 23) 0, none⟩,
  ⟨(some 27), none, .ext (.t 23) 1, none⟩,
  ⟨(some 6), none, .mov (.t 26), none⟩,
  ⟨(some 7), none, .mov (.t 27), none⟩]
def c45r5 : List O := [
  ⟨(some 28), none, .mov (.t 2), none⟩,
  ⟨(some 29), none, .buildSl 3 1 [.int .i64 0] 1 [(0, (.k (.int .i64 1)))], none⟩,
  ⟨(some 30), none, .call 4 0 (.k (.func 52)) [(.t 28), (.t 29)], none⟩,
  ⟨(some 31), none, .mov (.t 30), none⟩,
  ⟨(some 32), (some (31, true)), .mov (.t 3), none⟩,
  ⟨(some 33), (some (31, true)), .bin .eql (.t 32) (.k (.int .i64 0)), none⟩,
  ⟨(some 34), none, .pick (.t 31) (.t 33) (.k (.bool false)), none⟩,
  ⟨(some 35), none, .mov (.t 34), none⟩,
  ⟨(some 36), (some (35, true)), .mov (.t 4), none⟩,
  ⟨(some 37), (some (35, true)), .buildSl 4 1 [.int .i64 0] 2 [(0, (.k (.int .i64 2))), (1, (.k (.int .i64 3)))], none⟩,
  ⟨(some 38), (some (35, true)), .call 5 0 (.k (.func 52)) [(.t 36), (.t 37)], none⟩,
  ⟨(some 39), none, .pick (.t 35) (.t 38) (.k (.bool false)), none⟩,
  ⟨(some 40), none, .mov (.t 39), none⟩,
  ⟨(some 41), (some (40, true)), .mov (.t 5), none⟩,
  ⟨(some 42), (some (40, true)), .bin .eql (.t 41) (.k (.int .i64 0)), none⟩,
  ⟨(some 43), none, .pick (.t 40) (.t 42) (.k (.bool false)), none⟩,
  ⟨(some 44), none, .mov (.t 43), none⟩,
  ⟨(some 45), (some (44, true)), .mov (.t 6), none⟩,
  ⟨(some 46), (some (44, true)), .bin .eql (.t 45) (.k (.int .i64 5)), none⟩,
  ⟨(some 47), none, .pick (.t 44) (.t 46) (.k (.bool false)), none⟩,
  ⟨(some 48), none, .mov (.t 47), none⟩,
  ⟨(some 49), (some (48, true)), .mov (.t 7), none⟩,
  ⟨(some 50), (some (48, true)), .bin .eql (.t 49) (.k (.int .i64 0)), none⟩,
  ⟨(some 51), none, .pick (.t 48) (.t 50) (.k (.bool false)), none⟩,
  ⟨(some 0), none, .mov (.t 51), none⟩]
def c45 : AF := ⟨52, 5, [.tmp 0], (.keep [] (.seq (.region c45r0) (.keep [] (.seq (.region c45r1) (.keep [1] (.seq (.region c45r2) (.keep [1, 2, 3] (.seq (.region c45r3) (.keep [1, 2, 3, 4, 5] (.seq (.region c45r4) (.keep [2, 3, 4, 5, 6, 7] (.seq (.region c45r5) .ret))))))))))))⟩
theorem ok45 : okF Try.prog 45 c45 = true := by kernel_rfl

/-! dogwatch/dogwatchlaw41.ShedChooses -/
def c9r0 : List O := [
  ⟨(some 6), none, .mov (.k (.bool false)), none⟩]
def c9r1 : List O := [
  ⟨(some 14), none, .mov (.t 2), none⟩,
  ⟨(some 15), none, .len (.t 14), none⟩,
  ⟨(some 16), none, .bin .gtr (.t 15) (.k (.int .i64 80)), none⟩]
def c9r2 : List O := [
  ⟨(some 17), none, .call 0 0 (.k (.func 45)) [], none⟩,
  ⟨(some 6), none, .mov (.t 17), none⟩]
def c9r3 : List O := [
  ⟨(some 19), none, .mov (.t 0), none⟩,
  ⟨(some 20), none, .mov (.t 1), none⟩,
  ⟨(some 21), none, .mov (.t 2), none⟩,
  ⟨(some 22), none, .call 0 1 (.k (.func 46)) [(.t 19), (.t 20), (.t 21)], none⟩,
  ⟨(some 18), none, .mov (.t 22), none⟩,
  ⟨(some 23), none, .ext (.t 18) 0, none⟩,
  ⟨(some 24), none, .ext (.t 18) 1, none⟩,
  ⟨(some 7), none, .mov (.t 23), none⟩,
  ⟨(some 8), none, .mov (.t 24), none⟩]
def c9r4 : List O := [
  ⟨(some 26), none, .mov (.t 0), none⟩,
  ⟨(some 27), none, .mov (.t 1), none⟩,
  ⟨(some 28), none, .mov (.t 2), none⟩,
  ⟨(some 29), none, .call 1 0 (.k (.func 47)) [(.t 26), (.t 27), (.t 28)], none⟩,
  ⟨(some 25), none, .mov (.t 29), none⟩,
  ⟨(some 30), none, .ext (.t 25) 0, none⟩,
  ⟨(some 31), none, .ext (.t 25) 1, none⟩,
  ⟨(some 9), none, .mov (.t 30), none⟩,
  ⟨(some 10), none, .mov (.t 31), none⟩]
def c9r5 : List O := [
  ⟨(some 32), none, .mov (.t 0), none⟩,
  ⟨(some 33), none, .mov (.t 2), none⟩,
  ⟨(some 34), none, .call 1 0 (.k (.func 48)) [(.t 32), (.t 33)], none⟩,
  ⟨(some 11), none, .mov (.t 34), none⟩]
def c9r6 : List O := [
  ⟨(some 35), none, .mov (.t 0), none⟩,
  ⟨(some 36), none, .mov (.t 2), none⟩,
  ⟨(some 37), none, .call 1 0 (.k (.func 49)) [(.t 35), (.t 36)], none⟩,
  ⟨(some 38), none, .mov (.t 11), none⟩,
  ⟨(some 39), none, .bin .neq (.t 37) (.t 38), none⟩,
  ⟨(some 40), none, .mov (.t 39), none⟩,
  ⟨(some 41), (some (40, false)), .mov (.t 8), none⟩,
  ⟨(some 42), (some (40, false)), .mov (.t 10), none⟩,
  ⟨(some 43), (some (40, false)), .bin .neq (.t 41) (.t 42), none⟩,
  ⟨(some 44), none, .pick (.t 40) (.k (.bool true)) (.t 43), none⟩]
def c9r7 : List O := [
  ⟨(some 6), none, .mov (.k (.bool false)), none⟩]
def c9r8 : List O := [
  ⟨(some 45), none, .mov (.t 11), none⟩,
  ⟨(some 46), none, .bin .eql (.t 45) (.k (.int .i64 0)), none⟩,
  ⟨(some 47), none, .mov (.t 46), none⟩,
  ⟨(some 48), (some (47, true)), .mov (.t 1), none⟩,
  ⟨(some 49), (some (47, true)), .bin .lss (.t 48) (.k (.int .i64 0)), none⟩,
  ⟨(some 50), none, .pick (.t 47) (.t 49) (.k (.bool false)), none⟩]
def c9r9 : List O := [
  ⟨(some 11), none, .mov (.k (.int .i64 1)), none⟩]
def c9r10 : List O := [
  ⟨(some 51), none, .mov (.t 11), none⟩,
  ⟨(some 52), none, .bin .eql (.t 51) (.k (.int .i64 0)), none⟩,
  ⟨(some 53), none, .mov (.t 52), none⟩,
  ⟨(some 54), (some (53, true)), .mov (.t 1), none⟩,
  ⟨(some 55), (some (53, true)), .mov (.t 2), none⟩,
  ⟨(some 56), (some (53, true)), .call 1 0 (.k (.func 50)) [(.t 55)], none⟩,
  ⟨(some 57), (some (53, true)), .bin .gtr (.t 54) (.t 56), none⟩,
  ⟨(some 58), none, .pick (.t 53) (.t 57) (.k (.bool false)), none⟩]
def c9r11 : List O := [
  ⟨(some 11), none, .mov (.k (.int .i64 12)), none⟩]
def c9r12 : List O := [
  ⟨(some 59), none, .mov (.t 11), none⟩,
  ⟨(some 60), none, .bin .neq (.t 59) (.k (.int .i64 0)), none⟩]
def c9r13 : List O := [
  ⟨(some 61), none, .mov (.t 7), none⟩,
  ⟨(some 62), none, .len (.t 61), none⟩,
  ⟨(some 63), none, .bin .eql (.t 62) (.k (.int .i64 0)), none⟩,
  ⟨(some 64), none, .mov (.t 63), none⟩,
  ⟨(some 65), (some (64, true)), .mov (.t 9), none⟩,
  ⟨(some 66), (some (64, true)), .bin .eql (.t 65) (.k (.int .i64 0)), none⟩,
  ⟨(some 67), none, .pick (.t 64) (.t 66) (.k (.bool false)), none⟩,
  ⟨(some 68), none, .mov (.t 67), none⟩,
  ⟨(some 69), (some (68, true)), .mov (.t 8), none⟩,
  ⟨(some 70), (some (68, true)), .mov (.t 11), none⟩,
  ⟨(some 71), (some (68, true)), .bin .eql (.t 69) (.t 70), none⟩,
  ⟨(some 72), none, .pick (.t 68) (.t 71) (.k (.bool false)), none⟩,
  ⟨(some 73), none, .mov (.t 72), none⟩,
  ⟨(some 74), (some (73, true)), .call 1 0 (.k (.func 45)) [], none⟩,
  ⟨(some 75), none, .pick (.t 73) (.t 74) (.k (.bool false)), none⟩,
  ⟨(some 6), none, .mov (.t 75), none⟩]
def c9r14 : List O := [
  ⟨(some 76), none, .mov (.t 2), none⟩,
  ⟨(some 77), none, .len (.t 76), none⟩,
  ⟨(some 78), none, .bin .gtr (.t 77) (.k (.int .i64 9)), none⟩]
def c9r15 : List O := [
  ⟨(some 79), none, .mov (.t 8), none⟩,
  ⟨(some 80), none, .bin .eql (.t 79) (.k (.int .i64 0)), none⟩,
  ⟨(some 81), none, .mov (.t 80), none⟩,
  ⟨(some 82), (some (81, true)), .call 1 0 (.k (.func 45)) [], none⟩,
  ⟨(some 83), none, .pick (.t 81) (.t 82) (.k (.bool false)), none⟩,
  ⟨(some 6), none, .mov (.t 83), none⟩]
def c9r16 : List O := [
  ⟨(some 85), none, .mov (.t 1), none⟩,
  ⟨(some 86), none, .mov (.t 2), none⟩,
  ⟨(some 87), none, .call 1 1 (.k (.func 51)) [(.t 85), (.t 86)], none⟩,
  ⟨(some 84), none, .mov (.t 87), none⟩,
  ⟨(some 88), none, .ext (.t 84) 0, none⟩,
  ⟨(some 89), none, .ext (.t 84) 1, none⟩,
  ⟨(some 12), none, .mov (.t 88), none⟩,
  ⟨(some 13), none, .mov (.t 89), none⟩]
def c9r17 : List O := [
  ⟨(some 90), none, .mov (.t 8), none⟩,
  ⟨(some 91), none, .bin .eql (.t 90) (.k (.int .i64 0)), none⟩,
  ⟨(some 92), none, .mov (.t 91), none⟩,
  ⟨(some 93), (some (92, true)), .mov (.t 13), none⟩,
  ⟨(some 94), none, .pick (.t 92) (.t 93) (.k (.bool false)), none⟩,
  ⟨(some 95), none, .mov (.t 94), none⟩,
  ⟨(some 96), (some (95, true)), .mov (.t 7), none⟩,
  ⟨(some 97), (some (95, true)), .mov (.t 12), none⟩,
  ⟨(some 98), (some (95, true)), .call 2 1 (.k (.func 53)) [(.t 97)], none⟩,
  ⟨(some 99), (some (95, true)), .call 3 0 (.k (.func 52)) [(.t 96), (.t 98)], none⟩,
  ⟨(some 100), none, .pick (.t 95) (.t 99) (.k (.bool false)), none⟩,
  ⟨(some 101), none, .mov (.t 100), none⟩,
  ⟨(some 102), (some (101, true)), .mov (.t 9), none⟩,
  ⟨(some 103), (some (101, true)), .mov (.t 12), none⟩,
  ⟨(some 104), (some (101, true)), .call 3 0 (.k (.func 50)) [(.t 103)], none⟩,
  ⟨(some 105), (some (101, true)), .bin .eql (.t 102) (.t 104), none⟩,
  ⟨(some 106), none, .pick (.t 101) (.t 105) (.k (.bool false)), none⟩,
  ⟨(some 107), none, .mov (.t 106), none⟩,
  ⟨(some 108), (some (107, true)), .call 3 0 (.k (.func 45)) [], none⟩,
  ⟨(some 109), none, .pick (.t 107) (.t 108) (.k (.bool false)), none⟩,
  ⟨(some 6), none, .mov (.t 109), none⟩]
def c9 : AF := ⟨110, 3, [.tmp 6], (.keep [0, 1, 2] (.seq (.region c9r0) (.keep [0, 1, 2] (.seq (.seq (.region c9r1) (.keep [0, 1, 2, 16] (.cond (.t 16) (.seq (.region c9r2) .ret) .skip))) (.keep [0, 1, 2] (.seq (.region c9r3) (.keep [0, 1, 2, 7, 8] (.seq (.region c9r4) (.keep [0, 1, 2, 7, 8, 9, 10] (.seq (.region c9r5) (.keep [0, 1, 2, 7, 8, 9, 10, 11] (.seq (.seq (.region c9r6) (.keep [1, 2, 7, 8, 9, 11, 44] (.cond (.t 44) (.seq (.region c9r7) .ret) .skip))) (.keep [1, 2, 7, 8, 9, 11] (.seq (.seq (.region c9r8) (.keep [1, 2, 7, 8, 9, 11, 50] (.cond (.t 50) (.region c9r9) .skip))) (.keep [1, 2, 7, 8, 9, 11] (.seq (.seq (.region c9r10) (.keep [1, 2, 7, 8, 9, 11, 58] (.cond (.t 58) (.region c9r11) .skip))) (.keep [1, 2, 7, 8, 9, 11] (.seq (.seq (.region c9r12) (.keep [1, 2, 7, 8, 9, 11, 60] (.cond (.t 60) (.seq (.region c9r13) .ret) .skip))) (.keep [1, 2, 7, 8, 9] (.seq (.seq (.region c9r14) (.keep [1, 2, 7, 8, 9, 78] (.cond (.t 78) (.seq (.region c9r15) .ret) .skip))) (.keep [1, 2, 7, 8, 9] (.seq (.region c9r16) (.keep [7, 8, 9, 12, 13] (.seq (.region c9r17) .ret))))))))))))))))))))))))⟩
theorem ok9 : okF Try.prog 9 c9 = true := by kernel_rfl

/-! dogwatch/dogwatchlaw41.ShedLeast -/
def c10r0 : List O := [
  ⟨(some 6), none, .mov (.k (.bool false)), none⟩]
def c10r1 : List O := [
  ⟨(some 13), none, .mov (.t 0), none⟩,
  ⟨(some 14), none, .mov (.t 1), none⟩,
  ⟨(some 15), none, .mov (.t 2), none⟩,
  ⟨(some 16), none, .mov (.t 2), none⟩,
  ⟨(some 17), none, .len (.t 16), none⟩,
  ⟨(some 18), none, .mn [(.t 17), (.k (.int .i64 64))], none⟩,
  ⟨(some 19), none, .slc 2 (.t 15) none (some (.t 18)), none⟩,
  ⟨(some 20), none, .call 0 1 (.k (.func 46)) [(.t 13), (.t 14), (.t 19)], none⟩,
  ⟨(some 12), none, .mov (.t 20), none⟩,
  ⟨(some 21), none, .ext (.t 12) 0, none⟩,
  ⟨(some 22), none, .ext (.t 12) 1, none⟩,
  ⟨(some 7), none, .mov (.t 21), none⟩,
  ⟨(some 8), none, .mov (.t 22), none⟩]
def c10r2 : List O := [
  ⟨(some 23), none, .mov (.t 8), none⟩,
  ⟨(some 24), none, .bin .neq (.t 23) (.k (.int .i64 0)), none⟩]
def c10r3 : List O := [
  ⟨(some 25), none, .mov (.t 7), none⟩,
  ⟨(some 26), none, .len (.t 25), none⟩,
  ⟨(some 27), none, .bin .eql (.t 26) (.k (.int .i64 0)), none⟩,
  ⟨(some 28), none, .mov (.t 27), none⟩,
  ⟨(some 29), (some (28, true)), .call 1 0 (.k (.func 45)) [], none⟩,
  ⟨(some 30), none, .pick (.t 28) (.t 29) (.k (.bool false)), none⟩,
  ⟨(some 6), none, .mov (.t 30), none⟩]
def c10r4 : List O := [
  ⟨(some 31), none, .mov (.t 2), none⟩,
  ⟨(some 32), none, .mov (.t 2), none⟩,
  ⟨(some 33), none, .len (.t 32), none⟩,
  ⟨(some 34), none, .mn [(.t 33), (.k (.int .i64 64))], none⟩,
  ⟨(some 35), none, .slc 2 (.t 31) none (some (.t 34)), none⟩,
  ⟨(some 36), none, .mov (.t 7), none⟩,
  ⟨(some 37), none, .call 1 1 (.k (.func 54)) [(.t 35), (.t 36)], none⟩,
  ⟨(some 9), none, .mov (.t 37), none⟩]
def c10r5 : List O := [
  ⟨(some 38), none, .mov (.t 9), none⟩,
  ⟨(some 39), none, .call 2 0 (.k (.func 50)) [(.t 38)], none⟩,
  ⟨(some 10), none, .mov (.t 39), none⟩]
def c10r6 : List O := [
  ⟨(some 40), none, .mov (.t 9), none⟩,
  ⟨(some 41), none, .len (.t 40), none⟩,
  ⟨(some 42), none, .mov (.t 7), none⟩,
  ⟨(some 43), none, .len (.t 42), none⟩,
  ⟨(some 44), none, .bin .neq (.t 41) (.t 43), none⟩,
  ⟨(some 45), none, .mov (.t 44), none⟩,
  ⟨(some 46), (some (45, false)), .mov (.t 10), none⟩,
  ⟨(some 47), (some (45, false)), .mov (.t 1), none⟩,
  ⟨(some 48), (some (45, false)), .bin .lss (.t 46) (.t 47), none⟩,
  ⟨(some 49), none, .pick (.t 45) (.k (.bool true)) (.t 48), none⟩,
  ⟨(some 50), none, .mov (.t 49), none⟩,
  ⟨(some 51), (some (50, false)), .mov (.t 1), none⟩,
  ⟨(some 52), (some (50, false)), .bin .eql (.t 51) (.k (.int .i64 0)), none⟩,
  ⟨(some 53), (some (50, false)), .mov (.t 52), none⟩,
  ⟨(some 54), (some (53, true)), .mov (.t 9), none⟩,
  ⟨(some 55), (some (53, true)), .len (.t 54), none⟩,
  ⟨(some 56), (some (53, true)), .bin .gtr (.t 55) (.k (.int .i64 0)), none⟩,
  ⟨(some 57), (some (50, false)), .pick (.t 53) (.t 56) (.k (.bool false)), none⟩,
  ⟨(some 58), none, .pick (.t 50) (.k (.bool true)) (.t 57), none⟩]
def c10r7 : List O := [
  ⟨(some 6), none, .mov (.k (.bool false)), none⟩]
def c10r8 : List O := [
  ⟨(some 11), none, .mov (.k (.int .i64 0)), none⟩]
def c10r9 : List O := [
  ⟨(some 59), none, .mov (.t 11), none⟩,
  ⟨(some 60), none, .mov (.t 9), none⟩,
  ⟨(some 61), none, .len (.t 60), none⟩,
  ⟨(some 62), none, .bin .lss (.t 59) (.t 61), none⟩]
def c10r10 : List O := [
  ⟨(some 65), none, .mov (.t 10), none⟩,
  ⟨(some 66), none, .mov (.t 9), none⟩,
  ⟨(some 67), none, .mov (.t 11), none⟩,
  ⟨(some 68), none, .ixs 2 (.t 66) (.t 67), none⟩,
  ⟨(some 69), none, .faddr 1 (.t 68), none⟩,
  ⟨(some 70), none, .load false 1 (.t 69), none⟩,
  ⟨(some 71), none, .bin .sub (.t 65) (.t 70), none⟩,
  ⟨(some 72), none, .mov (.t 1), none⟩,
  ⟨(some 73), none, .bin .geq (.t 71) (.t 72), none⟩]
def c10r11 : List O := [
  ⟨(some 6), none, .mov (.k (.bool false)), none⟩]
def c10r12 : List O := [
  ⟨(some 63), none, .mov (.t 11), none⟩,
  ⟨(some 64), none, .bin .add (.t 63) (.k (.int .i64 1)), none⟩,
  ⟨(some 11), none, .mov (.t 64), none⟩]
def c10l0 : AC := (.seq (.seq (.region c10r9) (.keep [1, 9, 10, 11, 62] (.cond (.t 62) .skip (.exit 0)))) (.keep [1, 9, 10, 11] (.seq (.block 1 (.seq (.region c10r10) (.keep [1, 9, 10, 11, 73] (.cond (.t 73) (.seq (.region c10r11) .ret) .skip)))) (.keep [1, 9, 10, 11] (.region c10r12)))))
def c10l0a : Ann := ⟨[1, 9, 10, 11], [6], [], false⟩
def c10r13 : List O := [
  ⟨(some 74), none, .call 2 0 (.k (.func 45)) [], none⟩,
  ⟨(some 6), none, .mov (.t 74), none⟩]
def c10 : AF := ⟨75, 2, [.tmp 6], (.keep [0, 1, 2] (.seq (.region c10r0) (.keep [0, 1, 2] (.seq (.region c10r1) (.keep [1, 2, 7, 8] (.seq (.seq (.region c10r2) (.keep [1, 2, 7, 24] (.cond (.t 24) (.seq (.region c10r3) .ret) .skip))) (.keep [1, 2, 7] (.seq (.region c10r4) (.keep [1, 7, 9] (.seq (.region c10r5) (.keep [1, 7, 9, 10] (.seq (.seq (.region c10r6) (.keep [1, 9, 10, 58] (.cond (.t 58) (.seq (.region c10r7) .ret) .skip))) (.keep [1, 9, 10] (.seq (.seq (.region c10r8) (.keep [1, 9, 10, 11] (.block 0 (.loop c10l0a c10l0)))) (.keep [] (.seq (.region c10r13) .ret))))))))))))))))⟩
theorem ok10 : okF Try.prog 10 c10 = true := by kernel_rfl

end Go.Proofs.Ytopcnhojkfeafaa.Am
