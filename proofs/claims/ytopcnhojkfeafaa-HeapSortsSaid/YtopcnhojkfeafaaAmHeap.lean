/- AM: the code of some of the program's functions, as the machine reads it; checked against the program. -/
import Derived.Test.YtopcnhojkfeafaaChecked
import Derived.Test.YtopcnhojkfeafaaAmTr
import Derived.ProofKit
set_option maxRecDepth 100000
namespace Go.Proofs.Ytopcnhojkfeafaa.Am
open Go.RowKit

/-! dogwatch/dogwatchlaw06.HeapPlays -/
def c3r0 : List O := [
  ⟨(some 6), none, .mov (.k (.bool false)), none⟩]
def c3r1 : List O := [
  ⟨(some 31), none, .mov (.t 0), none⟩,
  ⟨(some 32), none, .call 0 4 (.k (.func 12)) [(.t 31)], none⟩,
  ⟨(some 30), none, .mov (.t 32), none⟩,
  ⟨(some 33), none, .ext (.t 30) 0, none⟩,
  ⟨(some 34), none, .ext (.t 30) 1, none⟩,
  ⟨(some 7), none, .mov (.t 33), none⟩,
  ⟨(some 8), none, .mov (.t 34), none⟩]
def c3r2 : List O := [
  ⟨(some 35), none, .mov (.t 0), none⟩,
  ⟨(some 36), none, .bin .lss (.t 35) (.k (.int .i64 1)), none⟩,
  ⟨(some 37), none, .mov (.t 36), none⟩,
  ⟨(some 38), (some (37, false)), .mov (.t 0), none⟩,
  ⟨(some 39), (some (37, false)), .bin .gtr (.t 38) (.k (.int .i64 1024)), none⟩,
  ⟨(some 40), none, .pick (.t 37) (.k (.bool true)) (.t 39), none⟩]
def c3r3 : List O := [
  ⟨(some 41), none, .mov (.t 7), none⟩,
  ⟨(some 42), none, .bin .eqp (.t 41) (.k (.nilptr)), none⟩,
  ⟨(some 43), none, .mov (.t 42), none⟩,
  ⟨(some 44), (some (43, true)), .mov (.t 8), none⟩,
  ⟨(some 45), (some (43, true)), .bin .eql (.t 44) (.k (.int .i64 1)), none⟩,
  ⟨(some 46), none, .pick (.t 43) (.t 45) (.k (.bool false)), none⟩,
  ⟨(some 47), none, .mov (.t 46), none⟩,
  ⟨(some 48), (some (47, true)), .call 4 0 (.k (.func 13)) [], none⟩,
  ⟨(some 49), none, .pick (.t 47) (.t 48) (.k (.bool false)), none⟩,
  ⟨(some 6), none, .mov (.t 49), none⟩]
def c3r4 : List O := [
  ⟨(some 50), none, .mov (.t 8), none⟩,
  ⟨(some 51), none, .bin .neq (.t 50) (.k (.int .i64 0)), none⟩,
  ⟨(some 52), none, .mov (.t 51), none⟩,
  ⟨(some 53), (some (52, false)), .mov (.t 7), none⟩,
  ⟨(some 54), (some (52, false)), .bin .eqp (.t 53) (.k (.nilptr)), none⟩,
  ⟨(some 55), none, .pick (.t 52) (.k (.bool true)) (.t 54), none⟩]
def c3r5 : List O := [
  ⟨(some 6), none, .mov (.k (.bool false)), none⟩]
def c3r6 : List O := [
  ⟨(some 9), none, .mov (.k (.nilsl)), none⟩]
def c3r7 : List O := [
  ⟨(some 10), none, .mov (.k (.int .i64 0)), none⟩]
def c3r8 : List O := [
  ⟨(some 56), none, .mov (.t 10), none⟩,
  ⟨(some 57), none, .mov (.t 1), none⟩,
  ⟨(some 58), none, .len (.t 57), none⟩,
  ⟨(some 59), none, .bin .lss (.t 56) (.t 58), none⟩,
  ⟨(some 60), none, .mov (.t 59), none⟩,
  ⟨(some 61), (some (60, true)), .mov (.t 10), none⟩,
  ⟨(some 62), (some (60, true)), .bin .lss (.t 61) (.k (.int .i64 60)), none⟩,
  ⟨(some 63), none, .pick (.t 60) (.t 62) (.k (.bool false)), none⟩]
def c3r9 : List O := [
  ⟨(some 66), none, .mov (.t 1), none⟩,
  ⟨(some 67), none, .mov (.t 10), none⟩,
  ⟨(some 68), none, .ixs 4 (.t 66) (.t 67), none⟩,
  ⟨(some 69), none, .load true 4 (.t 68), none⟩,
  ⟨(some 11), none, .alloc 5 4 [.int .i64 0, .int .i64 0, .int .u64 0, .int .u64 0], none⟩,
  ⟨none, none, .store 4 (.t 11) (.t 69), none⟩]
def c3r10 : List O := [
  ⟨(some 70), none, .faddr 0 (.t 11), none⟩,
  ⟨(some 71), none, .load false 1 (.t 70), none⟩]
def c3r11 : List O := [
  ⟨(some 73), none, .bin .eql (.t 71) (.k (.int .i64 0)), none⟩,
  ⟨(some 72), none, .mov (.t 73), none⟩]
def c3r12 : List O := [
  ⟨(some 74), none, .bin .eql (.t 71) (.k (.int .i64 1)), none⟩,
  ⟨(some 72), none, .mov (.t 74), none⟩]
def c3r13 : List O := [
  ⟨(some 75), none, .faddr 1 (.t 11), none⟩,
  ⟨(some 76), none, .load false 1 (.t 75), none⟩,
  ⟨(some 77), none, .bin .geq (.t 76) (.k (.int .i64 0)), none⟩,
  ⟨(some 78), none, .mov (.t 77), none⟩,
  ⟨(some 79), (some (78, true)), .faddr 1 (.t 11), none⟩,
  ⟨(some 80), (some (78, true)), .load false 1 (.t 79), none⟩,
  ⟨(some 81), (some (78, true)), .mov (.t 0), none⟩,
  ⟨(some 82), (some (78, true)), .bin .lss (.t 80) (.t 81), none⟩,
  ⟨(some 83), none, .pick (.t 78) (.t 82) (.k (.bool false)), none⟩,
  ⟨(some 84), none, .mov (.t 83), none⟩,
  ⟨(some 85), (some (84, true)), .faddr 3 (.t 11), none⟩,
  ⟨(some 86), (some (84, true)), .load false 1 (.t 85), none⟩,
  ⟨(some 87), (some (84, true)), .bin .gtr (.t 86) (.k (.int .u64 0)), none⟩,
  ⟨(some 88), none, .pick (.t 84) (.t 87) (.k (.bool false)), none⟩,
  ⟨(some 12), none, .mov (.t 88), none⟩]
def c3r14 : List O := [
  ⟨(some 89), none, .mov (.t 12), none⟩]
def c3r15 : List O := [
  ⟨(some 90), none, .mov (.t 9), none⟩,
  ⟨(some 91), none, .faddr 1 (.t 11), none⟩,
  ⟨(some 92), none, .load false 1 (.t 91), none⟩,
  ⟨(some 93), none, .faddr 2 (.t 11), none⟩,
  ⟨(some 94), none, .load false 1 (.t 93), none⟩,
  ⟨(some 95), none, .faddr 3 (.t 11), none⟩,
  ⟨(some 96), none, .load false 1 (.t 95), none⟩,
  ⟨(some 97), none, .build [.int .i64 0, .int .u64 0, .int .u64 0] [(0, 1, (.t 92)), (1, 1, (.t 94)), (2, 1, (.t 96))], none⟩,
  ⟨(some 98), none, .call 6 1 (.k (.func 14)) [(.t 90), (.t 97)], none⟩,
  ⟨(some 9), none, .mov (.t 98), none⟩]
def c3r16 : List O := [
  ⟨(some 99), none, .mov (.t 7), none⟩,
  ⟨(some 100), none, .faddr 1 (.t 11), none⟩,
  ⟨(some 101), none, .load false 1 (.t 100), none⟩,
  ⟨(some 102), none, .faddr 2 (.t 11), none⟩,
  ⟨(some 103), none, .load false 1 (.t 102), none⟩,
  ⟨(some 104), none, .faddr 3 (.t 11), none⟩,
  ⟨(some 105), none, .load false 1 (.t 104), none⟩,
  ⟨(some 106), none, .call 7 0 (.k (.func 15)) [(.t 99), (.t 101), (.t 103), (.t 105)], none⟩,
  ⟨(some 13), none, .mov (.t 106), none⟩]
def c3r17 : List O := [
  ⟨(some 107), none, .mov (.t 13), none⟩,
  ⟨(some 108), none, .bin .eql (.t 107) (.k (.int .i64 0)), none⟩,
  ⟨(some 109), none, .mov (.t 12), none⟩,
  ⟨(some 110), none, .bin .neb (.t 108) (.t 109), none⟩,
  ⟨(some 111), none, .mov (.t 110), none⟩,
  ⟨(some 112), (some (111, false)), .mov (.t 13), none⟩,
  ⟨(some 113), (some (111, false)), .bin .neq (.t 112) (.k (.int .i64 0)), none⟩,
  ⟨(some 114), (some (111, false)), .mov (.t 113), none⟩,
  ⟨(some 115), (some (114, true)), .mov (.t 13), none⟩,
  ⟨(some 116), (some (114, true)), .bin .neq (.t 115) (.k (.int .i64 1)), none⟩,
  ⟨(some 117), (some (111, false)), .pick (.t 114) (.t 116) (.k (.bool false)), none⟩,
  ⟨(some 118), none, .pick (.t 111) (.k (.bool true)) (.t 117), none⟩]
def c3r18 : List O := [
  ⟨(some 6), none, .mov (.k (.bool false)), none⟩]
def c3r19 : List O := [
  ⟨(some 120), none, .bin .eql (.t 71) (.k (.int .i64 2)), none⟩,
  ⟨(some 119), none, .mov (.t 120), none⟩]
def c3r20 : List O := [
  ⟨(some 122), none, .mov (.t 9), none⟩,
  ⟨(some 123), none, .faddr 1 (.t 11), none⟩,
  ⟨(some 124), none, .load false 1 (.t 123), none⟩,
  ⟨(some 125), none, .call 7 1 (.k (.func 16)) [(.t 122), (.t 124)], none⟩,
  ⟨(some 121), none, .mov (.t 125), none⟩,
  ⟨(some 126), none, .ext (.t 121) 0, none⟩,
  ⟨(some 127), none, .ext (.t 121) 1, none⟩,
  ⟨(some 14), none, .mov (.t 126), none⟩,
  ⟨(some 15), none, .mov (.t 127), none⟩]
def c3r21 : List O := [
  ⟨(some 128), none, .mov (.t 14), none⟩,
  ⟨(some 9), none, .mov (.t 128), none⟩]
def c3r22 : List O := [
  ⟨(some 129), none, .mov (.t 7), none⟩,
  ⟨(some 130), none, .faddr 1 (.t 11), none⟩,
  ⟨(some 131), none, .load false 1 (.t 130), none⟩,
  ⟨(some 132), none, .call 8 0 (.k (.func 17)) [(.t 129), (.t 131)], none⟩,
  ⟨(some 133), none, .mov (.t 15), none⟩,
  ⟨(some 134), none, .bin .neb (.t 132) (.t 133), none⟩]
def c3r23 : List O := [
  ⟨(some 6), none, .mov (.k (.bool false)), none⟩]
def c3r24 : List O := [
  ⟨(some 136), none, .bin .eql (.t 71) (.k (.int .i64 3)), none⟩,
  ⟨(some 135), none, .mov (.t 136), none⟩]
def c3r25 : List O := [
  ⟨(some 138), none, .mov (.t 9), none⟩,
  ⟨(some 139), none, .call 8 0 (.k (.func 18)) [(.t 138)], none⟩,
  ⟨(some 137), none, .mov (.t 139), none⟩,
  ⟨(some 140), none, .ext (.t 137) 0, none⟩,
  ⟨(some 141), none, .ext (.t 137) 1, none⟩,
  ⟨(some 16), none, .mov (.t 140), none⟩,
  ⟨(some 17), none, .mov (.t 141), none⟩]
def c3r26 : List O := [
  ⟨(some 142), none, .mov (.t 17), none⟩]
def c3r27 : List O := [
  ⟨(some 144), none, .mov (.t 9), none⟩,
  ⟨(some 145), none, .mov (.t 16), none⟩,
  ⟨(some 146), none, .call 8 1 (.k (.func 16)) [(.t 144), (.t 145)], none⟩,
  ⟨(some 143), none, .mov (.t 146), none⟩,
  ⟨(some 147), none, .ext (.t 143) 0, none⟩,
  ⟨(some 148), none, .ext (.t 143) 1, none⟩,
  ⟨(some 9), none, .mov (.t 147), none⟩]
def c3r28 : List O := [
  ⟨(some 150), none, .mov (.t 7), none⟩,
  ⟨(some 151), none, .call 9 0 (.k (.func 19)) [(.t 150)], none⟩,
  ⟨(some 149), none, .mov (.t 151), none⟩,
  ⟨(some 152), none, .ext (.t 149) 0, none⟩,
  ⟨(some 153), none, .ext (.t 149) 1, none⟩,
  ⟨(some 18), none, .mov (.t 152), none⟩,
  ⟨(some 19), none, .mov (.t 153), none⟩]
def c3r29 : List O := [
  ⟨(some 154), none, .mov (.t 18), none⟩,
  ⟨(some 155), none, .mov (.t 16), none⟩,
  ⟨(some 156), none, .bin .neq (.t 154) (.t 155), none⟩,
  ⟨(some 157), none, .mov (.t 156), none⟩,
  ⟨(some 158), (some (157, false)), .mov (.t 19), none⟩,
  ⟨(some 159), (some (157, false)), .mov (.t 17), none⟩,
  ⟨(some 160), (some (157, false)), .bin .neb (.t 158) (.t 159), none⟩,
  ⟨(some 161), none, .pick (.t 157) (.k (.bool true)) (.t 160), none⟩]
def c3r30 : List O := [
  ⟨(some 6), none, .mov (.k (.bool false)), none⟩]
def c3r31 : List O := [
  ⟨(some 163), none, .mov (.t 7), none⟩,
  ⟨(some 164), none, .call 9 0 (.k (.func 20)) [(.t 163)], none⟩,
  ⟨(some 162), none, .mov (.t 164), none⟩,
  ⟨(some 165), none, .ext (.t 162) 0, none⟩,
  ⟨(some 166), none, .ext (.t 162) 1, none⟩,
  ⟨(some 20), none, .mov (.t 165), none⟩,
  ⟨(some 21), none, .mov (.t 166), none⟩]
def c3r32 : List O := [
  ⟨(some 168), none, .mov (.t 9), none⟩,
  ⟨(some 169), none, .call 9 0 (.k (.func 18)) [(.t 168)], none⟩,
  ⟨(some 167), none, .mov (.t 169), none⟩,
  ⟨(some 170), none, .ext (.t 167) 0, none⟩,
  ⟨(some 171), none, .ext (.t 167) 1, none⟩,
  ⟨(some 22), none, .mov (.t 170), none⟩,
  ⟨(some 23), none, .mov (.t 171), none⟩]
def c3r33 : List O := [
  ⟨(some 173), none, .mov (.t 7), none⟩,
  ⟨(some 174), none, .mov (.t 2), none⟩,
  ⟨(some 175), none, .call 9 0 (.k (.func 21)) [(.t 173), (.t 174)], none⟩,
  ⟨(some 172), none, .mov (.t 175), none⟩,
  ⟨(some 176), none, .ext (.t 172) 0, none⟩,
  ⟨(some 177), none, .ext (.t 172) 1, none⟩,
  ⟨(some 178), none, .ext (.t 172) 2, none⟩,
  ⟨(some 24), none, .mov (.t 176), none⟩,
  ⟨(some 25), none, .mov (.t 177), none⟩,
  ⟨(some 26), none, .mov (.t 178), none⟩]
def c3r34 : List O := [
  ⟨(some 180), none, .mov (.t 9), none⟩,
  ⟨(some 181), none, .mov (.t 2), none⟩,
  ⟨(some 182), none, .call 9 0 (.k (.func 22)) [(.t 180), (.t 181)], none⟩,
  ⟨(some 179), none, .mov (.t 182), none⟩,
  ⟨(some 183), none, .ext (.t 179) 0, none⟩,
  ⟨(some 184), none, .ext (.t 179) 1, none⟩,
  ⟨(some 185), none, .ext (.t 179) 2, none⟩,
  ⟨(some 27), none, .mov (.t 183), none⟩,
  ⟨(some 28), none, .mov (.t 184), none⟩,
  ⟨(some 29), none, .mov (.t 185), none⟩]
def c3r35 : List O := [
  ⟨(some 186), none, .mov (.t 20), none⟩,
  ⟨(some 187), none, .mov (.t 22), none⟩,
  ⟨(some 188), none, .bin .neq (.t 186) (.t 187), none⟩,
  ⟨(some 189), none, .mov (.t 188), none⟩,
  ⟨(some 190), (some (189, false)), .mov (.t 21), none⟩,
  ⟨(some 191), (some (189, false)), .mov (.t 23), none⟩,
  ⟨(some 192), (some (189, false)), .bin .neb (.t 190) (.t 191), none⟩,
  ⟨(some 193), none, .pick (.t 189) (.k (.bool true)) (.t 192), none⟩,
  ⟨(some 194), none, .mov (.t 193), none⟩,
  ⟨(some 195), (some (194, false)), .mov (.t 7), none⟩,
  ⟨(some 196), (some (194, false)), .call 9 0 (.k (.func 23)) [(.t 195)], none⟩,
  ⟨(some 197), (some (194, false)), .mov (.t 9), none⟩,
  ⟨(some 198), (some (194, false)), .len (.t 197), none⟩,
  ⟨(some 199), (some (194, false)), .bin .neq (.t 196) (.t 198), none⟩,
  ⟨(some 200), none, .pick (.t 194) (.k (.bool true)) (.t 199), none⟩,
  ⟨(some 201), none, .mov (.t 200), none⟩,
  ⟨(some 202), (some (201, false)), .mov (.t 24), none⟩,
  ⟨(some 203), (some (201, false)), .mov (.t 27), none⟩,
  ⟨(some 204), (some (201, false)), .bin .neq (.t 202) (.t 203), none⟩,
  ⟨(some 205), none, .pick (.t 201) (.k (.bool true)) (.t 204), none⟩,
  ⟨(some 206), none, .mov (.t 205), none⟩,
  ⟨(some 207), (some (206, false)), .mov (.t 25), none⟩,
  ⟨(some 208), (some (206, false)), .mov (.t 28), none⟩,
  ⟨(some 209), (some (206, false)), .bin .neq (.t 207) (.t 208), none⟩,
  ⟨(some 210), none, .pick (.t 206) (.k (.bool true)) (.t 209), none⟩,
  ⟨(some 211), none, .mov (.t 210), none⟩,
  ⟨(some 212), (some (211, false)), .mov (.t 26), none⟩,
  ⟨(some 213), (some (211, false)), .mov (.t 29), none⟩,
  ⟨(some 214), (some (211, false)), .bin .neb (.t 212) (.t 213), none⟩,
  ⟨(some 215), none, .pick (.t 211) (.k (.bool true)) (.t 214), none⟩]
def c3r36 : List O := [
  ⟨(some 6), none, .mov (.k (.bool false)), none⟩]
def c3r37 : List O := [
  ⟨(some 64), none, .mov (.t 10), none⟩,
  ⟨(some 65), none, .bin .add (.t 64) (.k (.int .i64 1)), none⟩,
  ⟨(some 10), none, .mov (.t 65), none⟩]
def c3l0 : AC := (.seq (.seq (.region c3r8) (.keep [0, 1, 2, 7, 9, 10, 63] (.cond (.t 63) .skip (.exit 0)))) (.keep [0, 1, 2, 7, 9, 10] (.seq (.block 1 (.seq (.region c3r9) (.keep [0, 1, 2, 7, 9, 10, 11] (.seq (.seq (.region c3r10) (.keep [0, 1, 2, 7, 9, 10, 11, 71] (.block 2 (.seq (.seq (.region c3r11) (.keep [0, 1, 2, 7, 9, 10, 11, 71, 72] (.cond (.t 72) .skip (.region c3r12)))) (.keep [0, 1, 2, 7, 9, 10, 11, 71, 72] (.cond (.t 72) (.seq (.region c3r13) (.keep [0, 1, 2, 7, 9, 10, 11, 12] (.seq (.seq (.region c3r14) (.keep [0, 1, 2, 7, 9, 10, 11, 12, 89] (.cond (.t 89) (.region c3r15) .skip))) (.keep [0, 1, 2, 7, 9, 10, 11, 12] (.seq (.region c3r16) (.keep [0, 1, 2, 7, 9, 10, 12, 13] (.seq (.region c3r17) (.keep [0, 1, 2, 7, 9, 10, 118] (.cond (.t 118) (.seq (.region c3r18) .ret) .skip))))))))) (.seq (.region c3r19) (.keep [0, 1, 2, 7, 9, 10, 11, 71, 119] (.cond (.t 119) (.seq (.region c3r20) (.keep [0, 1, 2, 7, 10, 11, 14, 15] (.seq (.region c3r21) (.keep [0, 1, 2, 7, 9, 10, 11, 15] (.seq (.region c3r22) (.keep [0, 1, 2, 7, 9, 10, 134] (.cond (.t 134) (.seq (.region c3r23) .ret) .skip))))))) (.seq (.region c3r24) (.keep [0, 1, 2, 7, 9, 10, 135] (.cond (.t 135) (.seq (.region c3r25) (.keep [0, 1, 2, 7, 9, 10, 16, 17] (.seq (.seq (.region c3r26) (.keep [0, 1, 2, 7, 9, 10, 16, 17, 142] (.cond (.t 142) (.region c3r27) .skip))) (.keep [0, 1, 2, 7, 9, 10, 16, 17] (.seq (.region c3r28) (.keep [0, 1, 2, 7, 9, 10, 16, 17, 18, 19] (.seq (.region c3r29) (.keep [0, 1, 2, 7, 9, 10, 161] (.cond (.t 161) (.seq (.region c3r30) .ret) .skip))))))))) .skip)))))))))))) (.keep [0, 1, 2, 7, 9, 10] (.seq (.region c3r31) (.keep [0, 1, 2, 7, 9, 10, 20, 21] (.seq (.region c3r32) (.keep [0, 1, 2, 7, 9, 10, 20, 21, 22, 23] (.seq (.region c3r33) (.keep [0, 1, 2, 7, 9, 10, 20, 21, 22, 23, 24, 25, 26] (.seq (.region c3r34) (.keep [0, 1, 2, 7, 9, 10, 20, 21, 22, 23, 24, 25, 26, 27, 28, 29] (.seq (.region c3r35) (.keep [0, 1, 2, 7, 9, 10, 215] (.cond (.t 215) (.seq (.region c3r36) .ret) .skip)))))))))))))))) (.keep [0, 1, 2, 7, 9, 10] (.region c3r37)))))
def c3l0a : Ann := ⟨[0, 1, 2, 7, 9, 10], [6], [(7, (some 2), 1, 4)], true⟩
def c3r38 : List O := [
  ⟨(some 216), none, .call 9 0 (.k (.func 13)) [], none⟩,
  ⟨(some 6), none, .mov (.t 216), none⟩]
def c3 : AF := ⟨217, 9, [.tmp 6], (.keep [0, 1, 2] (.seq (.region c3r0) (.keep [0, 1, 2] (.seq (.region c3r1) (.keep [0, 1, 2, 7, 8] (.seq (.seq (.region c3r2) (.keep [0, 1, 2, 7, 8, 40] (.cond (.t 40) (.seq (.region c3r3) .ret) .skip))) (.keep [0, 1, 2, 7, 8] (.seq (.seq (.region c3r4) (.keep [0, 1, 2, 7, 55] (.cond (.t 55) (.seq (.region c3r5) .ret) .skip))) (.keep [0, 1, 2, 7] (.seq (.region c3r6) (.keep [0, 1, 2, 7, 9] (.seq (.seq (.region c3r7) (.keep [0, 1, 2, 7, 9, 10] (.block 0 (.loop c3l0a c3l0)))) (.keep [] (.seq (.region c3r38) .ret))))))))))))))⟩
theorem ok3 : okF Try.prog 3 c3 = true := by kernel_rfl

/-! dogwatch/dogwatchlaw06.HeapSorts -/
def c4r0 : List O := [
  ⟨(some 2), none, .mov (.k (.bool false)), none⟩]
def c4r1 : List O := [
  ⟨(some 23), none, .call 0 4 (.k (.func 12)) [(.k (.int .i64 64))], none⟩,
  ⟨(some 22), none, .mov (.t 23), none⟩,
  ⟨(some 24), none, .ext (.t 22) 0, none⟩,
  ⟨(some 25), none, .ext (.t 22) 1, none⟩,
  ⟨(some 3), none, .mov (.t 24), none⟩,
  ⟨(some 4), none, .mov (.t 25), none⟩]
def c4r2 : List O := [
  ⟨(some 26), none, .mov (.t 4), none⟩,
  ⟨(some 27), none, .bin .neq (.t 26) (.k (.int .i64 0)), none⟩,
  ⟨(some 28), none, .mov (.t 27), none⟩,
  ⟨(some 29), (some (28, false)), .mov (.t 3), none⟩,
  ⟨(some 30), (some (28, false)), .bin .eqp (.t 29) (.k (.nilptr)), none⟩,
  ⟨(some 31), none, .pick (.t 28) (.k (.bool true)) (.t 30), none⟩]
def c4r3 : List O := [
  ⟨(some 2), none, .mov (.k (.bool false)), none⟩]
def c4r4 : List O := [
  ⟨(some 5), none, .mov (.k (.int .i64 0)), none⟩]
def c4r5 : List O := [
  ⟨(some 32), none, .mov (.t 5), none⟩,
  ⟨(some 33), none, .mov (.t 0), none⟩,
  ⟨(some 34), none, .len (.t 33), none⟩,
  ⟨(some 35), none, .bin .lss (.t 32) (.t 34), none⟩,
  ⟨(some 36), none, .mov (.t 35), none⟩,
  ⟨(some 37), (some (36, true)), .mov (.t 5), none⟩,
  ⟨(some 38), (some (36, true)), .bin .lss (.t 37) (.k (.int .i64 200)), none⟩,
  ⟨(some 39), none, .pick (.t 36) (.t 38) (.k (.bool false)), none⟩]
def c4r6 : List O := [
  ⟨(some 42), none, .mov (.t 3), (some (.only [], .only []))⟩,
  ⟨(some 43), none, .mov (.t 0), (some (.only [], .only []))⟩,
  ⟨(some 44), none, .mov (.t 5), (some (.only [], .only []))⟩,
  ⟨(some 45), none, .ixs 4 (.t 43) (.t 44), (some (.only [], .only []))⟩,
  ⟨(some 46), none, .faddr 1 (.t 45), (some (.only [], .only []))⟩,
  ⟨(some 47), none, .load false 1 (.t 46), (some (.but [], .only []))⟩,
  ⟨(some 48), none, .mov (.t 0), (some (.only [], .only []))⟩,
  ⟨(some 49), none, .mov (.t 5), (some (.only [], .only []))⟩,
  ⟨(some 50), none, .ixs 4 (.t 48) (.t 49), (some (.only [], .only []))⟩,
  ⟨(some 51), none, .faddr 2 (.t 50), (some (.only [], .only []))⟩,
  ⟨(some 52), none, .load false 1 (.t 51), (some (.but [], .only []))⟩,
  ⟨(some 53), none, .mov (.t 0), (some (.only [], .only []))⟩,
  ⟨(some 54), none, .mov (.t 5), (some (.only [], .only []))⟩,
  ⟨(some 55), none, .ixs 4 (.t 53) (.t 54), (some (.only [], .only []))⟩,
  ⟨(some 56), none, .faddr 3 (.t 55), (some (.only [], .only []))⟩,
  ⟨(some 57), none, .load false 1 (.t 56), (some (.but [], .only []))⟩,
  ⟨(some 58), none, .call 5 0 (.k (.func 15)) [(.t 42), (.t 47), (.t 52), (.t 57)], (some (.but [], .but []))⟩]
def c4r7 : List O := [
  ⟨(some 40), none, .mov (.t 5), none⟩,
  ⟨(some 41), none, .bin .add (.t 40) (.k (.int .i64 1)), none⟩,
  ⟨(some 5), none, .mov (.t 41), none⟩]
def c4l0 : AC := (.seq (.seq (.region c4r5) (.keep [0, 3, 5, 39] (.cond (.t 39) .skip (.exit 0)))) (.keep [0, 3, 5] (.seq (.block 1 (.region c4r6)) (.keep [0, 3, 5] (.region c4r7)))))
def c4l0a : Ann := ⟨[0, 3, 5], [3], [(3, (some 2), 1, 4)], false⟩
def c4r8 : List O := [
  ⟨(some 59), none, .mov (.t 3), none⟩,
  ⟨(some 60), none, .call 5 0 (.k (.func 23)) [(.t 59)], none⟩,
  ⟨(some 6), none, .mov (.t 60), none⟩]
def c4r9 : List O := [
  ⟨(some 61), none, .mkmap 5, none⟩,
  ⟨(some 7), none, .mov (.t 61), none⟩]
def c4r10 : List O := [
  ⟨(some 8), none, .mov (.k (.int .i64 0)), none⟩,
  ⟨(some 9), none, .mov (.k (.int .u64 0)), none⟩,
  ⟨(some 10), none, .mov (.k (.int .u64 1)), none⟩]
def c4r11 : List O := [
  ⟨(some 11), none, .mov (.k (.int .i64 0)), none⟩]
def c4r12 : List O := [
  ⟨(some 62), none, .mov (.t 11), none⟩,
  ⟨(some 63), none, .mov (.t 6), none⟩,
  ⟨(some 64), none, .bin .lss (.t 62) (.t 63), none⟩]
def c4r13 : List O := [
  ⟨(some 68), none, .mov (.t 3), none⟩,
  ⟨(some 69), none, .call 7 0 (.k (.func 20)) [(.t 68)], none⟩,
  ⟨(some 67), none, .mov (.t 69), none⟩,
  ⟨(some 70), none, .ext (.t 67) 0, none⟩,
  ⟨(some 71), none, .ext (.t 67) 1, none⟩,
  ⟨(some 12), none, .mov (.t 70), none⟩,
  ⟨(some 13), none, .mov (.t 71), none⟩]
def c4r14 : List O := [
  ⟨(some 73), none, .mov (.t 3), none⟩,
  ⟨(some 74), none, .mov (.t 12), none⟩,
  ⟨(some 75), none, .call 7 0 (.k (.func 21)) [(.t 73), (.t 74)], none⟩,
  ⟨(some 72), none, .mov (.t 75), none⟩,
  ⟨(some 76), none, .ext (.t 72) 0, none⟩,
  ⟨(some 77), none, .ext (.t 72) 1, none⟩,
  ⟨(some 78), none, .ext (.t 72) 2, none⟩,
  ⟨(some 14), none, .mov (.t 76), none⟩,
  ⟨(some 15), none, .mov (.t 77), none⟩,
  ⟨(some 16), none, .mov (.t 78), none⟩]
def c4r15 : List O := [
  ⟨(some 80), none, .mov (.t 3), none⟩,
  ⟨(some 81), none, .call 7 0 (.k (.func 19)) [(.t 80)], none⟩,
  ⟨(some 79), none, .mov (.t 81), none⟩,
  ⟨(some 82), none, .ext (.t 79) 0, none⟩,
  ⟨(some 83), none, .ext (.t 79) 1, none⟩,
  ⟨(some 17), none, .mov (.t 82), none⟩,
  ⟨(some 18), none, .mov (.t 83), none⟩]
def c4r16 : List O := [
  ⟨(some 84), none, .mov (.t 13), none⟩,
  ⟨(some 85), none, .un .not (.t 84), none⟩,
  ⟨(some 86), none, .mov (.t 85), none⟩,
  ⟨(some 87), (some (86, false)), .mov (.t 16), none⟩,
  ⟨(some 88), (some (86, false)), .un .not (.t 87), none⟩,
  ⟨(some 89), none, .pick (.t 86) (.k (.bool true)) (.t 88), none⟩,
  ⟨(some 90), none, .mov (.t 89), none⟩,
  ⟨(some 91), (some (90, false)), .mov (.t 17), none⟩,
  ⟨(some 92), (some (90, false)), .mov (.t 12), none⟩,
  ⟨(some 93), (some (90, false)), .bin .neq (.t 91) (.t 92), none⟩,
  ⟨(some 94), none, .pick (.t 90) (.k (.bool true)) (.t 93), none⟩,
  ⟨(some 95), none, .mov (.t 94), none⟩,
  ⟨(some 96), (some (95, false)), .mov (.t 18), none⟩,
  ⟨(some 97), (some (95, false)), .un .not (.t 96), none⟩,
  ⟨(some 98), none, .pick (.t 95) (.k (.bool true)) (.t 97), none⟩,
  ⟨(some 99), none, .mov (.t 98), none⟩,
  ⟨(some 100), (some (99, false)), .mov (.t 7), none⟩,
  ⟨(some 101), (some (99, false)), .mov (.t 12), none⟩,
  ⟨(some 102), (some (99, false)), .look false false [.bool false] (.t 100) (.t 101), none⟩,
  ⟨(some 103), none, .pick (.t 99) (.k (.bool true)) (.t 102), none⟩]
def c4r17 : List O := [
  ⟨(some 2), none, .mov (.k (.bool false)), none⟩]
def c4r18 : List O := [
  ⟨(some 104), none, .mov (.t 9), none⟩,
  ⟨(some 105), none, .mov (.t 10), none⟩,
  ⟨(some 106), none, .mov (.t 14), none⟩,
  ⟨(some 107), none, .mov (.t 15), none⟩,
  ⟨(some 108), none, .call 7 0 (.k (.func 24)) [(.t 104), (.t 105), (.t 106), (.t 107)], none⟩,
  ⟨(some 19), none, .mov (.t 108), none⟩]
def c4r19 : List O := [
  ⟨(some 109), none, .mov (.t 11), none⟩,
  ⟨(some 110), none, .bin .gtr (.t 109) (.k (.int .i64 0)), none⟩,
  ⟨(some 111), none, .mov (.t 110), none⟩,
  ⟨(some 112), (some (111, true)), .mov (.t 19), none⟩,
  ⟨(some 113), (some (111, true)), .bin .gtr (.t 112) (.k (.int .i64 0)), none⟩,
  ⟨(some 114), (some (111, true)), .mov (.t 113), none⟩,
  ⟨(some 115), (some (114, false)), .mov (.t 19), none⟩,
  ⟨(some 116), (some (114, false)), .bin .eql (.t 115) (.k (.int .i64 0)), none⟩,
  ⟨(some 117), (some (114, false)), .mov (.t 116), none⟩,
  ⟨(some 118), (some (117, true)), .mov (.t 8), none⟩,
  ⟨(some 119), (some (117, true)), .mov (.t 12), none⟩,
  ⟨(some 120), (some (117, true)), .bin .geq (.t 118) (.t 119), none⟩,
  ⟨(some 121), (some (114, false)), .pick (.t 117) (.t 120) (.k (.bool false)), none⟩,
  ⟨(some 122), (some (111, true)), .pick (.t 114) (.k (.bool true)) (.t 121), none⟩,
  ⟨(some 123), none, .pick (.t 111) (.t 122) (.k (.bool false)), none⟩]
def c4r20 : List O := [
  ⟨(some 2), none, .mov (.k (.bool false)), none⟩]
def c4r21 : List O := [
  ⟨(some 124), none, .mov (.t 7), none⟩,
  ⟨(some 125), none, .mov (.t 12), none⟩,
  ⟨none, none, .upd (.t 124) (.t 125) (.k (.bool true)), none⟩]
def c4r22 : List O := [
  ⟨(some 126), none, .mov (.t 12), none⟩,
  ⟨(some 127), none, .mov (.t 14), none⟩,
  ⟨(some 128), none, .mov (.t 15), none⟩,
  ⟨(some 8), none, .mov (.t 126), none⟩,
  ⟨(some 9), none, .mov (.t 127), none⟩,
  ⟨(some 10), none, .mov (.t 128), none⟩]
def c4r23 : List O := [
  ⟨(some 65), none, .mov (.t 11), none⟩,
  ⟨(some 66), none, .bin .add (.t 65) (.k (.int .i64 1)), none⟩,
  ⟨(some 11), none, .mov (.t 66), none⟩]
def c4l1 : AC := (.seq (.seq (.region c4r12) (.keep [3, 6, 7, 8, 9, 10, 11, 64] (.cond (.t 64) .skip (.exit 2)))) (.keep [3, 6, 7, 8, 9, 10, 11] (.seq (.block 3 (.seq (.region c4r13) (.keep [3, 6, 7, 8, 9, 10, 11, 12, 13] (.seq (.region c4r14) (.keep [3, 6, 7, 8, 9, 10, 11, 12, 13, 14, 15, 16] (.seq (.region c4r15) (.keep [3, 6, 7, 8, 9, 10, 11, 12, 13, 14, 15, 16, 17, 18] (.seq (.seq (.region c4r16) (.keep [3, 6, 7, 8, 9, 10, 11, 12, 14, 15, 103] (.cond (.t 103) (.seq (.region c4r17) .ret) .skip))) (.keep [3, 6, 7, 8, 9, 10, 11, 12, 14, 15] (.seq (.seq (.region c4r18) (.keep [3, 6, 7, 8, 11, 12, 14, 15, 19] (.seq (.region c4r19) (.keep [3, 6, 7, 11, 12, 14, 15, 123] (.cond (.t 123) (.seq (.region c4r20) .ret) .skip))))) (.keep [3, 6, 7, 11, 12, 14, 15] (.seq (.region c4r21) (.keep [3, 6, 7, 11, 12, 14, 15] (.region c4r22)))))))))))))) (.keep [3, 6, 7, 8, 9, 10, 11] (.region c4r23)))))
def c4l1a : Ann := ⟨[3, 6, 7, 8, 9, 10, 11], [2, 3], [(3, (some 2), 1, 6)], false⟩
def c4r24 : List O := [
  ⟨(some 130), none, .mov (.t 3), none⟩,
  ⟨(some 131), none, .call 7 1 (.k (.func 19)) [(.t 130)], none⟩,
  ⟨(some 129), none, .mov (.t 131), none⟩,
  ⟨(some 132), none, .ext (.t 129) 0, none⟩,
  ⟨(some 133), none, .ext (.t 129) 1, none⟩,
  ⟨(some 20), none, .mov (.t 132), none⟩,
  ⟨(some 21), none, .mov (.t 133), none⟩]
def c4r25 : List O := [
  ⟨(some 134), none, .mov (.t 21), none⟩,
  ⟨(some 135), none, .un .not (.t 134), none⟩,
  ⟨(some 136), none, .mov (.t 135), none⟩,
  ⟨(some 137), (some (136, true)), .mov (.t 3), none⟩,
  ⟨(some 138), (some (136, true)), .call 7 0 (.k (.func 23)) [(.t 137)], none⟩,
  ⟨(some 139), (some (136, true)), .bin .eql (.t 138) (.k (.int .i64 0)), none⟩,
  ⟨(some 140), none, .pick (.t 136) (.t 139) (.k (.bool false)), none⟩,
  ⟨(some 141), none, .mov (.t 140), none⟩,
  ⟨(some 142), (some (141, true)), .call 7 0 (.k (.func 13)) [], none⟩,
  ⟨(some 143), none, .pick (.t 141) (.t 142) (.k (.bool false)), none⟩,
  ⟨(some 2), none, .mov (.t 143), none⟩]
def c4 : AF := ⟨144, 7, [.tmp 2], (.keep [0] (.seq (.region c4r0) (.keep [0] (.seq (.region c4r1) (.keep [0, 3, 4] (.seq (.seq (.region c4r2) (.keep [0, 3, 31] (.cond (.t 31) (.seq (.region c4r3) .ret) .skip))) (.keep [0, 3] (.seq (.seq (.region c4r4) (.keep [0, 3, 5] (.block 0 (.loop c4l0a c4l0)))) (.keep [3] (.seq (.region c4r8) (.keep [3, 6] (.seq (.region c4r9) (.keep [3, 6, 7] (.seq (.region c4r10) (.keep [3, 6, 7, 8, 9, 10] (.seq (.seq (.region c4r11) (.keep [3, 6, 7, 8, 9, 10, 11] (.block 2 (.loop c4l1a c4l1)))) (.keep [3] (.seq (.region c4r24) (.keep [3, 21] (.seq (.region c4r25) .ret))))))))))))))))))))⟩
theorem ok4 : okF Try.prog 4 c4 = true := by kernel_rfl

/-! dogwatch/heap.New -/
def c12r0 : List O := [
  ⟨(some 2), none, .mov (.k (.nilptr)), none⟩,
  ⟨(some 3), none, .mov (.k (.int .i64 0)), none⟩]
def c12r1 : List O := [
  ⟨(some 4), none, .mov (.t 0), none⟩,
  ⟨(some 5), none, .bin .lss (.t 4) (.k (.int .i64 1)), none⟩,
  ⟨(some 6), none, .mov (.t 5), none⟩,
  ⟨(some 7), (some (6, false)), .mov (.t 0), none⟩,
  ⟨(some 8), (some (6, false)), .bin .gtr (.t 7) (.k (.int .i64 1024)), none⟩,
  ⟨(some 9), none, .pick (.t 6) (.k (.bool true)) (.t 8), none⟩]
def c12r2 : List O := [
  ⟨(some 2), none, .mov (.k (.nilptr)), none⟩,
  ⟨(some 3), none, .mov (.k (.int .i64 1)), none⟩]
def c12r3 : List O := [
  ⟨(some 10), none, .mov (.t 0), (some (.only [], .only []))⟩,
  ⟨(some 11), none, .mksl 0 2 [.int .u64 0, .int .u64 0] (.t 10) (.t 10), (some (.only [0], .only [0]))⟩,
  ⟨(some 12), none, .mov (.t 0), (some (.only [], .only []))⟩,
  ⟨(some 13), none, .mksl 1 1 [.int .i64 0] (.t 12) (.t 12), (some (.only [1], .only [1]))⟩,
  ⟨(some 14), none, .build [.nilsl, .nilsl, .nilsl] [(0, 1, (.t 11)), (1, 1, (.t 13))], (some (.only [], .only []))⟩,
  ⟨(some 15), none, .box 2 3 (.t 14), (some (.but [], .but []))⟩,
  ⟨(some 2), none, .mov (.t 15), (some (.only [], .only []))⟩,
  ⟨(some 3), none, .mov (.k (.int .i64 0)), (some (.only [], .only []))⟩]
def c12 : AF := ⟨16, 3, [.tmp 2, .tmp 3], (.keep [0] (.seq (.region c12r0) (.keep [0] (.seq (.seq (.region c12r1) (.keep [0, 9] (.cond (.t 9) (.seq (.region c12r2) .ret) .skip))) (.keep [0] (.seq (.region c12r3) .ret))))))⟩
theorem ok12 : okF Try.prog 12 c12 = true := by kernel_rfl

/-! dogwatch/dogwatchlaw06.awake -/
def c13r0 : List O := [
  ⟨(some 0), none, .mov (.k (.bool false)), none⟩]
def c13r1 : List O := [
  ⟨(some 13), none, .call 0 4 (.k (.func 12)) [(.k (.int .i64 4))], none⟩,
  ⟨(some 12), none, .mov (.t 13), none⟩,
  ⟨(some 14), none, .ext (.t 12) 0, none⟩,
  ⟨(some 15), none, .ext (.t 12) 1, none⟩,
  ⟨(some 1), none, .mov (.t 14), none⟩,
  ⟨(some 2), none, .mov (.t 15), none⟩]
def c13r2 : List O := [
  ⟨(some 16), none, .mov (.t 2), none⟩,
  ⟨(some 17), none, .bin .neq (.t 16) (.k (.int .i64 0)), none⟩,
  ⟨(some 18), none, .mov (.t 17), none⟩,
  ⟨(some 19), (some (18, false)), .mov (.t 1), none⟩,
  ⟨(some 20), (some (18, false)), .bin .eqp (.t 19) (.k (.nilptr)), none⟩,
  ⟨(some 21), none, .pick (.t 18) (.k (.bool true)) (.t 20), none⟩]
def c13r3 : List O := [
  ⟨(some 0), none, .mov (.k (.bool false)), none⟩]
def c13r4 : List O := [
  ⟨(some 22), none, .mov (.t 1), none⟩,
  ⟨(some 23), none, .call 4 1 (.k (.func 15)) [(.t 22), (.k (.int .i64 3)), (.k (.int .u64 1)), (.k (.int .u64 2))], none⟩,
  ⟨(some 24), none, .mov (.t 1), none⟩,
  ⟨(some 25), none, .call 4 1 (.k (.func 15)) [(.t 24), (.k (.int .i64 1)), (.k (.int .u64 2)), (.k (.int .u64 4))], none⟩,
  ⟨(some 26), none, .mov (.t 1), none⟩,
  ⟨(some 27), none, .call 4 1 (.k (.func 15)) [(.t 26), (.k (.int .i64 2)), (.k (.int .u64 3)), (.k (.int .u64 4))], none⟩,
  ⟨(some 3), none, .mov (.t 23), none⟩,
  ⟨(some 4), none, .mov (.t 25), none⟩,
  ⟨(some 5), none, .mov (.t 27), none⟩]
def c13r5 : List O := [
  ⟨(some 29), none, .mov (.t 1), none⟩,
  ⟨(some 30), none, .call 4 1 (.k (.func 19)) [(.t 29)], none⟩,
  ⟨(some 28), none, .mov (.t 30), none⟩,
  ⟨(some 31), none, .ext (.t 28) 0, none⟩,
  ⟨(some 32), none, .ext (.t 28) 1, none⟩,
  ⟨(some 6), none, .mov (.t 31), none⟩,
  ⟨(some 7), none, .mov (.t 32), none⟩]
def c13r6 : List O := [
  ⟨(some 34), none, .mov (.t 1), none⟩,
  ⟨(some 35), none, .call 4 1 (.k (.func 19)) [(.t 34)], none⟩,
  ⟨(some 33), none, .mov (.t 35), none⟩,
  ⟨(some 36), none, .ext (.t 33) 0, none⟩,
  ⟨(some 37), none, .ext (.t 33) 1, none⟩,
  ⟨(some 8), none, .mov (.t 36), none⟩,
  ⟨(some 9), none, .mov (.t 37), none⟩]
def c13r7 : List O := [
  ⟨(some 39), none, .mov (.t 1), none⟩,
  ⟨(some 40), none, .call 4 1 (.k (.func 19)) [(.t 39)], none⟩,
  ⟨(some 38), none, .mov (.t 40), none⟩,
  ⟨(some 41), none, .ext (.t 38) 0, none⟩,
  ⟨(some 42), none, .ext (.t 38) 1, none⟩,
  ⟨(some 10), none, .mov (.t 41), none⟩,
  ⟨(some 11), none, .mov (.t 42), none⟩]
def c13r8 : List O := [
  ⟨(some 43), none, .mov (.t 3), none⟩,
  ⟨(some 44), none, .bin .eql (.t 43) (.k (.int .i64 0)), none⟩,
  ⟨(some 45), none, .mov (.t 44), none⟩,
  ⟨(some 46), (some (45, true)), .mov (.t 4), none⟩,
  ⟨(some 47), (some (45, true)), .bin .eql (.t 46) (.k (.int .i64 0)), none⟩,
  ⟨(some 48), none, .pick (.t 45) (.t 47) (.k (.bool false)), none⟩,
  ⟨(some 49), none, .mov (.t 48), none⟩,
  ⟨(some 50), (some (49, true)), .mov (.t 5), none⟩,
  ⟨(some 51), (some (49, true)), .bin .eql (.t 50) (.k (.int .i64 0)), none⟩,
  ⟨(some 52), none, .pick (.t 49) (.t 51) (.k (.bool false)), none⟩,
  ⟨(some 53), none, .mov (.t 52), none⟩,
  ⟨(some 54), (some (53, true)), .mov (.t 6), none⟩,
  ⟨(some 55), (some (53, true)), .bin .eql (.t 54) (.k (.int .i64 1)), none⟩,
  ⟨(some 56), none, .pick (.t 53) (.t 55) (.k (.bool false)), none⟩,
  ⟨(some 57), none, .mov (.t 56), none⟩,
  ⟨(some 58), (some (57, true)), .mov (.t 8), none⟩,
  ⟨(some 59), (some (57, true)), .bin .eql (.t 58) (.k (.int .i64 3)), none⟩,
  ⟨(some 60), none, .pick (.t 57) (.t 59) (.k (.bool false)), none⟩,
  ⟨(some 61), none, .mov (.t 60), none⟩,
  ⟨(some 62), (some (61, true)), .mov (.t 10), none⟩,
  ⟨(some 63), (some (61, true)), .bin .eql (.t 62) (.k (.int .i64 2)), none⟩,
  ⟨(some 64), none, .pick (.t 61) (.t 63) (.k (.bool false)), none⟩,
  ⟨(some 65), none, .mov (.t 64), none⟩,
  ⟨(some 66), (some (65, true)), .mov (.t 11), none⟩,
  ⟨(some 67), none, .pick (.t 65) (.t 66) (.k (.bool false)), none⟩,
  ⟨(some 68), none, .mov (.t 67), none⟩,
  ⟨(some 69), (some (68, true)), .mov (.t 1), none⟩,
  ⟨(some 70), (some (68, true)), .call 4 0 (.k (.func 23)) [(.t 69)], none⟩,
  ⟨(some 71), (some (68, true)), .bin .eql (.t 70) (.k (.int .i64 0)), none⟩,
  ⟨(some 72), none, .pick (.t 68) (.t 71) (.k (.bool false)), none⟩,
  ⟨(some 0), none, .mov (.t 72), none⟩]
def c13 : AF := ⟨73, 4, [.tmp 0], (.keep [] (.seq (.region c13r0) (.keep [] (.seq (.region c13r1) (.keep [1, 2] (.seq (.seq (.region c13r2) (.keep [1, 21] (.cond (.t 21) (.seq (.region c13r3) .ret) .skip))) (.keep [1] (.seq (.region c13r4) (.keep [1, 3, 4, 5] (.seq (.region c13r5) (.keep [1, 3, 4, 5, 6] (.seq (.region c13r6) (.keep [1, 3, 4, 5, 6, 8] (.seq (.region c13r7) (.keep [1, 3, 4, 5, 6, 8, 10, 11] (.seq (.region c13r8) .ret))))))))))))))))⟩
theorem ok13 : okF Try.prog 13 c13 = true := by kernel_rfl

/-! dogwatch/dogwatchref06.Put -/
def c14r0 : List O := [
  ⟨(some 3), none, .box 0 3 (.t 1), none⟩,
  ⟨(some 4), none, .mov (.k (.nilsl)), none⟩]
def c14r1 : List O := [
  ⟨(some 8), none, .mov (.t 0), none⟩,
  ⟨(some 9), none, .faddr 0 (.t 3), none⟩,
  ⟨(some 10), none, .load false 1 (.t 9), none⟩,
  ⟨(some 11), none, .call 1 1 (.k (.func 16)) [(.t 8), (.t 10)], none⟩,
  ⟨(some 7), none, .mov (.t 11), none⟩,
  ⟨(some 12), none, .ext (.t 7) 0, none⟩,
  ⟨(some 13), none, .ext (.t 7) 1, none⟩,
  ⟨(some 5), none, .mov (.t 12), none⟩,
  ⟨(some 6), none, .mov (.t 13), none⟩]
def c14r2 : List O := [
  ⟨(some 14), none, .mov (.t 5), none⟩,
  ⟨(some 15), none, .load true 3 (.t 3), none⟩,
  ⟨(some 16), none, .buildSl 2 3 [.int .i64 0, .int .u64 0, .int .u64 0] 1 [(0, (.t 15))], none⟩,
  ⟨(some 17), none, .app 3 3 (.t 14) (.t 16), none⟩,
  ⟨(some 4), none, .mov (.t 17), none⟩]
def c14 : AF := ⟨18, 4, [.tmp 4], (.keep [0, 1] (.seq (.region c14r0) (.keep [0, 3] (.seq (.region c14r1) (.keep [3, 5] (.seq (.region c14r2) .ret))))))⟩
theorem ok14 : okF Try.prog 14 c14 = true := by kernel_rfl

/-! (*dogwatch/heap.Heap).Put -/
def c15r0 : List O := [
  ⟨(some 8), none, .mov (.k (.int .i64 0)), none⟩]
def c15r1 : List O := [
  ⟨(some 11), none, .mov (.t 0), none⟩,
  ⟨(some 12), none, .bin .eqp (.t 11) (.k (.nilptr)), none⟩,
  ⟨(some 13), none, .mov (.t 12), none⟩,
  ⟨(some 14), (some (13, false)), .mov (.t 0), none⟩,
  ⟨(some 15), (some (13, false)), .nilck (.t 14), none⟩,
  ⟨(some 16), (some (13, false)), .faddr 0 (.t 15), none⟩,
  ⟨(some 17), (some (13, false)), .load false 1 (.t 16), none⟩,
  ⟨(some 18), (some (13, false)), .len (.t 17), none⟩,
  ⟨(some 19), (some (13, false)), .bin .eql (.t 18) (.k (.int .i64 0)), none⟩,
  ⟨(some 20), none, .pick (.t 13) (.k (.bool true)) (.t 19), none⟩,
  ⟨(some 10), none, .mov (.t 20), none⟩]
def c15r2 : List O := [
  ⟨(some 8), none, .mov (.k (.int .i64 2)), none⟩]
def c15r3 : List O := [
  ⟨(some 22), none, .mov (.t 1), none⟩,
  ⟨(some 23), none, .bin .lss (.t 22) (.k (.int .i64 0)), none⟩,
  ⟨(some 24), none, .mov (.t 23), none⟩,
  ⟨(some 25), (some (24, false)), .mov (.t 1), none⟩,
  ⟨(some 26), (some (24, false)), .mov (.t 0), none⟩,
  ⟨(some 27), (some (24, false)), .nilck (.t 26), none⟩,
  ⟨(some 28), (some (24, false)), .faddr 0 (.t 27), none⟩,
  ⟨(some 29), (some (24, false)), .load false 1 (.t 28), none⟩,
  ⟨(some 30), (some (24, false)), .len (.t 29), none⟩,
  ⟨(some 31), (some (24, false)), .bin .geq (.t 25) (.t 30), none⟩,
  ⟨(some 32), none, .pick (.t 24) (.k (.bool true)) (.t 31), none⟩,
  ⟨(some 33), none, .mov (.t 32), none⟩,
  ⟨(some 34), (some (33, false)), .mov (.t 3), none⟩,
  ⟨(some 35), (some (33, false)), .bin .eql (.t 34) (.k (.int .u64 0)), none⟩,
  ⟨(some 36), none, .pick (.t 33) (.k (.bool true)) (.t 35), none⟩,
  ⟨(some 21), none, .mov (.t 36), none⟩]
def c15r4 : List O := [
  ⟨(some 8), none, .mov (.k (.int .i64 1)), none⟩]
def c15r5 : List O := [
  ⟨(some 37), none, .mov (.t 0), none⟩,
  ⟨(some 38), none, .nilck (.t 37), none⟩,
  ⟨(some 39), none, .faddr 0 (.t 38), none⟩,
  ⟨(some 40), none, .load false 1 (.t 39), none⟩,
  ⟨(some 41), none, .mov (.t 1), none⟩,
  ⟨(some 42), none, .mov (.t 2), none⟩,
  ⟨(some 43), none, .mov (.t 3), none⟩,
  ⟨(some 44), none, .build [.int .u64 0, .int .u64 0] [(0, 1, (.t 42)), (1, 1, (.t 43))], none⟩,
  ⟨(some 45), none, .ixs 2 (.t 40) (.t 41), none⟩,
  ⟨none, none, .store 2 (.t 45) (.t 44), none⟩]
def c15r6 : List O := [
  ⟨(some 46), none, .mov (.t 0), none⟩,
  ⟨(some 47), none, .nilck (.t 46), none⟩,
  ⟨(some 48), none, .faddr 1 (.t 47), none⟩,
  ⟨(some 49), none, .load false 1 (.t 48), none⟩,
  ⟨(some 50), none, .mov (.t 1), none⟩,
  ⟨(some 51), none, .ixs 1 (.t 49) (.t 50), none⟩,
  ⟨(some 52), none, .load false 1 (.t 51), none⟩,
  ⟨(some 53), none, .bin .eql (.t 52) (.k (.int .i64 0)), none⟩]
def c15r7 : List O := [
  ⟨(some 54), none, .mov (.t 0), none⟩,
  ⟨(some 55), none, .mov (.t 0), none⟩,
  ⟨(some 56), none, .nilck (.t 55), none⟩,
  ⟨(some 57), none, .faddr 2 (.t 56), none⟩,
  ⟨(some 58), none, .load false 1 (.t 57), none⟩,
  ⟨(some 59), none, .mov (.t 1), none⟩,
  ⟨(some 60), none, .buildSl 0 1 [.int .i64 0] 1 [(0, (.t 59))], none⟩,
  ⟨(some 61), none, .app 1 1 (.t 58) (.t 60), none⟩,
  ⟨(some 62), none, .nilck (.t 54), none⟩,
  ⟨(some 63), none, .faddr 2 (.t 62), none⟩,
  ⟨none, none, .store 1 (.t 63) (.t 61), none⟩]
def c15r8 : List O := [
  ⟨(some 64), none, .mov (.t 0), (some (.only [], .only []))⟩,
  ⟨(some 65), none, .nilck (.t 64), (some (.only [], .only []))⟩,
  ⟨(some 66), none, .faddr 1 (.t 65), (some (.only [], .only []))⟩,
  ⟨(some 67), none, .load false 1 (.t 66), (some (.but [], .only []))⟩,
  ⟨(some 68), none, .mov (.t 1), (some (.only [], .only []))⟩,
  ⟨(some 69), none, .mov (.t 0), (some (.only [], .only []))⟩,
  ⟨(some 70), none, .nilck (.t 69), (some (.only [], .only []))⟩,
  ⟨(some 71), none, .faddr 2 (.t 70), (some (.only [], .only []))⟩,
  ⟨(some 72), none, .load false 1 (.t 71), (some (.but [], .only []))⟩,
  ⟨(some 73), none, .len (.t 72), (some (.only [], .only []))⟩,
  ⟨(some 74), none, .ixs 1 (.t 67) (.t 68), (some (.only [], .only []))⟩,
  ⟨none, none, .store 1 (.t 74) (.t 73), (some (.but [], .but []))⟩]
def c15r9 : List O := [
  ⟨(some 75), none, .mov (.t 0), none⟩,
  ⟨(some 76), none, .nilck (.t 75), none⟩,
  ⟨(some 77), none, .faddr 1 (.t 76), none⟩,
  ⟨(some 78), none, .load false 1 (.t 77), none⟩,
  ⟨(some 79), none, .mov (.t 1), none⟩,
  ⟨(some 80), none, .ixs 1 (.t 78) (.t 79), none⟩,
  ⟨(some 81), none, .load false 1 (.t 80), none⟩,
  ⟨(some 82), none, .bin .sub (.t 81) (.k (.int .i64 1)), none⟩,
  ⟨(some 9), none, .mov (.t 82), none⟩]
def c15r10 : List O := [
  ⟨(some 83), none, .mov (.t 0), none⟩,
  ⟨(some 84), none, .mov (.t 9), none⟩,
  ⟨(some 85), none, .call 2 1 (.k (.func 61)) [(.t 83), (.t 84)], none⟩]
def c15r11 : List O := [
  ⟨(some 86), none, .mov (.t 0), none⟩,
  ⟨(some 87), none, .mov (.t 0), none⟩,
  ⟨(some 88), none, .nilck (.t 87), none⟩,
  ⟨(some 89), none, .faddr 1 (.t 88), none⟩,
  ⟨(some 90), none, .load false 1 (.t 89), none⟩,
  ⟨(some 91), none, .mov (.t 1), none⟩,
  ⟨(some 92), none, .ixs 1 (.t 90) (.t 91), none⟩,
  ⟨(some 93), none, .load false 1 (.t 92), none⟩,
  ⟨(some 94), none, .bin .sub (.t 93) (.k (.int .i64 1)), none⟩,
  ⟨(some 95), none, .call 2 1 (.k (.func 62)) [(.t 86), (.t 94)], none⟩]
def c15r12 : List O := [
  ⟨(some 8), none, .mov (.k (.int .i64 0)), none⟩]
def c15 : AF := ⟨96, 2, [.tmp 8], (.keep [0, 1, 2, 3] (.seq (.region c15r0) (.keep [0, 1, 2, 3] (.seq (.block 0 (.seq (.region c15r1) (.keep [0, 1, 2, 3, 10] (.cond (.t 10) (.seq (.region c15r2) .ret) (.seq (.region c15r3) (.keep [0, 1, 2, 3, 21] (.cond (.t 21) (.seq (.region c15r4) .ret) .skip))))))) (.keep [0, 1, 2, 3] (.seq (.region c15r5) (.keep [0, 1] (.seq (.seq (.region c15r6) (.keep [0, 1, 53] (.cond (.t 53) (.seq (.region c15r7) (.keep [0, 1] (.region c15r8))) .skip))) (.keep [0, 1] (.seq (.region c15r9) (.keep [0, 1, 9] (.seq (.region c15r10) (.keep [0, 1] (.seq (.region c15r11) (.keep [] (.seq (.region c15r12) .ret))))))))))))))))⟩
theorem ok15 : okF Try.prog 15 c15 = true := by kernel_rfl

/-! dogwatch/dogwatchref06.Remove -/
def c16r0 : List O := [
  ⟨(some 4), none, .mov (.k (.nilsl)), none⟩,
  ⟨(some 5), none, .mov (.k (.bool false)), none⟩]
def c16r1 : List O := [
  ⟨(some 8), none, .buildSl 0 3 [.int .i64 0, .int .u64 0, .int .u64 0] 0 [], none⟩,
  ⟨(some 6), none, .mov (.t 8), none⟩]
def c16r2 : List O := [
  ⟨(some 7), none, .mov (.k (.int .i64 0)), none⟩]
def c16r3 : List O := [
  ⟨(some 9), none, .mov (.t 7), none⟩,
  ⟨(some 10), none, .mov (.t 0), none⟩,
  ⟨(some 11), none, .len (.t 10), none⟩,
  ⟨(some 12), none, .bin .lss (.t 9) (.t 11), none⟩]
def c16r4 : List O := [
  ⟨(some 15), none, .mov (.t 0), none⟩,
  ⟨(some 16), none, .mov (.t 7), none⟩,
  ⟨(some 17), none, .ixs 3 (.t 15) (.t 16), none⟩,
  ⟨(some 18), none, .faddr 0 (.t 17), none⟩,
  ⟨(some 19), none, .load false 1 (.t 18), none⟩,
  ⟨(some 20), none, .mov (.t 1), none⟩,
  ⟨(some 21), none, .bin .neq (.t 19) (.t 20), none⟩]
def c16r5 : List O := [
  ⟨(some 22), none, .mov (.t 6), none⟩,
  ⟨(some 23), none, .mov (.t 0), none⟩,
  ⟨(some 24), none, .mov (.t 7), none⟩,
  ⟨(some 25), none, .ixs 3 (.t 23) (.t 24), none⟩,
  ⟨(some 26), none, .load true 3 (.t 25), none⟩,
  ⟨(some 27), none, .buildSl 2 3 [.int .i64 0, .int .u64 0, .int .u64 0] 1 [(0, (.t 26))], none⟩,
  ⟨(some 28), none, .app 3 3 (.t 22) (.t 27), none⟩,
  ⟨(some 6), none, .mov (.t 28), none⟩]
def c16r6 : List O := [
  ⟨(some 13), none, .mov (.t 7), none⟩,
  ⟨(some 14), none, .bin .add (.t 13) (.k (.int .i64 1)), none⟩,
  ⟨(some 7), none, .mov (.t 14), none⟩]
def c16l0 : AC := (.seq (.seq (.region c16r3) (.keep [0, 1, 6, 7, 12] (.cond (.t 12) .skip (.exit 0)))) (.keep [0, 1, 6, 7] (.seq (.block 1 (.seq (.region c16r4) (.keep [0, 1, 6, 7, 21] (.cond (.t 21) (.region c16r5) .skip)))) (.keep [0, 1, 6, 7] (.region c16r6)))))
def c16l0a : Ann := ⟨[0, 1, 6, 7], [0, 6], [(6, none, 3, 1)], true⟩
def c16r7 : List O := [
  ⟨(some 29), none, .mov (.t 6), none⟩,
  ⟨(some 30), none, .mov (.t 6), none⟩,
  ⟨(some 31), none, .len (.t 30), none⟩,
  ⟨(some 32), none, .mov (.t 0), none⟩,
  ⟨(some 33), none, .len (.t 32), none⟩,
  ⟨(some 34), none, .bin .lss (.t 31) (.t 33), none⟩,
  ⟨(some 4), none, .mov (.t 29), none⟩,
  ⟨(some 5), none, .mov (.t 34), none⟩]
def c16 : AF := ⟨35, 4, [.tmp 4, .tmp 5], (.keep [0, 1] (.seq (.region c16r0) (.keep [0, 1] (.seq (.region c16r1) (.keep [0, 1, 6] (.seq (.seq (.region c16r2) (.keep [0, 1, 6, 7] (.block 0 (.loop c16l0a c16l0)))) (.keep [0, 6] (.seq (.region c16r7) .ret))))))))⟩
theorem ok16 : okF Try.prog 16 c16 = true := by kernel_rfl

/-! (*dogwatch/heap.Heap).Remove -/
def c17r0 : List O := [
  ⟨(some 4), none, .mov (.k (.bool false)), none⟩]
def c17r1 : List O := [
  ⟨(some 8), none, .mov (.t 0), none⟩,
  ⟨(some 9), none, .mov (.t 1), none⟩,
  ⟨(some 10), none, .call 0 0 (.k (.func 63)) [(.t 8), (.t 9)], none⟩,
  ⟨(some 11), none, .un .not (.t 10), none⟩]
def c17r2 : List O := [
  ⟨(some 4), none, .mov (.k (.bool false)), none⟩]
def c17r3 : List O := [
  ⟨(some 12), none, .mov (.t 0), (some (.only [], .only []))⟩,
  ⟨(some 13), none, .nilck (.t 12), (some (.only [], .only []))⟩,
  ⟨(some 14), none, .faddr 1 (.t 13), (some (.only [], .only []))⟩,
  ⟨(some 15), none, .load false 1 (.t 14), (some (.but [], .only []))⟩,
  ⟨(some 16), none, .mov (.t 1), (some (.only [], .only []))⟩,
  ⟨(some 17), none, .ixs 1 (.t 15) (.t 16), (some (.only [], .only []))⟩,
  ⟨(some 18), none, .load false 1 (.t 17), (some (.but [], .only []))⟩,
  ⟨(some 19), none, .bin .sub (.t 18) (.k (.int .i64 1)), (some (.only [], .only []))⟩,
  ⟨(some 20), none, .mov (.t 0), (some (.only [], .only []))⟩,
  ⟨(some 21), none, .nilck (.t 20), (some (.only [], .only []))⟩,
  ⟨(some 22), none, .faddr 2 (.t 21), (some (.only [], .only []))⟩,
  ⟨(some 23), none, .load false 1 (.t 22), (some (.but [], .only []))⟩,
  ⟨(some 24), none, .len (.t 23), (some (.only [], .only []))⟩,
  ⟨(some 25), none, .bin .sub (.t 24) (.k (.int .i64 1)), (some (.only [], .only []))⟩,
  ⟨(some 5), none, .mov (.t 19), (some (.only [], .only []))⟩,
  ⟨(some 6), none, .mov (.t 25), (some (.only [], .only []))⟩]
def c17r4 : List O := [
  ⟨(some 26), none, .mov (.t 0), none⟩,
  ⟨(some 27), none, .mov (.t 5), none⟩,
  ⟨(some 28), none, .mov (.t 6), none⟩,
  ⟨(some 29), none, .call 0 1 (.k (.func 64)) [(.t 26), (.t 27), (.t 28)], none⟩]
def c17r5 : List O := [
  ⟨(some 30), none, .mov (.t 0), none⟩,
  ⟨(some 31), none, .mov (.t 0), none⟩,
  ⟨(some 32), none, .nilck (.t 31), none⟩,
  ⟨(some 33), none, .faddr 2 (.t 32), none⟩,
  ⟨(some 34), none, .load false 1 (.t 33), none⟩,
  ⟨(some 35), none, .mov (.t 6), none⟩,
  ⟨(some 36), none, .slc 1 (.t 34) none (some (.t 35)), none⟩,
  ⟨(some 37), none, .nilck (.t 30), none⟩,
  ⟨(some 38), none, .faddr 2 (.t 37), none⟩,
  ⟨none, none, .store 1 (.t 38) (.t 36), none⟩]
def c17r6 : List O := [
  ⟨(some 39), none, .mov (.t 0), none⟩,
  ⟨(some 40), none, .nilck (.t 39), none⟩,
  ⟨(some 41), none, .faddr 1 (.t 40), none⟩,
  ⟨(some 42), none, .load false 1 (.t 41), none⟩,
  ⟨(some 43), none, .mov (.t 1), none⟩,
  ⟨(some 44), none, .ixs 1 (.t 42) (.t 43), none⟩,
  ⟨none, none, .store 1 (.t 44) (.k (.int .i64 0)), none⟩]
def c17r7 : List O := [
  ⟨(some 45), none, .mov (.t 5), none⟩,
  ⟨(some 46), none, .mov (.t 6), none⟩,
  ⟨(some 47), none, .bin .lss (.t 45) (.t 46), none⟩]
def c17r8 : List O := [
  ⟨(some 48), none, .mov (.t 0), none⟩,
  ⟨(some 49), none, .nilck (.t 48), none⟩,
  ⟨(some 50), none, .faddr 2 (.t 49), none⟩,
  ⟨(some 51), none, .load false 1 (.t 50), none⟩,
  ⟨(some 52), none, .mov (.t 5), none⟩,
  ⟨(some 53), none, .ixs 1 (.t 51) (.t 52), none⟩,
  ⟨(some 54), none, .load false 1 (.t 53), none⟩,
  ⟨(some 7), none, .mov (.t 54), none⟩]
def c17r9 : List O := [
  ⟨(some 55), none, .mov (.t 0), none⟩,
  ⟨(some 56), none, .mov (.t 5), none⟩,
  ⟨(some 57), none, .call 0 1 (.k (.func 61)) [(.t 55), (.t 56)], none⟩]
def c17r10 : List O := [
  ⟨(some 58), none, .mov (.t 0), none⟩,
  ⟨(some 59), none, .mov (.t 0), none⟩,
  ⟨(some 60), none, .nilck (.t 59), none⟩,
  ⟨(some 61), none, .faddr 1 (.t 60), none⟩,
  ⟨(some 62), none, .load false 1 (.t 61), none⟩,
  ⟨(some 63), none, .mov (.t 7), none⟩,
  ⟨(some 64), none, .ixs 1 (.t 62) (.t 63), none⟩,
  ⟨(some 65), none, .load false 1 (.t 64), none⟩,
  ⟨(some 66), none, .bin .sub (.t 65) (.k (.int .i64 1)), none⟩,
  ⟨(some 67), none, .call 0 1 (.k (.func 62)) [(.t 58), (.t 66)], none⟩]
def c17r11 : List O := [
  ⟨(some 4), none, .mov (.k (.bool true)), none⟩]
def c17 : AF := ⟨68, 0, [.tmp 4], (.keep [0, 1] (.seq (.region c17r0) (.keep [0, 1] (.seq (.seq (.region c17r1) (.keep [0, 1, 11] (.cond (.t 11) (.seq (.region c17r2) .ret) .skip))) (.keep [0, 1] (.seq (.region c17r3) (.keep [0, 1, 5, 6] (.seq (.region c17r4) (.keep [0, 1, 5, 6] (.seq (.region c17r5) (.keep [0, 1, 5, 6] (.seq (.region c17r6) (.keep [0, 5, 6] (.seq (.seq (.region c17r7) (.keep [0, 5, 47] (.cond (.t 47) (.seq (.region c17r8) (.keep [0, 5, 7] (.seq (.region c17r9) (.keep [0, 7] (.region c17r10))))) .skip))) (.keep [] (.seq (.region c17r11) .ret))))))))))))))))⟩
theorem ok17 : okF Try.prog 17 c17 = true := by kernel_rfl

/-! dogwatch/dogwatchref06.Min -/
def c18r0 : List O := [
  ⟨(some 2), none, .mov (.k (.int .i64 0)), none⟩,
  ⟨(some 3), none, .mov (.k (.bool false)), none⟩]
def c18r1 : List O := [
  ⟨(some 6), none, .mov (.t 0), none⟩,
  ⟨(some 7), none, .len (.t 6), none⟩,
  ⟨(some 8), none, .bin .eql (.t 7) (.k (.int .i64 0)), none⟩]
def c18r2 : List O := [
  ⟨(some 2), none, .mov (.k (.int .i64 0)), none⟩,
  ⟨(some 3), none, .mov (.k (.bool false)), none⟩]
def c18r3 : List O := [
  ⟨(some 9), none, .mov (.t 0), none⟩,
  ⟨(some 10), none, .ixs 3 (.t 9) (.k (.int .i64 0)), none⟩,
  ⟨(some 11), none, .load true 3 (.t 10), none⟩,
  ⟨(some 4), none, .alloc 0 3 [.int .i64 0, .int .u64 0, .int .u64 0], none⟩,
  ⟨none, none, .store 3 (.t 4) (.t 11), none⟩]
def c18r4 : List O := [
  ⟨(some 5), none, .mov (.k (.int .i64 1)), none⟩]
def c18r5 : List O := [
  ⟨(some 12), none, .mov (.t 5), none⟩,
  ⟨(some 13), none, .mov (.t 0), none⟩,
  ⟨(some 14), none, .len (.t 13), none⟩,
  ⟨(some 15), none, .bin .lss (.t 12) (.t 14), none⟩]
def c18r6 : List O := [
  ⟨(some 18), none, .mov (.t 0), (some (.only [], .only []))⟩,
  ⟨(some 19), none, .mov (.t 5), (some (.only [], .only []))⟩,
  ⟨(some 20), none, .ixs 3 (.t 18) (.t 19), (some (.only [], .only []))⟩,
  ⟨(some 21), none, .load true 3 (.t 20), (some (.but [], .only []))⟩,
  ⟨(some 22), none, .load true 3 (.t 4), (some (.only [0], .only []))⟩,
  ⟨(some 23), none, .call 1 0 (.k (.func 65)) [(.t 21), (.t 22)], (some (.but [], .but []))⟩]
def c18r7 : List O := [
  ⟨(some 24), none, .mov (.t 0), none⟩,
  ⟨(some 25), none, .mov (.t 5), none⟩,
  ⟨(some 26), none, .ixs 3 (.t 24) (.t 25), none⟩,
  ⟨(some 27), none, .load true 3 (.t 26), none⟩,
  ⟨none, none, .store 3 (.t 4) (.t 27), none⟩]
def c18r8 : List O := [
  ⟨(some 16), none, .mov (.t 5), none⟩,
  ⟨(some 17), none, .bin .add (.t 16) (.k (.int .i64 1)), none⟩,
  ⟨(some 5), none, .mov (.t 17), none⟩]
def c18l0 : AC := (.seq (.seq (.region c18r5) (.keep [0, 4, 5, 15] (.cond (.t 15) .skip (.exit 0)))) (.keep [0, 4, 5] (.seq (.block 1 (.seq (.region c18r6) (.keep [0, 4, 5, 23] (.cond (.t 23) (.region c18r7) .skip)))) (.keep [0, 4, 5] (.region c18r8)))))
def c18l0a : Ann := ⟨[0, 4, 5], [4], [], false⟩
def c18r9 : List O := [
  ⟨(some 28), none, .faddr 0 (.t 4), none⟩,
  ⟨(some 29), none, .load false 1 (.t 28), none⟩,
  ⟨(some 2), none, .mov (.t 29), none⟩,
  ⟨(some 3), none, .mov (.k (.bool true)), none⟩]
def c18 : AF := ⟨30, 1, [.tmp 2, .tmp 3], (.keep [0] (.seq (.region c18r0) (.keep [0] (.seq (.seq (.region c18r1) (.keep [0, 8] (.cond (.t 8) (.seq (.region c18r2) .ret) .skip))) (.keep [0] (.seq (.region c18r3) (.keep [0, 4] (.seq (.seq (.region c18r4) (.keep [0, 4, 5] (.block 0 (.loop c18l0a c18l0)))) (.keep [4] (.seq (.region c18r9) .ret))))))))))⟩
theorem ok18 : okF Try.prog 18 c18 = true := by kernel_rfl

/-! (*dogwatch/heap.Heap).Pop -/
def c19r0 : List O := [
  ⟨(some 2), none, .mov (.k (.int .i64 0)), none⟩,
  ⟨(some 3), none, .mov (.k (.bool false)), none⟩]
def c19r1 : List O := [
  ⟨(some 7), none, .mov (.t 0), none⟩,
  ⟨(some 8), none, .call 0 0 (.k (.func 20)) [(.t 7)], none⟩,
  ⟨(some 6), none, .mov (.t 8), none⟩,
  ⟨(some 9), none, .ext (.t 6) 0, none⟩,
  ⟨(some 10), none, .ext (.t 6) 1, none⟩,
  ⟨(some 4), none, .mov (.t 9), none⟩,
  ⟨(some 5), none, .mov (.t 10), none⟩]
def c19r2 : List O := [
  ⟨(some 11), none, .mov (.t 5), none⟩]
def c19r3 : List O := [
  ⟨(some 12), none, .mov (.t 0), none⟩,
  ⟨(some 13), none, .mov (.t 4), none⟩,
  ⟨(some 14), none, .call 0 1 (.k (.func 17)) [(.t 12), (.t 13)], none⟩]
def c19r4 : List O := [
  ⟨(some 15), none, .mov (.t 4), none⟩,
  ⟨(some 16), none, .mov (.t 5), none⟩,
  ⟨(some 2), none, .mov (.t 15), none⟩,
  ⟨(some 3), none, .mov (.t 16), none⟩]
def c19 : AF := ⟨17, 0, [.tmp 2, .tmp 3], (.keep [0] (.seq (.region c19r0) (.keep [0] (.seq (.region c19r1) (.keep [0, 4, 5] (.seq (.seq (.region c19r2) (.keep [0, 4, 5, 11] (.cond (.t 11) (.region c19r3) .skip))) (.keep [4, 5] (.seq (.region c19r4) .ret))))))))⟩
theorem ok19 : okF Try.prog 19 c19 = true := by kernel_rfl

/-! (*dogwatch/heap.Heap).Min -/
def c20r0 : List O := [
  ⟨(some 2), none, .mov (.k (.int .i64 0)), none⟩,
  ⟨(some 3), none, .mov (.k (.bool false)), none⟩]
def c20r1 : List O := [
  ⟨(some 4), none, .mov (.t 0), none⟩,
  ⟨(some 5), none, .call 0 0 (.k (.func 23)) [(.t 4)], none⟩,
  ⟨(some 6), none, .bin .eql (.t 5) (.k (.int .i64 0)), none⟩]
def c20r2 : List O := [
  ⟨(some 2), none, .mov (.k (.int .i64 0)), none⟩,
  ⟨(some 3), none, .mov (.k (.bool false)), none⟩]
def c20r3 : List O := [
  ⟨(some 7), none, .mov (.t 0), none⟩,
  ⟨(some 8), none, .nilck (.t 7), none⟩,
  ⟨(some 9), none, .faddr 2 (.t 8), none⟩,
  ⟨(some 10), none, .load false 1 (.t 9), none⟩,
  ⟨(some 11), none, .ixs 1 (.t 10) (.k (.int .i64 0)), none⟩,
  ⟨(some 12), none, .load false 1 (.t 11), none⟩,
  ⟨(some 2), none, .mov (.t 12), none⟩,
  ⟨(some 3), none, .mov (.k (.bool true)), none⟩]
def c20 : AF := ⟨13, 0, [.tmp 2, .tmp 3], (.keep [0] (.seq (.region c20r0) (.keep [0] (.seq (.seq (.region c20r1) (.keep [0, 6] (.cond (.t 6) (.seq (.region c20r2) .ret) .skip))) (.keep [0] (.seq (.region c20r3) .ret))))))⟩
theorem ok20 : okF Try.prog 20 c20 = true := by kernel_rfl

/-! (*dogwatch/heap.Heap).Key -/
def c21r0 : List O := [
  ⟨(some 4), none, .mov (.k (.int .u64 0)), none⟩,
  ⟨(some 5), none, .mov (.k (.int .u64 0)), none⟩,
  ⟨(some 6), none, .mov (.k (.bool false)), none⟩]
def c21r1 : List O := [
  ⟨(some 7), none, .mov (.t 0), none⟩,
  ⟨(some 8), none, .mov (.t 1), none⟩,
  ⟨(some 9), none, .call 0 0 (.k (.func 63)) [(.t 7), (.t 8)], none⟩,
  ⟨(some 10), none, .un .not (.t 9), none⟩]
def c21r2 : List O := [
  ⟨(some 4), none, .mov (.k (.int .u64 0)), none⟩,
  ⟨(some 5), none, .mov (.k (.int .u64 0)), none⟩,
  ⟨(some 6), none, .mov (.k (.bool false)), none⟩]
def c21r3 : List O := [
  ⟨(some 11), none, .mov (.t 0), (some (.only [], .only []))⟩,
  ⟨(some 12), none, .nilck (.t 11), (some (.only [], .only []))⟩,
  ⟨(some 13), none, .faddr 0 (.t 12), (some (.only [], .only []))⟩,
  ⟨(some 14), none, .load false 1 (.t 13), (some (.but [], .only []))⟩,
  ⟨(some 15), none, .mov (.t 1), (some (.only [], .only []))⟩,
  ⟨(some 16), none, .ixs 2 (.t 14) (.t 15), (some (.only [], .only []))⟩,
  ⟨(some 17), none, .faddr 0 (.t 16), (some (.only [], .only []))⟩,
  ⟨(some 18), none, .load false 1 (.t 17), (some (.but [], .only []))⟩,
  ⟨(some 19), none, .mov (.t 0), (some (.only [], .only []))⟩,
  ⟨(some 20), none, .nilck (.t 19), (some (.only [], .only []))⟩,
  ⟨(some 21), none, .faddr 0 (.t 20), (some (.only [], .only []))⟩,
  ⟨(some 22), none, .load false 1 (.t 21), (some (.but [], .only []))⟩,
  ⟨(some 23), none, .mov (.t 1), (some (.only [], .only []))⟩,
  ⟨(some 24), none, .ixs 2 (.t 22) (.t 23), (some (.only [], .only []))⟩,
  ⟨(some 25), none, .faddr 1 (.t 24), (some (.only [], .only []))⟩,
  ⟨(some 26), none, .load false 1 (.t 25), (some (.but [], .only []))⟩,
  ⟨(some 4), none, .mov (.t 18), (some (.only [], .only []))⟩,
  ⟨(some 5), none, .mov (.t 26), (some (.only [], .only []))⟩,
  ⟨(some 6), none, .mov (.k (.bool true)), (some (.only [], .only []))⟩]
def c21 : AF := ⟨27, 0, [.tmp 4, .tmp 5, .tmp 6], (.keep [0, 1] (.seq (.region c21r0) (.keep [0, 1] (.seq (.seq (.region c21r1) (.keep [0, 1, 10] (.cond (.t 10) (.seq (.region c21r2) .ret) .skip))) (.keep [0, 1] (.seq (.region c21r3) .ret))))))⟩
theorem ok21 : okF Try.prog 21 c21 = true := by kernel_rfl

/-! dogwatch/dogwatchref06.Key -/
def c22r0 : List O := [
  ⟨(some 4), none, .mov (.k (.int .u64 0)), none⟩,
  ⟨(some 5), none, .mov (.k (.int .u64 0)), none⟩,
  ⟨(some 6), none, .mov (.k (.bool false)), none⟩]
def c22r1 : List O := [
  ⟨(some 7), none, .mov (.k (.int .i64 0)), none⟩]
def c22r2 : List O := [
  ⟨(some 8), none, .mov (.t 7), none⟩,
  ⟨(some 9), none, .mov (.t 0), none⟩,
  ⟨(some 10), none, .len (.t 9), none⟩,
  ⟨(some 11), none, .bin .lss (.t 8) (.t 10), none⟩]
def c22r3 : List O := [
  ⟨(some 14), none, .mov (.t 0), none⟩,
  ⟨(some 15), none, .mov (.t 7), none⟩,
  ⟨(some 16), none, .ixs 3 (.t 14) (.t 15), none⟩,
  ⟨(some 17), none, .faddr 0 (.t 16), none⟩,
  ⟨(some 18), none, .load false 1 (.t 17), none⟩,
  ⟨(some 19), none, .mov (.t 1), none⟩,
  ⟨(some 20), none, .bin .eql (.t 18) (.t 19), none⟩]
def c22r4 : List O := [
  ⟨(some 21), none, .mov (.t 0), (some (.only [], .only []))⟩,
  ⟨(some 22), none, .mov (.t 7), (some (.only [], .only []))⟩,
  ⟨(some 23), none, .ixs 3 (.t 21) (.t 22), (some (.only [], .only []))⟩,
  ⟨(some 24), none, .faddr 1 (.t 23), (some (.only [], .only []))⟩,
  ⟨(some 25), none, .load false 1 (.t 24), (some (.but [], .only []))⟩,
  ⟨(some 26), none, .mov (.t 0), (some (.only [], .only []))⟩,
  ⟨(some 27), none, .mov (.t 7), (some (.only [], .only []))⟩,
  ⟨(some 28), none, .ixs 3 (.t 26) (.t 27), (some (.only [], .only []))⟩,
  ⟨(some 29), none, .faddr 2 (.t 28), (some (.only [], .only []))⟩,
  ⟨(some 30), none, .load false 1 (.t 29), (some (.but [], .only []))⟩,
  ⟨(some 4), none, .mov (.t 25), (some (.only [], .only []))⟩,
  ⟨(some 5), none, .mov (.t 30), (some (.only [], .only []))⟩,
  ⟨(some 6), none, .mov (.k (.bool true)), (some (.only [], .only []))⟩]
def c22r5 : List O := [
  ⟨(some 12), none, .mov (.t 7), none⟩,
  ⟨(some 13), none, .bin .add (.t 12) (.k (.int .i64 1)), none⟩,
  ⟨(some 7), none, .mov (.t 13), none⟩]
def c22l0 : AC := (.seq (.seq (.region c22r2) (.keep [0, 1, 7, 11] (.cond (.t 11) .skip (.exit 0)))) (.keep [0, 1, 7] (.seq (.block 1 (.seq (.region c22r3) (.keep [0, 1, 7, 20] (.cond (.t 20) (.seq (.region c22r4) .ret) .skip)))) (.keep [0, 1, 7] (.region c22r5)))))
def c22l0a : Ann := ⟨[0, 1, 7], [4, 5, 6], [], false⟩
def c22r6 : List O := [
  ⟨(some 4), none, .mov (.k (.int .u64 0)), none⟩,
  ⟨(some 5), none, .mov (.k (.int .u64 0)), none⟩,
  ⟨(some 6), none, .mov (.k (.bool false)), none⟩]
def c22 : AF := ⟨31, 0, [.tmp 4, .tmp 5, .tmp 6], (.keep [0, 1] (.seq (.region c22r0) (.keep [0, 1] (.seq (.seq (.region c22r1) (.keep [0, 1, 7] (.block 0 (.loop c22l0a c22l0)))) (.keep [] (.seq (.region c22r6) .ret))))))⟩
theorem ok22 : okF Try.prog 22 c22 = true := by kernel_rfl

/-! (*dogwatch/heap.Heap).Len -/
def c23r0 : List O := [
  ⟨(some 2), none, .mov (.k (.int .i64 0)), none⟩]
def c23r1 : List O := [
  ⟨(some 3), none, .mov (.t 0), none⟩,
  ⟨(some 4), none, .bin .eqp (.t 3) (.k (.nilptr)), none⟩]
def c23r2 : List O := [
  ⟨(some 2), none, .mov (.k (.int .i64 0)), none⟩]
def c23r3 : List O := [
  ⟨(some 5), none, .mov (.t 0), none⟩,
  ⟨(some 6), none, .nilck (.t 5), none⟩,
  ⟨(some 7), none, .faddr 2 (.t 6), none⟩,
  ⟨(some 8), none, .load false 1 (.t 7), none⟩,
  ⟨(some 9), none, .len (.t 8), none⟩,
  ⟨(some 2), none, .mov (.t 9), none⟩]
def c23 : AF := ⟨10, 0, [.tmp 2], (.keep [0] (.seq (.region c23r0) (.keep [0] (.seq (.seq (.region c23r1) (.keep [0, 4] (.cond (.t 4) (.seq (.region c23r2) .ret) .skip))) (.keep [0] (.seq (.region c23r3) .ret))))))⟩
theorem ok23 : okF Try.prog 23 c23 = true := by kernel_rfl

/-! dogwatch/dogwatchref02.Compare -/
def c24r0 : List O := [
  ⟨(some 8), none, .mov (.k (.int .i64 0)), none⟩]
def c24r1 : List O := [
  ⟨(some 11), none, .mov (.t 0), none⟩,
  ⟨(some 12), none, .mov (.t 3), none⟩,
  ⟨(some 13), none, .call 0 0 (.k (.func 66)) [(.t 11), (.t 12)], none⟩,
  ⟨(some 9), none, .alloc 0 2 [.int .u64 0, .int .u64 0], none⟩,
  ⟨none, none, .store 2 (.t 9) (.t 13), none⟩]
def c24r2 : List O := [
  ⟨(some 14), none, .mov (.t 2), none⟩,
  ⟨(some 15), none, .mov (.t 1), none⟩,
  ⟨(some 16), none, .call 1 0 (.k (.func 66)) [(.t 14), (.t 15)], none⟩,
  ⟨(some 10), none, .alloc 1 2 [.int .u64 0, .int .u64 0], none⟩,
  ⟨none, none, .store 2 (.t 10) (.t 16), none⟩]
def c24r3 : List O := [
  ⟨(some 17), none, .load true 2 (.t 9), none⟩,
  ⟨(some 18), none, .load true 2 (.t 10), none⟩,
  ⟨(some 19), none, .bin (.eqa 2) (.t 17) (.t 18), none⟩]
def c24r4 : List O := [
  ⟨(some 8), none, .mov (.k (.int .i64 0)), none⟩]
def c24r5 : List O := [
  ⟨(some 20), none, .faddr 0 (.t 9), none⟩,
  ⟨(some 21), none, .load false 1 (.t 20), none⟩,
  ⟨(some 22), none, .faddr 0 (.t 10), none⟩,
  ⟨(some 23), none, .load false 1 (.t 22), none⟩,
  ⟨(some 24), none, .bin .lss (.t 21) (.t 23), none⟩,
  ⟨(some 25), none, .mov (.t 24), none⟩,
  ⟨(some 26), (some (25, false)), .faddr 0 (.t 9), none⟩,
  ⟨(some 27), (some (25, false)), .load false 1 (.t 26), none⟩,
  ⟨(some 28), (some (25, false)), .faddr 0 (.t 10), none⟩,
  ⟨(some 29), (some (25, false)), .load false 1 (.t 28), none⟩,
  ⟨(some 30), (some (25, false)), .bin .eql (.t 27) (.t 29), none⟩,
  ⟨(some 31), (some (25, false)), .mov (.t 30), none⟩,
  ⟨(some 32), (some (31, true)), .faddr 1 (.t 9), none⟩,
  ⟨(some 33), (some (31, true)), .load false 1 (.t 32), none⟩,
  ⟨(some 34), (some (31, true)), .faddr 1 (.t 10), none⟩,
  ⟨(some 35), (some (31, true)), .load false 1 (.t 34), none⟩,
  ⟨(some 36), (some (31, true)), .bin .lss (.t 33) (.t 35), none⟩,
  ⟨(some 37), (some (25, false)), .pick (.t 31) (.t 36) (.k (.bool false)), none⟩,
  ⟨(some 38), none, .pick (.t 25) (.k (.bool true)) (.t 37), none⟩]
def c24r6 : List O := [
  ⟨(some 8), none, .mov (.k (.int .i64 (-1))), none⟩]
def c24r7 : List O := [
  ⟨(some 8), none, .mov (.k (.int .i64 1)), none⟩]
def c24 : AF := ⟨39, 2, [.tmp 8], (.keep [0, 1, 2, 3] (.seq (.region c24r0) (.keep [0, 1, 2, 3] (.seq (.region c24r1) (.keep [1, 2, 9] (.seq (.region c24r2) (.keep [9, 10] (.seq (.seq (.region c24r3) (.keep [9, 10, 19] (.cond (.t 19) (.seq (.region c24r4) .ret) .skip))) (.keep [9, 10] (.seq (.seq (.region c24r5) (.keep [38] (.cond (.t 38) (.seq (.region c24r6) .ret) .skip))) (.keep [] (.seq (.region c24r7) .ret))))))))))))⟩
theorem ok24 : okF Try.prog 24 c24 = true := by kernel_rfl

/-! (*dogwatch/heap.Heap).up -/
def c61r0 : List O := [
  ⟨(some 4), none, .mov (.t 1), none⟩,
  ⟨(some 5), none, .bin .gtr (.t 4) (.k (.int .i64 0)), none⟩,
  ⟨(some 6), none, .mov (.t 5), none⟩,
  ⟨(some 7), (some (6, true)), .mov (.t 0), none⟩,
  ⟨(some 8), (some (6, true)), .mov (.t 1), none⟩,
  ⟨(some 9), (some (6, true)), .mov (.t 1), none⟩,
  ⟨(some 10), (some (6, true)), .bin .sub (.t 9) (.k (.int .i64 1)), none⟩,
  ⟨(some 11), (some (6, true)), .bin .quo (.t 10) (.k (.int .i64 2)), none⟩,
  ⟨(some 12), (some (6, true)), .call 0 0 (.k (.func 105)) [(.t 7), (.t 8), (.t 11)], none⟩,
  ⟨(some 13), none, .pick (.t 6) (.t 12) (.k (.bool false)), none⟩]
def c61r1 : List O := [
  ⟨(some 14), none, .mov (.t 0), none⟩,
  ⟨(some 15), none, .mov (.t 1), none⟩,
  ⟨(some 16), none, .mov (.t 1), none⟩,
  ⟨(some 17), none, .bin .sub (.t 16) (.k (.int .i64 1)), none⟩,
  ⟨(some 18), none, .bin .quo (.t 17) (.k (.int .i64 2)), none⟩,
  ⟨(some 19), none, .call 0 0 (.k (.func 64)) [(.t 14), (.t 15), (.t 18)], none⟩]
def c61r2 : List O := [
  ⟨(some 20), none, .mov (.t 1), none⟩,
  ⟨(some 21), none, .bin .sub (.t 20) (.k (.int .i64 1)), none⟩,
  ⟨(some 22), none, .bin .quo (.t 21) (.k (.int .i64 2)), none⟩,
  ⟨(some 1), none, .mov (.t 22), none⟩]
def c61l0 : AC := (.seq (.seq (.region c61r0) (.keep [0, 1, 13] (.cond (.t 13) .skip (.exit 0)))) (.keep [0, 1] (.block 1 (.seq (.region c61r1) (.keep [0, 1] (.region c61r2))))))
def c61l0a : Ann := ⟨[0, 1], [], [], false⟩
def c61 : AF := ⟨23, 0, [], (.keep [0, 1] (.block 0 (.loop c61l0a c61l0)))⟩
theorem ok61 : okF Try.prog 61 c61 = true := by kernel_rfl

/-! (*dogwatch/heap.Heap).down -/
def c62r0 : List O := [
  ⟨(some 7), none, .mov (.t 1), none⟩,
  ⟨(some 4), none, .mov (.t 7), none⟩]
def c62r1 : List O := [
  ⟨(some 8), none, .mov (.t 1), none⟩,
  ⟨(some 9), none, .bin .mul (.k (.int .i64 2)) (.t 8), none⟩,
  ⟨(some 10), none, .bin .add (.t 9) (.k (.int .i64 1)), none⟩,
  ⟨(some 11), none, .mov (.t 1), none⟩,
  ⟨(some 12), none, .bin .mul (.k (.int .i64 2)) (.t 11), none⟩,
  ⟨(some 13), none, .bin .add (.t 12) (.k (.int .i64 2)), none⟩,
  ⟨(some 14), none, .build [.int .i64 0, .int .i64 0] [(0, 1, (.t 10)), (1, 1, (.t 13))], none⟩,
  ⟨(some 15), none, .mov (.k (.int .i64 0)), none⟩]
def c62r2 : List O := [
  ⟨(some 16), none, .bin .lss (.t 15) (.k (.int .i64 2)), none⟩]
def c62r3 : List O := [
  ⟨(some 17), none, .index false 2 1 (.t 14) (.t 15), none⟩,
  ⟨(some 6), none, .mov (.t 17), none⟩]
def c62r4 : List O := [
  ⟨(some 18), none, .mov (.t 6), none⟩,
  ⟨(some 19), none, .mov (.t 0), none⟩,
  ⟨(some 20), none, .nilck (.t 19), none⟩,
  ⟨(some 21), none, .faddr 2 (.t 20), none⟩,
  ⟨(some 22), none, .load false 1 (.t 21), none⟩,
  ⟨(some 23), none, .len (.t 22), none⟩,
  ⟨(some 24), none, .bin .lss (.t 18) (.t 23), none⟩,
  ⟨(some 25), none, .mov (.t 24), none⟩,
  ⟨(some 26), (some (25, true)), .mov (.t 0), none⟩,
  ⟨(some 27), (some (25, true)), .mov (.t 6), none⟩,
  ⟨(some 28), (some (25, true)), .mov (.t 4), none⟩,
  ⟨(some 29), (some (25, true)), .call 0 0 (.k (.func 105)) [(.t 26), (.t 27), (.t 28)], none⟩,
  ⟨(some 30), none, .pick (.t 25) (.t 29) (.k (.bool false)), none⟩]
def c62r5 : List O := [
  ⟨(some 31), none, .mov (.t 6), none⟩,
  ⟨(some 4), none, .mov (.t 31), none⟩]
def c62r6 : List O := [
  ⟨(some 32), none, .bin .add (.t 15) (.k (.int .i64 1)), none⟩,
  ⟨(some 15), none, .mov (.t 32), none⟩]
def c62l1 : AC := (.seq (.region c62r2) (.keep [0, 1, 4, 14, 15, 16] (.seq (.cond (.t 16) .skip (.exit 2)) (.keep [0, 1, 4, 14, 15] (.seq (.block 3 (.seq (.region c62r3) (.keep [0, 1, 4, 6, 14, 15] (.seq (.region c62r4) (.keep [0, 1, 4, 6, 14, 15, 30] (.cond (.t 30) (.region c62r5) .skip)))))) (.keep [0, 1, 4, 14, 15] (.region c62r6)))))))
def c62l1a : Ann := ⟨[0, 1, 4, 14, 15], [0, 1, 4], [], false⟩
def c62r7 : List O := [
  ⟨(some 33), none, .mov (.t 4), none⟩,
  ⟨(some 34), none, .mov (.t 1), none⟩,
  ⟨(some 35), none, .bin .eql (.t 33) (.t 34), none⟩]
def c62r8 : List O := [
  ⟨(some 36), none, .mov (.t 0), none⟩,
  ⟨(some 37), none, .mov (.t 1), none⟩,
  ⟨(some 38), none, .mov (.t 4), none⟩,
  ⟨(some 39), none, .call 0 0 (.k (.func 64)) [(.t 36), (.t 37), (.t 38)], none⟩]
def c62r9 : List O := [
  ⟨(some 40), none, .mov (.t 4), none⟩,
  ⟨(some 1), none, .mov (.t 40), none⟩]
def c62l0 : AC := (.block 1 (.seq (.region c62r0) (.keep [0, 1, 4] (.seq (.seq (.region c62r1) (.keep [0, 1, 4, 14, 15] (.block 2 (.loop c62l1a c62l1)))) (.keep [0, 1, 4] (.seq (.seq (.region c62r7) (.keep [0, 1, 4, 35] (.cond (.t 35) .ret .skip))) (.keep [0, 1, 4] (.seq (.region c62r8) (.keep [0, 4] (.region c62r9))))))))))
def c62l0a : Ann := ⟨[0, 1], [], [], false⟩
def c62 : AF := ⟨41, 0, [], (.keep [0, 1] (.block 0 (.loop c62l0a c62l0)))⟩
theorem ok62 : okF Try.prog 62 c62 = true := by kernel_rfl

/-! (*dogwatch/heap.Heap).has -/
def c63r0 : List O := [
  ⟨(some 4), none, .mov (.k (.bool false)), none⟩]
def c63r1 : List O := [
  ⟨(some 5), none, .mov (.t 0), none⟩,
  ⟨(some 6), none, .bin .nep (.t 5) (.k (.nilptr)), none⟩,
  ⟨(some 7), none, .mov (.t 6), none⟩,
  ⟨(some 8), (some (7, true)), .mov (.t 1), none⟩,
  ⟨(some 9), (some (7, true)), .bin .geq (.t 8) (.k (.int .i64 0)), none⟩,
  ⟨(some 10), none, .pick (.t 7) (.t 9) (.k (.bool false)), none⟩,
  ⟨(some 11), none, .mov (.t 10), none⟩,
  ⟨(some 12), (some (11, true)), .mov (.t 1), none⟩,
  ⟨(some 13), (some (11, true)), .mov (.t 0), none⟩,
  ⟨(some 14), (some (11, true)), .nilck (.t 13), none⟩,
  ⟨(some 15), (some (11, true)), .faddr 0 (.t 14), none⟩,
  ⟨(some 16), (some (11, true)), .load false 1 (.t 15), none⟩,
  ⟨(some 17), (some (11, true)), .len (.t 16), none⟩,
  ⟨(some 18), (some (11, true)), .bin .lss (.t 12) (.t 17), none⟩,
  ⟨(some 19), none, .pick (.t 11) (.t 18) (.k (.bool false)), none⟩,
  ⟨(some 20), none, .mov (.t 19), none⟩,
  ⟨(some 21), (some (20, true)), .mov (.t 0), none⟩,
  ⟨(some 22), (some (20, true)), .nilck (.t 21), none⟩,
  ⟨(some 23), (some (20, true)), .faddr 1 (.t 22), none⟩,
  ⟨(some 24), (some (20, true)), .load false 1 (.t 23), none⟩,
  ⟨(some 25), (some (20, true)), .mov (.t 1), none⟩,
  ⟨(some 26), (some (20, true)), .ixs 1 (.t 24) (.t 25), none⟩,
  ⟨(some 27), (some (20, true)), .load false 1 (.t 26), none⟩,
  ⟨(some 28), (some (20, true)), .bin .gtr (.t 27) (.k (.int .i64 0)), none⟩,
  ⟨(some 29), none, .pick (.t 20) (.t 28) (.k (.bool false)), none⟩,
  ⟨(some 4), none, .mov (.t 29), none⟩]
def c63 : AF := ⟨30, 0, [.tmp 4], (.keep [0, 1] (.seq (.region c63r0) (.keep [0, 1] (.seq (.region c63r1) .ret))))⟩
theorem ok63 : okF Try.prog 63 c63 = true := by kernel_rfl

/-! (*dogwatch/heap.Heap).swap -/
def c64r0 : List O := [
  ⟨(some 6), none, .mov (.t 0), (some (.only [], .only []))⟩,
  ⟨(some 7), none, .nilck (.t 6), (some (.only [], .only []))⟩,
  ⟨(some 8), none, .faddr 2 (.t 7), (some (.only [], .only []))⟩,
  ⟨(some 9), none, .load false 1 (.t 8), (some (.but [], .only []))⟩,
  ⟨(some 10), none, .mov (.t 1), (some (.only [], .only []))⟩,
  ⟨(some 11), none, .mov (.t 0), (some (.only [], .only []))⟩,
  ⟨(some 12), none, .nilck (.t 11), (some (.only [], .only []))⟩,
  ⟨(some 13), none, .faddr 2 (.t 12), (some (.only [], .only []))⟩,
  ⟨(some 14), none, .load false 1 (.t 13), (some (.but [], .only []))⟩,
  ⟨(some 15), none, .mov (.t 2), (some (.only [], .only []))⟩,
  ⟨(some 16), none, .mov (.t 0), (some (.only [], .only []))⟩,
  ⟨(some 17), none, .nilck (.t 16), (some (.only [], .only []))⟩,
  ⟨(some 18), none, .faddr 2 (.t 17), (some (.only [], .only []))⟩,
  ⟨(some 19), none, .load false 1 (.t 18), (some (.but [], .only []))⟩,
  ⟨(some 20), none, .mov (.t 2), (some (.only [], .only []))⟩,
  ⟨(some 21), none, .ixs 1 (.t 19) (.t 20), (some (.only [], .only []))⟩,
  ⟨(some 22), none, .load false 1 (.t 21), (some (.but [], .only []))⟩,
  ⟨(some 23), none, .mov (.t 0), (some (.only [], .only []))⟩,
  ⟨(some 24), none, .nilck (.t 23), (some (.only [], .only []))⟩,
  ⟨(some 25), none, .faddr 2 (.t 24), (some (.only [], .only []))⟩,
  ⟨(some 26), none, .load false 1 (.t 25), (some (.but [], .only []))⟩,
  ⟨(some 27), none, .mov (.t 1), (some (.only [], .only []))⟩,
  ⟨(some 28), none, .ixs 1 (.t 26) (.t 27), (some (.only [], .only []))⟩,
  ⟨(some 29), none, .load false 1 (.t 28), (some (.but [], .only []))⟩,
  ⟨(some 30), none, .ixs 1 (.t 9) (.t 10), (some (.only [], .only []))⟩,
  ⟨none, none, .store 1 (.t 30) (.t 22), (some (.but [], .but []))⟩,
  ⟨(some 31), none, .ixs 1 (.t 14) (.t 15), (some (.only [], .only []))⟩,
  ⟨none, none, .store 1 (.t 31) (.t 29), (some (.but [], .but []))⟩]
def c64r1 : List O := [
  ⟨(some 32), none, .mov (.t 0), (some (.only [], .only []))⟩,
  ⟨(some 33), none, .nilck (.t 32), (some (.only [], .only []))⟩,
  ⟨(some 34), none, .faddr 1 (.t 33), (some (.only [], .only []))⟩,
  ⟨(some 35), none, .load false 1 (.t 34), (some (.but [], .only []))⟩,
  ⟨(some 36), none, .mov (.t 0), (some (.only [], .only []))⟩,
  ⟨(some 37), none, .nilck (.t 36), (some (.only [], .only []))⟩,
  ⟨(some 38), none, .faddr 2 (.t 37), (some (.only [], .only []))⟩,
  ⟨(some 39), none, .load false 1 (.t 38), (some (.but [], .only []))⟩,
  ⟨(some 40), none, .mov (.t 1), (some (.only [], .only []))⟩,
  ⟨(some 41), none, .ixs 1 (.t 39) (.t 40), (some (.only [], .only []))⟩,
  ⟨(some 42), none, .load false 1 (.t 41), (some (.but [], .only []))⟩,
  ⟨(some 43), none, .mov (.t 0), (some (.only [], .only []))⟩,
  ⟨(some 44), none, .nilck (.t 43), (some (.only [], .only []))⟩,
  ⟨(some 45), none, .faddr 1 (.t 44), (some (.only [], .only []))⟩,
  ⟨(some 46), none, .load false 1 (.t 45), (some (.but [], .only []))⟩,
  ⟨(some 47), none, .mov (.t 0), (some (.only [], .only []))⟩,
  ⟨(some 48), none, .nilck (.t 47), (some (.only [], .only []))⟩,
  ⟨(some 49), none, .faddr 2 (.t 48), (some (.only [], .only []))⟩,
  ⟨(some 50), none, .load false 1 (.t 49), (some (.but [], .only []))⟩,
  ⟨(some 51), none, .mov (.t 2), (some (.only [], .only []))⟩,
  ⟨(some 52), none, .ixs 1 (.t 50) (.t 51), (some (.only [], .only []))⟩,
  ⟨(some 53), none, .load false 1 (.t 52), (some (.but [], .only []))⟩,
  ⟨(some 54), none, .mov (.t 1), (some (.only [], .only []))⟩,
  ⟨(some 55), none, .bin .add (.t 54) (.k (.int .i64 1)), (some (.only [], .only []))⟩,
  ⟨(some 56), none, .mov (.t 2), (some (.only [], .only []))⟩,
  ⟨(some 57), none, .bin .add (.t 56) (.k (.int .i64 1)), (some (.only [], .only []))⟩,
  ⟨(some 58), none, .ixs 1 (.t 35) (.t 42), (some (.only [], .only []))⟩,
  ⟨none, none, .store 1 (.t 58) (.t 55), (some (.but [], .but []))⟩,
  ⟨(some 59), none, .ixs 1 (.t 46) (.t 53), (some (.only [], .only []))⟩,
  ⟨none, none, .store 1 (.t 59) (.t 57), (some (.but [], .but []))⟩]
def c64 : AF := ⟨60, 0, [], (.keep [0, 1, 2] (.seq (.region c64r0) (.keep [0, 1, 2] (.region c64r1))))⟩
theorem ok64 : okF Try.prog 64 c64 = true := by kernel_rfl

/-! dogwatch/dogwatchref06.ahead -/
def c65r0 : List O := [
  ⟨(some 2), none, .box 0 3 (.t 0), none⟩,
  ⟨(some 3), none, .box 1 3 (.t 1), none⟩,
  ⟨(some 4), none, .mov (.k (.bool false)), none⟩]
def c65r1 : List O := [
  ⟨(some 6), none, .faddr 1 (.t 2), none⟩,
  ⟨(some 7), none, .load false 1 (.t 6), none⟩,
  ⟨(some 8), none, .faddr 2 (.t 2), none⟩,
  ⟨(some 9), none, .load false 1 (.t 8), none⟩,
  ⟨(some 10), none, .faddr 1 (.t 3), none⟩,
  ⟨(some 11), none, .load false 1 (.t 10), none⟩,
  ⟨(some 12), none, .faddr 2 (.t 3), none⟩,
  ⟨(some 13), none, .load false 1 (.t 12), none⟩,
  ⟨(some 14), none, .call 2 0 (.k (.func 24)) [(.t 7), (.t 9), (.t 11), (.t 13)], none⟩,
  ⟨(some 5), none, .mov (.t 14), none⟩]
def c65r2 : List O := [
  ⟨(some 15), none, .mov (.t 5), none⟩,
  ⟨(some 16), none, .bin .lss (.t 15) (.k (.int .i64 0)), none⟩,
  ⟨(some 17), none, .mov (.t 16), none⟩,
  ⟨(some 18), (some (17, false)), .mov (.t 5), none⟩,
  ⟨(some 19), (some (17, false)), .bin .eql (.t 18) (.k (.int .i64 0)), none⟩,
  ⟨(some 20), (some (17, false)), .mov (.t 19), none⟩,
  ⟨(some 21), (some (20, true)), .faddr 0 (.t 2), none⟩,
  ⟨(some 22), (some (20, true)), .load false 1 (.t 21), none⟩,
  ⟨(some 23), (some (20, true)), .faddr 0 (.t 3), none⟩,
  ⟨(some 24), (some (20, true)), .load false 1 (.t 23), none⟩,
  ⟨(some 25), (some (20, true)), .bin .lss (.t 22) (.t 24), none⟩,
  ⟨(some 26), (some (17, false)), .pick (.t 20) (.t 25) (.k (.bool false)), none⟩,
  ⟨(some 27), none, .pick (.t 17) (.k (.bool true)) (.t 26), none⟩,
  ⟨(some 4), none, .mov (.t 27), none⟩]
def c65 : AF := ⟨28, 2, [.tmp 4], (.keep [0, 1] (.seq (.region c65r0) (.keep [2, 3] (.seq (.region c65r1) (.keep [2, 3, 5] (.seq (.region c65r2) .ret))))))⟩
theorem ok65 : okF Try.prog 65 c65 = true := by kernel_rfl

/-! dogwatch/dogwatchref02.Times -/
def c66r0 : List O := [
  ⟨(some 4), none, .alloc 0 2 [.int .u64 0, .int .u64 0], none⟩]
def c66r1 : List O := [
  ⟨(some 7), none, .build [.int .u64 0, .int .u64 0] [], none⟩,
  ⟨(some 5), none, .alloc 1 2 [.int .u64 0, .int .u64 0], none⟩,
  ⟨none, none, .store 2 (.t 5) (.t 7), none⟩]
def c66r2 : List O := [
  ⟨(some 6), none, .mov (.k (.int .i64 63)), none⟩]
def c66r3 : List O := [
  ⟨(some 8), none, .mov (.t 6), none⟩,
  ⟨(some 9), none, .bin .geq (.t 8) (.k (.int .i64 0)), none⟩]
def c66r4 : List O := [
  ⟨(some 13), none, .load true 2 (.t 5), none⟩,
  ⟨(some 14), none, .call 2 0 (.k (.func 106)) [(.t 13), (.k (.int .u64 0))], none⟩,
  ⟨(some 12), none, .mov (.t 14), none⟩,
  ⟨(some 15), none, .ext (.t 12) 0, none⟩,
  ⟨(some 16), none, .ext (.t 12) 1, none⟩,
  ⟨none, none, .store 2 (.t 5) (.t 15), none⟩]
def c66r5 : List O := [
  ⟨(some 17), none, .mov (.t 1), none⟩,
  ⟨(some 18), none, .mov (.t 6), none⟩,
  ⟨(some 19), none, .conv .u64 (.t 18), none⟩,
  ⟨(some 20), none, .bin .shr (.t 17) (.t 19), none⟩,
  ⟨(some 21), none, .bin .and (.t 20) (.k (.int .u64 1)), none⟩,
  ⟨(some 22), none, .bin .eql (.t 21) (.k (.int .u64 1)), none⟩]
def c66r6 : List O := [
  ⟨(some 23), none, .load true 2 (.t 5), none⟩,
  ⟨(some 24), none, .mov (.t 0), none⟩,
  ⟨(some 25), none, .build [.int .u64 0, .int .u64 0] [(0, 1, (.k (.int .u64 0))), (1, 1, (.t 24))], none⟩,
  ⟨(some 26), none, .call 2 0 (.k (.func 107)) [(.t 23), (.t 25)], none⟩,
  ⟨none, none, .store 2 (.t 5) (.t 26), none⟩]
def c66r7 : List O := [
  ⟨(some 10), none, .mov (.t 6), none⟩,
  ⟨(some 11), none, .bin .sub (.t 10) (.k (.int .i64 1)), none⟩,
  ⟨(some 6), none, .mov (.t 11), none⟩]
def c66l0 : AC := (.seq (.seq (.region c66r3) (.keep [0, 1, 4, 5, 6, 9] (.cond (.t 9) .skip (.exit 0)))) (.keep [0, 1, 4, 5, 6] (.seq (.block 1 (.seq (.region c66r4) (.keep [0, 1, 4, 5, 6] (.seq (.region c66r5) (.keep [0, 1, 4, 5, 6, 22] (.cond (.t 22) (.region c66r6) .skip)))))) (.keep [0, 1, 4, 5, 6] (.region c66r7)))))
def c66l0a : Ann := ⟨[0, 1, 4, 5, 6], [4, 5], [], false⟩
def c66r8 : List O := [
  ⟨(some 27), none, .load true 2 (.t 5), none⟩,
  ⟨none, none, .store 2 (.t 4) (.t 27), none⟩]
def c66 : AF := ⟨28, 2, [.cell 4 true 2], (.keep [0, 1] (.seq (.region c66r0) (.keep [0, 1, 4] (.seq (.region c66r1) (.keep [0, 1, 4, 5] (.seq (.seq (.region c66r2) (.keep [0, 1, 4, 5, 6] (.block 0 (.loop c66l0a c66l0)))) (.keep [4, 5] (.seq (.region c66r8) .ret))))))))⟩
theorem ok66 : okF Try.prog 66 c66 = true := by kernel_rfl

/-! (*dogwatch/heap.Heap).ahead -/
def c105r0 : List O := [
  ⟨(some 6), none, .mov (.k (.bool false)), none⟩]
def c105r1 : List O := [
  ⟨(some 11), none, .mov (.t 0), (some (.only [], .only []))⟩,
  ⟨(some 12), none, .nilck (.t 11), (some (.only [], .only []))⟩,
  ⟨(some 13), none, .faddr 2 (.t 12), (some (.only [], .only []))⟩,
  ⟨(some 14), none, .load false 1 (.t 13), (some (.but [], .only []))⟩,
  ⟨(some 15), none, .mov (.t 1), (some (.only [], .only []))⟩,
  ⟨(some 16), none, .ixs 1 (.t 14) (.t 15), (some (.only [], .only []))⟩,
  ⟨(some 17), none, .load false 1 (.t 16), (some (.but [], .only []))⟩,
  ⟨(some 18), none, .mov (.t 0), (some (.only [], .only []))⟩,
  ⟨(some 19), none, .nilck (.t 18), (some (.only [], .only []))⟩,
  ⟨(some 20), none, .faddr 2 (.t 19), (some (.only [], .only []))⟩,
  ⟨(some 21), none, .load false 1 (.t 20), (some (.but [], .only []))⟩,
  ⟨(some 22), none, .mov (.t 2), (some (.only [], .only []))⟩,
  ⟨(some 23), none, .ixs 1 (.t 21) (.t 22), (some (.only [], .only []))⟩,
  ⟨(some 24), none, .load false 1 (.t 23), (some (.but [], .only []))⟩,
  ⟨(some 7), none, .mov (.t 17), (some (.only [], .only []))⟩,
  ⟨(some 8), none, .mov (.t 24), (some (.only [], .only []))⟩]
def c105r2 : List O := [
  ⟨(some 26), none, .mov (.t 0), (some (.only [], .only []))⟩,
  ⟨(some 27), none, .nilck (.t 26), (some (.only [], .only []))⟩,
  ⟨(some 28), none, .faddr 0 (.t 27), (some (.only [], .only []))⟩,
  ⟨(some 29), none, .load false 1 (.t 28), (some (.but [], .only []))⟩,
  ⟨(some 30), none, .mov (.t 7), (some (.only [], .only []))⟩,
  ⟨(some 31), none, .ixs 2 (.t 29) (.t 30), (some (.only [], .only []))⟩,
  ⟨(some 32), none, .faddr 0 (.t 31), (some (.only [], .only []))⟩,
  ⟨(some 33), none, .load false 1 (.t 32), (some (.but [], .only []))⟩,
  ⟨(some 34), none, .mov (.t 0), (some (.only [], .only []))⟩,
  ⟨(some 35), none, .nilck (.t 34), (some (.only [], .only []))⟩,
  ⟨(some 36), none, .faddr 0 (.t 35), (some (.only [], .only []))⟩,
  ⟨(some 37), none, .load false 1 (.t 36), (some (.but [], .only []))⟩,
  ⟨(some 38), none, .mov (.t 7), (some (.only [], .only []))⟩,
  ⟨(some 39), none, .ixs 2 (.t 37) (.t 38), (some (.only [], .only []))⟩,
  ⟨(some 40), none, .faddr 1 (.t 39), (some (.only [], .only []))⟩,
  ⟨(some 41), none, .load false 1 (.t 40), (some (.but [], .only []))⟩,
  ⟨(some 42), none, .mov (.t 0), (some (.only [], .only []))⟩,
  ⟨(some 43), none, .nilck (.t 42), (some (.only [], .only []))⟩,
  ⟨(some 44), none, .faddr 0 (.t 43), (some (.only [], .only []))⟩,
  ⟨(some 45), none, .load false 1 (.t 44), (some (.but [], .only []))⟩,
  ⟨(some 46), none, .mov (.t 8), (some (.only [], .only []))⟩,
  ⟨(some 47), none, .ixs 2 (.t 45) (.t 46), (some (.only [], .only []))⟩,
  ⟨(some 48), none, .faddr 0 (.t 47), (some (.only [], .only []))⟩,
  ⟨(some 49), none, .load false 1 (.t 48), (some (.but [], .only []))⟩,
  ⟨(some 50), none, .mov (.t 0), (some (.only [], .only []))⟩,
  ⟨(some 51), none, .nilck (.t 50), (some (.only [], .only []))⟩,
  ⟨(some 52), none, .faddr 0 (.t 51), (some (.only [], .only []))⟩,
  ⟨(some 53), none, .load false 1 (.t 52), (some (.but [], .only []))⟩,
  ⟨(some 54), none, .mov (.t 8), (some (.only [], .only []))⟩,
  ⟨(some 55), none, .ixs 2 (.t 53) (.t 54), (some (.only [], .only []))⟩,
  ⟨(some 56), none, .faddr 1 (.t 55), (some (.only [], .only []))⟩,
  ⟨(some 57), none, .load false 1 (.t 56), (some (.but [], .only []))⟩,
  ⟨(some 58), none, .call 0 0 (.k (.func 139)) [(.t 33), (.t 41), (.t 49), (.t 57)], (some (.but [], .but []))⟩,
  ⟨(some 25), none, .mov (.t 58), (some (.only [], .only []))⟩,
  ⟨(some 59), none, .ext (.t 25) 0, (some (.only [], .only []))⟩,
  ⟨(some 60), none, .ext (.t 25) 1, (some (.only [], .only []))⟩,
  ⟨(some 9), none, .mov (.t 59), (some (.only [], .only []))⟩,
  ⟨(some 10), none, .mov (.t 60), (some (.only [], .only []))⟩]
def c105r3 : List O := [
  ⟨(some 61), none, .mov (.t 9), none⟩,
  ⟨(some 62), none, .bin .lss (.t 61) (.k (.int .i64 0)), none⟩,
  ⟨(some 63), none, .mov (.t 62), none⟩,
  ⟨(some 64), (some (63, false)), .mov (.t 9), none⟩,
  ⟨(some 65), (some (63, false)), .bin .eql (.t 64) (.k (.int .i64 0)), none⟩,
  ⟨(some 66), (some (63, false)), .mov (.t 65), none⟩,
  ⟨(some 67), (some (66, true)), .mov (.t 7), none⟩,
  ⟨(some 68), (some (66, true)), .mov (.t 8), none⟩,
  ⟨(some 69), (some (66, true)), .bin .lss (.t 67) (.t 68), none⟩,
  ⟨(some 70), (some (63, false)), .pick (.t 66) (.t 69) (.k (.bool false)), none⟩,
  ⟨(some 71), none, .pick (.t 63) (.k (.bool true)) (.t 70), none⟩,
  ⟨(some 6), none, .mov (.t 71), none⟩]
def c105 : AF := ⟨72, 0, [.tmp 6], (.keep [0, 1, 2] (.seq (.region c105r0) (.keep [0, 1, 2] (.seq (.region c105r1) (.keep [0, 7, 8] (.seq (.region c105r2) (.keep [7, 8, 9] (.seq (.region c105r3) .ret))))))))⟩
theorem ok105 : okF Try.prog 105 c105 = true := by kernel_rfl

/-! dogwatch/dogwatchref02.Twice -/
def c106r0 : List O := [
  ⟨(some 2), none, .box 0 2 (.t 0), none⟩,
  ⟨(some 4), none, .alloc 1 2 [.int .u64 0, .int .u64 0], none⟩,
  ⟨(some 5), none, .mov (.k (.bool false)), none⟩]
def c106r1 : List O := [
  ⟨(some 6), none, .faddr 0 (.t 2), (some (.only [], .only []))⟩,
  ⟨(some 7), none, .load false 1 (.t 6), (some (.only [0], .only []))⟩,
  ⟨(some 8), none, .bin .shl (.t 7) (.k (.int .u64 1)), (some (.only [], .only []))⟩,
  ⟨(some 9), none, .faddr 1 (.t 2), (some (.only [], .only []))⟩,
  ⟨(some 10), none, .load false 1 (.t 9), (some (.only [0], .only []))⟩,
  ⟨(some 11), none, .bin .shr (.t 10) (.k (.int .u64 63)), (some (.only [], .only []))⟩,
  ⟨(some 12), none, .bin .or (.t 8) (.t 11), (some (.only [], .only []))⟩,
  ⟨(some 13), none, .faddr 1 (.t 2), (some (.only [], .only []))⟩,
  ⟨(some 14), none, .load false 1 (.t 13), (some (.only [0], .only []))⟩,
  ⟨(some 15), none, .bin .shl (.t 14) (.k (.int .u64 1)), (some (.only [], .only []))⟩,
  ⟨(some 16), none, .mov (.t 1), (some (.only [], .only []))⟩,
  ⟨(some 17), none, .bin .or (.t 15) (.t 16), (some (.only [], .only []))⟩,
  ⟨(some 18), none, .build [.int .u64 0, .int .u64 0] [(0, 1, (.t 12)), (1, 1, (.t 17))], (some (.only [], .only []))⟩,
  ⟨(some 19), none, .faddr 0 (.t 2), (some (.only [], .only []))⟩,
  ⟨(some 20), none, .load false 1 (.t 19), (some (.only [0], .only []))⟩,
  ⟨(some 21), none, .bin .shr (.t 20) (.k (.int .u64 63)), (some (.only [], .only []))⟩,
  ⟨(some 22), none, .bin .eql (.t 21) (.k (.int .u64 0)), (some (.only [], .only []))⟩,
  ⟨none, none, .store 2 (.t 4) (.t 18), (some (.only [1], .only [1]))⟩,
  ⟨(some 5), none, .mov (.t 22), (some (.only [], .only []))⟩]
def c106 : AF := ⟨23, 2, [.cell 4 true 2, .tmp 5], (.keep [0, 1] (.seq (.region c106r0) (.keep [1, 2, 4] (.seq (.region c106r1) .ret))))⟩
theorem ok106 : okF Try.prog 106 c106 = true := by kernel_rfl

/-! dogwatch/dogwatchref02.Sum -/
def c107r0 : List O := [
  ⟨(some 2), none, .box 0 2 (.t 0), none⟩,
  ⟨(some 3), none, .box 1 2 (.t 1), none⟩,
  ⟨(some 4), none, .alloc 2 2 [.int .u64 0, .int .u64 0], none⟩]
def c107r1 : List O := [
  ⟨(some 7), none, .faddr 1 (.t 2), none⟩,
  ⟨(some 8), none, .load false 1 (.t 7), none⟩,
  ⟨(some 9), none, .faddr 1 (.t 3), none⟩,
  ⟨(some 10), none, .load false 1 (.t 9), none⟩,
  ⟨(some 11), none, .bin .add (.t 8) (.t 10), none⟩,
  ⟨(some 5), none, .mov (.t 11), none⟩]
def c107r2 : List O := [
  ⟨(some 12), none, .faddr 0 (.t 2), none⟩,
  ⟨(some 13), none, .load false 1 (.t 12), none⟩,
  ⟨(some 14), none, .faddr 0 (.t 3), none⟩,
  ⟨(some 15), none, .load false 1 (.t 14), none⟩,
  ⟨(some 16), none, .bin .add (.t 13) (.t 15), none⟩,
  ⟨(some 6), none, .mov (.t 16), none⟩]
def c107r3 : List O := [
  ⟨(some 17), none, .mov (.t 5), none⟩,
  ⟨(some 18), none, .faddr 1 (.t 2), none⟩,
  ⟨(some 19), none, .load false 1 (.t 18), none⟩,
  ⟨(some 20), none, .bin .lss (.t 17) (.t 19), none⟩]
def c107r4 : List O := [
  ⟨(some 21), none, .mov (.t 6), none⟩,
  ⟨(some 22), none, .bin .add (.t 21) (.k (.int .u64 1)), none⟩,
  ⟨(some 6), none, .mov (.t 22), none⟩]
def c107r5 : List O := [
  ⟨(some 23), none, .mov (.t 6), none⟩,
  ⟨(some 24), none, .mov (.t 5), none⟩,
  ⟨(some 25), none, .build [.int .u64 0, .int .u64 0] [(0, 1, (.t 23)), (1, 1, (.t 24))], none⟩,
  ⟨none, none, .store 2 (.t 4) (.t 25), none⟩]
def c107 : AF := ⟨26, 3, [.cell 4 true 2], (.keep [0, 1] (.seq (.region c107r0) (.keep [2, 3, 4] (.seq (.region c107r1) (.keep [2, 3, 4, 5] (.seq (.region c107r2) (.keep [2, 4, 5, 6] (.seq (.seq (.region c107r3) (.keep [4, 5, 6, 20] (.cond (.t 20) (.region c107r4) .skip))) (.keep [4, 5, 6] (.seq (.region c107r5) .ret))))))))))⟩
theorem ok107 : okF Try.prog 107 c107 = true := by kernel_rfl

/-! dogwatch/fixq.Compare -/
def c139r0 : List O := [
  ⟨(some 8), none, .mov (.k (.int .i64 0)), none⟩,
  ⟨(some 9), none, .mov (.k (.int .i64 0)), none⟩]
def c139r1 : List O := [
  ⟨(some 14), none, .mov (.t 1), none⟩,
  ⟨(some 15), none, .bin .eql (.t 14) (.k (.int .u64 0)), none⟩,
  ⟨(some 16), none, .mov (.t 15), none⟩,
  ⟨(some 17), (some (16, false)), .mov (.t 3), none⟩,
  ⟨(some 18), (some (16, false)), .bin .eql (.t 17) (.k (.int .u64 0)), none⟩,
  ⟨(some 19), none, .pick (.t 16) (.k (.bool true)) (.t 18), none⟩]
def c139r2 : List O := [
  ⟨(some 8), none, .mov (.k (.int .i64 0)), none⟩,
  ⟨(some 9), none, .mov (.k (.int .i64 1)), none⟩]
def c139r3 : List O := [
  ⟨(some 21), none, .mov (.t 0), none⟩,
  ⟨(some 22), none, .mov (.t 3), none⟩,
  ⟨(some 23), none, .call 0 0 (.k (.func 154)) [(.t 21), (.t 22)], none⟩,
  ⟨(some 20), none, .mov (.t 23), none⟩,
  ⟨(some 24), none, .ext (.t 20) 0, none⟩,
  ⟨(some 25), none, .ext (.t 20) 1, none⟩,
  ⟨(some 10), none, .mov (.t 24), none⟩,
  ⟨(some 11), none, .mov (.t 25), none⟩]
def c139r4 : List O := [
  ⟨(some 27), none, .mov (.t 2), none⟩,
  ⟨(some 28), none, .mov (.t 1), none⟩,
  ⟨(some 29), none, .call 0 0 (.k (.func 154)) [(.t 27), (.t 28)], none⟩,
  ⟨(some 26), none, .mov (.t 29), none⟩,
  ⟨(some 30), none, .ext (.t 26) 0, none⟩,
  ⟨(some 31), none, .ext (.t 26) 1, none⟩,
  ⟨(some 12), none, .mov (.t 30), none⟩,
  ⟨(some 13), none, .mov (.t 31), none⟩]
def c139r5 : List O := [
  ⟨(some 33), none, .mov (.t 10), none⟩,
  ⟨(some 34), none, .mov (.t 12), none⟩,
  ⟨(some 35), none, .bin .lss (.t 33) (.t 34), none⟩,
  ⟨(some 36), none, .mov (.t 35), none⟩,
  ⟨(some 37), (some (36, false)), .mov (.t 10), none⟩,
  ⟨(some 38), (some (36, false)), .mov (.t 12), none⟩,
  ⟨(some 39), (some (36, false)), .bin .eql (.t 37) (.t 38), none⟩,
  ⟨(some 40), (some (36, false)), .mov (.t 39), none⟩,
  ⟨(some 41), (some (40, true)), .mov (.t 11), none⟩,
  ⟨(some 42), (some (40, true)), .mov (.t 13), none⟩,
  ⟨(some 43), (some (40, true)), .bin .lss (.t 41) (.t 42), none⟩,
  ⟨(some 44), (some (36, false)), .pick (.t 40) (.t 43) (.k (.bool false)), none⟩,
  ⟨(some 45), none, .pick (.t 36) (.k (.bool true)) (.t 44), none⟩,
  ⟨(some 32), none, .mov (.t 45), none⟩]
def c139r6 : List O := [
  ⟨(some 8), none, .mov (.k (.int .i64 (-1))), none⟩,
  ⟨(some 9), none, .mov (.k (.int .i64 0)), none⟩]
def c139r7 : List O := [
  ⟨(some 47), none, .mov (.t 10), none⟩,
  ⟨(some 48), none, .mov (.t 12), none⟩,
  ⟨(some 49), none, .bin .eql (.t 47) (.t 48), none⟩,
  ⟨(some 50), none, .mov (.t 49), none⟩,
  ⟨(some 51), (some (50, true)), .mov (.t 11), none⟩,
  ⟨(some 52), (some (50, true)), .mov (.t 13), none⟩,
  ⟨(some 53), (some (50, true)), .bin .eql (.t 51) (.t 52), none⟩,
  ⟨(some 54), none, .pick (.t 50) (.t 53) (.k (.bool false)), none⟩,
  ⟨(some 46), none, .mov (.t 54), none⟩]
def c139r8 : List O := [
  ⟨(some 8), none, .mov (.k (.int .i64 0)), none⟩,
  ⟨(some 9), none, .mov (.k (.int .i64 0)), none⟩]
def c139r9 : List O := [
  ⟨(some 8), none, .mov (.k (.int .i64 1)), none⟩,
  ⟨(some 9), none, .mov (.k (.int .i64 0)), none⟩]
def c139 : AF := ⟨55, 0, [.tmp 8, .tmp 9], (.keep [0, 1, 2, 3] (.seq (.region c139r0) (.keep [0, 1, 2, 3] (.seq (.seq (.region c139r1) (.keep [0, 1, 2, 3, 19] (.cond (.t 19) (.seq (.region c139r2) .ret) .skip))) (.keep [0, 1, 2, 3] (.seq (.region c139r3) (.keep [1, 2, 10, 11] (.seq (.region c139r4) (.keep [10, 11, 12, 13] (.seq (.block 0 (.seq (.region c139r5) (.keep [10, 11, 12, 13, 32] (.cond (.t 32) (.seq (.region c139r6) .ret) (.seq (.region c139r7) (.keep [46] (.cond (.t 46) (.seq (.region c139r8) .ret) .skip))))))) (.keep [] (.seq (.region c139r9) .ret))))))))))))⟩
theorem ok139 : okF Try.prog 139 c139 = true := by kernel_rfl

/-! math/bits.Mul64 -/
def c154r0 : List O := [
  ⟨(some 4), none, .mov (.k (.int .u64 0)), none⟩,
  ⟨(some 5), none, .mov (.k (.int .u64 0)), none⟩]
def c154r1 : List O := [
  ⟨(some 14), none, .mov (.t 0), none⟩,
  ⟨(some 15), none, .bin .and (.t 14) (.k (.int .u64 4294967295)), none⟩,
  ⟨(some 6), none, .mov (.t 15), none⟩]
def c154r2 : List O := [
  ⟨(some 16), none, .mov (.t 0), none⟩,
  ⟨(some 17), none, .bin .shr (.t 16) (.k (.int .u64 32)), none⟩,
  ⟨(some 7), none, .mov (.t 17), none⟩]
def c154r3 : List O := [
  ⟨(some 18), none, .mov (.t 1), none⟩,
  ⟨(some 19), none, .bin .and (.t 18) (.k (.int .u64 4294967295)), none⟩,
  ⟨(some 8), none, .mov (.t 19), none⟩]
def c154r4 : List O := [
  ⟨(some 20), none, .mov (.t 1), none⟩,
  ⟨(some 21), none, .bin .shr (.t 20) (.k (.int .u64 32)), none⟩,
  ⟨(some 9), none, .mov (.t 21), none⟩]
def c154r5 : List O := [
  ⟨(some 22), none, .mov (.t 6), none⟩,
  ⟨(some 23), none, .mov (.t 8), none⟩,
  ⟨(some 24), none, .bin .mul (.t 22) (.t 23), none⟩,
  ⟨(some 10), none, .mov (.t 24), none⟩]
def c154r6 : List O := [
  ⟨(some 25), none, .mov (.t 7), none⟩,
  ⟨(some 26), none, .mov (.t 8), none⟩,
  ⟨(some 27), none, .bin .mul (.t 25) (.t 26), none⟩,
  ⟨(some 28), none, .mov (.t 10), none⟩,
  ⟨(some 29), none, .bin .shr (.t 28) (.k (.int .u64 32)), none⟩,
  ⟨(some 30), none, .bin .add (.t 27) (.t 29), none⟩,
  ⟨(some 11), none, .mov (.t 30), none⟩]
def c154r7 : List O := [
  ⟨(some 31), none, .mov (.t 11), none⟩,
  ⟨(some 32), none, .bin .and (.t 31) (.k (.int .u64 4294967295)), none⟩,
  ⟨(some 12), none, .mov (.t 32), none⟩]
def c154r8 : List O := [
  ⟨(some 33), none, .mov (.t 11), none⟩,
  ⟨(some 34), none, .bin .shr (.t 33) (.k (.int .u64 32)), none⟩,
  ⟨(some 13), none, .mov (.t 34), none⟩]
def c154r9 : List O := [
  ⟨(some 35), none, .mov (.t 12), none⟩,
  ⟨(some 36), none, .mov (.t 6), none⟩,
  ⟨(some 37), none, .mov (.t 9), none⟩,
  ⟨(some 38), none, .bin .mul (.t 36) (.t 37), none⟩,
  ⟨(some 39), none, .bin .add (.t 35) (.t 38), none⟩,
  ⟨(some 12), none, .mov (.t 39), none⟩]
def c154r10 : List O := [
  ⟨(some 40), none, .mov (.t 7), none⟩,
  ⟨(some 41), none, .mov (.t 9), none⟩,
  ⟨(some 42), none, .bin .mul (.t 40) (.t 41), none⟩,
  ⟨(some 43), none, .mov (.t 13), none⟩,
  ⟨(some 44), none, .bin .add (.t 42) (.t 43), none⟩,
  ⟨(some 45), none, .mov (.t 12), none⟩,
  ⟨(some 46), none, .bin .shr (.t 45) (.k (.int .u64 32)), none⟩,
  ⟨(some 47), none, .bin .add (.t 44) (.t 46), none⟩,
  ⟨(some 4), none, .mov (.t 47), none⟩]
def c154r11 : List O := [
  ⟨(some 48), none, .mov (.t 0), none⟩,
  ⟨(some 49), none, .mov (.t 1), none⟩,
  ⟨(some 50), none, .bin .mul (.t 48) (.t 49), none⟩,
  ⟨(some 5), none, .mov (.t 50), none⟩]
def c154 : AF := ⟨51, 0, [.tmp 4, .tmp 5], (.keep [0, 1] (.seq (.region c154r0) (.keep [0, 1] (.seq (.region c154r1) (.keep [0, 1, 6] (.seq (.region c154r2) (.keep [0, 1, 6, 7] (.seq (.region c154r3) (.keep [0, 1, 6, 7, 8] (.seq (.region c154r4) (.keep [0, 1, 6, 7, 8, 9] (.seq (.region c154r5) (.keep [0, 1, 6, 7, 8, 9, 10] (.seq (.region c154r6) (.keep [0, 1, 6, 7, 9, 11] (.seq (.region c154r7) (.keep [0, 1, 6, 7, 9, 11, 12] (.seq (.region c154r8) (.keep [0, 1, 6, 7, 9, 12, 13] (.seq (.region c154r9) (.keep [0, 1, 7, 9, 12, 13] (.seq (.region c154r10) (.keep [0, 1, 4] (.seq (.region c154r11) .ret))))))))))))))))))))))))⟩
theorem ok154 : okF Try.prog 154 c154 = true := by kernel_rfl

end Go.Proofs.Ytopcnhojkfeafaa.Am
